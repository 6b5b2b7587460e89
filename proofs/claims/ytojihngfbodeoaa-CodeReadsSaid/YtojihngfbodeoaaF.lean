/- The formulas of the seat's functions and the proofs that they are enough, printed by gen.py of this session. No condition. -/
import Derived.Test.YtojihngfbodeoaaProg
import Derived.Test.YtojihngfbodeoaaK7
namespace Go.Proofs.YtojihngfbodeoaaF
open Go Go.Proofs.YtojihngfbodeoaaK Go.Proofs
set_option linter.unusedVariables false
set_option maxRecDepth 100000
theorem mixed : Try.prog.follows .mixedOrders = true := by kernel_rfl
def C_gosem_cut  (h : Hp) (K : Hp → Prop) : Prop :=
  ExtT Try.prog 1 [] [] h fun s h => K h
def C_gosem_cut_init  (h : Hp) (K : Hp → Prop) : Prop :=
  CallT Try.prog 2 [] [] h fun s h => K h
def C_law03_CodeReads (a0_b : Sl) (a1_l : Sl) (h : Hp) (K : Bool → Hp → Prop) : Prop :=
  CallT Try.prog 3 [.slice a0_b.a a0_b.len a0_b.cap, .slice a1_l.a a1_l.len a1_l.cap] [.at .bool] h fun s h => K s.1 h
def C_code_NewReader (a0_b : Sl) (h : Hp) (K : Option Addr → Hp → Prop) : Prop :=
  CallT Try.prog 4 [.slice a0_b.a a0_b.len a0_b.cap] [.at .ptr] h fun s h => K s.1 h
def C_ref03_Take (a0_r : Sl) (a1_r : Int) (a2_p : Int) (a3_p : Int) (a4_p : Int) (a5_p : Bool) (a6_p : ByteArray) (a7_p : Int) (a8_p : Int) (a9_p : Int) (h : Hp) (K : Int → Int → Int → Bool → ByteArray → Int → Int → Int → Sl → Int → Hp → Prop) : Prop :=
  CallT Try.prog 5 [.agg #[.slice a0_r.a a0_r.len a0_r.cap, .int .i64 a1_r], .agg #[.int .i64 a2_p, .int .u64 a3_p, .int .i64 a4_p, .bool a5_p, .string a6_p, .int .i64 a7_p, .int .i64 a8_p, .int .i64 a9_p]] [.agg [(.int .i64), (.int .u64), (.int .i64), .bool, .str, (.int .i64), (.int .i64), (.int .i64)], .agg [.sl, (.int .i64)]] h fun s h => K s.1.1 s.1.2.1 s.1.2.2.1 s.1.2.2.2.1 s.1.2.2.2.2.1 s.1.2.2.2.2.2.1 s.1.2.2.2.2.2.2.1 s.1.2.2.2.2.2.2.2.1 s.2.1.1 s.2.1.2.1 h
def C_law03_take (a0_r : Option Addr) (a1_p : Int) (a2_p : Int) (a3_p : Int) (a4_p : Bool) (a5_p : ByteArray) (a6_p : Int) (a7_p : Int) (a8_p : Int) (h : Hp) (K : Int → Int → Int → Bool → ByteArray → Int → Int → Int → Hp → Prop) : Prop :=
  CallT Try.prog 6 [.pointer a0_r, .agg #[.int .i64 a1_p, .int .u64 a2_p, .int .i64 a3_p, .bool a4_p, .string a5_p, .int .i64 a6_p, .int .i64 a7_p, .int .i64 a8_p]] [.agg [(.int .i64), (.int .u64), (.int .i64), .bool, .str, (.int .i64), (.int .i64), (.int .i64)]] h fun s h => K s.1.1 s.1.2.1 s.1.2.2.1 s.1.2.2.2.1 s.1.2.2.2.2.1 s.1.2.2.2.2.2.1 s.1.2.2.2.2.2.2.1 s.1.2.2.2.2.2.2.2.1 h
def C_code_Reader_Left (a0_r : Option Addr) (h : Hp) (K : Int → Hp → Prop) : Prop :=
  CallT Try.prog 7 [.pointer a0_r] [.at (.int .i64)] h fun s h => K s.1 h
def C_code_Reader_End (a0_r : Option Addr) (h : Hp) (K : Int → Hp → Prop) : Prop :=
  CallT Try.prog 8 [.pointer a0_r] [.at (.int .i64)] h fun s h => K s.1 h
def C_ref03_End (a0_r : Sl) (a1_r : Int) (h : Hp) (K : Int → Hp → Prop) : Prop :=
  CallT Try.prog 9 [.agg #[.slice a0_r.a a0_r.len a0_r.cap, .int .i64 a1_r]] [.at (.int .i64)] h fun s h => K s.1 h
def C_law03_lives  (h : Hp) (K : Bool → Hp → Prop) : Prop :=
  CallT Try.prog 10 [] [.at .bool] h fun s h => K s.1 h
def C_slices_Clone_byte_byte (a0_s : Sl) (h : Hp) (K : Sl → Hp → Prop) : Prop :=
  CallT Try.prog 11 [.slice a0_s.a a0_s.len a0_s.cap] [.at .sl] h fun s h => K s.1 h
def C_ref03_number (a0_b : Sl) (h : Hp) (K : Int → Sl → Int → Hp → Prop) : Prop :=
  CallT Try.prog 12 [.slice a0_b.a a0_b.len a0_b.cap] [.at (.int .u64), .at .sl, .at (.int .i64)] h fun s h => K s.1 s.2.1 s.2.2.1 h
def C_code_Reader_Num (a0_r : Option Addr) (a1_most : Int) (h : Hp) (K : Int → Hp → Prop) : Prop :=
  CallT Try.prog 13 [.pointer a0_r, .int .u64 a1_most] [.at (.int .u64)] h fun s h => K s.1 h
def C_code_Reader_Int (a0_r : Option Addr) (a1_low : Int) (a2_high : Int) (h : Hp) (K : Int → Hp → Prop) : Prop :=
  CallT Try.prog 14 [.pointer a0_r, .int .i64 a1_low, .int .i64 a2_high] [.at (.int .i64)] h fun s h => K s.1 h
def C_code_Reader_Flag (a0_r : Option Addr) (h : Hp) (K : Bool → Hp → Prop) : Prop :=
  CallT Try.prog 15 [.pointer a0_r] [.at .bool] h fun s h => K s.1 h
def C_code_Reader_Text (a0_r : Option Addr) (a1_most : Int) (h : Hp) (K : ByteArray → Hp → Prop) : Prop :=
  CallT Try.prog 16 [.pointer a0_r, .int .i64 a1_most] [.at .str] h fun s h => K s.1 h
def C_code_NewWriter  (h : Hp) (K : Option Addr → Hp → Prop) : Prop :=
  CallT Try.prog 17 [] [.at .ptr] h fun s h => K s.1 h
def C_code_Writer_Num (a0_w : Option Addr) (a1_n : Int) (h : Hp) (K : Hp → Prop) : Prop :=
  CallT Try.prog 18 [.pointer a0_w, .int .u64 a1_n] [] h fun s h => K h
def C_code_Writer_Int (a0_w : Option Addr) (a1_n : Int) (h : Hp) (K : Hp → Prop) : Prop :=
  CallT Try.prog 19 [.pointer a0_w, .int .i64 a1_n] [] h fun s h => K h
def C_code_Writer_Bytes (a0_w : Option Addr) (h : Hp) (K : Sl → Hp → Prop) : Prop :=
  CallT Try.prog 20 [.pointer a0_w] [.at .sl] h fun s h => K s.1 h
def C_ref02_Same (a0_a : Sl) (a1_b : Sl) (h : Hp) (K : Bool → Hp → Prop) : Prop :=
  CallT Try.prog 21 [.slice a0_a.a a0_a.len a0_a.cap, .slice a1_b.a a1_b.len a1_b.cap] [.at .bool] h fun s h => K s.1 h
def C_code_Reader_take (a0_r : Option Addr) (a1_may : Value) (h : Hp) (K : Int → Hp → Prop) : Prop :=
  CallT Try.prog 22 [.pointer a0_r, a1_may] [.at (.int .u64)] h fun s h => K s.1 h
def C_code_Reader_Num_1 (a0_n : Int) (a1_t : Option Addr) (h : Hp) (K : Bool → Hp → Prop) : Prop :=
  CallT Try.prog 23 [.int .u64 a0_n, .pointer a1_t] [.at .bool] h fun s h => K s.1 h
def C_code_Reader_Int_1 (a0_n : Int) (a1_t : Option Addr) (a2_t : Option Addr) (a3_t : Option Addr) (h : Hp) (K : Bool → Hp → Prop) : Prop :=
  CallT Try.prog 24 [.int .u64 a0_n, .pointer a1_t, .pointer a2_t, .pointer a3_t] [.at .bool] h fun s h => K s.1 h
def C_code_signed (a0_n : Int) (h : Hp) (K : Int → Hp → Prop) : Prop :=
  CallT Try.prog 25 [.int .u64 a0_n] [.at (.int .i64)] h fun s h => K s.1 h
def C_code_Reader_Text_1 (a0_n : Int) (a1_t : Option Addr) (h : Hp) (K : Bool → Hp → Prop) : Prop :=
  CallT Try.prog 26 [.int .u64 a0_n, .pointer a1_t] [.at .bool] h fun s h => K s.1 h
def C_code_number (a0_b : Sl) (h : Hp) (K : Int → Int → Int → Hp → Prop) : Prop :=
  CallT Try.prog 27 [.slice a0_b.a a0_b.len a0_b.cap] [.at (.int .u64), .at (.int .i64), .at (.int .i64)] h fun s h => K s.1 s.2.1 s.2.2.1 h
abbrev T_ : TypeId := 0
abbrev T_func : TypeId := 1
abbrev T_int64 : TypeId := 2
abbrev T_int : TypeId := 3
abbrev T_bool : TypeId := 4
abbrev T_uint8 : TypeId := 5
abbrev T_abi_BoundsErrorCode : TypeId := 6
abbrev T_struct_x_int64_y_int_signed_bool_code_abi_BoundsErrorCode : TypeId := 7
abbrev T_runtime_boundsError : TypeId := 8
abbrev T_string : TypeId := 9
abbrev T_runtime_errorString : TypeId := 10
abbrev T_runtime_plainError : TypeId := 11
abbrev T_uintptr : TypeId := 12
abbrev T_struct_msg_string_addr_uintptr : TypeId := 13
abbrev T_runtime_errorAddressString : TypeId := 14
abbrev T_Pruntime_TypeAssertionError : TypeId := 15
abbrev T_Pruntime_PanicNilError : TypeId := 16
abbrev T_Pabi_Type : TypeId := 17
abbrev T_struct_typ_Pabi_Type : TypeId := 18
abbrev T_maps_unhashableTypeError : TypeId := 19
abbrev T_interface : TypeId := 20
abbrev T_int32 : TypeId := 21
abbrev T_Suint8 : TypeId := 22
abbrev T_Swaywiserref03_Part : TypeId := 23
abbrev T_Pcode_Reader : TypeId := 24
abbrev T_func_Suint8_Pcode_Reader : TypeId := 25
abbrev T_struct_B_Suint8_E_int : TypeId := 26
abbrev T_waywiserref03_Reader : TypeId := 27
abbrev T_uint64 : TypeId := 28
abbrev T_waywiserref03_Part : TypeId := 30
abbrev T_waywiserref03_Part_waywiserref03_Reader : TypeId := 31
abbrev T_func_Pcode_Reader_waywiserref03_Part_waywiserref03_Part : TypeId := 33
abbrev T_func_int : TypeId := 34
abbrev T_api_Errno : TypeId := 35
abbrev T_func_api_Errno : TypeId := 36
abbrev T_func_waywiserref03_Reader_int : TypeId := 37
abbrev T_func_bool : TypeId := 38
abbrev T_func_Suint8_Swaywiserref03_Part_bool : TypeId := 39
abbrev T_func_Suint8_Suint8 : TypeId := 40
abbrev T_struct_b_Suint8_e_api_Errno : TypeId := 41
abbrev T_code_Reader : TypeId := 42
abbrev T_uint64_Suint8_int : TypeId := 43
abbrev T_func_Suint8_uint64_Suint8_int : TypeId := 44
abbrev T_func_uint64_uint64 : TypeId := 45
abbrev T_func_int_int_int : TypeId := 46
abbrev T_func_int_string : TypeId := 47
abbrev T_Pcode_Writer : TypeId := 48
abbrev T_func_Pcode_Writer : TypeId := 49
abbrev T_func_uint64 : TypeId := 50
abbrev T_func_Suint8 : TypeId := 52
abbrev T_func_Suint8_Suint8_bool : TypeId := 53
abbrev T_func_func_uint64_bool_uint64 : TypeId := 54
abbrev T_func_uint64_bool : TypeId := 55
abbrev T_func_uint64_int : TypeId := 56
abbrev T_struct_b_Suint8 : TypeId := 57
abbrev T_code_Writer : TypeId := 58
abbrev T_uint : TypeId := 59
abbrev T_uint64_int_api_Errno : TypeId := 60
abbrev T_func_Suint8_uint64_int_api_Errno : TypeId := 61
abbrev T_func_string : TypeId := 62
abbrev T_runtime_TypeAssertionError : TypeId := 64
abbrev T_0_Pruntime_PanicNilError : TypeId := 65
abbrev T_struct_0_Pruntime_PanicNilError : TypeId := 66
abbrev T_runtime_PanicNilError : TypeId := 67
abbrev T_uint32 : TypeId := 68
abbrev T_abi_TFlag : TypeId := 69
abbrev T_abi_Kind : TypeId := 70
abbrev T_func_unsafe_Pointer_unsafe_Pointer_bool : TypeId := 71
abbrev T_Puint8 : TypeId := 72
abbrev T_abi_NameOff : TypeId := 73
abbrev T_abi_TypeOff : TypeId := 74
abbrev T_abi_Type : TypeId := 76
abbrev T_unsafe_Pointer : TypeId := 78
def F_gosem_cut_init  (h : Hp) (K : Hp → Prop) : Prop :=
C_gosem_cut  h fun  (h1 : Hp) =>
K h1

theorem F_gosem_cut_init_ok  (h : Hp) (K : Hp → Prop) (hF : F_gosem_cut_init  h K) : C_gosem_cut_init  h K := by
  have e : bodyVC Try.prog Try.f2 .no (Option.getD Try.f2.body .skip) [] h [] (fun s h => K h) = F_gosem_cut_init  h K := by kernel_rfl
  exact fun_sound mixed Try.func2 rfl (e.mpr hF)

def J1_law03_CodeReads (K : Bool → Hp → Prop) (t1 : Option Addr) (p4 : Addr) (sJ1 : Unit) (hJ1 : Hp) : Prop :=
∃ (S7 : List Nat),
C_code_Reader_End t1 hJ1 fun (t8 : Int) (h9 : Hp) =>
ExtS S7 hJ1 h9 ∧ (
(Addr.block p4 ∉ S7) ∧ (
ldA .sl hJ1 p4 fun (t10 : Sl) =>
ldA (.int .i64) hJ1 (Addr.add p4 1) fun (t11 : Int) =>
C_ref03_End t10 t11 h9 fun (t12 : Int) (h13 : Hp) =>
cnd (t8 == t12) (
C_law03_lives  h13 fun (t14 : Bool) (h15 : Hp) =>
K t14 h15) (
K false h13)))
def L1_law03_CodeReads (a1_l : Sl) (K : Bool → Hp → Prop) (t1 : Option Addr) (p4 : Addr) (J1 : Unit → Hp → Prop) (sL1 : (Int × Unit) × Hp) (R1 : (Int × Unit) × Hp → Prop) : Prop :=
cnd (decide (sL1.1.1 < (a1_l.len : Int))) (
RegW Try.prog 61 (Option.getD (regOps (Option.getD Try.f3.body .skip) 6) #[]) [(1, some (.slice a1_l.a a1_l.len a1_l.cap)), (6, some (.pointer (some p4))), (7, some (.int .i64 sL1.1.1))] sL1.2 [(8, .at .ptr), (9, .at .ptr)] fun (sR2 : (Option Addr) × (Option Addr) × Unit) (h16 : Hp) =>
someA sR2.2.1 fun (p17 : Addr) =>
ldA .sl h16 p17 fun (t18 : Sl) =>
ldA (.int .i64) h16 (Addr.add p17 1) fun (t19 : Int) =>
stC h16 p4 (
Let (hset h16 p4 (.slice t18.a t18.len t18.cap)) fun (h20 : Hp) =>
stC h20 (Addr.add p4 1) (
Let (hset h20 (Addr.add p4 1) (.int .i64 t19)) fun (h21 : Hp) =>
∃ (S22 : List Nat),
idxS a1_l.a a1_l.len sL1.1.1 8 fun (p23 : Addr) =>
(Addr.block p23 ∉ S22) ∧ (
ldA (.int .i64) h21 p23 fun (t24 : Int) =>
ldA (.int .u64) h21 (Addr.add p23 1) fun (t25 : Int) =>
ldA (.int .i64) h21 (Addr.add p23 2) fun (t26 : Int) =>
ldA .bool h21 (Addr.add p23 3) fun (t27 : Bool) =>
ldA .str h21 (Addr.add p23 4) fun (t28 : ByteArray) =>
ldA (.int .i64) h21 (Addr.add p23 5) fun (t29 : Int) =>
ldA (.int .i64) h21 (Addr.add p23 6) fun (t30 : Int) =>
ldA (.int .i64) h21 (Addr.add p23 7) fun (t31 : Int) =>
C_law03_take t1 t24 t25 t26 t27 t28 t29 t30 t31 h21 fun (t32 : Int) (t33 : Int) (t34 : Int) (t35 : Bool) (t36 : ByteArray) (t37 : Int) (t38 : Int) (t39 : Int) (h40 : Hp) =>
ExtS S22 h21 h40 ∧ (
someA sR2.1 fun (p41 : Addr) =>
(Addr.block p41 ∉ S22) ∧ (
someA sR2.1 fun (p42 : Addr) =>
ldA (.int .i64) h21 p42 fun (t43 : Int) =>
ldA (.int .u64) h21 (Addr.add p42 1) fun (t44 : Int) =>
ldA (.int .i64) h21 (Addr.add p42 2) fun (t45 : Int) =>
ldA .bool h21 (Addr.add p42 3) fun (t46 : Bool) =>
ldA .str h21 (Addr.add p42 4) fun (t47 : ByteArray) =>
ldA (.int .i64) h21 (Addr.add p42 5) fun (t48 : Int) =>
ldA (.int .i64) h21 (Addr.add p42 6) fun (t49 : Int) =>
ldA (.int .i64) h21 (Addr.add p42 7) fun (t50 : Int) =>
cnd (!((t32 == t43) && ((t33 == t44) && ((t34 == t45) && ((t35 == t46) && ((t36 == t47) && ((t37 == t48) && ((t38 == t49) && ((t39 == t50) && true))))))))) (
K false h40) (
C_code_Reader_Left t1 h40 fun (t51 : Int) (h52 : Hp) =>
ExtS S22 h40 h52 ∧ (
(Addr.block p4 ∉ S22) ∧ (
ldA .sl h40 p4 fun (t53 : Sl) =>
cnd (t51 != (t53.len : Int)) (
K false h52) (
C_code_Reader_End t1 h52 fun (t54 : Int) (h55 : Hp) =>
ExtS S22 h52 h55 ∧ (
(Addr.block p4 ∉ S22) ∧ (
ldA .sl h52 p4 fun (t56 : Sl) =>
ldA (.int .i64) h52 (Addr.add p4 1) fun (t57 : Int) =>
C_ref03_End t56 t57 h55 fun (t58 : Int) (h59 : Hp) =>
cnd (t54 != t58) (
K false h59) (
Let (IntKind.wrap .i64 (sL1.1.1 + 1) : Int) fun (t60 : Int) =>
R1 ((t60, ()), h59)))))))))))))) (
J1 (()) sL1.2)
def F_law03_CodeReads (a0_b : Sl) (a1_l : Sl) (h : Hp) (K : Bool → Hp → Prop) : Prop :=
C_code_NewReader a0_b h fun (t1 : Option Addr) (h2 : Hp) =>
Let (Array.push h2 (Obj.cells #[.slice none 0 0, .int .i64 0] 27)) fun (h3 : Hp) =>
Let (Addr.mk (Array.size h2) 0 none) fun (p4 : Addr) =>
stC h3 p4 (
Let (hset h3 p4 (.slice a0_b.a a0_b.len a0_b.cap)) fun (h5 : Hp) =>
stC h5 (Addr.add p4 1) (
Let (hset h5 (Addr.add p4 1) (.int .i64 0)) fun (h6 : Hp) =>
Jn (J1_law03_CodeReads K t1 p4) fun (J1 : Unit → Hp → Prop) =>
∃ n, Lp (L1_law03_CodeReads a1_l K t1 p4 J1) n ((0, ()), h6)))

theorem F_law03_CodeReads_ok (a0_b : Sl) (a1_l : Sl) (h : Hp) (K : Bool → Hp → Prop) (hF : F_law03_CodeReads a0_b a1_l h K) : C_law03_CodeReads a0_b a1_l h K := by
  have e : bodyVC Try.prog Try.f3 (.seq .no (.seq .no (.seq .no (.join [] (.seq .no (.block (.loop [(7, .at (.int .i64))] (.seq (.seq .no (.cond .no .no)) (.seq (.block (.seq (.sem [1, 6, 7] [(8, .at .ptr), (9, .at .ptr)]) (.seq .no (.seq .dr (.cond (.seq .no .no) .no))))) .no))))) (.seq .dr .no))))) (Option.getD Try.f3.body .skip) [.slice a0_b.a a0_b.len a0_b.cap, .slice a1_l.a a1_l.len a1_l.cap] h [.at .bool] (fun s h => K s.1 h) = F_law03_CodeReads a0_b a1_l h K := by kernel_rfl
  exact fun_sound mixed Try.func3 rfl (e.mpr hF)

def F_code_NewReader (a0_b : Sl) (h : Hp) (K : Option Addr → Hp → Prop) : Prop :=
C_slices_Clone_byte_byte a0_b h fun (t1 : Sl) (h2 : Hp) =>
Let (Array.push h2 (Obj.cells #[.slice t1.a t1.len t1.cap, .int .i64 0] 42)) fun (h3 : Hp) =>
Let (Addr.mk (Array.size h2) 0 none) fun (p4 : Addr) =>
K (some p4) h3

theorem F_code_NewReader_ok (a0_b : Sl) (h : Hp) (K : Option Addr → Hp → Prop) (hF : F_code_NewReader a0_b h K) : C_code_NewReader a0_b h K := by
  have e : bodyVC Try.prog Try.f4 (.seq .no (.seq .no .no)) (Option.getD Try.f4.body .skip) [.slice a0_b.a a0_b.len a0_b.cap] h [.at .ptr] (fun s h => K s.1 h) = F_code_NewReader a0_b h K := by kernel_rfl
  exact fun_sound mixed Try.func4 rfl (e.mpr hF)

def J1_ref03_Take (K : Int → Int → Int → Bool → ByteArray → Int → Int → Int → Sl → Int → Hp → Prop) (p6 : Addr) (p8 : Addr) (p11 : Addr) (sJ1 : Sl × Unit) (hJ1 : Hp) : Prop :=
ldA (.int .i64) hJ1 p11 fun (t85 : Int) =>
ldA (.int .u64) hJ1 (Addr.add p11 1) fun (t86 : Int) =>
ldA (.int .i64) hJ1 (Addr.add p11 2) fun (t87 : Int) =>
ldA .bool hJ1 (Addr.add p11 3) fun (t88 : Bool) =>
ldA .str hJ1 (Addr.add p11 4) fun (t89 : ByteArray) =>
ldA (.int .i64) hJ1 (Addr.add p11 5) fun (t90 : Int) =>
ldA (.int .i64) hJ1 (Addr.add p11 6) fun (t91 : Int) =>
ldA (.int .i64) hJ1 (Addr.add p11 7) fun (t92 : Int) =>
stC hJ1 p6 (
Let (hset hJ1 p6 (.int .i64 t85)) fun (h93 : Hp) =>
stC h93 (Addr.add p6 1) (
Let (hset h93 (Addr.add p6 1) (.int .u64 t86)) fun (h94 : Hp) =>
stC h94 (Addr.add p6 2) (
Let (hset h94 (Addr.add p6 2) (.int .i64 t87)) fun (h95 : Hp) =>
stC h95 (Addr.add p6 3) (
Let (hset h95 (Addr.add p6 3) (.bool t88)) fun (h96 : Hp) =>
stC h96 (Addr.add p6 4) (
Let (hset h96 (Addr.add p6 4) (.string t89)) fun (h97 : Hp) =>
stC h97 (Addr.add p6 5) (
Let (hset h97 (Addr.add p6 5) (.int .i64 t90)) fun (h98 : Hp) =>
stC h98 (Addr.add p6 6) (
Let (hset h98 (Addr.add p6 6) (.int .i64 t91)) fun (h99 : Hp) =>
stC h99 (Addr.add p6 7) (
Let (hset h99 (Addr.add p6 7) (.int .i64 t92)) fun (h100 : Hp) =>
stC h100 p8 (
Let (hset h100 p8 (.slice sJ1.1.a sJ1.1.len sJ1.1.cap)) fun (h101 : Hp) =>
stC h101 (Addr.add p8 1) (
Let (hset h101 (Addr.add p8 1) (.int .i64 0)) fun (h102 : Hp) =>
ldA (.int .i64) h102 p6 fun (r103 : Int) =>
ldA (.int .u64) h102 (Addr.add p6 1) fun (r104 : Int) =>
ldA (.int .i64) h102 (Addr.add p6 2) fun (r105 : Int) =>
ldA .bool h102 (Addr.add p6 3) fun (r106 : Bool) =>
ldA .str h102 (Addr.add p6 4) fun (r107 : ByteArray) =>
ldA (.int .i64) h102 (Addr.add p6 5) fun (r108 : Int) =>
ldA (.int .i64) h102 (Addr.add p6 6) fun (r109 : Int) =>
ldA (.int .i64) h102 (Addr.add p6 7) fun (r110 : Int) =>
ldA .sl h102 p8 fun (r111 : Sl) =>
ldA (.int .i64) h102 (Addr.add p8 1) fun (r112 : Int) =>
K r103 r104 r105 r106 r107 r108 r109 r110 r111 r112 h102))))))))))
def J3_ref03_Take (K : Int → Int → Int → Bool → ByteArray → Int → Int → Int → Sl → Int → Hp → Prop) (p6 : Addr) (p8 : Addr) (p11 : Addr) (t54 : Sl) (J1 : Sl × Unit → Hp → Prop) (sJ2 : Int × Unit) (sJ3 : Bool × Unit) (hJ3 : Hp) : Prop :=
cnd sJ3.1 (
ldA (.int .i64) hJ3 p11 fun (t146 : Int) =>
ldA (.int .u64) hJ3 (Addr.add p11 1) fun (t147 : Int) =>
ldA (.int .i64) hJ3 (Addr.add p11 2) fun (t148 : Int) =>
ldA .bool hJ3 (Addr.add p11 3) fun (t149 : Bool) =>
ldA .str hJ3 (Addr.add p11 4) fun (t150 : ByteArray) =>
ldA (.int .i64) hJ3 (Addr.add p11 5) fun (t151 : Int) =>
ldA (.int .i64) hJ3 (Addr.add p11 6) fun (t152 : Int) =>
ldA (.int .i64) hJ3 (Addr.add p11 7) fun (t153 : Int) =>
stC hJ3 p6 (
Let (hset hJ3 p6 (.int .i64 t146)) fun (h154 : Hp) =>
stC h154 (Addr.add p6 1) (
Let (hset h154 (Addr.add p6 1) (.int .u64 t147)) fun (h155 : Hp) =>
stC h155 (Addr.add p6 2) (
Let (hset h155 (Addr.add p6 2) (.int .i64 t148)) fun (h156 : Hp) =>
stC h156 (Addr.add p6 3) (
Let (hset h156 (Addr.add p6 3) (.bool t149)) fun (h157 : Hp) =>
stC h157 (Addr.add p6 4) (
Let (hset h157 (Addr.add p6 4) (.string t150)) fun (h158 : Hp) =>
stC h158 (Addr.add p6 5) (
Let (hset h158 (Addr.add p6 5) (.int .i64 t151)) fun (h159 : Hp) =>
stC h159 (Addr.add p6 6) (
Let (hset h159 (Addr.add p6 6) (.int .i64 t152)) fun (h160 : Hp) =>
stC h160 (Addr.add p6 7) (
Let (hset h160 (Addr.add p6 7) (.int .i64 t153)) fun (h161 : Hp) =>
stC h161 p8 (
Let (hset h161 p8 (.slice none 0 0)) fun (h162 : Hp) =>
stC h162 (Addr.add p8 1) (
Let (hset h162 (Addr.add p8 1) (.int .i64 14)) fun (h163 : Hp) =>
ldA (.int .i64) h163 p6 fun (r164 : Int) =>
ldA (.int .u64) h163 (Addr.add p6 1) fun (r165 : Int) =>
ldA (.int .i64) h163 (Addr.add p6 2) fun (r166 : Int) =>
ldA .bool h163 (Addr.add p6 3) fun (r167 : Bool) =>
ldA .str h163 (Addr.add p6 4) fun (r168 : ByteArray) =>
ldA (.int .i64) h163 (Addr.add p6 5) fun (r169 : Int) =>
ldA (.int .i64) h163 (Addr.add p6 6) fun (r170 : Int) =>
ldA (.int .i64) h163 (Addr.add p6 7) fun (r171 : Int) =>
ldA .sl h163 p8 fun (r172 : Sl) =>
ldA (.int .i64) h163 (Addr.add p8 1) fun (r173 : Int) =>
K r164 r165 r166 r167 r168 r169 r170 r171 r172 r173 h163))))))))))) (
((1 : Nat) = 1) ∧ (
stC hJ3 (Addr.add p11 2) (
Let (hset hJ3 (Addr.add p11 2) (.int .i64 sJ2.1)) fun (h174 : Hp) =>
J1 (t54, ()) h174)))
def J2_ref03_Take (K : Int → Int → Int → Bool → ByteArray → Int → Int → Int → Sl → Int → Hp → Prop) (p4 : Addr) (p6 : Addr) (p8 : Addr) (p11 : Addr) (t54 : Sl) (J1 : Sl × Unit → Hp → Prop) (sJ2 : Int × Unit) (hJ2 : Hp) : Prop :=
Jn (J3_ref03_Take K p6 p8 p11 t54 J1 sJ2) fun (J3 : Bool × Unit → Hp → Prop) =>
ldA (.int .i64) hJ2 (Addr.add p4 5) fun (t175 : Int) =>
cnd (decide (sJ2.1 < t175)) (
J3 (true, ()) hJ2) (
ldA (.int .i64) hJ2 (Addr.add p4 6) fun (t176 : Int) =>
J3 (decide (sJ2.1 > t176), ()) hJ2)
def J4_ref03_Take (K : Int → Int → Int → Bool → ByteArray → Int → Int → Int → Sl → Int → Hp → Prop) (p6 : Addr) (p8 : Addr) (p11 : Addr) (t53 : Int) (t54 : Sl) (J1 : Sl × Unit → Hp → Prop) (sJ4 : Bool × Unit) (hJ4 : Hp) : Prop :=
cnd sJ4.1 (
ldA (.int .i64) hJ4 p11 fun (t211 : Int) =>
ldA (.int .u64) hJ4 (Addr.add p11 1) fun (t212 : Int) =>
ldA (.int .i64) hJ4 (Addr.add p11 2) fun (t213 : Int) =>
ldA .bool hJ4 (Addr.add p11 3) fun (t214 : Bool) =>
ldA .str hJ4 (Addr.add p11 4) fun (t215 : ByteArray) =>
ldA (.int .i64) hJ4 (Addr.add p11 5) fun (t216 : Int) =>
ldA (.int .i64) hJ4 (Addr.add p11 6) fun (t217 : Int) =>
ldA (.int .i64) hJ4 (Addr.add p11 7) fun (t218 : Int) =>
stC hJ4 p6 (
Let (hset hJ4 p6 (.int .i64 t211)) fun (h219 : Hp) =>
stC h219 (Addr.add p6 1) (
Let (hset h219 (Addr.add p6 1) (.int .u64 t212)) fun (h220 : Hp) =>
stC h220 (Addr.add p6 2) (
Let (hset h220 (Addr.add p6 2) (.int .i64 t213)) fun (h221 : Hp) =>
stC h221 (Addr.add p6 3) (
Let (hset h221 (Addr.add p6 3) (.bool t214)) fun (h222 : Hp) =>
stC h222 (Addr.add p6 4) (
Let (hset h222 (Addr.add p6 4) (.string t215)) fun (h223 : Hp) =>
stC h223 (Addr.add p6 5) (
Let (hset h223 (Addr.add p6 5) (.int .i64 t216)) fun (h224 : Hp) =>
stC h224 (Addr.add p6 6) (
Let (hset h224 (Addr.add p6 6) (.int .i64 t217)) fun (h225 : Hp) =>
stC h225 (Addr.add p6 7) (
Let (hset h225 (Addr.add p6 7) (.int .i64 t218)) fun (h226 : Hp) =>
stC h226 p8 (
Let (hset h226 p8 (.slice none 0 0)) fun (h227 : Hp) =>
stC h227 (Addr.add p8 1) (
Let (hset h227 (Addr.add p8 1) (.int .i64 14)) fun (h228 : Hp) =>
ldA (.int .i64) h228 p6 fun (r229 : Int) =>
ldA (.int .u64) h228 (Addr.add p6 1) fun (r230 : Int) =>
ldA (.int .i64) h228 (Addr.add p6 2) fun (r231 : Int) =>
ldA .bool h228 (Addr.add p6 3) fun (r232 : Bool) =>
ldA .str h228 (Addr.add p6 4) fun (r233 : ByteArray) =>
ldA (.int .i64) h228 (Addr.add p6 5) fun (r234 : Int) =>
ldA (.int .i64) h228 (Addr.add p6 6) fun (r235 : Int) =>
ldA (.int .i64) h228 (Addr.add p6 7) fun (r236 : Int) =>
ldA .sl h228 p8 fun (r237 : Sl) =>
ldA (.int .i64) h228 (Addr.add p8 1) fun (r238 : Int) =>
K r229 r230 r231 r232 r233 r234 r235 r236 r237 r238 h228))))))))))) (
Let (IntKind.wrap .u64 ((t54.len : Int)) : Int) fun (t239 : Int) =>
cnd (decide (t239 < t53)) (
ldA (.int .i64) hJ4 p11 fun (t240 : Int) =>
ldA (.int .u64) hJ4 (Addr.add p11 1) fun (t241 : Int) =>
ldA (.int .i64) hJ4 (Addr.add p11 2) fun (t242 : Int) =>
ldA .bool hJ4 (Addr.add p11 3) fun (t243 : Bool) =>
ldA .str hJ4 (Addr.add p11 4) fun (t244 : ByteArray) =>
ldA (.int .i64) hJ4 (Addr.add p11 5) fun (t245 : Int) =>
ldA (.int .i64) hJ4 (Addr.add p11 6) fun (t246 : Int) =>
ldA (.int .i64) hJ4 (Addr.add p11 7) fun (t247 : Int) =>
stC hJ4 p6 (
Let (hset hJ4 p6 (.int .i64 t240)) fun (h248 : Hp) =>
stC h248 (Addr.add p6 1) (
Let (hset h248 (Addr.add p6 1) (.int .u64 t241)) fun (h249 : Hp) =>
stC h249 (Addr.add p6 2) (
Let (hset h249 (Addr.add p6 2) (.int .i64 t242)) fun (h250 : Hp) =>
stC h250 (Addr.add p6 3) (
Let (hset h250 (Addr.add p6 3) (.bool t243)) fun (h251 : Hp) =>
stC h251 (Addr.add p6 4) (
Let (hset h251 (Addr.add p6 4) (.string t244)) fun (h252 : Hp) =>
stC h252 (Addr.add p6 5) (
Let (hset h252 (Addr.add p6 5) (.int .i64 t245)) fun (h253 : Hp) =>
stC h253 (Addr.add p6 6) (
Let (hset h253 (Addr.add p6 6) (.int .i64 t246)) fun (h254 : Hp) =>
stC h254 (Addr.add p6 7) (
Let (hset h254 (Addr.add p6 7) (.int .i64 t247)) fun (h255 : Hp) =>
stC h255 p8 (
Let (hset h255 p8 (.slice none 0 0)) fun (h256 : Hp) =>
stC h256 (Addr.add p8 1) (
Let (hset h256 (Addr.add p8 1) (.int .i64 13)) fun (h257 : Hp) =>
ldA (.int .i64) h257 p6 fun (r258 : Int) =>
ldA (.int .u64) h257 (Addr.add p6 1) fun (r259 : Int) =>
ldA (.int .i64) h257 (Addr.add p6 2) fun (r260 : Int) =>
ldA .bool h257 (Addr.add p6 3) fun (r261 : Bool) =>
ldA .str h257 (Addr.add p6 4) fun (r262 : ByteArray) =>
ldA (.int .i64) h257 (Addr.add p6 5) fun (r263 : Int) =>
ldA (.int .i64) h257 (Addr.add p6 6) fun (r264 : Int) =>
ldA (.int .i64) h257 (Addr.add p6 7) fun (r265 : Int) =>
ldA .sl h257 p8 fun (r266 : Sl) =>
ldA (.int .i64) h257 (Addr.add p8 1) fun (r267 : Int) =>
K r258 r259 r260 r261 r262 r263 r264 r265 r266 r267 h257))))))))))) (
slcS t54.a t54.len t54.cap none (some t53) 1 fun (t268 : Option Addr) (l269 c270 : Nat) =>
btS hJ4 t268 l269 fun (t271 : ByteArray) =>
((1 : Nat) = 1) ∧ (
stC hJ4 (Addr.add p11 4) (
Let (hset hJ4 (Addr.add p11 4) (.string t271)) fun (h272 : Hp) =>
slcS t54.a t54.len t54.cap (some t53) none 1 fun (t273 : Option Addr) (l274 c275 : Nat) =>
J1 ((Sl.mk t273 l274 c275), ()) h272))))
def F_ref03_Take (a0_r : Sl) (a1_r : Int) (a2_p : Int) (a3_p : Int) (a4_p : Int) (a5_p : Bool) (a6_p : ByteArray) (a7_p : Int) (a8_p : Int) (a9_p : Int) (h : Hp) (K : Int → Int → Int → Bool → ByteArray → Int → Int → Int → Sl → Int → Hp → Prop) : Prop :=
Let (Array.push h (Obj.cells #[.slice a0_r.a a0_r.len a0_r.cap, .int .i64 a1_r] 27)) fun (h1 : Hp) =>
Let (Addr.mk (Array.size h) 0 none) fun (p2 : Addr) =>
Let (Array.push h1 (Obj.cells #[.int .i64 a2_p, .int .u64 a3_p, .int .i64 a4_p, .bool a5_p, .string a6_p, .int .i64 a7_p, .int .i64 a8_p, .int .i64 a9_p] 30)) fun (h3 : Hp) =>
Let (Addr.mk (Array.size h1) 0 none) fun (p4 : Addr) =>
Let (Array.push h3 (Obj.cells #[.int .i64 0, .int .u64 0, .int .i64 0, .bool false, .string (ByteArray.mk #[]), .int .i64 0, .int .i64 0, .int .i64 0] 30)) fun (h5 : Hp) =>
Let (Addr.mk (Array.size h3) 0 none) fun (p6 : Addr) =>
Let (Array.push h5 (Obj.cells #[.slice none 0 0, .int .i64 0] 27)) fun (h7 : Hp) =>
Let (Addr.mk (Array.size h5) 0 none) fun (p8 : Addr) =>
ldA (.int .i64) h7 p4 fun (t9 : Int) =>
Let (Array.push h7 (Obj.cells #[.int .i64 0, .int .u64 0, .int .i64 0, .bool false, .string (ByteArray.mk #[]), .int .i64 0, .int .i64 0, .int .i64 0] 30)) fun (h10 : Hp) =>
Let (Addr.mk (Array.size h7) 0 none) fun (p11 : Addr) =>
stC h10 p11 (
Let (hset h10 p11 (.int .i64 t9)) fun (h12 : Hp) =>
stC h12 (Addr.add p11 1) (
Let (hset h12 (Addr.add p11 1) (.int .u64 0)) fun (h13 : Hp) =>
stC h13 (Addr.add p11 2) (
Let (hset h13 (Addr.add p11 2) (.int .i64 0)) fun (h14 : Hp) =>
stC h14 (Addr.add p11 3) (
Let (hset h14 (Addr.add p11 3) (.bool false)) fun (h15 : Hp) =>
stC h15 (Addr.add p11 4) (
Let (hset h15 (Addr.add p11 4) (.string (ByteArray.mk #[]))) fun (h16 : Hp) =>
stC h16 (Addr.add p11 5) (
Let (hset h16 (Addr.add p11 5) (.int .i64 0)) fun (h17 : Hp) =>
stC h17 (Addr.add p11 6) (
Let (hset h17 (Addr.add p11 6) (.int .i64 0)) fun (h18 : Hp) =>
stC h18 (Addr.add p11 7) (
Let (hset h18 (Addr.add p11 7) (.int .i64 0)) fun (h19 : Hp) =>
ldA (.int .i64) h19 (Addr.add p2 1) fun (t20 : Int) =>
cnd (t20 != 0) (
∃ (S21 : List Nat),
(Addr.block p11 ∉ S21) ∧ (
ldA (.int .i64) h19 p11 fun (t22 : Int) =>
ldA (.int .u64) h19 (Addr.add p11 1) fun (t23 : Int) =>
ldA (.int .i64) h19 (Addr.add p11 2) fun (t24 : Int) =>
ldA .bool h19 (Addr.add p11 3) fun (t25 : Bool) =>
ldA .str h19 (Addr.add p11 4) fun (t26 : ByteArray) =>
ldA (.int .i64) h19 (Addr.add p11 5) fun (t27 : Int) =>
ldA (.int .i64) h19 (Addr.add p11 6) fun (t28 : Int) =>
ldA (.int .i64) h19 (Addr.add p11 7) fun (t29 : Int) =>
(Addr.block p2 ∉ S21) ∧ (
ldA .sl h19 p2 fun (t30 : Sl) =>
ldA (.int .i64) h19 (Addr.add p2 1) fun (t31 : Int) =>
stC h19 p6 (
Let (hset h19 p6 (.int .i64 t22)) fun (h32 : Hp) =>
stC h32 (Addr.add p6 1) (
Let (hset h32 (Addr.add p6 1) (.int .u64 t23)) fun (h33 : Hp) =>
stC h33 (Addr.add p6 2) (
Let (hset h33 (Addr.add p6 2) (.int .i64 t24)) fun (h34 : Hp) =>
stC h34 (Addr.add p6 3) (
Let (hset h34 (Addr.add p6 3) (.bool t25)) fun (h35 : Hp) =>
stC h35 (Addr.add p6 4) (
Let (hset h35 (Addr.add p6 4) (.string t26)) fun (h36 : Hp) =>
stC h36 (Addr.add p6 5) (
Let (hset h36 (Addr.add p6 5) (.int .i64 t27)) fun (h37 : Hp) =>
stC h37 (Addr.add p6 6) (
Let (hset h37 (Addr.add p6 6) (.int .i64 t28)) fun (h38 : Hp) =>
stC h38 (Addr.add p6 7) (
Let (hset h38 (Addr.add p6 7) (.int .i64 t29)) fun (h39 : Hp) =>
ExtS S21 h19 h39 ∧ (
stC h39 p8 (
Let (hset h39 p8 (.slice t30.a t30.len t30.cap)) fun (h40 : Hp) =>
stC h40 (Addr.add p8 1) (
Let (hset h40 (Addr.add p8 1) (.int .i64 t31)) fun (h41 : Hp) =>
ldA (.int .i64) h41 p6 fun (r42 : Int) =>
ldA (.int .u64) h41 (Addr.add p6 1) fun (r43 : Int) =>
ldA (.int .i64) h41 (Addr.add p6 2) fun (r44 : Int) =>
ldA .bool h41 (Addr.add p6 3) fun (r45 : Bool) =>
ldA .str h41 (Addr.add p6 4) fun (r46 : ByteArray) =>
ldA (.int .i64) h41 (Addr.add p6 5) fun (r47 : Int) =>
ldA (.int .i64) h41 (Addr.add p6 6) fun (r48 : Int) =>
ldA (.int .i64) h41 (Addr.add p6 7) fun (r49 : Int) =>
ldA .sl h41 p8 fun (r50 : Sl) =>
ldA (.int .i64) h41 (Addr.add p8 1) fun (r51 : Int) =>
K r42 r43 r44 r45 r46 r47 r48 r49 r50 r51 h41)))))))))))))) (
ldA .sl h19 p2 fun (t52 : Sl) =>
C_ref03_number t52 h19 fun (t53 : Int) (t54 : Sl) (t55 : Int) (h56 : Hp) =>
cnd (t55 != 0) (
ldA (.int .i64) h56 p11 fun (t57 : Int) =>
ldA (.int .u64) h56 (Addr.add p11 1) fun (t58 : Int) =>
ldA (.int .i64) h56 (Addr.add p11 2) fun (t59 : Int) =>
ldA .bool h56 (Addr.add p11 3) fun (t60 : Bool) =>
ldA .str h56 (Addr.add p11 4) fun (t61 : ByteArray) =>
ldA (.int .i64) h56 (Addr.add p11 5) fun (t62 : Int) =>
ldA (.int .i64) h56 (Addr.add p11 6) fun (t63 : Int) =>
ldA (.int .i64) h56 (Addr.add p11 7) fun (t64 : Int) =>
stC h56 p6 (
Let (hset h56 p6 (.int .i64 t57)) fun (h65 : Hp) =>
stC h65 (Addr.add p6 1) (
Let (hset h65 (Addr.add p6 1) (.int .u64 t58)) fun (h66 : Hp) =>
stC h66 (Addr.add p6 2) (
Let (hset h66 (Addr.add p6 2) (.int .i64 t59)) fun (h67 : Hp) =>
stC h67 (Addr.add p6 3) (
Let (hset h67 (Addr.add p6 3) (.bool t60)) fun (h68 : Hp) =>
stC h68 (Addr.add p6 4) (
Let (hset h68 (Addr.add p6 4) (.string t61)) fun (h69 : Hp) =>
stC h69 (Addr.add p6 5) (
Let (hset h69 (Addr.add p6 5) (.int .i64 t62)) fun (h70 : Hp) =>
stC h70 (Addr.add p6 6) (
Let (hset h70 (Addr.add p6 6) (.int .i64 t63)) fun (h71 : Hp) =>
stC h71 (Addr.add p6 7) (
Let (hset h71 (Addr.add p6 7) (.int .i64 t64)) fun (h72 : Hp) =>
stC h72 p8 (
Let (hset h72 p8 (.slice none 0 0)) fun (h73 : Hp) =>
stC h73 (Addr.add p8 1) (
Let (hset h73 (Addr.add p8 1) (.int .i64 t55)) fun (h74 : Hp) =>
ldA (.int .i64) h74 p6 fun (r75 : Int) =>
ldA (.int .u64) h74 (Addr.add p6 1) fun (r76 : Int) =>
ldA (.int .i64) h74 (Addr.add p6 2) fun (r77 : Int) =>
ldA .bool h74 (Addr.add p6 3) fun (r78 : Bool) =>
ldA .str h74 (Addr.add p6 4) fun (r79 : ByteArray) =>
ldA (.int .i64) h74 (Addr.add p6 5) fun (r80 : Int) =>
ldA (.int .i64) h74 (Addr.add p6 6) fun (r81 : Int) =>
ldA (.int .i64) h74 (Addr.add p6 7) fun (r82 : Int) =>
ldA .sl h74 p8 fun (r83 : Sl) =>
ldA (.int .i64) h74 (Addr.add p8 1) fun (r84 : Int) =>
K r75 r76 r77 r78 r79 r80 r81 r82 r83 r84 h74))))))))))) (
Jn (J1_ref03_Take K p6 p8 p11) fun (J1 : Sl × Unit → Hp → Prop) =>
ldA (.int .i64) h56 p4 fun (t113 : Int) =>
cnd (t113 == 0) (
ldA (.int .u64) h56 (Addr.add p4 1) fun (t114 : Int) =>
cnd (decide (t53 > t114)) (
ldA (.int .i64) h56 p11 fun (t115 : Int) =>
ldA (.int .u64) h56 (Addr.add p11 1) fun (t116 : Int) =>
ldA (.int .i64) h56 (Addr.add p11 2) fun (t117 : Int) =>
ldA .bool h56 (Addr.add p11 3) fun (t118 : Bool) =>
ldA .str h56 (Addr.add p11 4) fun (t119 : ByteArray) =>
ldA (.int .i64) h56 (Addr.add p11 5) fun (t120 : Int) =>
ldA (.int .i64) h56 (Addr.add p11 6) fun (t121 : Int) =>
ldA (.int .i64) h56 (Addr.add p11 7) fun (t122 : Int) =>
stC h56 p6 (
Let (hset h56 p6 (.int .i64 t115)) fun (h123 : Hp) =>
stC h123 (Addr.add p6 1) (
Let (hset h123 (Addr.add p6 1) (.int .u64 t116)) fun (h124 : Hp) =>
stC h124 (Addr.add p6 2) (
Let (hset h124 (Addr.add p6 2) (.int .i64 t117)) fun (h125 : Hp) =>
stC h125 (Addr.add p6 3) (
Let (hset h125 (Addr.add p6 3) (.bool t118)) fun (h126 : Hp) =>
stC h126 (Addr.add p6 4) (
Let (hset h126 (Addr.add p6 4) (.string t119)) fun (h127 : Hp) =>
stC h127 (Addr.add p6 5) (
Let (hset h127 (Addr.add p6 5) (.int .i64 t120)) fun (h128 : Hp) =>
stC h128 (Addr.add p6 6) (
Let (hset h128 (Addr.add p6 6) (.int .i64 t121)) fun (h129 : Hp) =>
stC h129 (Addr.add p6 7) (
Let (hset h129 (Addr.add p6 7) (.int .i64 t122)) fun (h130 : Hp) =>
stC h130 p8 (
Let (hset h130 p8 (.slice none 0 0)) fun (h131 : Hp) =>
stC h131 (Addr.add p8 1) (
Let (hset h131 (Addr.add p8 1) (.int .i64 14)) fun (h132 : Hp) =>
ldA (.int .i64) h132 p6 fun (r133 : Int) =>
ldA (.int .u64) h132 (Addr.add p6 1) fun (r134 : Int) =>
ldA (.int .i64) h132 (Addr.add p6 2) fun (r135 : Int) =>
ldA .bool h132 (Addr.add p6 3) fun (r136 : Bool) =>
ldA .str h132 (Addr.add p6 4) fun (r137 : ByteArray) =>
ldA (.int .i64) h132 (Addr.add p6 5) fun (r138 : Int) =>
ldA (.int .i64) h132 (Addr.add p6 6) fun (r139 : Int) =>
ldA (.int .i64) h132 (Addr.add p6 7) fun (r140 : Int) =>
ldA .sl h132 p8 fun (r141 : Sl) =>
ldA (.int .i64) h132 (Addr.add p8 1) fun (r142 : Int) =>
K r133 r134 r135 r136 r137 r138 r139 r140 r141 r142 h132))))))))))) (
((1 : Nat) = 1) ∧ (
stC h56 (Addr.add p11 1) (
Let (hset h56 (Addr.add p11 1) (.int .u64 t53)) fun (h143 : Hp) =>
J1 (t54, ()) h143)))) (
cnd (t113 == 1) (
(2 ≠ (0 : Int)) ∧ (
Let (IntKind.wrap .u64 (Int.tdiv t53 2) : Int) fun (t144 : Int) =>
Let (IntKind.wrap .i64 (t144) : Int) fun (t145 : Int) =>
Jn (J2_ref03_Take K p4 p6 p8 p11 t54 J1) fun (J2 : Int × Unit → Hp → Prop) =>
(2 ≠ (0 : Int)) ∧ (
Let (Int.tmod t53 2 : Int) fun (t177 : Int) =>
cnd (t177 == 1) (
(2 ≠ (0 : Int)) ∧ (
Let (IntKind.wrap .u64 (Int.tdiv t53 2) : Int) fun (t178 : Int) =>
Let (IntKind.wrap .i64 (t178) : Int) fun (t179 : Int) =>
Let (IntKind.wrap .i64 (0 - t179) : Int) fun (t180 : Int) =>
Let (IntKind.wrap .i64 (t180 - 1) : Int) fun (t181 : Int) =>
J2 (t181, ()) h56)) (
J2 (t145, ()) h56)))) (
cnd (t113 == 2) (
cnd (decide (t53 > 1)) (
ldA (.int .i64) h56 p11 fun (t182 : Int) =>
ldA (.int .u64) h56 (Addr.add p11 1) fun (t183 : Int) =>
ldA (.int .i64) h56 (Addr.add p11 2) fun (t184 : Int) =>
ldA .bool h56 (Addr.add p11 3) fun (t185 : Bool) =>
ldA .str h56 (Addr.add p11 4) fun (t186 : ByteArray) =>
ldA (.int .i64) h56 (Addr.add p11 5) fun (t187 : Int) =>
ldA (.int .i64) h56 (Addr.add p11 6) fun (t188 : Int) =>
ldA (.int .i64) h56 (Addr.add p11 7) fun (t189 : Int) =>
stC h56 p6 (
Let (hset h56 p6 (.int .i64 t182)) fun (h190 : Hp) =>
stC h190 (Addr.add p6 1) (
Let (hset h190 (Addr.add p6 1) (.int .u64 t183)) fun (h191 : Hp) =>
stC h191 (Addr.add p6 2) (
Let (hset h191 (Addr.add p6 2) (.int .i64 t184)) fun (h192 : Hp) =>
stC h192 (Addr.add p6 3) (
Let (hset h192 (Addr.add p6 3) (.bool t185)) fun (h193 : Hp) =>
stC h193 (Addr.add p6 4) (
Let (hset h193 (Addr.add p6 4) (.string t186)) fun (h194 : Hp) =>
stC h194 (Addr.add p6 5) (
Let (hset h194 (Addr.add p6 5) (.int .i64 t187)) fun (h195 : Hp) =>
stC h195 (Addr.add p6 6) (
Let (hset h195 (Addr.add p6 6) (.int .i64 t188)) fun (h196 : Hp) =>
stC h196 (Addr.add p6 7) (
Let (hset h196 (Addr.add p6 7) (.int .i64 t189)) fun (h197 : Hp) =>
stC h197 p8 (
Let (hset h197 p8 (.slice none 0 0)) fun (h198 : Hp) =>
stC h198 (Addr.add p8 1) (
Let (hset h198 (Addr.add p8 1) (.int .i64 14)) fun (h199 : Hp) =>
ldA (.int .i64) h199 p6 fun (r200 : Int) =>
ldA (.int .u64) h199 (Addr.add p6 1) fun (r201 : Int) =>
ldA (.int .i64) h199 (Addr.add p6 2) fun (r202 : Int) =>
ldA .bool h199 (Addr.add p6 3) fun (r203 : Bool) =>
ldA .str h199 (Addr.add p6 4) fun (r204 : ByteArray) =>
ldA (.int .i64) h199 (Addr.add p6 5) fun (r205 : Int) =>
ldA (.int .i64) h199 (Addr.add p6 6) fun (r206 : Int) =>
ldA (.int .i64) h199 (Addr.add p6 7) fun (r207 : Int) =>
ldA .sl h199 p8 fun (r208 : Sl) =>
ldA (.int .i64) h199 (Addr.add p8 1) fun (r209 : Int) =>
K r200 r201 r202 r203 r204 r205 r206 r207 r208 r209 h199))))))))))) (
((1 : Nat) = 1) ∧ (
stC h56 (Addr.add p11 3) (
Let (hset h56 (Addr.add p11 3) (.bool (t53 == 1))) fun (h210 : Hp) =>
J1 (t54, ()) h210)))) (
Jn (J4_ref03_Take K p6 p8 p11 t53 t54 J1) fun (J4 : Bool × Unit → Hp → Prop) =>
ldA (.int .i64) h56 (Addr.add p4 7) fun (t276 : Int) =>
cnd (decide (t276 < 0)) (
J4 (true, ()) h56) (
ldA (.int .i64) h56 (Addr.add p4 7) fun (t277 : Int) =>
Let (IntKind.wrap .u64 (t277) : Int) fun (t278 : Int) =>
J4 (decide (t53 > t278), ()) h56))))))))))))))

theorem F_ref03_Take_ok (a0_r : Sl) (a1_r : Int) (a2_p : Int) (a3_p : Int) (a4_p : Int) (a5_p : Bool) (a6_p : ByteArray) (a7_p : Int) (a8_p : Int) (a9_p : Int) (h : Hp) (K : Int → Int → Int → Bool → ByteArray → Int → Int → Int → Sl → Int → Hp → Prop) (hF : F_ref03_Take a0_r a1_r a2_p a3_p a4_p a5_p a6_p a7_p a8_p a9_p h K) : C_ref03_Take a0_r a1_r a2_p a3_p a4_p a5_p a6_p a7_p a8_p a9_p h K := by
  have e : bodyVC Try.prog Try.f5 (.seq .no (.seq .no (.seq (.seq .no (.cond (.seq .dr .no) .no)) (.seq .no (.seq (.seq .no (.cond (.seq .no .no) .no)) (.join [(8, .at .sl)] (.seq .no (.block (.seq .no (.cond (.seq (.seq .no (.cond (.seq .no .no) .no)) .no) (.seq .no (.cond (.seq .no (.join [(10, .at (.int .i64))] (.seq .no (.cond .no .no)) (.seq (.join [(92, .at .bool)] .no (.cond (.seq .no .no) .no)) .no))) (.seq .no (.cond (.seq (.seq .no (.cond (.seq .no .no) .no)) .no) (.seq (.join [(42, .at .bool)] .no (.cond (.seq .no .no) .no)) (.seq (.seq .no (.cond (.seq .no .no) .no)) (.seq .no .no))))))))))) (.seq .no .no))))))) (Option.getD Try.f5.body .skip) [.agg #[.slice a0_r.a a0_r.len a0_r.cap, .int .i64 a1_r], .agg #[.int .i64 a2_p, .int .u64 a3_p, .int .i64 a4_p, .bool a5_p, .string a6_p, .int .i64 a7_p, .int .i64 a8_p, .int .i64 a9_p]] h [.agg [(.int .i64), (.int .u64), (.int .i64), .bool, .str, (.int .i64), (.int .i64), (.int .i64)], .agg [.sl, (.int .i64)]] (fun s h => K s.1.1 s.1.2.1 s.1.2.2.1 s.1.2.2.2.1 s.1.2.2.2.2.1 s.1.2.2.2.2.2.1 s.1.2.2.2.2.2.2.1 s.1.2.2.2.2.2.2.2.1 s.2.1.1 s.2.1.2.1 h) = F_ref03_Take a0_r a1_r a2_p a3_p a4_p a5_p a6_p a7_p a8_p a9_p h K := by kernel_rfl
  exact fun_sound mixed Try.func5 rfl (e.mpr hF)

def F_law03_take (a0_r : Option Addr) (a1_p : Int) (a2_p : Int) (a3_p : Int) (a4_p : Bool) (a5_p : ByteArray) (a6_p : Int) (a7_p : Int) (a8_p : Int) (h : Hp) (K : Int → Int → Int → Bool → ByteArray → Int → Int → Int → Hp → Prop) : Prop :=
Let (Array.push h (Obj.cells #[.int .i64 a1_p, .int .u64 a2_p, .int .i64 a3_p, .bool a4_p, .string a5_p, .int .i64 a6_p, .int .i64 a7_p, .int .i64 a8_p] 30)) fun (h1 : Hp) =>
Let (Addr.mk (Array.size h) 0 none) fun (p2 : Addr) =>
Let (Array.push h1 (Obj.cells #[.int .i64 0, .int .u64 0, .int .i64 0, .bool false, .string (ByteArray.mk #[]), .int .i64 0, .int .i64 0, .int .i64 0] 30)) fun (h3 : Hp) =>
Let (Addr.mk (Array.size h1) 0 none) fun (p4 : Addr) =>
ldA (.int .i64) h3 p2 fun (t5 : Int) =>
Let (Array.push h3 (Obj.cells #[.int .i64 0, .int .u64 0, .int .i64 0, .bool false, .string (ByteArray.mk #[]), .int .i64 0, .int .i64 0, .int .i64 0] 30)) fun (h6 : Hp) =>
Let (Addr.mk (Array.size h3) 0 none) fun (p7 : Addr) =>
stC h6 p7 (
Let (hset h6 p7 (.int .i64 t5)) fun (h8 : Hp) =>
stC h8 (Addr.add p7 1) (
Let (hset h8 (Addr.add p7 1) (.int .u64 0)) fun (h9 : Hp) =>
stC h9 (Addr.add p7 2) (
Let (hset h9 (Addr.add p7 2) (.int .i64 0)) fun (h10 : Hp) =>
stC h10 (Addr.add p7 3) (
Let (hset h10 (Addr.add p7 3) (.bool false)) fun (h11 : Hp) =>
stC h11 (Addr.add p7 4) (
Let (hset h11 (Addr.add p7 4) (.string (ByteArray.mk #[]))) fun (h12 : Hp) =>
stC h12 (Addr.add p7 5) (
Let (hset h12 (Addr.add p7 5) (.int .i64 0)) fun (h13 : Hp) =>
stC h13 (Addr.add p7 6) (
Let (hset h13 (Addr.add p7 6) (.int .i64 0)) fun (h14 : Hp) =>
stC h14 (Addr.add p7 7) (
Let (hset h14 (Addr.add p7 7) (.int .i64 0)) fun (h15 : Hp) =>
ldA (.int .i64) h15 p2 fun (t16 : Int) =>
cnd (t16 == 0) (
ldA (.int .u64) h15 (Addr.add p2 1) fun (t17 : Int) =>
C_code_Reader_Num a0_r t17 h15 fun (t18 : Int) (h19 : Hp) =>
((1 : Nat) = 1) ∧ (
stC h19 (Addr.add p7 1) (
Let (hset h19 (Addr.add p7 1) (.int .u64 t18)) fun (h20 : Hp) =>
ldA (.int .i64) h20 p7 fun (t21 : Int) =>
ldA (.int .u64) h20 (Addr.add p7 1) fun (t22 : Int) =>
ldA (.int .i64) h20 (Addr.add p7 2) fun (t23 : Int) =>
ldA .bool h20 (Addr.add p7 3) fun (t24 : Bool) =>
ldA .str h20 (Addr.add p7 4) fun (t25 : ByteArray) =>
ldA (.int .i64) h20 (Addr.add p7 5) fun (t26 : Int) =>
ldA (.int .i64) h20 (Addr.add p7 6) fun (t27 : Int) =>
ldA (.int .i64) h20 (Addr.add p7 7) fun (t28 : Int) =>
stC h20 p4 (
Let (hset h20 p4 (.int .i64 t21)) fun (h29 : Hp) =>
stC h29 (Addr.add p4 1) (
Let (hset h29 (Addr.add p4 1) (.int .u64 t22)) fun (h30 : Hp) =>
stC h30 (Addr.add p4 2) (
Let (hset h30 (Addr.add p4 2) (.int .i64 t23)) fun (h31 : Hp) =>
stC h31 (Addr.add p4 3) (
Let (hset h31 (Addr.add p4 3) (.bool t24)) fun (h32 : Hp) =>
stC h32 (Addr.add p4 4) (
Let (hset h32 (Addr.add p4 4) (.string t25)) fun (h33 : Hp) =>
stC h33 (Addr.add p4 5) (
Let (hset h33 (Addr.add p4 5) (.int .i64 t26)) fun (h34 : Hp) =>
stC h34 (Addr.add p4 6) (
Let (hset h34 (Addr.add p4 6) (.int .i64 t27)) fun (h35 : Hp) =>
stC h35 (Addr.add p4 7) (
Let (hset h35 (Addr.add p4 7) (.int .i64 t28)) fun (h36 : Hp) =>
ldA (.int .i64) h36 p4 fun (r37 : Int) =>
ldA (.int .u64) h36 (Addr.add p4 1) fun (r38 : Int) =>
ldA (.int .i64) h36 (Addr.add p4 2) fun (r39 : Int) =>
ldA .bool h36 (Addr.add p4 3) fun (r40 : Bool) =>
ldA .str h36 (Addr.add p4 4) fun (r41 : ByteArray) =>
ldA (.int .i64) h36 (Addr.add p4 5) fun (r42 : Int) =>
ldA (.int .i64) h36 (Addr.add p4 6) fun (r43 : Int) =>
ldA (.int .i64) h36 (Addr.add p4 7) fun (r44 : Int) =>
K r37 r38 r39 r40 r41 r42 r43 r44 h36))))))))))) (
cnd (t16 == 1) (
ldA (.int .i64) h15 (Addr.add p2 5) fun (t45 : Int) =>
ldA (.int .i64) h15 (Addr.add p2 6) fun (t46 : Int) =>
C_code_Reader_Int a0_r t45 t46 h15 fun (t47 : Int) (h48 : Hp) =>
((1 : Nat) = 1) ∧ (
stC h48 (Addr.add p7 2) (
Let (hset h48 (Addr.add p7 2) (.int .i64 t47)) fun (h49 : Hp) =>
ldA (.int .i64) h49 p7 fun (t50 : Int) =>
ldA (.int .u64) h49 (Addr.add p7 1) fun (t51 : Int) =>
ldA (.int .i64) h49 (Addr.add p7 2) fun (t52 : Int) =>
ldA .bool h49 (Addr.add p7 3) fun (t53 : Bool) =>
ldA .str h49 (Addr.add p7 4) fun (t54 : ByteArray) =>
ldA (.int .i64) h49 (Addr.add p7 5) fun (t55 : Int) =>
ldA (.int .i64) h49 (Addr.add p7 6) fun (t56 : Int) =>
ldA (.int .i64) h49 (Addr.add p7 7) fun (t57 : Int) =>
stC h49 p4 (
Let (hset h49 p4 (.int .i64 t50)) fun (h58 : Hp) =>
stC h58 (Addr.add p4 1) (
Let (hset h58 (Addr.add p4 1) (.int .u64 t51)) fun (h59 : Hp) =>
stC h59 (Addr.add p4 2) (
Let (hset h59 (Addr.add p4 2) (.int .i64 t52)) fun (h60 : Hp) =>
stC h60 (Addr.add p4 3) (
Let (hset h60 (Addr.add p4 3) (.bool t53)) fun (h61 : Hp) =>
stC h61 (Addr.add p4 4) (
Let (hset h61 (Addr.add p4 4) (.string t54)) fun (h62 : Hp) =>
stC h62 (Addr.add p4 5) (
Let (hset h62 (Addr.add p4 5) (.int .i64 t55)) fun (h63 : Hp) =>
stC h63 (Addr.add p4 6) (
Let (hset h63 (Addr.add p4 6) (.int .i64 t56)) fun (h64 : Hp) =>
stC h64 (Addr.add p4 7) (
Let (hset h64 (Addr.add p4 7) (.int .i64 t57)) fun (h65 : Hp) =>
ldA (.int .i64) h65 p4 fun (r66 : Int) =>
ldA (.int .u64) h65 (Addr.add p4 1) fun (r67 : Int) =>
ldA (.int .i64) h65 (Addr.add p4 2) fun (r68 : Int) =>
ldA .bool h65 (Addr.add p4 3) fun (r69 : Bool) =>
ldA .str h65 (Addr.add p4 4) fun (r70 : ByteArray) =>
ldA (.int .i64) h65 (Addr.add p4 5) fun (r71 : Int) =>
ldA (.int .i64) h65 (Addr.add p4 6) fun (r72 : Int) =>
ldA (.int .i64) h65 (Addr.add p4 7) fun (r73 : Int) =>
K r66 r67 r68 r69 r70 r71 r72 r73 h65))))))))))) (
cnd (t16 == 2) (
C_code_Reader_Flag a0_r h15 fun (t74 : Bool) (h75 : Hp) =>
((1 : Nat) = 1) ∧ (
stC h75 (Addr.add p7 3) (
Let (hset h75 (Addr.add p7 3) (.bool t74)) fun (h76 : Hp) =>
ldA (.int .i64) h76 p7 fun (t77 : Int) =>
ldA (.int .u64) h76 (Addr.add p7 1) fun (t78 : Int) =>
ldA (.int .i64) h76 (Addr.add p7 2) fun (t79 : Int) =>
ldA .bool h76 (Addr.add p7 3) fun (t80 : Bool) =>
ldA .str h76 (Addr.add p7 4) fun (t81 : ByteArray) =>
ldA (.int .i64) h76 (Addr.add p7 5) fun (t82 : Int) =>
ldA (.int .i64) h76 (Addr.add p7 6) fun (t83 : Int) =>
ldA (.int .i64) h76 (Addr.add p7 7) fun (t84 : Int) =>
stC h76 p4 (
Let (hset h76 p4 (.int .i64 t77)) fun (h85 : Hp) =>
stC h85 (Addr.add p4 1) (
Let (hset h85 (Addr.add p4 1) (.int .u64 t78)) fun (h86 : Hp) =>
stC h86 (Addr.add p4 2) (
Let (hset h86 (Addr.add p4 2) (.int .i64 t79)) fun (h87 : Hp) =>
stC h87 (Addr.add p4 3) (
Let (hset h87 (Addr.add p4 3) (.bool t80)) fun (h88 : Hp) =>
stC h88 (Addr.add p4 4) (
Let (hset h88 (Addr.add p4 4) (.string t81)) fun (h89 : Hp) =>
stC h89 (Addr.add p4 5) (
Let (hset h89 (Addr.add p4 5) (.int .i64 t82)) fun (h90 : Hp) =>
stC h90 (Addr.add p4 6) (
Let (hset h90 (Addr.add p4 6) (.int .i64 t83)) fun (h91 : Hp) =>
stC h91 (Addr.add p4 7) (
Let (hset h91 (Addr.add p4 7) (.int .i64 t84)) fun (h92 : Hp) =>
ldA (.int .i64) h92 p4 fun (r93 : Int) =>
ldA (.int .u64) h92 (Addr.add p4 1) fun (r94 : Int) =>
ldA (.int .i64) h92 (Addr.add p4 2) fun (r95 : Int) =>
ldA .bool h92 (Addr.add p4 3) fun (r96 : Bool) =>
ldA .str h92 (Addr.add p4 4) fun (r97 : ByteArray) =>
ldA (.int .i64) h92 (Addr.add p4 5) fun (r98 : Int) =>
ldA (.int .i64) h92 (Addr.add p4 6) fun (r99 : Int) =>
ldA (.int .i64) h92 (Addr.add p4 7) fun (r100 : Int) =>
K r93 r94 r95 r96 r97 r98 r99 r100 h92))))))))))) (
ldA (.int .i64) h15 (Addr.add p2 7) fun (t101 : Int) =>
C_code_Reader_Text a0_r t101 h15 fun (t102 : ByteArray) (h103 : Hp) =>
((1 : Nat) = 1) ∧ (
stC h103 (Addr.add p7 4) (
Let (hset h103 (Addr.add p7 4) (.string t102)) fun (h104 : Hp) =>
ldA (.int .i64) h104 p7 fun (t105 : Int) =>
ldA (.int .u64) h104 (Addr.add p7 1) fun (t106 : Int) =>
ldA (.int .i64) h104 (Addr.add p7 2) fun (t107 : Int) =>
ldA .bool h104 (Addr.add p7 3) fun (t108 : Bool) =>
ldA .str h104 (Addr.add p7 4) fun (t109 : ByteArray) =>
ldA (.int .i64) h104 (Addr.add p7 5) fun (t110 : Int) =>
ldA (.int .i64) h104 (Addr.add p7 6) fun (t111 : Int) =>
ldA (.int .i64) h104 (Addr.add p7 7) fun (t112 : Int) =>
stC h104 p4 (
Let (hset h104 p4 (.int .i64 t105)) fun (h113 : Hp) =>
stC h113 (Addr.add p4 1) (
Let (hset h113 (Addr.add p4 1) (.int .u64 t106)) fun (h114 : Hp) =>
stC h114 (Addr.add p4 2) (
Let (hset h114 (Addr.add p4 2) (.int .i64 t107)) fun (h115 : Hp) =>
stC h115 (Addr.add p4 3) (
Let (hset h115 (Addr.add p4 3) (.bool t108)) fun (h116 : Hp) =>
stC h116 (Addr.add p4 4) (
Let (hset h116 (Addr.add p4 4) (.string t109)) fun (h117 : Hp) =>
stC h117 (Addr.add p4 5) (
Let (hset h117 (Addr.add p4 5) (.int .i64 t110)) fun (h118 : Hp) =>
stC h118 (Addr.add p4 6) (
Let (hset h118 (Addr.add p4 6) (.int .i64 t111)) fun (h119 : Hp) =>
stC h119 (Addr.add p4 7) (
Let (hset h119 (Addr.add p4 7) (.int .i64 t112)) fun (h120 : Hp) =>
ldA (.int .i64) h120 p4 fun (r121 : Int) =>
ldA (.int .u64) h120 (Addr.add p4 1) fun (r122 : Int) =>
ldA (.int .i64) h120 (Addr.add p4 2) fun (r123 : Int) =>
ldA .bool h120 (Addr.add p4 3) fun (r124 : Bool) =>
ldA .str h120 (Addr.add p4 4) fun (r125 : ByteArray) =>
ldA (.int .i64) h120 (Addr.add p4 5) fun (r126 : Int) =>
ldA (.int .i64) h120 (Addr.add p4 6) fun (r127 : Int) =>
ldA (.int .i64) h120 (Addr.add p4 7) fun (r128 : Int) =>
K r121 r122 r123 r124 r125 r126 r127 r128 h120)))))))))))))))))))))

theorem F_law03_take_ok (a0_r : Option Addr) (a1_p : Int) (a2_p : Int) (a3_p : Int) (a4_p : Bool) (a5_p : ByteArray) (a6_p : Int) (a7_p : Int) (a8_p : Int) (h : Hp) (K : Int → Int → Int → Bool → ByteArray → Int → Int → Int → Hp → Prop) (hF : F_law03_take a0_r a1_p a2_p a3_p a4_p a5_p a6_p a7_p a8_p h K) : C_law03_take a0_r a1_p a2_p a3_p a4_p a5_p a6_p a7_p a8_p h K := by
  have e : bodyVC Try.prog Try.f6 (.seq .no (.seq .no (.seq (.seq .no (.block (.seq .no (.cond .no (.seq .no (.cond .no (.seq .no (.cond .no .no)))))))) (.seq .no .no)))) (Option.getD Try.f6.body .skip) [.pointer a0_r, .agg #[.int .i64 a1_p, .int .u64 a2_p, .int .i64 a3_p, .bool a4_p, .string a5_p, .int .i64 a6_p, .int .i64 a7_p, .int .i64 a8_p]] h [.agg [(.int .i64), (.int .u64), (.int .i64), .bool, .str, (.int .i64), (.int .i64), (.int .i64)]] (fun s h => K s.1.1 s.1.2.1 s.1.2.2.1 s.1.2.2.2.1 s.1.2.2.2.2.1 s.1.2.2.2.2.2.1 s.1.2.2.2.2.2.2.1 s.1.2.2.2.2.2.2.2.1 h) = F_law03_take a0_r a1_p a2_p a3_p a4_p a5_p a6_p a7_p a8_p h K := by kernel_rfl
  exact fun_sound mixed Try.func6 rfl (e.mpr hF)

def J1_code_Reader_Left (a0_r : Option Addr) (K : Int → Hp → Prop) (sJ1 : Unit) (hJ1 : Hp) : Prop :=
someA a0_r fun (p1 : Addr) =>
ldA .sl hJ1 p1 fun (t2 : Sl) =>
K (t2.len : Int) hJ1
def F_code_Reader_Left (a0_r : Option Addr) (h : Hp) (K : Int → Hp → Prop) : Prop :=
Jn (J1_code_Reader_Left a0_r K) fun (J1 : Unit → Hp → Prop) =>
cnd (Option.isNone a0_r) (
K 0 h) (
someA a0_r fun (p3 : Addr) =>
ldA (.int .i64) h (Addr.add p3 1) fun (t4 : Int) =>
cnd (t4 != 0) (
K 0 h) (
J1 (()) h))

theorem F_code_Reader_Left_ok (a0_r : Option Addr) (h : Hp) (K : Int → Hp → Prop) (hF : F_code_Reader_Left a0_r h K) : C_code_Reader_Left a0_r h K := by
  have e : bodyVC Try.prog Try.f7 (.seq .no (.join [] (.seq .no (.cond (.seq .no .no) .no)) (.seq .no .no))) (Option.getD Try.f7.body .skip) [.pointer a0_r] h [.at (.int .i64)] (fun s h => K s.1 h) = F_code_Reader_Left a0_r h K := by kernel_rfl
  exact fun_sound mixed Try.func7 rfl (e.mpr hF)

def J1_code_Reader_End (a0_r : Option Addr) (K : Int → Hp → Prop) (sJ1 : Unit) (hJ1 : Hp) : Prop :=
someA a0_r fun (p1 : Addr) =>
ldA (.int .i64) hJ1 (Addr.add p1 1) fun (t2 : Int) =>
K t2 hJ1
def F_code_Reader_End (a0_r : Option Addr) (h : Hp) (K : Int → Hp → Prop) : Prop :=
Jn (J1_code_Reader_End a0_r K) fun (J1 : Unit → Hp → Prop) =>
cnd (Option.isNone a0_r) (
K 1 h) (
someA a0_r fun (p3 : Addr) =>
ldA (.int .i64) h (Addr.add p3 1) fun (t4 : Int) =>
cnd (t4 == 0) (
someA a0_r fun (p5 : Addr) =>
ldA .sl h p5 fun (t6 : Sl) =>
cnd (decide ((t6.len : Int) > 0)) (
K 12 h) (
J1 (()) h)) (
J1 (()) h))

theorem F_code_Reader_End_ok (a0_r : Option Addr) (h : Hp) (K : Int → Hp → Prop) (hF : F_code_Reader_End a0_r h K) : C_code_Reader_End a0_r h K := by
  have e : bodyVC Try.prog Try.f8 (.seq .no (.join [] (.block (.seq .no (.cond (.seq .no .no) (.seq .no (.cond (.seq .no .no) .no))))) (.seq .no .no))) (Option.getD Try.f8.body .skip) [.pointer a0_r] h [.at (.int .i64)] (fun s h => K s.1 h) = F_code_Reader_End a0_r h K := by kernel_rfl
  exact fun_sound mixed Try.func8 rfl (e.mpr hF)

def F_ref03_End (a0_r : Sl) (a1_r : Int) (h : Hp) (K : Int → Hp → Prop) : Prop :=
Let (Array.push h (Obj.cells #[.slice a0_r.a a0_r.len a0_r.cap, .int .i64 a1_r] 27)) fun (h1 : Hp) =>
Let (Addr.mk (Array.size h) 0 none) fun (p2 : Addr) =>
ldA (.int .i64) h1 (Addr.add p2 1) fun (t3 : Int) =>
cnd (t3 == 0) (
ldA .sl h1 p2 fun (t4 : Sl) =>
cnd (decide ((t4.len : Int) > 0)) (
K 12 h1) (
ldA (.int .i64) h1 (Addr.add p2 1) fun (t5 : Int) =>
K t5 h1)) (
ldA (.int .i64) h1 (Addr.add p2 1) fun (t6 : Int) =>
K t6 h1)

theorem F_ref03_End_ok (a0_r : Sl) (a1_r : Int) (h : Hp) (K : Int → Hp → Prop) (hF : F_ref03_End a0_r a1_r h K) : C_ref03_End a0_r a1_r h K := by
  have e : bodyVC Try.prog Try.f9 (.seq .no (.seq (.seq .no (.cond (.seq .no .no) .no)) (.seq .no .no))) (Option.getD Try.f9.body .skip) [.agg #[.slice a0_r.a a0_r.len a0_r.cap, .int .i64 a1_r]] h [.at (.int .i64)] (fun s h => K s.1 h) = F_ref03_End a0_r a1_r h K := by kernel_rfl
  exact fun_sound mixed Try.func9 rfl (e.mpr hF)

def F_law03_lives  (h : Hp) (K : Bool → Hp → Prop) : Prop :=
C_code_NewWriter  h fun (t1 : Option Addr) (h2 : Hp) =>
C_code_Writer_Num t1 300 h2 fun  (h3 : Hp) =>
C_code_Writer_Int t1 (-1) h3 fun  (h4 : Hp) =>
C_code_Writer_Bytes t1 h4 fun (t5 : Sl) (h6 : Hp) =>
C_code_NewReader t5 h6 fun (t7 : Option Addr) (h8 : Hp) =>
Let (Array.push h8 (Obj.cells #[.int .u8 172, .int .u8 2, .int .u8 1] 5)) fun (h9 : Hp) =>
Let (Addr.mk (Array.size h8) 0 none) fun (p10 : Addr) =>
C_ref02_Same t5 (Sl.mk (some p10) 3 3) h9 fun (t11 : Bool) (h12 : Hp) =>
cnd t11 (
C_code_Reader_Num t7 300 h12 fun (t13 : Int) (h14 : Hp) =>
cnd (t13 == 300) (
C_code_Reader_Int t7 (-1) 0 h14 fun (t15 : Int) (h16 : Hp) =>
cnd (t15 == (-1)) (
C_code_Reader_End t7 h16 fun (t17 : Int) (h18 : Hp) =>
cnd (t17 == 0) (
C_code_Reader_Num t7 9 h18 fun (t19 : Int) (h20 : Hp) =>
cnd (t19 == 0) (
C_code_Reader_End t7 h20 fun (t21 : Int) (h22 : Hp) =>
K (t21 == 13) h22) (
K false h20)) (
K false h18)) (
K false h16)) (
K false h14)) (
K false h12)

theorem F_law03_lives_ok  (h : Hp) (K : Bool → Hp → Prop) (hF : F_law03_lives  h K) : C_law03_lives  h K := by
  have e : bodyVC Try.prog Try.f10 (.seq .no (.seq .no (.seq .no (.seq .no (.seq .no (.seq .no (.seq .no .no))))))) (Option.getD Try.f10.body .skip) [] h [.at .bool] (fun s h => K s.1 h) = F_law03_lives  h K := by kernel_rfl
  exact fun_sound mixed Try.func10 rfl (e.mpr hF)

def F_slices_Clone_byte_byte (a0_s : Sl) (h : Hp) (K : Sl → Hp → Prop) : Prop :=
cnd (Option.isNone a0_s.a) (
K (Sl.mk none 0 0) h) (
Let (Array.push h (Obj.cells #[] 5)) fun (h1 : Hp) =>
Let (Addr.mk (Array.size h) 0 none) fun (p2 : Addr) =>
appS 5 1 1 [.int .u8 0] (some p2) 0 0 (.slice a0_s.a a0_s.len a0_s.cap) h1 fun (t3 : Sl) (h4 : Hp) =>
K t3 h4)

theorem F_slices_Clone_byte_byte_ok (a0_s : Sl) (h : Hp) (K : Sl → Hp → Prop) (hF : F_slices_Clone_byte_byte a0_s h K) : C_slices_Clone_byte_byte a0_s h K := by
  have e : bodyVC Try.prog Try.f11 (.seq .no (.seq (.seq .no (.cond (.seq .no .no) .no)) (.seq .no .no))) (Option.getD Try.f11.body .skip) [.slice a0_s.a a0_s.len a0_s.cap] h [.at .sl] (fun s h => K s.1 h) = F_slices_Clone_byte_byte a0_s h K := by kernel_rfl
  exact fun_sound mixed Try.func11 rfl (e.mpr hF)

def L1_ref03_number (a0_b : Sl) (K : Int → Sl → Int → Hp → Prop) (sJ1 : Int × Unit) (sL1 : (Int × Int × Unit) × Hp) (R1 : (Int × Int × Unit) × Hp → Prop) : Prop :=
cnd (decide (sL1.1.2.1 ≥ 0)) (
Let (IntKind.wrap .u64 (sL1.1.1 * 128) : Int) fun (t1 : Int) =>
idxS a0_b.a a0_b.len sL1.1.2.1 1 fun (p2 : Addr) =>
ldA (.int .u8) sL1.2 p2 fun (t3 : Int) =>
Let (Int.tmod t3 128 : Int) fun (t4 : Int) =>
Let (IntKind.wrap .u64 (t4) : Int) fun (t5 : Int) =>
Let (IntKind.wrap .u64 (t1 + t5) : Int) fun (t6 : Int) =>
Let (IntKind.wrap .i64 (sL1.1.2.1 - 1) : Int) fun (t7 : Int) =>
R1 ((t6, t7, ()), sL1.2)) (
Let (IntKind.wrap .i64 (sJ1.1 + 1) : Int) fun (t8 : Int) =>
slcS a0_b.a a0_b.len a0_b.cap (some t8) none 1 fun (t9 : Option Addr) (l10 c11 : Nat) =>
K sL1.1.1 (Sl.mk t9 l10 c11) 0 sL1.2)
def J3_ref03_number (a0_b : Sl) (K : Int → Sl → Int → Hp → Prop) (sJ1 : Int × Unit) (sJ3 : Unit) (hJ3 : Hp) : Prop :=
∃ n, Lp (L1_ref03_number a0_b K sJ1) n ((0, sJ1.1, ()), hJ3)
def J2_ref03_number (a0_b : Sl) (K : Int → Sl → Int → Hp → Prop) (sJ1 : Int × Unit) (sJ2 : Unit) (hJ2 : Hp) : Prop :=
cnd (sJ1.1 == (a0_b.len : Int)) (
K 0 (Sl.mk none 0 0) 13 hJ2) (
Jn (J3_ref03_number a0_b K sJ1) fun (J3 : Unit → Hp → Prop) =>
cnd (decide (sJ1.1 > 0)) (
idxS a0_b.a a0_b.len sJ1.1 1 fun (p12 : Addr) =>
ldA (.int .u8) hJ2 p12 fun (t13 : Int) =>
cnd (t13 == 0) (
K 0 (Sl.mk none 0 0) 12 hJ2) (
J3 (()) hJ2)) (
J3 (()) hJ2))
def J1_ref03_number (a0_b : Sl) (K : Int → Sl → Int → Hp → Prop) (sJ1 : Int × Unit) (hJ1 : Hp) : Prop :=
Jn (J2_ref03_number a0_b K sJ1) fun (J2 : Unit → Hp → Prop) =>
cnd (sJ1.1 == 10) (
K 0 (Sl.mk none 0 0) 12 hJ1) (
cnd (sJ1.1 == 9) (
cnd (decide (sJ1.1 < (a0_b.len : Int))) (
idxS a0_b.a a0_b.len sJ1.1 1 fun (p14 : Addr) =>
ldA (.int .u8) hJ1 p14 fun (t15 : Int) =>
cnd (decide (t15 > 1)) (
K 0 (Sl.mk none 0 0) 12 hJ1) (
J2 (()) hJ1)) (
J2 (()) hJ1)) (
J2 (()) hJ1))
def L2_ref03_number (a0_b : Sl) (J1 : Int × Unit → Hp → Prop) (sL2 : (Int × Unit) × Hp) (R2 : (Int × Unit) × Hp → Prop) : Prop :=
cnd (decide (sL2.1.1 < (a0_b.len : Int))) (
cnd (decide (sL2.1.1 < 10)) (
idxS a0_b.a a0_b.len sL2.1.1 1 fun (p16 : Addr) =>
ldA (.int .u8) sL2.2 p16 fun (t17 : Int) =>
cnd (decide (t17 > 127)) (
Let (IntKind.wrap .i64 (sL2.1.1 + 1) : Int) fun (t18 : Int) =>
R2 ((t18, ()), sL2.2)) (
J1 (sL2.1.1, ()) sL2.2)) (
J1 (sL2.1.1, ()) sL2.2)) (
J1 (sL2.1.1, ()) sL2.2)
def F_ref03_number (a0_b : Sl) (h : Hp) (K : Int → Sl → Int → Hp → Prop) : Prop :=
Jn (J1_ref03_number a0_b K) fun (J1 : Int × Unit → Hp → Prop) =>
∃ n, Lp (L2_ref03_number a0_b J1) n ((0, ()), h)

theorem F_ref03_number_ok (a0_b : Sl) (h : Hp) (K : Int → Sl → Int → Hp → Prop) (hF : F_ref03_number a0_b h K) : C_ref03_number a0_b h K := by
  have e : bodyVC Try.prog Try.f12 (.seq .no (.seq .no (.join [(5, .at (.int .i64))] (.block (.loop [(5, .at (.int .i64))] (.seq (.seq .no (.cond .no .no)) (.block .no)))) (.join [] (.seq .no (.cond (.seq .no .no) .no)) (.seq (.seq .no (.cond (.seq .no .no) .no)) (.join [] (.seq .no (.cond (.seq .no .no) .no)) (.seq .no (.seq (.seq .no (.block (.loop [(6, .at (.int .u64)), (7, .at (.int .i64))] (.seq (.seq .no (.cond .no .no)) (.seq (.block .no) .no))))) (.seq .no .no))))))))) (Option.getD Try.f12.body .skip) [.slice a0_b.a a0_b.len a0_b.cap] h [.at (.int .u64), .at .sl, .at (.int .i64)] (fun s h => K s.1 s.2.1 s.2.2.1 h) = F_ref03_number a0_b h K := by kernel_rfl
  exact fun_sound mixed Try.func12 rfl (e.mpr hF)

def F_code_Reader_Num (a0_r : Option Addr) (a1_most : Int) (h : Hp) (K : Int → Hp → Prop) : Prop :=
Let (Array.push h (Obj.cells #[.int .u64 a1_most] 28)) fun (h1 : Hp) =>
Let (Addr.mk (Array.size h) 0 none) fun (p2 : Addr) =>
C_code_Reader_take a0_r (.func (.func 23) #[] #[.pointer (some p2)]) h1 fun (t3 : Int) (h4 : Hp) =>
K t3 h4

theorem F_code_Reader_Num_ok (a0_r : Option Addr) (a1_most : Int) (h : Hp) (K : Int → Hp → Prop) (hF : F_code_Reader_Num a0_r a1_most h K) : C_code_Reader_Num a0_r a1_most h K := by
  have e : bodyVC Try.prog Try.f13 (.seq .no (.seq .no .no)) (Option.getD Try.f13.body .skip) [.pointer a0_r, .int .u64 a1_most] h [.at (.int .u64)] (fun s h => K s.1 h) = F_code_Reader_Num a0_r a1_most h K := by kernel_rfl
  exact fun_sound mixed Try.func13 rfl (e.mpr hF)

def F_code_Reader_Int (a0_r : Option Addr) (a1_low : Int) (a2_high : Int) (h : Hp) (K : Int → Hp → Prop) : Prop :=
Let (Array.push h (Obj.cells #[.int .i64 a1_low] 3)) fun (h1 : Hp) =>
Let (Addr.mk (Array.size h) 0 none) fun (p2 : Addr) =>
Let (Array.push h1 (Obj.cells #[.int .i64 a2_high] 3)) fun (h3 : Hp) =>
Let (Addr.mk (Array.size h1) 0 none) fun (p4 : Addr) =>
Let (Array.push h3 (Obj.cells #[.bool false] 4)) fun (h5 : Hp) =>
Let (Addr.mk (Array.size h3) 0 none) fun (p6 : Addr) =>
((1 : Nat) = 1) ∧ (
stC h5 p6 (
Let (hset h5 p6 (.bool false)) fun (h7 : Hp) =>
C_code_Reader_take a0_r (.func (.func 24) #[] #[.pointer (some p2), .pointer (some p4), .pointer (some p6)]) h7 fun (t8 : Int) (h9 : Hp) =>
ldA .bool h9 p6 fun (t10 : Bool) =>
cnd (!t10) (
K 0 h9) (
C_code_signed t8 h9 fun (t11 : Int) (h12 : Hp) =>
K t11 h12)))

theorem F_code_Reader_Int_ok (a0_r : Option Addr) (a1_low : Int) (a2_high : Int) (h : Hp) (K : Int → Hp → Prop) (hF : F_code_Reader_Int a0_r a1_low a2_high h K) : C_code_Reader_Int a0_r a1_low a2_high h K := by
  have e : bodyVC Try.prog Try.f14 (.seq .no (.seq .no (.seq .no (.seq (.seq .no (.cond (.seq .no .no) .no)) (.seq .no .no))))) (Option.getD Try.f14.body .skip) [.pointer a0_r, .int .i64 a1_low, .int .i64 a2_high] h [.at (.int .i64)] (fun s h => K s.1 h) = F_code_Reader_Int a0_r a1_low a2_high h K := by kernel_rfl
  exact fun_sound mixed Try.func14 rfl (e.mpr hF)

def F_code_Reader_Flag (a0_r : Option Addr) (h : Hp) (K : Bool → Hp → Prop) : Prop :=
C_code_Reader_Num a0_r 1 h fun (t1 : Int) (h2 : Hp) =>
K (t1 == 1) h2

theorem F_code_Reader_Flag_ok (a0_r : Option Addr) (h : Hp) (K : Bool → Hp → Prop) (hF : F_code_Reader_Flag a0_r h K) : C_code_Reader_Flag a0_r h K := by
  have e : bodyVC Try.prog Try.f15 (.seq .no (.seq .no .no)) (Option.getD Try.f15.body .skip) [.pointer a0_r] h [.at .bool] (fun s h => K s.1 h) = F_code_Reader_Flag a0_r h K := by kernel_rfl
  exact fun_sound mixed Try.func15 rfl (e.mpr hF)

def J1_code_Reader_Text (a0_r : Option Addr) (K : ByteArray → Hp → Prop) (t3 : Int) (sJ1 : Bool × Unit) (hJ1 : Hp) : Prop :=
cnd sJ1.1 (
K (ByteArray.mk #[]) hJ1) (
someA a0_r fun (p5 : Addr) =>
ldA .sl hJ1 p5 fun (t6 : Sl) =>
Let (IntKind.wrap .u64 ((t6.len : Int)) : Int) fun (t7 : Int) =>
cnd (decide (t3 > t7)) (
someA a0_r fun (p8 : Addr) =>
((1 : Nat) = 1) ∧ (
stC hJ1 (Addr.add p8 1) (
Let (hset hJ1 (Addr.add p8 1) (.int .i64 13)) fun (h9 : Hp) =>
K (ByteArray.mk #[]) h9))) (
someA a0_r fun (p10 : Addr) =>
ldA .sl hJ1 p10 fun (t11 : Sl) =>
slcS t11.a t11.len t11.cap none (some t3) 1 fun (t12 : Option Addr) (l13 c14 : Nat) =>
btS hJ1 t12 l13 fun (t15 : ByteArray) =>
someA a0_r fun (p16 : Addr) =>
ldA .sl hJ1 p16 fun (t17 : Sl) =>
slcS t17.a t17.len t17.cap (some t3) none 1 fun (t18 : Option Addr) (l19 c20 : Nat) =>
someA a0_r fun (p21 : Addr) =>
((1 : Nat) = 1) ∧ (
stC hJ1 p21 (
Let (hset hJ1 p21 (.slice t18 l19 c20)) fun (h22 : Hp) =>
K t15 h22))))
def F_code_Reader_Text (a0_r : Option Addr) (a1_most : Int) (h : Hp) (K : ByteArray → Hp → Prop) : Prop :=
Let (Array.push h (Obj.cells #[.int .i64 a1_most] 3)) fun (h1 : Hp) =>
Let (Addr.mk (Array.size h) 0 none) fun (p2 : Addr) =>
C_code_Reader_take a0_r (.func (.func 26) #[] #[.pointer (some p2)]) h1 fun (t3 : Int) (h4 : Hp) =>
Jn (J1_code_Reader_Text a0_r K t3) fun (J1 : Bool × Unit → Hp → Prop) =>
cnd (Option.isNone a0_r) (
J1 (true, ()) h4) (
someA a0_r fun (p23 : Addr) =>
ldA (.int .i64) h4 (Addr.add p23 1) fun (t24 : Int) =>
J1 ((t24 != 0), ()) h4)

theorem F_code_Reader_Text_ok (a0_r : Option Addr) (a1_most : Int) (h : Hp) (K : ByteArray → Hp → Prop) (hF : F_code_Reader_Text a0_r a1_most h K) : C_code_Reader_Text a0_r a1_most h K := by
  have e : bodyVC Try.prog Try.f16 (.seq .no (.seq .no (.seq (.block (.join [(10, .at .bool)] .no (.cond (.seq .no .no) (.seq .no (.cond (.seq .no (.seq .no .no)) .no))))) (.seq .no (.seq .no (.seq .no .no)))))) (Option.getD Try.f16.body .skip) [.pointer a0_r, .int .i64 a1_most] h [.at .str] (fun s h => K s.1 h) = F_code_Reader_Text a0_r a1_most h K := by kernel_rfl
  exact fun_sound mixed Try.func16 rfl (e.mpr hF)

def F_code_NewWriter  (h : Hp) (K : Option Addr → Hp → Prop) : Prop :=
Let (Array.push h (Obj.cells #[.slice none 0 0] 58)) fun (h1 : Hp) =>
Let (Addr.mk (Array.size h) 0 none) fun (p2 : Addr) =>
K (some p2) h1

theorem F_code_NewWriter_ok  (h : Hp) (K : Option Addr → Hp → Prop) (hF : F_code_NewWriter  h K) : C_code_NewWriter  h K := by
  have e : bodyVC Try.prog Try.f17 (.seq .no (.seq .no .no)) (Option.getD Try.f17.body .skip) [] h [.at .ptr] (fun s h => K s.1 h) = F_code_NewWriter  h K := by kernel_rfl
  exact fun_sound mixed Try.func17 rfl (e.mpr hF)

def J1_code_Writer_Num (a0_w : Option Addr) (K : Hp → Prop) (sJ1 : Int × Unit) (hJ1 : Hp) : Prop :=
someA a0_w fun (p1 : Addr) =>
ldA .sl hJ1 p1 fun (t2 : Sl) =>
Let (IntKind.wrap .u8 (sJ1.1) : Int) fun (t3 : Int) =>
Let (Array.push hJ1 (Obj.cells #[.int .u8 t3] 5)) fun (h4 : Hp) =>
Let (Addr.mk (Array.size hJ1) 0 none) fun (p5 : Addr) =>
appS 5 1 1 [.int .u8 0] t2.a t2.len t2.cap (.slice (some p5) 1 1) h4 fun (t6 : Sl) (h7 : Hp) =>
someA a0_w fun (p8 : Addr) =>
((1 : Nat) = 1) ∧ (
stC h7 p8 (
Let (hset h7 p8 (.slice t6.a t6.len t6.cap)) fun (h9 : Hp) =>
K h9))
def L1_code_Writer_Num (a0_w : Option Addr) (J1 : Int × Unit → Hp → Prop) (sL1 : (Int × Unit) × Hp) (R1 : (Int × Unit) × Hp → Prop) : Prop :=
cnd (decide (sL1.1.1 ≥ 128)) (
someA a0_w fun (p10 : Addr) =>
ldA .sl sL1.2 p10 fun (t11 : Sl) =>
Let (IntKind.wrap .u8 (sL1.1.1) : Int) fun (t12 : Int) =>
Let (ibOr .u8 t12 128 : Int) fun (t13 : Int) =>
Let (Array.push sL1.2 (Obj.cells #[.int .u8 t13] 5)) fun (h14 : Hp) =>
Let (Addr.mk (Array.size sL1.2) 0 none) fun (p15 : Addr) =>
appS 5 1 1 [.int .u8 0] t11.a t11.len t11.cap (.slice (some p15) 1 1) h14 fun (t16 : Sl) (h17 : Hp) =>
someA a0_w fun (p18 : Addr) =>
((1 : Nat) = 1) ∧ (
stC h17 p18 (
Let (hset h17 p18 (.slice t16.a t16.len t16.cap)) fun (h19 : Hp) =>
((0 : Int) ≤ 7) ∧ (
Let (Int.fdiv sL1.1.1 (2 ^ min (Int.toNat 7) (IntKind.bits .u64)) : Int) fun (t20 : Int) =>
R1 ((t20, ()), h19))))) (
J1 (sL1.1.1, ()) sL1.2)
def F_code_Writer_Num (a0_w : Option Addr) (a1_n : Int) (h : Hp) (K : Hp → Prop) : Prop :=
cnd (Option.isNone a0_w) (
K h) (
Jn (J1_code_Writer_Num a0_w K) fun (J1 : Int × Unit → Hp → Prop) =>
∃ n, Lp (L1_code_Writer_Num a0_w J1) n ((a1_n, ()), h))

theorem F_code_Writer_Num_ok (a0_w : Option Addr) (a1_n : Int) (h : Hp) (K : Hp → Prop) (hF : F_code_Writer_Num a0_w a1_n h K) : C_code_Writer_Num a0_w a1_n h K := by
  have e : bodyVC Try.prog Try.f18 (.seq (.seq .no (.cond .no .no)) (.join [(1, .at (.int .u64))] (.block (.loop [(1, .at (.int .u64))] (.seq (.seq .no (.cond .no .no)) (.block (.seq .no .no))))) .no)) (Option.getD Try.f18.body .skip) [.pointer a0_w, .int .u64 a1_n] h [] (fun s h => K h) = F_code_Writer_Num a0_w a1_n h K := by kernel_rfl
  exact fun_sound mixed Try.func18 rfl (e.mpr hF)

def F_code_Writer_Int (a0_w : Option Addr) (a1_n : Int) (h : Hp) (K : Hp → Prop) : Prop :=
Let (IntKind.wrap .u64 (a1_n) : Int) fun (t1 : Int) =>
((0 : Int) ≤ 1) ∧ (
Let (IntKind.wrap .u64 (t1 * 2 ^ min (Int.toNat 1) (IntKind.bits .u64)) : Int) fun (t2 : Int) =>
cnd (decide (a1_n < 0)) (
Let (ibNot .u64 t2 : Int) fun (t3 : Int) =>
C_code_Writer_Num a0_w t3 h fun  (h4 : Hp) =>
K h4) (
C_code_Writer_Num a0_w t2 h fun  (h5 : Hp) =>
K h5))

theorem F_code_Writer_Int_ok (a0_w : Option Addr) (a1_n : Int) (h : Hp) (K : Hp → Prop) (hF : F_code_Writer_Int a0_w a1_n h K) : C_code_Writer_Int a0_w a1_n h K := by
  have e : bodyVC Try.prog Try.f19 (.seq .no (.seq (.seq .no (.cond .no .no)) .no)) (Option.getD Try.f19.body .skip) [.pointer a0_w, .int .i64 a1_n] h [] (fun s h => K h) = F_code_Writer_Int a0_w a1_n h K := by kernel_rfl
  exact fun_sound mixed Try.func19 rfl (e.mpr hF)

def F_code_Writer_Bytes (a0_w : Option Addr) (h : Hp) (K : Sl → Hp → Prop) : Prop :=
cnd (Option.isNone a0_w) (
K (Sl.mk none 0 0) h) (
someA a0_w fun (p1 : Addr) =>
ldA .sl h p1 fun (t2 : Sl) =>
C_slices_Clone_byte_byte t2 h fun (t3 : Sl) (h4 : Hp) =>
K t3 h4)

theorem F_code_Writer_Bytes_ok (a0_w : Option Addr) (h : Hp) (K : Sl → Hp → Prop) (hF : F_code_Writer_Bytes a0_w h K) : C_code_Writer_Bytes a0_w h K := by
  have e : bodyVC Try.prog Try.f20 (.seq .no (.seq (.seq .no (.cond (.seq .no .no) .no)) (.seq .no .no))) (Option.getD Try.f20.body .skip) [.pointer a0_w] h [.at .sl] (fun s h => K s.1 h) = F_code_Writer_Bytes a0_w h K := by kernel_rfl
  exact fun_sound mixed Try.func20 rfl (e.mpr hF)

def L1_ref02_Same (a0_a : Sl) (a1_b : Sl) (K : Bool → Hp → Prop) (sL1 : (Int × Unit) × Hp) (R1 : (Int × Unit) × Hp → Prop) : Prop :=
cnd (decide (sL1.1.1 < (a0_a.len : Int))) (
idxS a0_a.a a0_a.len sL1.1.1 1 fun (p1 : Addr) =>
ldA (.int .u8) sL1.2 p1 fun (t2 : Int) =>
idxS a1_b.a a1_b.len sL1.1.1 1 fun (p3 : Addr) =>
ldA (.int .u8) sL1.2 p3 fun (t4 : Int) =>
cnd (t2 != t4) (
K false sL1.2) (
Let (IntKind.wrap .i64 (sL1.1.1 + 1) : Int) fun (t5 : Int) =>
R1 ((t5, ()), sL1.2))) (
K true sL1.2)
def F_ref02_Same (a0_a : Sl) (a1_b : Sl) (h : Hp) (K : Bool → Hp → Prop) : Prop :=
cnd ((a0_a.len : Int) != (a1_b.len : Int)) (
K false h) (
∃ n, Lp (L1_ref02_Same a0_a a1_b K) n ((0, ()), h))

theorem F_ref02_Same_ok (a0_a : Sl) (a1_b : Sl) (h : Hp) (K : Bool → Hp → Prop) (hF : F_ref02_Same a0_a a1_b h K) : C_ref02_Same a0_a a1_b h K := by
  have e : bodyVC Try.prog Try.f21 (.seq .no (.seq (.seq .no (.cond (.seq .no .no) .no)) (.seq (.seq .no (.block (.loop [(5, .at (.int .i64))] (.seq (.seq .no (.cond .no .no)) (.seq (.block (.seq .no (.cond (.seq .no .no) .no))) .no))))) (.seq .no .no)))) (Option.getD Try.f21.body .skip) [.slice a0_a.a a0_a.len a0_a.cap, .slice a1_b.a a1_b.len a1_b.cap] h [.at .bool] (fun s h => K s.1 h) = F_ref02_Same a0_a a1_b h K := by kernel_rfl
  exact fun_sound mixed Try.func21 rfl (e.mpr hF)

def J2_code_Reader_take (a0_r : Option Addr) (K : Int → Hp → Prop) (t3 : Int) (t4 : Int) (sJ2 : Int × Unit) (hJ2 : Hp) : Prop :=
cnd (sJ2.1 != 0) (
someA a0_r fun (p7 : Addr) =>
((1 : Nat) = 1) ∧ (
stC hJ2 (Addr.add p7 1) (
Let (hset hJ2 (Addr.add p7 1) (.int .i64 sJ2.1)) fun (h8 : Hp) =>
K 0 h8))) (
someA a0_r fun (p9 : Addr) =>
ldA .sl hJ2 p9 fun (t10 : Sl) =>
slcS t10.a t10.len t10.cap (some t4) none 1 fun (t11 : Option Addr) (l12 c13 : Nat) =>
someA a0_r fun (p14 : Addr) =>
((1 : Nat) = 1) ∧ (
stC hJ2 p14 (
Let (hset hJ2 p14 (.slice t11 l12 c13)) fun (h15 : Hp) =>
K t3 h15)))
def J1_code_Reader_take (a0_r : Option Addr) (a1_may : Value) (K : Int → Hp → Prop) (sJ1 : Unit) (hJ1 : Hp) : Prop :=
someA a0_r fun (p1 : Addr) =>
ldA .sl hJ1 p1 fun (t2 : Sl) =>
C_code_number t2 hJ1 fun (t3 : Int) (t4 : Int) (t5 : Int) (h6 : Hp) =>
Jn (J2_code_Reader_take a0_r K t3 t4) fun (J2 : Int × Unit → Hp → Prop) =>
cnd (t5 == 0) (
callV Try.prog a1_may [.int .u64 t3] [.at .bool] h6 fun (s : Bool × Unit) (h17 : Hp) =>
cnd (!s.1) (
J2 (14, ()) h17) (
J2 (t5, ()) h17)) (
J2 (t5, ()) h6)
def F_code_Reader_take (a0_r : Option Addr) (a1_may : Value) (h : Hp) (K : Int → Hp → Prop) : Prop :=
Jn (J1_code_Reader_take a0_r a1_may K) fun (J1 : Unit → Hp → Prop) =>
cnd (Option.isNone a0_r) (
K 0 h) (
someA a0_r fun (p18 : Addr) =>
ldA (.int .i64) h (Addr.add p18 1) fun (t19 : Int) =>
cnd (t19 != 0) (
K 0 h) (
J1 (()) h))

theorem F_code_Reader_take_ok (a0_r : Option Addr) (a1_may : Value) (h : Hp) (K : Int → Hp → Prop) (hF : F_code_Reader_take a0_r a1_may h K) : C_code_Reader_take a0_r a1_may h K := by
  have e : bodyVC Try.prog Try.f22 (.seq .no (.join [] (.seq .no (.cond (.seq .no .no) .no)) (.seq .no (.join [(7, .at (.int .i64))] (.seq .no (.cond .no .no)) (.seq (.seq .no (.cond (.seq .no (.seq .no .no)) .no)) (.seq .no (.seq .no .no))))))) (Option.getD Try.f22.body .skip) [.pointer a0_r, a1_may] h [.at (.int .u64)] (fun s h => K s.1 h) = F_code_Reader_take a0_r a1_may h K := by kernel_rfl
  exact fun_sound mixed Try.func22 rfl (e.mpr hF)

def F_code_Reader_Num_1 (a0_n : Int) (a1_t : Option Addr) (h : Hp) (K : Bool → Hp → Prop) : Prop :=
someA a1_t fun (p1 : Addr) =>
ldA (.int .u64) h p1 fun (t2 : Int) =>
K (decide (a0_n ≤ t2)) h

theorem F_code_Reader_Num_1_ok (a0_n : Int) (a1_t : Option Addr) (h : Hp) (K : Bool → Hp → Prop) (hF : F_code_Reader_Num_1 a0_n a1_t h K) : C_code_Reader_Num_1 a0_n a1_t h K := by
  have e : bodyVC Try.prog Try.f23 (.seq .no (.seq .no .no)) (Option.getD Try.f23.body .skip) [.int .u64 a0_n, .pointer a1_t] h [.at .bool] (fun s h => K s.1 h) = F_code_Reader_Num_1 a0_n a1_t h K := by kernel_rfl
  exact fun_sound mixed Try.func23 rfl (e.mpr hF)

def F_code_Reader_Int_1 (a0_n : Int) (a1_t : Option Addr) (a2_t : Option Addr) (a3_t : Option Addr) (h : Hp) (K : Bool → Hp → Prop) : Prop :=
C_code_signed a0_n h fun (t1 : Int) (h2 : Hp) =>
Ext h h2 ∧ (
someA a1_t fun (p3 : Addr) =>
ldA (.int .i64) h p3 fun (t4 : Int) =>
cnd (decide (t1 ≥ t4)) (
C_code_signed a0_n h2 fun (t5 : Int) (h6 : Hp) =>
Ext h2 h6 ∧ (
someA a2_t fun (p7 : Addr) =>
ldA (.int .i64) h2 p7 fun (t8 : Int) =>
((1 : Nat) = 1) ∧ (
someA a3_t fun (p9 : Addr) =>
stC h6 p9 (
Let (hset h6 p9 (.bool (decide (t5 ≤ t8)))) fun (h10 : Hp) =>
someA a3_t fun (p11 : Addr) =>
ldA .bool h10 p11 fun (t12 : Bool) =>
K t12 h10)))) (
((1 : Nat) = 1) ∧ (
someA a3_t fun (p13 : Addr) =>
stC h2 p13 (
Let (hset h2 p13 (.bool false)) fun (h14 : Hp) =>
someA a3_t fun (p15 : Addr) =>
ldA .bool h14 p15 fun (t16 : Bool) =>
K t16 h14))))

theorem F_code_Reader_Int_1_ok (a0_n : Int) (a1_t : Option Addr) (a2_t : Option Addr) (a3_t : Option Addr) (h : Hp) (K : Bool → Hp → Prop) (hF : F_code_Reader_Int_1 a0_n a1_t a2_t a3_t h K) : C_code_Reader_Int_1 a0_n a1_t a2_t a3_t h K := by
  have e : bodyVC Try.prog Try.f24 (.seq .no (.seq .no (.seq .no .no))) (Option.getD Try.f24.body .skip) [.int .u64 a0_n, .pointer a1_t, .pointer a2_t, .pointer a3_t] h [.at .bool] (fun s h => K s.1 h) = F_code_Reader_Int_1 a0_n a1_t a2_t a3_t h K := by kernel_rfl
  exact fun_sound mixed Try.func24 rfl (e.mpr hF)

def F_code_signed (a0_n : Int) (h : Hp) (K : Int → Hp → Prop) : Prop :=
Let (ibAnd .u64 a0_n 1 : Int) fun (t1 : Int) =>
cnd (t1 == 1) (
((0 : Int) ≤ 1) ∧ (
Let (Int.fdiv a0_n (2 ^ min (Int.toNat 1) (IntKind.bits .u64)) : Int) fun (t2 : Int) =>
Let (ibNot .u64 t2 : Int) fun (t3 : Int) =>
Let (IntKind.wrap .i64 (t3) : Int) fun (t4 : Int) =>
K t4 h)) (
((0 : Int) ≤ 1) ∧ (
Let (Int.fdiv a0_n (2 ^ min (Int.toNat 1) (IntKind.bits .u64)) : Int) fun (t5 : Int) =>
Let (IntKind.wrap .i64 (t5) : Int) fun (t6 : Int) =>
K t6 h))

theorem F_code_signed_ok (a0_n : Int) (h : Hp) (K : Int → Hp → Prop) (hF : F_code_signed a0_n h K) : C_code_signed a0_n h K := by
  have e : bodyVC Try.prog Try.f25 (.seq .no (.seq (.seq .no (.cond (.seq .no .no) .no)) (.seq .no .no))) (Option.getD Try.f25.body .skip) [.int .u64 a0_n] h [.at (.int .i64)] (fun s h => K s.1 h) = F_code_signed a0_n h K := by kernel_rfl
  exact fun_sound mixed Try.func25 rfl (e.mpr hF)

def F_code_Reader_Text_1 (a0_n : Int) (a1_t : Option Addr) (h : Hp) (K : Bool → Hp → Prop) : Prop :=
someA a1_t fun (p1 : Addr) =>
ldA (.int .i64) h p1 fun (t2 : Int) =>
cnd (decide (t2 ≥ 0)) (
someA a1_t fun (p3 : Addr) =>
ldA (.int .i64) h p3 fun (t4 : Int) =>
Let (IntKind.wrap .u64 (t4) : Int) fun (t5 : Int) =>
K (decide (a0_n ≤ t5)) h) (
K false h)

theorem F_code_Reader_Text_1_ok (a0_n : Int) (a1_t : Option Addr) (h : Hp) (K : Bool → Hp → Prop) (hF : F_code_Reader_Text_1 a0_n a1_t h K) : C_code_Reader_Text_1 a0_n a1_t h K := by
  have e : bodyVC Try.prog Try.f26 (.seq .no (.seq .no .no)) (Option.getD Try.f26.body .skip) [.int .u64 a0_n, .pointer a1_t] h [.at .bool] (fun s h => K s.1 h) = F_code_Reader_Text_1 a0_n a1_t h K := by kernel_rfl
  exact fun_sound mixed Try.func26 rfl (e.mpr hF)

def J2_code_number (K : Int → Int → Int → Hp → Prop) (sL1 : (Int × Int × Unit) × Hp) (t2 : Int) (sJ2 : Bool × Unit) (hJ2 : Hp) : Prop :=
cnd sJ2.1 (
K 0 0 12 hJ2) (
Let (IntKind.wrap .u64 (t2) : Int) fun (t9 : Int) =>
Let (IntKind.wrap .i64 ((7 : Int) * sL1.1.2.1) : Int) fun (t10 : Int) =>
((0 : Int) ≤ t10) ∧ (
Let (IntKind.wrap .u64 (t9 * 2 ^ min (Int.toNat t10) (IntKind.bits .u64)) : Int) fun (t11 : Int) =>
Let (ibOr .u64 sL1.1.1 t11 : Int) fun (t12 : Int) =>
Let (IntKind.wrap .i64 (sL1.1.2.1 + 1) : Int) fun (t13 : Int) =>
K t12 t13 0 hJ2))
def J1_code_number (K : Int → Int → Int → Hp → Prop) (sL1 : (Int × Int × Unit) × Hp) (R1 : (Int × Int × Unit) × Hp → Prop) (t2 : Int) (sJ1 : Bool × Unit) (hJ1 : Hp) : Prop :=
cnd sJ1.1 (
K 0 0 12 hJ1) (
cnd (decide (t2 ≥ 128)) (
Let (ibAnd .u8 t2 127 : Int) fun (t3 : Int) =>
Let (IntKind.wrap .u64 (t3) : Int) fun (t4 : Int) =>
Let (IntKind.wrap .i64 ((7 : Int) * sL1.1.2.1) : Int) fun (t5 : Int) =>
((0 : Int) ≤ t5) ∧ (
Let (IntKind.wrap .u64 (t4 * 2 ^ min (Int.toNat t5) (IntKind.bits .u64)) : Int) fun (t6 : Int) =>
Let (ibOr .u64 sL1.1.1 t6 : Int) fun (t7 : Int) =>
Let (IntKind.wrap .i64 (sL1.1.2.1 + 1) : Int) fun (t8 : Int) =>
R1 ((t7, t8, ()), hJ1))) (
Jn (J2_code_number K sL1 t2) fun (J2 : Bool × Unit → Hp → Prop) =>
cnd (t2 == 0) (
J2 (decide (sL1.1.2.1 > 0), ()) hJ1) (
J2 (false, ()) hJ1)))
def L1_code_number (a0_b : Sl) (K : Int → Int → Int → Hp → Prop) (sL1 : (Int × Int × Unit) × Hp) (R1 : (Int × Int × Unit) × Hp → Prop) : Prop :=
cnd (decide (sL1.1.2.1 < (a0_b.len : Int))) (
idxS a0_b.a a0_b.len sL1.1.2.1 1 fun (p1 : Addr) =>
ldA (.int .u8) sL1.2 p1 fun (t2 : Int) =>
Jn (J1_code_number K sL1 R1 t2) fun (J1 : Bool × Unit → Hp → Prop) =>
cnd (sL1.1.2.1 == 9) (
J1 (decide (t2 > 1), ()) sL1.2) (
J1 (false, ()) sL1.2)) (
K 0 0 13 sL1.2)
def F_code_number (a0_b : Sl) (h : Hp) (K : Int → Int → Int → Hp → Prop) : Prop :=
∃ n, Lp (L1_code_number a0_b K) n ((0, 0, ()), h)

theorem F_code_number_ok (a0_b : Sl) (h : Hp) (K : Int → Int → Int → Hp → Prop) (hF : F_code_number a0_b h K) : C_code_number a0_b h K := by
  have e : bodyVC Try.prog Try.f27 (.seq .no (.seq .no (.seq (.seq .no (.block (.loop [(5, .at (.int .u64)), (10, .at (.int .i64))] (.seq .no (.seq (.cond .no .no) (.seq (.block (.seq .no (.block (.join [(24, .at .bool)] .no (.cond (.seq .no .no) (.seq .no (.cond .no (.join [(42, .at .bool)] .no (.cond (.seq .no .no) (.seq .no .no)))))))))) .no)))))) (.seq .no .no)))) (Option.getD Try.f27.body .skip) [.slice a0_b.a a0_b.len a0_b.cap] h [.at (.int .u64), .at (.int .i64), .at (.int .i64)] (fun s h => K s.1 s.2.1 s.2.2.1 h) = F_code_number a0_b h K := by kernel_rfl
  exact fun_sound mixed Try.func27 rfl (e.mpr hF)

end Go.Proofs.YtojihngfbodeoaaF
