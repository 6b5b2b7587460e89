/- The formulas of the seat's functions and the proofs that they are enough, printed by gen.py of this session. No condition. -/
import Derived.Test.YtbfjigemklbjfaaProg
import Derived.Test.YtbfjigemklbjfaaK7
namespace Go.Proofs.YtbfjigemklbjfaaF
open Go Go.Proofs.YtbfjigemklbjfaaK Go.Proofs
set_option linter.unusedVariables false
set_option maxRecDepth 100000
theorem mixed : Try.prog.follows .mixedOrders = true := by kernel_rfl
def C_gosem_cut  (h : Hp) (K : Hp → Prop) : Prop :=
  ExtT Try.prog 1 [] [] h fun s h => K h
def C_gosem_cut_init  (h : Hp) (K : Hp → Prop) : Prop :=
  CallT Try.prog 2 [] [] h fun s h => K h
def C_law08_LevMetric (a0_a : ByteArray) (a1_b : ByteArray) (a2_c : ByteArray) (h : Hp) (K : Bool → Hp → Prop) : Prop :=
  CallT Try.prog 3 [.string a0_a, .string a1_b, .string a2_c] [.at .bool] h fun s h => K s.1 h
def C_law08_LevEdits (a0_a : ByteArray) (a1_b : ByteArray) (h : Hp) (K : Bool → Hp → Prop) : Prop :=
  CallT Try.prog 4 [.string a0_a, .string a1_b] [.at .bool] h fun s h => K s.1 h
def C_law08_LevApplies (a0_a : ByteArray) (a1_b : ByteArray) (a2_e : ByteArray) (h : Hp) (K : Bool → Hp → Prop) : Prop :=
  CallT Try.prog 5 [.string a0_a, .string a1_b, .string a2_e] [.at .bool] h fun s h => K s.1 h
def C_law08_LevTells (a0_a : ByteArray) (a1_b : ByteArray) (a2_most : Int) (h : Hp) (K : Bool → Hp → Prop) : Prop :=
  CallT Try.prog 6 [.string a0_a, .string a1_b, .int .i64 a2_most] [.at .bool] h fun s h => K s.1 h
def C_law08_short (a0_a : ByteArray) (a1_b : ByteArray) (h : Hp) (K : Bool → Hp → Prop) : Prop :=
  CallT Try.prog 7 [.string a0_a, .string a1_b] [.at .bool] h fun s h => K s.1 h
def C_law08_lives  (h : Hp) (K : Bool → Hp → Prop) : Prop :=
  CallT Try.prog 8 [] [.at .bool] h fun s h => K s.1 h
def C_lev_Dist (a0_a : ByteArray) (a1_b : ByteArray) (h : Hp) (K : Int → Hp → Prop) : Prop :=
  CallT Try.prog 9 [.string a0_a, .string a1_b] [.at (.int .i64)] h fun s h => K s.1 h
def C_lev_Least (a0_a : ByteArray) (a1_b : ByteArray) (h : Hp) (K : Int → Hp → Prop) : Prop :=
  CallT Try.prog 10 [.string a0_a, .string a1_b] [.at (.int .i64)] h fun s h => K s.1 h
def C_lev_Edits (a0_a : ByteArray) (a1_b : ByteArray) (h : Hp) (K : ByteArray → Hp → Prop) : Prop :=
  CallT Try.prog 11 [.string a0_a, .string a1_b] [.at .str] h fun s h => K s.1 h
def C_lev_Apply (a0_a : ByteArray) (a1_b : ByteArray) (a2_e : ByteArray) (h : Hp) (K : ByteArray → Bool → Hp → Prop) : Prop :=
  CallT Try.prog 12 [.string a0_a, .string a1_b, .string a2_e] [.at .str, .at .bool] h fun s h => K s.1 s.2.1 h
def C_ref08_Edits (a0_a : ByteArray) (a1_b : ByteArray) (h : Hp) (K : ByteArray → Hp → Prop) : Prop :=
  CallT Try.prog 13 [.string a0_a, .string a1_b] [.at .str] h fun s h => K s.1 h
def C_ref08_Dist (a0_a : ByteArray) (a1_b : ByteArray) (h : Hp) (K : Int → Hp → Prop) : Prop :=
  CallT Try.prog 14 [.string a0_a, .string a1_b] [.at (.int .i64)] h fun s h => K s.1 h
def C_ref08_Apply (a0_a : ByteArray) (a1_b : ByteArray) (a2_e : ByteArray) (h : Hp) (K : ByteArray → Bool → Hp → Prop) : Prop :=
  CallT Try.prog 15 [.string a0_a, .string a1_b, .string a2_e] [.at .str, .at .bool] h fun s h => K s.1 s.2.1 h
def C_lev_Upto (a0_a : ByteArray) (a1_b : ByteArray) (a2_most : Int) (h : Hp) (K : Int → Bool → Hp → Prop) : Prop :=
  CallT Try.prog 16 [.string a0_a, .string a1_b, .int .i64 a2_most] [.at (.int .i64), .at .bool] h fun s h => K s.1 s.2.1 h
def C_lev_Trim (a0_a : ByteArray) (a1_b : ByteArray) (h : Hp) (K : ByteArray → ByteArray → Hp → Prop) : Prop :=
  CallT Try.prog 17 [.string a0_a, .string a1_b] [.at .str, .at .str] h fun s h => K s.1 s.2.1 h
def C_ref08_Trim (a0_a : ByteArray) (a1_b : ByteArray) (h : Hp) (K : ByteArray → ByteArray → Hp → Prop) : Prop :=
  CallT Try.prog 18 [.string a0_a, .string a1_b] [.at .str, .at .str] h fun s h => K s.1 s.2.1 h
def C_ref08_Least (a0_a : ByteArray) (a1_b : ByteArray) (h : Hp) (K : Int → Hp → Prop) : Prop :=
  CallT Try.prog 19 [.string a0_a, .string a1_b] [.at (.int .i64)] h fun s h => K s.1 h
def C_lev_first (a0_n : Int) (h : Hp) (K : Sl → Hp → Prop) : Prop :=
  CallT Try.prog 20 [.int .i64 a0_n] [.at .sl] h fun s h => K s.1 h
def C_lev_next (a0_row : Sl) (a1_c : Int) (a2_b : ByteArray) (h : Hp) (K : Sl → Hp → Prop) : Prop :=
  CallT Try.prog 21 [.slice a0_row.a a0_row.len a0_row.cap, .int .u8 a1_c, .string a2_b] [.at .sl] h fun s h => K s.1 h
def C_lev_table (a0_a : ByteArray) (a1_b : ByteArray) (h : Hp) (K : Sl → Hp → Prop) : Prop :=
  CallT Try.prog 22 [.string a0_a, .string a1_b] [.at .sl] h fun s h => K s.1 h
def C_strings_Builder_WriteByte (a0_b : Option Addr) (a1_c : Int) (h : Hp) (K : Value → Hp → Prop) : Prop :=
  CallT Try.prog 23 [.pointer a0_b, .int .u8 a1_c] [.at .raw] h fun s h => K s.1 h
def C_strings_Builder_String (a0_b : Option Addr) (h : Hp) (K : ByteArray → Hp → Prop) : Prop :=
  CallT Try.prog 24 [.pointer a0_b] [.at .str] h fun s h => K s.1 h
def C_strings_IndexByte (a0_s : ByteArray) (a1_c : Int) (h : Hp) (K : Int → Hp → Prop) : Prop :=
  CallT Try.prog 25 [.string a0_s, .int .u8 a1_c] [.at (.int .i64)] h fun s h => K s.1 h
def C_lev_band_step (a0_x : Int) (a1_x : Sl) (a2_n : Int) (a3_c : Int) (a4_b : ByteArray) (a5_most : Int) (h : Hp) (K : Int → Sl → Hp → Prop) : Prop :=
  CallT Try.prog 26 [.agg #[.int .i64 a0_x, .slice a1_x.a a1_x.len a1_x.cap], .int .i64 a2_n, .int .u8 a3_c, .string a4_b, .int .i64 a5_most] [.agg [(.int .i64), .sl]] h fun s h => K s.1.1 s.1.2.1 h
def C_lev_band_at (a0_x : Int) (a1_x : Sl) (a2_i : Int) (a3_far : Int) (h : Hp) (K : Int → Hp → Prop) : Prop :=
  CallT Try.prog 27 [.agg #[.int .i64 a0_x, .slice a1_x.a a1_x.len a1_x.cap], .int .i64 a2_i, .int .i64 a3_far] [.at (.int .i64)] h fun s h => K s.1 h
def C_ref08_count (a0_s : ByteArray) (a1_c : Int) (h : Hp) (K : Int → Hp → Prop) : Prop :=
  CallT Try.prog 28 [.string a0_s, .int .i64 a1_c] [.at (.int .i64)] h fun s h => K s.1 h
def C_strings_Builder_copyCheck (a0_b : Option Addr) (h : Hp) (K : Hp → Prop) : Prop :=
  CallT Try.prog 29 [.pointer a0_b] [] h fun s h => K h
def C_internal_stringslite_IndexByte (a0_s : ByteArray) (a1_c : Int) (h : Hp) (K : Int → Hp → Prop) : Prop :=
  CallT Try.prog 30 [.string a0_s, .int .u8 a1_c] [.at (.int .i64)] h fun s h => K s.1 h
def C_internal_abi_NoEscape (a0_t : Option Addr) (h : Hp) (K : Option Addr → Hp → Prop) : Prop :=
  ExtT Try.prog 31 [.pointer a0_t] [.at .ptr] h fun s h => K s.1 h
def C_internal_bytealg_IndexByteString (a0_t : ByteArray) (a1_t : Int) (h : Hp) (K : Int → Hp → Prop) : Prop :=
  ExtT Try.prog 32 [.string a0_t, .int .u8 a1_t] [.at (.int .i64)] h fun s h => K s.1 h
abbrev T_ : TypeId := 0
abbrev T_func : TypeId := 1
abbrev T_int64 : TypeId := 2
abbrev T_int : TypeId := 3
abbrev T_bool : TypeId := 4
abbrev T_uint8 : TypeId := 5
abbrev T_abi_BoundsErrorCode : TypeId := 6
abbrev T_struct_x_int64_y_int_signed_bool_code_abi_BoundsErrorCode : TypeId := 7
abbrev T_runtime_boundsError : TypeId := 8
abbrev T_string : TypeId := 9
abbrev T_runtime_errorString : TypeId := 10
abbrev T_runtime_plainError : TypeId := 11
abbrev T_uintptr : TypeId := 12
abbrev T_struct_msg_string_addr_uintptr : TypeId := 13
abbrev T_runtime_errorAddressString : TypeId := 14
abbrev T_Pruntime_TypeAssertionError : TypeId := 15
abbrev T_Pruntime_PanicNilError : TypeId := 16
abbrev T_Pabi_Type : TypeId := 17
abbrev T_struct_typ_Pabi_Type : TypeId := 18
abbrev T_maps_unhashableTypeError : TypeId := 19
abbrev T_interface : TypeId := 20
abbrev T_int32 : TypeId := 21
abbrev T_func_string_string_bool : TypeId := 22
abbrev T_func_bool : TypeId := 23
abbrev T_func_string_string_int : TypeId := 24
abbrev T_func_string_string_string_bool : TypeId := 25
abbrev T_func_string_string_string : TypeId := 26
abbrev T_string_bool : TypeId := 27
abbrev T_func_string_string_string_string_bool : TypeId := 28
abbrev T_int_bool : TypeId := 29
abbrev T_func_string_string_int_int_bool : TypeId := 30
abbrev T_string_string : TypeId := 31
abbrev T_func_string_string_string_string : TypeId := 32
abbrev T_func_string_string_int_bool : TypeId := 33
abbrev T_Sint : TypeId := 34
abbrev T_func_int_Sint : TypeId := 35
abbrev T_func_Sint_uint8_string_Sint : TypeId := 36
abbrev T_256_int : TypeId := 37
abbrev T_SSint : TypeId := 38
abbrev T_func_string_string_SSint : TypeId := 39
abbrev T_Pstrings_Builder : TypeId := 40
abbrev T_Suint8 : TypeId := 41
abbrev T_struct_addr_Pstrings_Builder_buf_Suint8 : TypeId := 42
abbrev T_strings_Builder : TypeId := 43
abbrev T_interface_Error_string : TypeId := 44
abbrev T_error : TypeId := 45
abbrev T_func_uint8_error : TypeId := 46
abbrev T_func_string : TypeId := 47
abbrev T_func_string_uint8_int : TypeId := 48
abbrev T_struct_low_int_row_Sint : TypeId := 49
abbrev T_lev_band : TypeId := 50
abbrev T_func_int_uint8_string_int_lev_band : TypeId := 51
abbrev T_func_int_int_int : TypeId := 52
abbrev T_func_string_int_int : TypeId := 53
abbrev T_Puint8 : TypeId := 54
abbrev T_unsafe_Pointer : TypeId := 55
abbrev T_func_unsafe_Pointer_unsafe_Pointer : TypeId := 56
abbrev T_runtime_TypeAssertionError : TypeId := 58
abbrev T_0_Pruntime_PanicNilError : TypeId := 59
abbrev T_struct_0_Pruntime_PanicNilError : TypeId := 60
abbrev T_runtime_PanicNilError : TypeId := 61
abbrev T_func_int : TypeId := 62
abbrev T_uint32 : TypeId := 63
abbrev T_abi_TFlag : TypeId := 64
abbrev T_abi_Kind : TypeId := 65
abbrev T_func_unsafe_Pointer_unsafe_Pointer_bool : TypeId := 66
abbrev T_abi_NameOff : TypeId := 67
abbrev T_abi_TypeOff : TypeId := 68
abbrev T_abi_Type : TypeId := 70
theorem E_internal_abi_NoEscape_ok (a0_t : Option Addr) (h : Hp) (K : Option Addr → Hp → Prop) (hk : wpS Try.prog (Extern.AbiNoEscape.same #[.pointer a0_t]) h fun v h => ∃ s : St [.at .ptr], v = mkRes [.at .ptr] s ∧ K s.1 h) : C_internal_abi_NoEscape a0_t h K := ext_to Try.func31 rfl rfl (by kernel_rfl) (by kernel_rfl) hk

theorem E_internal_bytealg_IndexByteString_ok (a0_t : ByteArray) (a1_t : Int) (h : Hp) (K : Int → Hp → Prop) (hk : wpS Try.prog (Extern.BytealgIndexByte.indexByte #[.string a0_t, .int .u8 a1_t]) h fun v h => ∃ s : St [.at (.int .i64)], v = mkRes [.at (.int .i64)] s ∧ K s.1 h) : C_internal_bytealg_IndexByteString a0_t a1_t h K := ext_to Try.func32 rfl rfl (by kernel_rfl) (by kernel_rfl) hk

def F_gosem_cut_init  (h : Hp) (K : Hp → Prop) : Prop :=
C_gosem_cut  h fun  (h1 : Hp) =>
K h1

theorem F_gosem_cut_init_ok  (h : Hp) (K : Hp → Prop) (hF : F_gosem_cut_init  h K) : C_gosem_cut_init  h K := by
  have e : bodyVC Try.prog Try.f2 .no (Option.getD Try.f2.body .skip) [] h [] (fun s h => K h) = F_gosem_cut_init  h K := by kernel_rfl
  exact fun_sound mixed Try.func2 rfl (e.mpr hF)

def J1_law08_LevMetric (a0_a : ByteArray) (a1_b : ByteArray) (a2_c : ByteArray) (K : Bool → Hp → Prop) (sJ1 : Bool × Unit) (hJ1 : Hp) : Prop :=
cnd sJ1.1 (
C_law08_lives  hJ1 fun (t1 : Bool) (h2 : Hp) =>
K t1 h2) (
C_lev_Dist a0_a a1_b hJ1 fun (t3 : Int) (h4 : Hp) =>
cnd ((t3 == 0) == (strEq a0_a a1_b)) (
cnd (decide (t3 ≥ 0)) (
C_lev_Dist a1_b a0_a h4 fun (t5 : Int) (h6 : Hp) =>
cnd (t3 == t5) (
C_lev_Dist a0_a a2_c h6 fun (t7 : Int) (h8 : Hp) =>
C_lev_Dist a2_c a1_b h8 fun (t9 : Int) (h10 : Hp) =>
Let (IntKind.wrap .i64 (t7 + t9) : Int) fun (t11 : Int) =>
cnd (decide (t3 ≤ t11)) (
C_lev_Least a0_a a1_b h10 fun (t12 : Int) (h13 : Hp) =>
cnd (decide (t12 ≤ t3)) (
Let (if (ByteArray.size a1_b : Int) > (ByteArray.size a0_a : Int) then (ByteArray.size a1_b : Int) else (ByteArray.size a0_a : Int) : Int) fun (t14 : Int) =>
cnd (decide (t3 ≤ t14)) (
C_law08_lives  h13 fun (t15 : Bool) (h16 : Hp) =>
K t15 h16) (
K false h13)) (
K false h13)) (
K false h10)) (
K false h6)) (
K false h4)) (
K false h4))
def F_law08_LevMetric (a0_a : ByteArray) (a1_b : ByteArray) (a2_c : ByteArray) (h : Hp) (K : Bool → Hp → Prop) : Prop :=
Jn (J1_law08_LevMetric a0_a a1_b a2_c K) fun (J1 : Bool × Unit → Hp → Prop) =>
C_law08_short a0_a a1_b h fun (t17 : Bool) (h18 : Hp) =>
cnd (!t17) (
J1 (true, ()) h18) (
C_law08_short a2_c a2_c h18 fun (t19 : Bool) (h20 : Hp) =>
J1 (!t19, ()) h20)

theorem F_law08_LevMetric_ok (a0_a : ByteArray) (a1_b : ByteArray) (a2_c : ByteArray) (h : Hp) (K : Bool → Hp → Prop) (hF : F_law08_LevMetric a0_a a1_b a2_c h K) : C_law08_LevMetric a0_a a1_b a2_c h K := by
  have e : bodyVC Try.prog Try.f3 (.seq .no (.seq (.join [(17, .at .bool)] .no (.cond (.seq .no .no) .no)) (.seq .no (.seq .no .no)))) (Option.getD Try.f3.body .skip) [.string a0_a, .string a1_b, .string a2_c] h [.at .bool] (fun s h => K s.1 h) = F_law08_LevMetric a0_a a1_b a2_c h K := by kernel_rfl
  exact fun_sound mixed Try.func3 rfl (e.mpr hF)

def J2_law08_LevEdits (a0_a : ByteArray) (a1_b : ByteArray) (K : Bool → Hp → Prop) (t3 : ByteArray) (t5 : ByteArray) (t6 : Bool) (sJ2 : Int × Unit) (hJ2 : Hp) : Prop :=
C_ref08_Edits a0_a a1_b hJ2 fun (t8 : ByteArray) (h9 : Hp) =>
cnd (strEq t3 t8) (
cnd t6 (
cnd (strEq t5 a1_b) (
C_ref08_Dist a0_a a1_b h9 fun (t10 : Int) (h11 : Hp) =>
cnd (sJ2.1 == t10) (
C_law08_lives  h11 fun (t12 : Bool) (h13 : Hp) =>
K t12 h13) (
K false h11)) (
K false h9)) (
K false h9)) (
K false h9)
def L1_law08_LevEdits (t3 : ByteArray) (J2 : Int × Unit → Hp → Prop) (sL1 : (Int × Int × Unit) × Hp) (R1 : (Int × Int × Unit) × Hp → Prop) : Prop :=
cnd (decide (sL1.1.2.1 < (ByteArray.size t3 : Int))) (
idxStr t3 sL1.1.2.1 fun (t14 : Int) =>
cnd (t14 != 61) (
Let (IntKind.wrap .i64 (sL1.1.1 + 1) : Int) fun (t15 : Int) =>
Let (IntKind.wrap .i64 (sL1.1.2.1 + 1) : Int) fun (t16 : Int) =>
R1 ((t15, t16, ()), sL1.2)) (
Let (IntKind.wrap .i64 (sL1.1.2.1 + 1) : Int) fun (t17 : Int) =>
R1 ((sL1.1.1, t17, ()), sL1.2))) (
J2 (sL1.1.1, ()) sL1.2)
def J1_law08_LevEdits (a0_a : ByteArray) (a1_b : ByteArray) (K : Bool → Hp → Prop) (sJ1 : Bool × Unit) (hJ1 : Hp) : Prop :=
cnd sJ1.1 (
C_law08_lives  hJ1 fun (t1 : Bool) (h2 : Hp) =>
K t1 h2) (
C_lev_Edits a0_a a1_b hJ1 fun (t3 : ByteArray) (h4 : Hp) =>
C_lev_Apply a0_a a1_b t3 h4 fun (t5 : ByteArray) (t6 : Bool) (h7 : Hp) =>
Jn (J2_law08_LevEdits a0_a a1_b K t3 t5 t6) fun (J2 : Int × Unit → Hp → Prop) =>
∃ n, Lp (L1_law08_LevEdits t3 J2) n ((0, 0, ()), h7))
def F_law08_LevEdits (a0_a : ByteArray) (a1_b : ByteArray) (h : Hp) (K : Bool → Hp → Prop) : Prop :=
Jn (J1_law08_LevEdits a0_a a1_b K) fun (J1 : Bool × Unit → Hp → Prop) =>
cnd (decide ((ByteArray.size a0_a : Int) > 24)) (
J1 (true, ()) h) (
J1 (decide ((ByteArray.size a1_b : Int) > 24), ()) h)

theorem F_law08_LevEdits_ok (a0_a : ByteArray) (a1_b : ByteArray) (h : Hp) (K : Bool → Hp → Prop) (hF : F_law08_LevEdits a0_a a1_b h K) : C_law08_LevEdits a0_a a1_b h K := by
  have e : bodyVC Try.prog Try.f4 (.seq .no (.seq (.join [(17, .at .bool)] .no (.cond (.seq .no .no) .no)) (.seq .no (.seq .no (.seq .no (.join [(8, .at (.int .i64))] (.seq .no (.block (.loop [(8, .at (.int .i64)), (9, .at (.int .i64))] (.seq (.seq .no (.cond .no .no)) (.seq (.block (.seq .no (.cond .no .no))) .no))))) (.seq .no .no))))))) (Option.getD Try.f4.body .skip) [.string a0_a, .string a1_b] h [.at .bool] (fun s h => K s.1 h) = F_law08_LevEdits a0_a a1_b h K := by kernel_rfl
  exact fun_sound mixed Try.func4 rfl (e.mpr hF)

def F_law08_LevApplies (a0_a : ByteArray) (a1_b : ByteArray) (a2_e : ByteArray) (h : Hp) (K : Bool → Hp → Prop) : Prop :=
C_lev_Apply a0_a a1_b a2_e h fun (t1 : ByteArray) (t2 : Bool) (h3 : Hp) =>
C_ref08_Apply a0_a a1_b a2_e h3 fun (t4 : ByteArray) (t5 : Bool) (h6 : Hp) =>
cnd (strEq t1 t4) (
cnd (t2 == t5) (
C_law08_lives  h6 fun (t7 : Bool) (h8 : Hp) =>
K t7 h8) (
K false h6)) (
K false h6)

theorem F_law08_LevApplies_ok (a0_a : ByteArray) (a1_b : ByteArray) (a2_e : ByteArray) (h : Hp) (K : Bool → Hp → Prop) (hF : F_law08_LevApplies a0_a a1_b a2_e h K) : C_law08_LevApplies a0_a a1_b a2_e h K := by
  have e : bodyVC Try.prog Try.f5 (.seq .no (.seq .no (.seq .no (.seq .no .no)))) (Option.getD Try.f5.body .skip) [.string a0_a, .string a1_b, .string a2_e] h [.at .bool] (fun s h => K s.1 h) = F_law08_LevApplies a0_a a1_b a2_e h K := by kernel_rfl
  exact fun_sound mixed Try.func5 rfl (e.mpr hF)

def J1_law08_LevTells (a0_a : ByteArray) (a1_b : ByteArray) (K : Bool → Hp → Prop) (t5 : Int) (t10 : ByteArray) (t11 : ByteArray) (t13 : ByteArray) (t14 : ByteArray) (sJ1 : Unit) (hJ1 : Hp) : Prop :=
C_lev_Dist a0_a a1_b hJ1 fun (t16 : Int) (h17 : Hp) =>
cnd (t16 == t5) (
C_lev_Least a0_a a1_b h17 fun (t18 : Int) (h19 : Hp) =>
C_ref08_Least a0_a a1_b h19 fun (t20 : Int) (h21 : Hp) =>
cnd (t18 == t20) (
cnd (strEq t10 t13) (
cnd (strEq t11 t14) (
C_ref08_Dist t13 t14 h21 fun (t22 : Int) (h23 : Hp) =>
cnd (t22 == t5) (
C_law08_lives  h23 fun (t24 : Bool) (h25 : Hp) =>
K t24 h25) (
K false h23)) (
K false h21)) (
K false h21)) (
K false h21)) (
K false h17)
def F_law08_LevTells (a0_a : ByteArray) (a1_b : ByteArray) (a2_most : Int) (h : Hp) (K : Bool → Hp → Prop) : Prop :=
C_law08_short a0_a a1_b h fun (t1 : Bool) (h2 : Hp) =>
cnd (!t1) (
C_law08_lives  h2 fun (t3 : Bool) (h4 : Hp) =>
K t3 h4) (
C_ref08_Dist a0_a a1_b h2 fun (t5 : Int) (h6 : Hp) =>
C_lev_Upto a0_a a1_b a2_most h6 fun (t7 : Int) (t8 : Bool) (h9 : Hp) =>
C_lev_Trim a0_a a1_b h9 fun (t10 : ByteArray) (t11 : ByteArray) (h12 : Hp) =>
C_ref08_Trim a0_a a1_b h12 fun (t13 : ByteArray) (t14 : ByteArray) (h15 : Hp) =>
Jn (J1_law08_LevTells a0_a a1_b K t5 t10 t11 t13 t14) fun (J1 : Unit → Hp → Prop) =>
cnd (!(t8 == (decide (t5 ≤ a2_most)))) (
K false h15) (
cnd t8 (
cnd (t7 != t5) (
K false h15) (
cnd (!t8) (
cnd (t7 != 0) (
K false h15) (
J1 (()) h15)) (
J1 (()) h15))) (
cnd (!t8) (
cnd (t7 != 0) (
K false h15) (
J1 (()) h15)) (
J1 (()) h15))))

theorem F_law08_LevTells_ok (a0_a : ByteArray) (a1_b : ByteArray) (a2_most : Int) (h : Hp) (K : Bool → Hp → Prop) (hF : F_law08_LevTells a0_a a1_b a2_most h K) : C_law08_LevTells a0_a a1_b a2_most h K := by
  have e : bodyVC Try.prog Try.f6 (.seq .no (.seq (.seq .no (.cond (.seq .no .no) .no)) (.seq .no (.seq .no (.seq .no (.seq .no (.join [] (.seq .no (.cond (.seq .no .no) .no)) (.seq .no .no)))))))) (Option.getD Try.f6.body .skip) [.string a0_a, .string a1_b, .int .i64 a2_most] h [.at .bool] (fun s h => K s.1 h) = F_law08_LevTells a0_a a1_b a2_most h K := by kernel_rfl
  exact fun_sound mixed Try.func6 rfl (e.mpr hF)

def F_law08_short (a0_a : ByteArray) (a1_b : ByteArray) (h : Hp) (K : Bool → Hp → Prop) : Prop :=
cnd (decide ((ByteArray.size a0_a : Int) ≤ 120)) (
K (decide ((ByteArray.size a1_b : Int) ≤ 120)) h) (
K false h)

theorem F_law08_short_ok (a0_a : ByteArray) (a1_b : ByteArray) (h : Hp) (K : Bool → Hp → Prop) (hF : F_law08_short a0_a a1_b h K) : C_law08_short a0_a a1_b h K := by
  have e : bodyVC Try.prog Try.f7 (.seq .no (.seq .no .no)) (Option.getD Try.f7.body .skip) [.string a0_a, .string a1_b] h [.at .bool] (fun s h => K s.1 h) = F_law08_short a0_a a1_b h K := by kernel_rfl
  exact fun_sound mixed Try.func7 rfl (e.mpr hF)

def F_law08_lives  (h : Hp) (K : Bool → Hp → Prop) : Prop :=
C_lev_Dist (ByteArray.mk #[107, 105, 116, 116, 101, 110]) (ByteArray.mk #[115, 105, 116, 116, 105, 110, 103]) h fun (t1 : Int) (h2 : Hp) =>
cnd (t1 == 3) (
C_lev_Edits (ByteArray.mk #[97, 98]) (ByteArray.mk #[98]) h2 fun (t3 : ByteArray) (h4 : Hp) =>
K (strEq t3 (ByteArray.mk #[45, 61])) h4) (
K false h2)

theorem F_law08_lives_ok  (h : Hp) (K : Bool → Hp → Prop) (hF : F_law08_lives  h K) : C_law08_lives  h K := by
  have e : bodyVC Try.prog Try.f8 (.seq .no (.seq .no .no)) (Option.getD Try.f8.body .skip) [] h [.at .bool] (fun s h => K s.1 h) = F_law08_lives  h K := by kernel_rfl
  exact fun_sound mixed Try.func8 rfl (e.mpr hF)

def J1_lev_Dist (K : Int → Hp → Prop) (t2 : ByteArray) (sJ1 : Sl × Unit) (hJ1 : Hp) : Prop :=
idxS sJ1.1.a sJ1.1.len (ByteArray.size t2 : Int) 1 fun (p6 : Addr) =>
ldA (.int .i64) hJ1 p6 fun (t7 : Int) =>
K t7 hJ1
def L1_lev_Dist (t1 : ByteArray) (t2 : ByteArray) (J1 : Sl × Unit → Hp → Prop) (sL1 : (Sl × Int × Unit) × Hp) (R1 : (Sl × Int × Unit) × Hp → Prop) : Prop :=
cnd (decide (sL1.1.2.1 < (ByteArray.size t1 : Int))) (
idxStr t1 sL1.1.2.1 fun (t8 : Int) =>
C_lev_next (Sl.mk sL1.1.1.a sL1.1.1.len sL1.1.1.cap) t8 t2 sL1.2 fun (t9 : Sl) (h10 : Hp) =>
Let (IntKind.wrap .i64 (sL1.1.2.1 + 1) : Int) fun (t11 : Int) =>
R1 ((t9, t11, ()), h10)) (
J1 ((Sl.mk sL1.1.1.a sL1.1.1.len sL1.1.1.cap), ()) sL1.2)
def F_lev_Dist (a0_a : ByteArray) (a1_b : ByteArray) (h : Hp) (K : Int → Hp → Prop) : Prop :=
C_lev_Trim a0_a a1_b h fun (t1 : ByteArray) (t2 : ByteArray) (h3 : Hp) =>
C_lev_first (ByteArray.size t2 : Int) h3 fun (t4 : Sl) (h5 : Hp) =>
Jn (J1_lev_Dist K t2) fun (J1 : Sl × Unit → Hp → Prop) =>
∃ n, Lp (L1_lev_Dist t1 t2 J1) n ((t4, 0, ()), h5)

theorem F_lev_Dist_ok (a0_a : ByteArray) (a1_b : ByteArray) (h : Hp) (K : Int → Hp → Prop) (hF : F_lev_Dist a0_a a1_b h K) : C_lev_Dist a0_a a1_b h K := by
  have e : bodyVC Try.prog Try.f9 (.seq .no (.seq .no (.seq .no (.join [(5, .at .sl)] (.seq .no (.block (.loop [(5, .at .sl), (18, .at (.int .i64))] (.seq .no (.seq (.cond .no .no) (.seq (.block (.seq .no .no)) .no)))))) (.seq .no .no))))) (Option.getD Try.f9.body .skip) [.string a0_a, .string a1_b] h [.at (.int .i64)] (fun s h => K s.1 h) = F_lev_Dist a0_a a1_b h K := by kernel_rfl
  exact fun_sound mixed Try.func9 rfl (e.mpr hF)

def J3_lev_Least (a0_a : ByteArray) (a1_b : ByteArray) (K : Int → Hp → Prop) (sJ3 : Int × Int × Unit) (hJ3 : Hp) : Prop :=
Let (IntKind.wrap .i64 ((ByteArray.size a0_a : Int) - (ByteArray.size a1_b : Int)) : Int) fun (t3 : Int) =>
Let (IntKind.wrap .i64 ((ByteArray.size a1_b : Int) - (ByteArray.size a0_a : Int)) : Int) fun (t4 : Int) =>
Let (if t4 > t3 then t4 else t3 : Int) fun (t5 : Int) =>
Let (if sJ3.1 > t5 then sJ3.1 else t5 : Int) fun (t6 : Int) =>
Let (if sJ3.2.1 > t6 then sJ3.2.1 else t6 : Int) fun (t7 : Int) =>
K t7 hJ3
def L1_lev_Least (J3 : Int × Int × Unit → Hp → Prop) (t8 : Int) (t9 : Int) (t10 : Int) (t11 : Int) (t12 : Int) (t13 : Int) (t14 : Int) (t15 : Int) (t16 : Int) (t17 : Int) (t18 : Int) (t19 : Int) (t20 : Int) (t21 : Int) (t22 : Int) (t23 : Int) (t24 : Int) (t25 : Int) (t26 : Int) (t27 : Int) (t28 : Int) (t29 : Int) (t30 : Int) (t31 : Int) (t32 : Int) (t33 : Int) (t34 : Int) (t35 : Int) (t36 : Int) (t37 : Int) (t38 : Int) (t39 : Int) (t40 : Int) (t41 : Int) (t42 : Int) (t43 : Int) (t44 : Int) (t45 : Int) (t46 : Int) (t47 : Int) (t48 : Int) (t49 : Int) (t50 : Int) (t51 : Int) (t52 : Int) (t53 : Int) (t54 : Int) (t55 : Int) (t56 : Int) (t57 : Int) (t58 : Int) (t59 : Int) (t60 : Int) (t61 : Int) (t62 : Int) (t63 : Int) (t64 : Int) (t65 : Int) (t66 : Int) (t67 : Int) (t68 : Int) (t69 : Int) (t70 : Int) (t71 : Int) (t72 : Int) (t73 : Int) (t74 : Int) (t75 : Int) (t76 : Int) (t77 : Int) (t78 : Int) (t79 : Int) (t80 : Int) (t81 : Int) (t82 : Int) (t83 : Int) (t84 : Int) (t85 : Int) (t86 : Int) (t87 : Int) (t88 : Int) (t89 : Int) (t90 : Int) (t91 : Int) (t92 : Int) (t93 : Int) (t94 : Int) (t95 : Int) (t96 : Int) (t97 : Int) (t98 : Int) (t99 : Int) (t100 : Int) (t101 : Int) (t102 : Int) (t103 : Int) (t104 : Int) (t105 : Int) (t106 : Int) (t107 : Int) (t108 : Int) (t109 : Int) (t110 : Int) (t111 : Int) (t112 : Int) (t113 : Int) (t114 : Int) (t115 : Int) (t116 : Int) (t117 : Int) (t118 : Int) (t119 : Int) (t120 : Int) (t121 : Int) (t122 : Int) (t123 : Int) (t124 : Int) (t125 : Int) (t126 : Int) (t127 : Int) (t128 : Int) (t129 : Int) (t130 : Int) (t131 : Int) (t132 : Int) (t133 : Int) (t134 : Int) (t135 : Int) (t136 : Int) (t137 : Int) (t138 : Int) (t139 : Int) (t140 : Int) (t141 : Int) (t142 : Int) (t143 : Int) (t144 : Int) (t145 : Int) (t146 : Int) (t147 : Int) (t148 : Int) (t149 : Int) (t150 : Int) (t151 : Int) (t152 : Int) (t153 : Int) (t154 : Int) (t155 : Int) (t156 : Int) (t157 : Int) (t158 : Int) (t159 : Int) (t160 : Int) (t161 : Int) (t162 : Int) (t163 : Int) (t164 : Int) (t165 : Int) (t166 : Int) (t167 : Int) (t168 : Int) (t169 : Int) (t170 : Int) (t171 : Int) (t172 : Int) (t173 : Int) (t174 : Int) (t175 : Int) (t176 : Int) (t177 : Int) (t178 : Int) (t179 : Int) (t180 : Int) (t181 : Int) (t182 : Int) (t183 : Int) (t184 : Int) (t185 : Int) (t186 : Int) (t187 : Int) (t188 : Int) (t189 : Int) (t190 : Int) (t191 : Int) (t192 : Int) (t193 : Int) (t194 : Int) (t195 : Int) (t196 : Int) (t197 : Int) (t198 : Int) (t199 : Int) (t200 : Int) (t201 : Int) (t202 : Int) (t203 : Int) (t204 : Int) (t205 : Int) (t206 : Int) (t207 : Int) (t208 : Int) (t209 : Int) (t210 : Int) (t211 : Int) (t212 : Int) (t213 : Int) (t214 : Int) (t215 : Int) (t216 : Int) (t217 : Int) (t218 : Int) (t219 : Int) (t220 : Int) (t221 : Int) (t222 : Int) (t223 : Int) (t224 : Int) (t225 : Int) (t226 : Int) (t227 : Int) (t228 : Int) (t229 : Int) (t230 : Int) (t231 : Int) (t232 : Int) (t233 : Int) (t234 : Int) (t235 : Int) (t236 : Int) (t237 : Int) (t238 : Int) (t239 : Int) (t240 : Int) (t241 : Int) (t242 : Int) (t243 : Int) (t244 : Int) (t245 : Int) (t246 : Int) (t247 : Int) (t248 : Int) (t249 : Int) (t250 : Int) (t251 : Int) (t252 : Int) (t253 : Int) (t254 : Int) (t255 : Int) (t256 : Int) (t257 : Int) (t258 : Int) (t259 : Int) (t260 : Int) (t261 : Int) (t262 : Int) (t263 : Int) (sL1 : (Int × Int × Int × Unit) × Hp) (R1 : (Int × Int × Int × Unit) × Hp → Prop) : Prop :=
cnd (decide (sL1.1.2.2.1 < 256)) (
idxAr (.int .i64) [.int .i64 t8, .int .i64 t9, .int .i64 t10, .int .i64 t11, .int .i64 t12, .int .i64 t13, .int .i64 t14, .int .i64 t15, .int .i64 t16, .int .i64 t17, .int .i64 t18, .int .i64 t19, .int .i64 t20, .int .i64 t21, .int .i64 t22, .int .i64 t23, .int .i64 t24, .int .i64 t25, .int .i64 t26, .int .i64 t27, .int .i64 t28, .int .i64 t29, .int .i64 t30, .int .i64 t31, .int .i64 t32, .int .i64 t33, .int .i64 t34, .int .i64 t35, .int .i64 t36, .int .i64 t37, .int .i64 t38, .int .i64 t39, .int .i64 t40, .int .i64 t41, .int .i64 t42, .int .i64 t43, .int .i64 t44, .int .i64 t45, .int .i64 t46, .int .i64 t47, .int .i64 t48, .int .i64 t49, .int .i64 t50, .int .i64 t51, .int .i64 t52, .int .i64 t53, .int .i64 t54, .int .i64 t55, .int .i64 t56, .int .i64 t57, .int .i64 t58, .int .i64 t59, .int .i64 t60, .int .i64 t61, .int .i64 t62, .int .i64 t63, .int .i64 t64, .int .i64 t65, .int .i64 t66, .int .i64 t67, .int .i64 t68, .int .i64 t69, .int .i64 t70, .int .i64 t71, .int .i64 t72, .int .i64 t73, .int .i64 t74, .int .i64 t75, .int .i64 t76, .int .i64 t77, .int .i64 t78, .int .i64 t79, .int .i64 t80, .int .i64 t81, .int .i64 t82, .int .i64 t83, .int .i64 t84, .int .i64 t85, .int .i64 t86, .int .i64 t87, .int .i64 t88, .int .i64 t89, .int .i64 t90, .int .i64 t91, .int .i64 t92, .int .i64 t93, .int .i64 t94, .int .i64 t95, .int .i64 t96, .int .i64 t97, .int .i64 t98, .int .i64 t99, .int .i64 t100, .int .i64 t101, .int .i64 t102, .int .i64 t103, .int .i64 t104, .int .i64 t105, .int .i64 t106, .int .i64 t107, .int .i64 t108, .int .i64 t109, .int .i64 t110, .int .i64 t111, .int .i64 t112, .int .i64 t113, .int .i64 t114, .int .i64 t115, .int .i64 t116, .int .i64 t117, .int .i64 t118, .int .i64 t119, .int .i64 t120, .int .i64 t121, .int .i64 t122, .int .i64 t123, .int .i64 t124, .int .i64 t125, .int .i64 t126, .int .i64 t127, .int .i64 t128, .int .i64 t129, .int .i64 t130, .int .i64 t131, .int .i64 t132, .int .i64 t133, .int .i64 t134, .int .i64 t135, .int .i64 t136, .int .i64 t137, .int .i64 t138, .int .i64 t139, .int .i64 t140, .int .i64 t141, .int .i64 t142, .int .i64 t143, .int .i64 t144, .int .i64 t145, .int .i64 t146, .int .i64 t147, .int .i64 t148, .int .i64 t149, .int .i64 t150, .int .i64 t151, .int .i64 t152, .int .i64 t153, .int .i64 t154, .int .i64 t155, .int .i64 t156, .int .i64 t157, .int .i64 t158, .int .i64 t159, .int .i64 t160, .int .i64 t161, .int .i64 t162, .int .i64 t163, .int .i64 t164, .int .i64 t165, .int .i64 t166, .int .i64 t167, .int .i64 t168, .int .i64 t169, .int .i64 t170, .int .i64 t171, .int .i64 t172, .int .i64 t173, .int .i64 t174, .int .i64 t175, .int .i64 t176, .int .i64 t177, .int .i64 t178, .int .i64 t179, .int .i64 t180, .int .i64 t181, .int .i64 t182, .int .i64 t183, .int .i64 t184, .int .i64 t185, .int .i64 t186, .int .i64 t187, .int .i64 t188, .int .i64 t189, .int .i64 t190, .int .i64 t191, .int .i64 t192, .int .i64 t193, .int .i64 t194, .int .i64 t195, .int .i64 t196, .int .i64 t197, .int .i64 t198, .int .i64 t199, .int .i64 t200, .int .i64 t201, .int .i64 t202, .int .i64 t203, .int .i64 t204, .int .i64 t205, .int .i64 t206, .int .i64 t207, .int .i64 t208, .int .i64 t209, .int .i64 t210, .int .i64 t211, .int .i64 t212, .int .i64 t213, .int .i64 t214, .int .i64 t215, .int .i64 t216, .int .i64 t217, .int .i64 t218, .int .i64 t219, .int .i64 t220, .int .i64 t221, .int .i64 t222, .int .i64 t223, .int .i64 t224, .int .i64 t225, .int .i64 t226, .int .i64 t227, .int .i64 t228, .int .i64 t229, .int .i64 t230, .int .i64 t231, .int .i64 t232, .int .i64 t233, .int .i64 t234, .int .i64 t235, .int .i64 t236, .int .i64 t237, .int .i64 t238, .int .i64 t239, .int .i64 t240, .int .i64 t241, .int .i64 t242, .int .i64 t243, .int .i64 t244, .int .i64 t245, .int .i64 t246, .int .i64 t247, .int .i64 t248, .int .i64 t249, .int .i64 t250, .int .i64 t251, .int .i64 t252, .int .i64 t253, .int .i64 t254, .int .i64 t255, .int .i64 t256, .int .i64 t257, .int .i64 t258, .int .i64 t259, .int .i64 t260, .int .i64 t261, .int .i64 t262, .int .i64 t263] 256 sL1.1.2.2.1 fun (t264 : Int) =>
Let (if 0 > t264 then 0 else t264 : Int) fun (t265 : Int) =>
Let (IntKind.wrap .i64 (sL1.1.1 + t265) : Int) fun (t266 : Int) =>
Let (IntKind.wrap .i64 (0 - t264) : Int) fun (t267 : Int) =>
Let (if 0 > t267 then 0 else t267 : Int) fun (t268 : Int) =>
Let (IntKind.wrap .i64 (sL1.1.2.1 + t268) : Int) fun (t269 : Int) =>
Let (IntKind.wrap .i64 (sL1.1.2.2.1 + 1) : Int) fun (t270 : Int) =>
R1 ((t266, t269, t270, ()), sL1.2)) (
J3 (sL1.1.1, sL1.1.2.1, ()) sL1.2)
def J2_lev_Least (a0_a : ByteArray) (a1_b : ByteArray) (K : Int → Hp → Prop) (p2 : Addr) (sJ2 : Unit) (hJ2 : Hp) : Prop :=
Jn (J3_lev_Least a0_a a1_b K) fun (J3 : Int × Int × Unit → Hp → Prop) =>
ldA (.int .i64) hJ2 p2 fun (t8 : Int) =>
ldA (.int .i64) hJ2 (Addr.add p2 1) fun (t9 : Int) =>
ldA (.int .i64) hJ2 (Addr.add p2 2) fun (t10 : Int) =>
ldA (.int .i64) hJ2 (Addr.add p2 3) fun (t11 : Int) =>
ldA (.int .i64) hJ2 (Addr.add p2 4) fun (t12 : Int) =>
ldA (.int .i64) hJ2 (Addr.add p2 5) fun (t13 : Int) =>
ldA (.int .i64) hJ2 (Addr.add p2 6) fun (t14 : Int) =>
ldA (.int .i64) hJ2 (Addr.add p2 7) fun (t15 : Int) =>
ldA (.int .i64) hJ2 (Addr.add p2 8) fun (t16 : Int) =>
ldA (.int .i64) hJ2 (Addr.add p2 9) fun (t17 : Int) =>
ldA (.int .i64) hJ2 (Addr.add p2 10) fun (t18 : Int) =>
ldA (.int .i64) hJ2 (Addr.add p2 11) fun (t19 : Int) =>
ldA (.int .i64) hJ2 (Addr.add p2 12) fun (t20 : Int) =>
ldA (.int .i64) hJ2 (Addr.add p2 13) fun (t21 : Int) =>
ldA (.int .i64) hJ2 (Addr.add p2 14) fun (t22 : Int) =>
ldA (.int .i64) hJ2 (Addr.add p2 15) fun (t23 : Int) =>
ldA (.int .i64) hJ2 (Addr.add p2 16) fun (t24 : Int) =>
ldA (.int .i64) hJ2 (Addr.add p2 17) fun (t25 : Int) =>
ldA (.int .i64) hJ2 (Addr.add p2 18) fun (t26 : Int) =>
ldA (.int .i64) hJ2 (Addr.add p2 19) fun (t27 : Int) =>
ldA (.int .i64) hJ2 (Addr.add p2 20) fun (t28 : Int) =>
ldA (.int .i64) hJ2 (Addr.add p2 21) fun (t29 : Int) =>
ldA (.int .i64) hJ2 (Addr.add p2 22) fun (t30 : Int) =>
ldA (.int .i64) hJ2 (Addr.add p2 23) fun (t31 : Int) =>
ldA (.int .i64) hJ2 (Addr.add p2 24) fun (t32 : Int) =>
ldA (.int .i64) hJ2 (Addr.add p2 25) fun (t33 : Int) =>
ldA (.int .i64) hJ2 (Addr.add p2 26) fun (t34 : Int) =>
ldA (.int .i64) hJ2 (Addr.add p2 27) fun (t35 : Int) =>
ldA (.int .i64) hJ2 (Addr.add p2 28) fun (t36 : Int) =>
ldA (.int .i64) hJ2 (Addr.add p2 29) fun (t37 : Int) =>
ldA (.int .i64) hJ2 (Addr.add p2 30) fun (t38 : Int) =>
ldA (.int .i64) hJ2 (Addr.add p2 31) fun (t39 : Int) =>
ldA (.int .i64) hJ2 (Addr.add p2 32) fun (t40 : Int) =>
ldA (.int .i64) hJ2 (Addr.add p2 33) fun (t41 : Int) =>
ldA (.int .i64) hJ2 (Addr.add p2 34) fun (t42 : Int) =>
ldA (.int .i64) hJ2 (Addr.add p2 35) fun (t43 : Int) =>
ldA (.int .i64) hJ2 (Addr.add p2 36) fun (t44 : Int) =>
ldA (.int .i64) hJ2 (Addr.add p2 37) fun (t45 : Int) =>
ldA (.int .i64) hJ2 (Addr.add p2 38) fun (t46 : Int) =>
ldA (.int .i64) hJ2 (Addr.add p2 39) fun (t47 : Int) =>
ldA (.int .i64) hJ2 (Addr.add p2 40) fun (t48 : Int) =>
ldA (.int .i64) hJ2 (Addr.add p2 41) fun (t49 : Int) =>
ldA (.int .i64) hJ2 (Addr.add p2 42) fun (t50 : Int) =>
ldA (.int .i64) hJ2 (Addr.add p2 43) fun (t51 : Int) =>
ldA (.int .i64) hJ2 (Addr.add p2 44) fun (t52 : Int) =>
ldA (.int .i64) hJ2 (Addr.add p2 45) fun (t53 : Int) =>
ldA (.int .i64) hJ2 (Addr.add p2 46) fun (t54 : Int) =>
ldA (.int .i64) hJ2 (Addr.add p2 47) fun (t55 : Int) =>
ldA (.int .i64) hJ2 (Addr.add p2 48) fun (t56 : Int) =>
ldA (.int .i64) hJ2 (Addr.add p2 49) fun (t57 : Int) =>
ldA (.int .i64) hJ2 (Addr.add p2 50) fun (t58 : Int) =>
ldA (.int .i64) hJ2 (Addr.add p2 51) fun (t59 : Int) =>
ldA (.int .i64) hJ2 (Addr.add p2 52) fun (t60 : Int) =>
ldA (.int .i64) hJ2 (Addr.add p2 53) fun (t61 : Int) =>
ldA (.int .i64) hJ2 (Addr.add p2 54) fun (t62 : Int) =>
ldA (.int .i64) hJ2 (Addr.add p2 55) fun (t63 : Int) =>
ldA (.int .i64) hJ2 (Addr.add p2 56) fun (t64 : Int) =>
ldA (.int .i64) hJ2 (Addr.add p2 57) fun (t65 : Int) =>
ldA (.int .i64) hJ2 (Addr.add p2 58) fun (t66 : Int) =>
ldA (.int .i64) hJ2 (Addr.add p2 59) fun (t67 : Int) =>
ldA (.int .i64) hJ2 (Addr.add p2 60) fun (t68 : Int) =>
ldA (.int .i64) hJ2 (Addr.add p2 61) fun (t69 : Int) =>
ldA (.int .i64) hJ2 (Addr.add p2 62) fun (t70 : Int) =>
ldA (.int .i64) hJ2 (Addr.add p2 63) fun (t71 : Int) =>
ldA (.int .i64) hJ2 (Addr.add p2 64) fun (t72 : Int) =>
ldA (.int .i64) hJ2 (Addr.add p2 65) fun (t73 : Int) =>
ldA (.int .i64) hJ2 (Addr.add p2 66) fun (t74 : Int) =>
ldA (.int .i64) hJ2 (Addr.add p2 67) fun (t75 : Int) =>
ldA (.int .i64) hJ2 (Addr.add p2 68) fun (t76 : Int) =>
ldA (.int .i64) hJ2 (Addr.add p2 69) fun (t77 : Int) =>
ldA (.int .i64) hJ2 (Addr.add p2 70) fun (t78 : Int) =>
ldA (.int .i64) hJ2 (Addr.add p2 71) fun (t79 : Int) =>
ldA (.int .i64) hJ2 (Addr.add p2 72) fun (t80 : Int) =>
ldA (.int .i64) hJ2 (Addr.add p2 73) fun (t81 : Int) =>
ldA (.int .i64) hJ2 (Addr.add p2 74) fun (t82 : Int) =>
ldA (.int .i64) hJ2 (Addr.add p2 75) fun (t83 : Int) =>
ldA (.int .i64) hJ2 (Addr.add p2 76) fun (t84 : Int) =>
ldA (.int .i64) hJ2 (Addr.add p2 77) fun (t85 : Int) =>
ldA (.int .i64) hJ2 (Addr.add p2 78) fun (t86 : Int) =>
ldA (.int .i64) hJ2 (Addr.add p2 79) fun (t87 : Int) =>
ldA (.int .i64) hJ2 (Addr.add p2 80) fun (t88 : Int) =>
ldA (.int .i64) hJ2 (Addr.add p2 81) fun (t89 : Int) =>
ldA (.int .i64) hJ2 (Addr.add p2 82) fun (t90 : Int) =>
ldA (.int .i64) hJ2 (Addr.add p2 83) fun (t91 : Int) =>
ldA (.int .i64) hJ2 (Addr.add p2 84) fun (t92 : Int) =>
ldA (.int .i64) hJ2 (Addr.add p2 85) fun (t93 : Int) =>
ldA (.int .i64) hJ2 (Addr.add p2 86) fun (t94 : Int) =>
ldA (.int .i64) hJ2 (Addr.add p2 87) fun (t95 : Int) =>
ldA (.int .i64) hJ2 (Addr.add p2 88) fun (t96 : Int) =>
ldA (.int .i64) hJ2 (Addr.add p2 89) fun (t97 : Int) =>
ldA (.int .i64) hJ2 (Addr.add p2 90) fun (t98 : Int) =>
ldA (.int .i64) hJ2 (Addr.add p2 91) fun (t99 : Int) =>
ldA (.int .i64) hJ2 (Addr.add p2 92) fun (t100 : Int) =>
ldA (.int .i64) hJ2 (Addr.add p2 93) fun (t101 : Int) =>
ldA (.int .i64) hJ2 (Addr.add p2 94) fun (t102 : Int) =>
ldA (.int .i64) hJ2 (Addr.add p2 95) fun (t103 : Int) =>
ldA (.int .i64) hJ2 (Addr.add p2 96) fun (t104 : Int) =>
ldA (.int .i64) hJ2 (Addr.add p2 97) fun (t105 : Int) =>
ldA (.int .i64) hJ2 (Addr.add p2 98) fun (t106 : Int) =>
ldA (.int .i64) hJ2 (Addr.add p2 99) fun (t107 : Int) =>
ldA (.int .i64) hJ2 (Addr.add p2 100) fun (t108 : Int) =>
ldA (.int .i64) hJ2 (Addr.add p2 101) fun (t109 : Int) =>
ldA (.int .i64) hJ2 (Addr.add p2 102) fun (t110 : Int) =>
ldA (.int .i64) hJ2 (Addr.add p2 103) fun (t111 : Int) =>
ldA (.int .i64) hJ2 (Addr.add p2 104) fun (t112 : Int) =>
ldA (.int .i64) hJ2 (Addr.add p2 105) fun (t113 : Int) =>
ldA (.int .i64) hJ2 (Addr.add p2 106) fun (t114 : Int) =>
ldA (.int .i64) hJ2 (Addr.add p2 107) fun (t115 : Int) =>
ldA (.int .i64) hJ2 (Addr.add p2 108) fun (t116 : Int) =>
ldA (.int .i64) hJ2 (Addr.add p2 109) fun (t117 : Int) =>
ldA (.int .i64) hJ2 (Addr.add p2 110) fun (t118 : Int) =>
ldA (.int .i64) hJ2 (Addr.add p2 111) fun (t119 : Int) =>
ldA (.int .i64) hJ2 (Addr.add p2 112) fun (t120 : Int) =>
ldA (.int .i64) hJ2 (Addr.add p2 113) fun (t121 : Int) =>
ldA (.int .i64) hJ2 (Addr.add p2 114) fun (t122 : Int) =>
ldA (.int .i64) hJ2 (Addr.add p2 115) fun (t123 : Int) =>
ldA (.int .i64) hJ2 (Addr.add p2 116) fun (t124 : Int) =>
ldA (.int .i64) hJ2 (Addr.add p2 117) fun (t125 : Int) =>
ldA (.int .i64) hJ2 (Addr.add p2 118) fun (t126 : Int) =>
ldA (.int .i64) hJ2 (Addr.add p2 119) fun (t127 : Int) =>
ldA (.int .i64) hJ2 (Addr.add p2 120) fun (t128 : Int) =>
ldA (.int .i64) hJ2 (Addr.add p2 121) fun (t129 : Int) =>
ldA (.int .i64) hJ2 (Addr.add p2 122) fun (t130 : Int) =>
ldA (.int .i64) hJ2 (Addr.add p2 123) fun (t131 : Int) =>
ldA (.int .i64) hJ2 (Addr.add p2 124) fun (t132 : Int) =>
ldA (.int .i64) hJ2 (Addr.add p2 125) fun (t133 : Int) =>
ldA (.int .i64) hJ2 (Addr.add p2 126) fun (t134 : Int) =>
ldA (.int .i64) hJ2 (Addr.add p2 127) fun (t135 : Int) =>
ldA (.int .i64) hJ2 (Addr.add p2 128) fun (t136 : Int) =>
ldA (.int .i64) hJ2 (Addr.add p2 129) fun (t137 : Int) =>
ldA (.int .i64) hJ2 (Addr.add p2 130) fun (t138 : Int) =>
ldA (.int .i64) hJ2 (Addr.add p2 131) fun (t139 : Int) =>
ldA (.int .i64) hJ2 (Addr.add p2 132) fun (t140 : Int) =>
ldA (.int .i64) hJ2 (Addr.add p2 133) fun (t141 : Int) =>
ldA (.int .i64) hJ2 (Addr.add p2 134) fun (t142 : Int) =>
ldA (.int .i64) hJ2 (Addr.add p2 135) fun (t143 : Int) =>
ldA (.int .i64) hJ2 (Addr.add p2 136) fun (t144 : Int) =>
ldA (.int .i64) hJ2 (Addr.add p2 137) fun (t145 : Int) =>
ldA (.int .i64) hJ2 (Addr.add p2 138) fun (t146 : Int) =>
ldA (.int .i64) hJ2 (Addr.add p2 139) fun (t147 : Int) =>
ldA (.int .i64) hJ2 (Addr.add p2 140) fun (t148 : Int) =>
ldA (.int .i64) hJ2 (Addr.add p2 141) fun (t149 : Int) =>
ldA (.int .i64) hJ2 (Addr.add p2 142) fun (t150 : Int) =>
ldA (.int .i64) hJ2 (Addr.add p2 143) fun (t151 : Int) =>
ldA (.int .i64) hJ2 (Addr.add p2 144) fun (t152 : Int) =>
ldA (.int .i64) hJ2 (Addr.add p2 145) fun (t153 : Int) =>
ldA (.int .i64) hJ2 (Addr.add p2 146) fun (t154 : Int) =>
ldA (.int .i64) hJ2 (Addr.add p2 147) fun (t155 : Int) =>
ldA (.int .i64) hJ2 (Addr.add p2 148) fun (t156 : Int) =>
ldA (.int .i64) hJ2 (Addr.add p2 149) fun (t157 : Int) =>
ldA (.int .i64) hJ2 (Addr.add p2 150) fun (t158 : Int) =>
ldA (.int .i64) hJ2 (Addr.add p2 151) fun (t159 : Int) =>
ldA (.int .i64) hJ2 (Addr.add p2 152) fun (t160 : Int) =>
ldA (.int .i64) hJ2 (Addr.add p2 153) fun (t161 : Int) =>
ldA (.int .i64) hJ2 (Addr.add p2 154) fun (t162 : Int) =>
ldA (.int .i64) hJ2 (Addr.add p2 155) fun (t163 : Int) =>
ldA (.int .i64) hJ2 (Addr.add p2 156) fun (t164 : Int) =>
ldA (.int .i64) hJ2 (Addr.add p2 157) fun (t165 : Int) =>
ldA (.int .i64) hJ2 (Addr.add p2 158) fun (t166 : Int) =>
ldA (.int .i64) hJ2 (Addr.add p2 159) fun (t167 : Int) =>
ldA (.int .i64) hJ2 (Addr.add p2 160) fun (t168 : Int) =>
ldA (.int .i64) hJ2 (Addr.add p2 161) fun (t169 : Int) =>
ldA (.int .i64) hJ2 (Addr.add p2 162) fun (t170 : Int) =>
ldA (.int .i64) hJ2 (Addr.add p2 163) fun (t171 : Int) =>
ldA (.int .i64) hJ2 (Addr.add p2 164) fun (t172 : Int) =>
ldA (.int .i64) hJ2 (Addr.add p2 165) fun (t173 : Int) =>
ldA (.int .i64) hJ2 (Addr.add p2 166) fun (t174 : Int) =>
ldA (.int .i64) hJ2 (Addr.add p2 167) fun (t175 : Int) =>
ldA (.int .i64) hJ2 (Addr.add p2 168) fun (t176 : Int) =>
ldA (.int .i64) hJ2 (Addr.add p2 169) fun (t177 : Int) =>
ldA (.int .i64) hJ2 (Addr.add p2 170) fun (t178 : Int) =>
ldA (.int .i64) hJ2 (Addr.add p2 171) fun (t179 : Int) =>
ldA (.int .i64) hJ2 (Addr.add p2 172) fun (t180 : Int) =>
ldA (.int .i64) hJ2 (Addr.add p2 173) fun (t181 : Int) =>
ldA (.int .i64) hJ2 (Addr.add p2 174) fun (t182 : Int) =>
ldA (.int .i64) hJ2 (Addr.add p2 175) fun (t183 : Int) =>
ldA (.int .i64) hJ2 (Addr.add p2 176) fun (t184 : Int) =>
ldA (.int .i64) hJ2 (Addr.add p2 177) fun (t185 : Int) =>
ldA (.int .i64) hJ2 (Addr.add p2 178) fun (t186 : Int) =>
ldA (.int .i64) hJ2 (Addr.add p2 179) fun (t187 : Int) =>
ldA (.int .i64) hJ2 (Addr.add p2 180) fun (t188 : Int) =>
ldA (.int .i64) hJ2 (Addr.add p2 181) fun (t189 : Int) =>
ldA (.int .i64) hJ2 (Addr.add p2 182) fun (t190 : Int) =>
ldA (.int .i64) hJ2 (Addr.add p2 183) fun (t191 : Int) =>
ldA (.int .i64) hJ2 (Addr.add p2 184) fun (t192 : Int) =>
ldA (.int .i64) hJ2 (Addr.add p2 185) fun (t193 : Int) =>
ldA (.int .i64) hJ2 (Addr.add p2 186) fun (t194 : Int) =>
ldA (.int .i64) hJ2 (Addr.add p2 187) fun (t195 : Int) =>
ldA (.int .i64) hJ2 (Addr.add p2 188) fun (t196 : Int) =>
ldA (.int .i64) hJ2 (Addr.add p2 189) fun (t197 : Int) =>
ldA (.int .i64) hJ2 (Addr.add p2 190) fun (t198 : Int) =>
ldA (.int .i64) hJ2 (Addr.add p2 191) fun (t199 : Int) =>
ldA (.int .i64) hJ2 (Addr.add p2 192) fun (t200 : Int) =>
ldA (.int .i64) hJ2 (Addr.add p2 193) fun (t201 : Int) =>
ldA (.int .i64) hJ2 (Addr.add p2 194) fun (t202 : Int) =>
ldA (.int .i64) hJ2 (Addr.add p2 195) fun (t203 : Int) =>
ldA (.int .i64) hJ2 (Addr.add p2 196) fun (t204 : Int) =>
ldA (.int .i64) hJ2 (Addr.add p2 197) fun (t205 : Int) =>
ldA (.int .i64) hJ2 (Addr.add p2 198) fun (t206 : Int) =>
ldA (.int .i64) hJ2 (Addr.add p2 199) fun (t207 : Int) =>
ldA (.int .i64) hJ2 (Addr.add p2 200) fun (t208 : Int) =>
ldA (.int .i64) hJ2 (Addr.add p2 201) fun (t209 : Int) =>
ldA (.int .i64) hJ2 (Addr.add p2 202) fun (t210 : Int) =>
ldA (.int .i64) hJ2 (Addr.add p2 203) fun (t211 : Int) =>
ldA (.int .i64) hJ2 (Addr.add p2 204) fun (t212 : Int) =>
ldA (.int .i64) hJ2 (Addr.add p2 205) fun (t213 : Int) =>
ldA (.int .i64) hJ2 (Addr.add p2 206) fun (t214 : Int) =>
ldA (.int .i64) hJ2 (Addr.add p2 207) fun (t215 : Int) =>
ldA (.int .i64) hJ2 (Addr.add p2 208) fun (t216 : Int) =>
ldA (.int .i64) hJ2 (Addr.add p2 209) fun (t217 : Int) =>
ldA (.int .i64) hJ2 (Addr.add p2 210) fun (t218 : Int) =>
ldA (.int .i64) hJ2 (Addr.add p2 211) fun (t219 : Int) =>
ldA (.int .i64) hJ2 (Addr.add p2 212) fun (t220 : Int) =>
ldA (.int .i64) hJ2 (Addr.add p2 213) fun (t221 : Int) =>
ldA (.int .i64) hJ2 (Addr.add p2 214) fun (t222 : Int) =>
ldA (.int .i64) hJ2 (Addr.add p2 215) fun (t223 : Int) =>
ldA (.int .i64) hJ2 (Addr.add p2 216) fun (t224 : Int) =>
ldA (.int .i64) hJ2 (Addr.add p2 217) fun (t225 : Int) =>
ldA (.int .i64) hJ2 (Addr.add p2 218) fun (t226 : Int) =>
ldA (.int .i64) hJ2 (Addr.add p2 219) fun (t227 : Int) =>
ldA (.int .i64) hJ2 (Addr.add p2 220) fun (t228 : Int) =>
ldA (.int .i64) hJ2 (Addr.add p2 221) fun (t229 : Int) =>
ldA (.int .i64) hJ2 (Addr.add p2 222) fun (t230 : Int) =>
ldA (.int .i64) hJ2 (Addr.add p2 223) fun (t231 : Int) =>
ldA (.int .i64) hJ2 (Addr.add p2 224) fun (t232 : Int) =>
ldA (.int .i64) hJ2 (Addr.add p2 225) fun (t233 : Int) =>
ldA (.int .i64) hJ2 (Addr.add p2 226) fun (t234 : Int) =>
ldA (.int .i64) hJ2 (Addr.add p2 227) fun (t235 : Int) =>
ldA (.int .i64) hJ2 (Addr.add p2 228) fun (t236 : Int) =>
ldA (.int .i64) hJ2 (Addr.add p2 229) fun (t237 : Int) =>
ldA (.int .i64) hJ2 (Addr.add p2 230) fun (t238 : Int) =>
ldA (.int .i64) hJ2 (Addr.add p2 231) fun (t239 : Int) =>
ldA (.int .i64) hJ2 (Addr.add p2 232) fun (t240 : Int) =>
ldA (.int .i64) hJ2 (Addr.add p2 233) fun (t241 : Int) =>
ldA (.int .i64) hJ2 (Addr.add p2 234) fun (t242 : Int) =>
ldA (.int .i64) hJ2 (Addr.add p2 235) fun (t243 : Int) =>
ldA (.int .i64) hJ2 (Addr.add p2 236) fun (t244 : Int) =>
ldA (.int .i64) hJ2 (Addr.add p2 237) fun (t245 : Int) =>
ldA (.int .i64) hJ2 (Addr.add p2 238) fun (t246 : Int) =>
ldA (.int .i64) hJ2 (Addr.add p2 239) fun (t247 : Int) =>
ldA (.int .i64) hJ2 (Addr.add p2 240) fun (t248 : Int) =>
ldA (.int .i64) hJ2 (Addr.add p2 241) fun (t249 : Int) =>
ldA (.int .i64) hJ2 (Addr.add p2 242) fun (t250 : Int) =>
ldA (.int .i64) hJ2 (Addr.add p2 243) fun (t251 : Int) =>
ldA (.int .i64) hJ2 (Addr.add p2 244) fun (t252 : Int) =>
ldA (.int .i64) hJ2 (Addr.add p2 245) fun (t253 : Int) =>
ldA (.int .i64) hJ2 (Addr.add p2 246) fun (t254 : Int) =>
ldA (.int .i64) hJ2 (Addr.add p2 247) fun (t255 : Int) =>
ldA (.int .i64) hJ2 (Addr.add p2 248) fun (t256 : Int) =>
ldA (.int .i64) hJ2 (Addr.add p2 249) fun (t257 : Int) =>
ldA (.int .i64) hJ2 (Addr.add p2 250) fun (t258 : Int) =>
ldA (.int .i64) hJ2 (Addr.add p2 251) fun (t259 : Int) =>
ldA (.int .i64) hJ2 (Addr.add p2 252) fun (t260 : Int) =>
ldA (.int .i64) hJ2 (Addr.add p2 253) fun (t261 : Int) =>
ldA (.int .i64) hJ2 (Addr.add p2 254) fun (t262 : Int) =>
ldA (.int .i64) hJ2 (Addr.add p2 255) fun (t263 : Int) =>
∃ n, Lp (L1_lev_Least J3 t8 t9 t10 t11 t12 t13 t14 t15 t16 t17 t18 t19 t20 t21 t22 t23 t24 t25 t26 t27 t28 t29 t30 t31 t32 t33 t34 t35 t36 t37 t38 t39 t40 t41 t42 t43 t44 t45 t46 t47 t48 t49 t50 t51 t52 t53 t54 t55 t56 t57 t58 t59 t60 t61 t62 t63 t64 t65 t66 t67 t68 t69 t70 t71 t72 t73 t74 t75 t76 t77 t78 t79 t80 t81 t82 t83 t84 t85 t86 t87 t88 t89 t90 t91 t92 t93 t94 t95 t96 t97 t98 t99 t100 t101 t102 t103 t104 t105 t106 t107 t108 t109 t110 t111 t112 t113 t114 t115 t116 t117 t118 t119 t120 t121 t122 t123 t124 t125 t126 t127 t128 t129 t130 t131 t132 t133 t134 t135 t136 t137 t138 t139 t140 t141 t142 t143 t144 t145 t146 t147 t148 t149 t150 t151 t152 t153 t154 t155 t156 t157 t158 t159 t160 t161 t162 t163 t164 t165 t166 t167 t168 t169 t170 t171 t172 t173 t174 t175 t176 t177 t178 t179 t180 t181 t182 t183 t184 t185 t186 t187 t188 t189 t190 t191 t192 t193 t194 t195 t196 t197 t198 t199 t200 t201 t202 t203 t204 t205 t206 t207 t208 t209 t210 t211 t212 t213 t214 t215 t216 t217 t218 t219 t220 t221 t222 t223 t224 t225 t226 t227 t228 t229 t230 t231 t232 t233 t234 t235 t236 t237 t238 t239 t240 t241 t242 t243 t244 t245 t246 t247 t248 t249 t250 t251 t252 t253 t254 t255 t256 t257 t258 t259 t260 t261 t262 t263) n ((0, 0, 0, ()), hJ2)
def L2_lev_Least (a1_b : ByteArray) (p2 : Addr) (J2 : Unit → Hp → Prop) (sL2 : (Int × Unit) × Hp) (R2 : (Int × Unit) × Hp → Prop) : Prop :=
cnd (decide (sL2.1.1 < (ByteArray.size a1_b : Int))) (
idxStr a1_b sL2.1.1 fun (t271 : Int) =>
idxS (some p2) 256 t271 1 fun (p272 : Addr) =>
ldA (.int .i64) sL2.2 p272 fun (t273 : Int) =>
Let (IntKind.wrap .i64 (t273 - 1) : Int) fun (t274 : Int) =>
idxS (some p2) 256 t271 1 fun (p275 : Addr) =>
((1 : Nat) = 1) ∧ (
stC sL2.2 p275 (
Let (hset sL2.2 p275 (.int .i64 t274)) fun (h276 : Hp) =>
Let (IntKind.wrap .i64 (sL2.1.1 + 1) : Int) fun (t277 : Int) =>
R2 ((t277, ()), h276)))) (
J2 (()) sL2.2)
def J1_lev_Least (a0_a : ByteArray) (a1_b : ByteArray) (K : Int → Hp → Prop) (p2 : Addr) (sJ1 : Unit) (hJ1 : Hp) : Prop :=
Jn (J2_lev_Least a0_a a1_b K p2) fun (J2 : Unit → Hp → Prop) =>
∃ n, Lp (L2_lev_Least a1_b p2 J2) n ((0, ()), hJ1)
def L3_lev_Least (a0_a : ByteArray) (p2 : Addr) (J1 : Unit → Hp → Prop) (sL3 : (Int × Unit) × Hp) (R3 : (Int × Unit) × Hp → Prop) : Prop :=
cnd (decide (sL3.1.1 < (ByteArray.size a0_a : Int))) (
idxStr a0_a sL3.1.1 fun (t278 : Int) =>
idxS (some p2) 256 t278 1 fun (p279 : Addr) =>
ldA (.int .i64) sL3.2 p279 fun (t280 : Int) =>
Let (IntKind.wrap .i64 (t280 + 1) : Int) fun (t281 : Int) =>
idxS (some p2) 256 t278 1 fun (p282 : Addr) =>
((1 : Nat) = 1) ∧ (
stC sL3.2 p282 (
Let (hset sL3.2 p282 (.int .i64 t281)) fun (h283 : Hp) =>
Let (IntKind.wrap .i64 (sL3.1.1 + 1) : Int) fun (t284 : Int) =>
R3 ((t284, ()), h283)))) (
J1 (()) sL3.2)
def F_lev_Least (a0_a : ByteArray) (a1_b : ByteArray) (h : Hp) (K : Int → Hp → Prop) : Prop :=
Let (Array.push h (Obj.cells #[.int .i64 0, .int .i64 0, .int .i64 0, .int .i64 0, .int .i64 0, .int .i64 0, .int .i64 0, .int .i64 0, .int .i64 0, .int .i64 0, .int .i64 0, .int .i64 0, .int .i64 0, .int .i64 0, .int .i64 0, .int .i64 0, .int .i64 0, .int .i64 0, .int .i64 0, .int .i64 0, .int .i64 0, .int .i64 0, .int .i64 0, .int .i64 0, .int .i64 0, .int .i64 0, .int .i64 0, .int .i64 0, .int .i64 0, .int .i64 0, .int .i64 0, .int .i64 0, .int .i64 0, .int .i64 0, .int .i64 0, .int .i64 0, .int .i64 0, .int .i64 0, .int .i64 0, .int .i64 0, .int .i64 0, .int .i64 0, .int .i64 0, .int .i64 0, .int .i64 0, .int .i64 0, .int .i64 0, .int .i64 0, .int .i64 0, .int .i64 0, .int .i64 0, .int .i64 0, .int .i64 0, .int .i64 0, .int .i64 0, .int .i64 0, .int .i64 0, .int .i64 0, .int .i64 0, .int .i64 0, .int .i64 0, .int .i64 0, .int .i64 0, .int .i64 0, .int .i64 0, .int .i64 0, .int .i64 0, .int .i64 0, .int .i64 0, .int .i64 0, .int .i64 0, .int .i64 0, .int .i64 0, .int .i64 0, .int .i64 0, .int .i64 0, .int .i64 0, .int .i64 0, .int .i64 0, .int .i64 0, .int .i64 0, .int .i64 0, .int .i64 0, .int .i64 0, .int .i64 0, .int .i64 0, .int .i64 0, .int .i64 0, .int .i64 0, .int .i64 0, .int .i64 0, .int .i64 0, .int .i64 0, .int .i64 0, .int .i64 0, .int .i64 0, .int .i64 0, .int .i64 0, .int .i64 0, .int .i64 0, .int .i64 0, .int .i64 0, .int .i64 0, .int .i64 0, .int .i64 0, .int .i64 0, .int .i64 0, .int .i64 0, .int .i64 0, .int .i64 0, .int .i64 0, .int .i64 0, .int .i64 0, .int .i64 0, .int .i64 0, .int .i64 0, .int .i64 0, .int .i64 0, .int .i64 0, .int .i64 0, .int .i64 0, .int .i64 0, .int .i64 0, .int .i64 0, .int .i64 0, .int .i64 0, .int .i64 0, .int .i64 0, .int .i64 0, .int .i64 0, .int .i64 0, .int .i64 0, .int .i64 0, .int .i64 0, .int .i64 0, .int .i64 0, .int .i64 0, .int .i64 0, .int .i64 0, .int .i64 0, .int .i64 0, .int .i64 0, .int .i64 0, .int .i64 0, .int .i64 0, .int .i64 0, .int .i64 0, .int .i64 0, .int .i64 0, .int .i64 0, .int .i64 0, .int .i64 0, .int .i64 0, .int .i64 0, .int .i64 0, .int .i64 0, .int .i64 0, .int .i64 0, .int .i64 0, .int .i64 0, .int .i64 0, .int .i64 0, .int .i64 0, .int .i64 0, .int .i64 0, .int .i64 0, .int .i64 0, .int .i64 0, .int .i64 0, .int .i64 0, .int .i64 0, .int .i64 0, .int .i64 0, .int .i64 0, .int .i64 0, .int .i64 0, .int .i64 0, .int .i64 0, .int .i64 0, .int .i64 0, .int .i64 0, .int .i64 0, .int .i64 0, .int .i64 0, .int .i64 0, .int .i64 0, .int .i64 0, .int .i64 0, .int .i64 0, .int .i64 0, .int .i64 0, .int .i64 0, .int .i64 0, .int .i64 0, .int .i64 0, .int .i64 0, .int .i64 0, .int .i64 0, .int .i64 0, .int .i64 0, .int .i64 0, .int .i64 0, .int .i64 0, .int .i64 0, .int .i64 0, .int .i64 0, .int .i64 0, .int .i64 0, .int .i64 0, .int .i64 0, .int .i64 0, .int .i64 0, .int .i64 0, .int .i64 0, .int .i64 0, .int .i64 0, .int .i64 0, .int .i64 0, .int .i64 0, .int .i64 0, .int .i64 0, .int .i64 0, .int .i64 0, .int .i64 0, .int .i64 0, .int .i64 0, .int .i64 0, .int .i64 0, .int .i64 0, .int .i64 0, .int .i64 0, .int .i64 0, .int .i64 0, .int .i64 0, .int .i64 0, .int .i64 0, .int .i64 0, .int .i64 0, .int .i64 0, .int .i64 0, .int .i64 0, .int .i64 0, .int .i64 0, .int .i64 0, .int .i64 0, .int .i64 0, .int .i64 0, .int .i64 0, .int .i64 0, .int .i64 0, .int .i64 0, .int .i64 0, .int .i64 0, .int .i64 0, .int .i64 0, .int .i64 0] 37)) fun (h1 : Hp) =>
Let (Addr.mk (Array.size h) 0 none) fun (p2 : Addr) =>
Jn (J1_lev_Least a0_a a1_b K p2) fun (J1 : Unit → Hp → Prop) =>
∃ n, Lp (L3_lev_Least a0_a p2 J1) n ((0, ()), h1)

theorem F_lev_Least_ok (a0_a : ByteArray) (a1_b : ByteArray) (h : Hp) (K : Int → Hp → Prop) (hF : F_lev_Least a0_a a1_b h K) : C_lev_Least a0_a a1_b h K := by
  have e : bodyVC Try.prog Try.f10 (.seq .no (.seq .no (.join [] (.seq .no (.block (.loop [(14, .at (.int .i64))] (.seq .no (.seq (.cond .no .no) (.seq (.block (.seq .no .no)) .no)))))) (.join [] (.seq .no (.block (.loop [(27, .at (.int .i64))] (.seq .no (.seq (.cond .no .no) (.seq (.block (.seq .no .no)) .no)))))) (.seq .no (.join [(8, .at (.int .i64)), (9, .at (.int .i64))] (.seq .no (.block (.loop [(8, .at (.int .i64)), (9, .at (.int .i64)), (39, .at (.int .i64))] (.seq .no (.seq (.cond .no .no) (.seq (.block (.seq .no (.seq .no .no))) .no)))))) (.seq .no .no))))))) (Option.getD Try.f10.body .skip) [.string a0_a, .string a1_b] h [.at (.int .i64)] (fun s h => K s.1 h) = F_lev_Least a0_a a1_b h K := by kernel_rfl
  exact fun_sound mixed Try.func10 rfl (e.mpr hF)

def J5_lev_Edits (p4 : Addr) (sL1 : (Int × Int × Unit) × Hp) (R1 : (Int × Int × Unit) × Hp → Prop) (sJ5 : Bool × Unit) (hJ5 : Hp) : Prop :=
cnd sJ5.1 (
C_strings_Builder_WriteByte (some p4) 45 hJ5 fun (t13 : Value) (h14 : Hp) =>
Let (IntKind.wrap .i64 (sL1.1.1 + 1) : Int) fun (t15 : Int) =>
R1 ((t15, sL1.1.2.1, ()), h14)) (
C_strings_Builder_WriteByte (some p4) 43 hJ5 fun (t16 : Value) (h17 : Hp) =>
Let (IntKind.wrap .i64 (sL1.1.2.1 + 1) : Int) fun (t18 : Int) =>
R1 ((sL1.1.1, t18, ()), h17))
def J4_lev_Edits (a0_a : ByteArray) (t1 : Sl) (p4 : Addr) (sL1 : (Int × Int × Unit) × Hp) (R1 : (Int × Int × Unit) × Hp → Prop) (sJ4 : Bool × Unit) (hJ4 : Hp) : Prop :=
cnd sJ4.1 (
C_strings_Builder_WriteByte (some p4) 33 hJ4 fun (t9 : Value) (h10 : Hp) =>
Let (IntKind.wrap .i64 (sL1.1.1 + 1) : Int) fun (t11 : Int) =>
Let (IntKind.wrap .i64 (sL1.1.2.1 + 1) : Int) fun (t12 : Int) =>
R1 ((t11, t12, ()), h10)) (
Jn (J5_lev_Edits p4 sL1 R1) fun (J5 : Bool × Unit → Hp → Prop) =>
cnd (decide (sL1.1.1 < (ByteArray.size a0_a : Int))) (
idxS t1.a t1.len sL1.1.1 1 fun (p19 : Addr) =>
ldA .sl hJ4 p19 fun (t20 : Sl) =>
idxS t20.a t20.len sL1.1.2.1 1 fun (p21 : Addr) =>
ldA (.int .i64) hJ4 p21 fun (t22 : Int) =>
Let (IntKind.wrap .i64 (sL1.1.1 + 1) : Int) fun (t23 : Int) =>
idxS t1.a t1.len t23 1 fun (p24 : Addr) =>
ldA .sl hJ4 p24 fun (t25 : Sl) =>
idxS t25.a t25.len sL1.1.2.1 1 fun (p26 : Addr) =>
ldA (.int .i64) hJ4 p26 fun (t27 : Int) =>
Let (IntKind.wrap .i64 ((1 : Int) + t27) : Int) fun (t28 : Int) =>
J5 ((t22 == t28), ()) hJ4) (
J5 (false, ()) hJ4))
def J3_lev_Edits (a0_a : ByteArray) (a1_b : ByteArray) (t1 : Sl) (p4 : Addr) (sL1 : (Int × Int × Unit) × Hp) (R1 : (Int × Int × Unit) × Hp → Prop) (sJ2 : Bool × Unit) (sJ3 : Bool × Unit) (hJ3 : Hp) : Prop :=
cnd sJ3.1 (
C_strings_Builder_WriteByte (some p4) 61 hJ3 fun (t5 : Value) (h6 : Hp) =>
Let (IntKind.wrap .i64 (sL1.1.1 + 1) : Int) fun (t7 : Int) =>
Let (IntKind.wrap .i64 (sL1.1.2.1 + 1) : Int) fun (t8 : Int) =>
R1 ((t7, t8, ()), h6)) (
Jn (J4_lev_Edits a0_a t1 p4 sL1 R1) fun (J4 : Bool × Unit → Hp → Prop) =>
cnd sJ2.1 (
idxS t1.a t1.len sL1.1.1 1 fun (p29 : Addr) =>
ldA .sl hJ3 p29 fun (t30 : Sl) =>
idxS t30.a t30.len sL1.1.2.1 1 fun (p31 : Addr) =>
ldA (.int .i64) hJ3 p31 fun (t32 : Int) =>
Let (IntKind.wrap .i64 (sL1.1.1 + 1) : Int) fun (t33 : Int) =>
idxS t1.a t1.len t33 1 fun (p34 : Addr) =>
ldA .sl hJ3 p34 fun (t35 : Sl) =>
Let (IntKind.wrap .i64 (sL1.1.2.1 + 1) : Int) fun (t36 : Int) =>
idxS t35.a t35.len t36 1 fun (p37 : Addr) =>
ldA (.int .i64) hJ3 p37 fun (t38 : Int) =>
Let (IntKind.wrap .i64 ((1 : Int) + t38) : Int) fun (t39 : Int) =>
cnd (t32 == t39) (
idxStr a0_a sL1.1.1 fun (t40 : Int) =>
idxStr a1_b sL1.1.2.1 fun (t41 : Int) =>
J4 ((t40 != t41), ()) hJ3) (
J4 (false, ()) hJ3)) (
J4 (false, ()) hJ3))
def J2_lev_Edits (a0_a : ByteArray) (a1_b : ByteArray) (t1 : Sl) (p4 : Addr) (sL1 : (Int × Int × Unit) × Hp) (R1 : (Int × Int × Unit) × Hp → Prop) (sJ2 : Bool × Unit) (hJ2 : Hp) : Prop :=
Jn (J3_lev_Edits a0_a a1_b t1 p4 sL1 R1 sJ2) fun (J3 : Bool × Unit → Hp → Prop) =>
cnd sJ2.1 (
idxStr a0_a sL1.1.1 fun (t42 : Int) =>
idxStr a1_b sL1.1.2.1 fun (t43 : Int) =>
cnd (t42 == t43) (
idxS t1.a t1.len sL1.1.1 1 fun (p44 : Addr) =>
ldA .sl hJ2 p44 fun (t45 : Sl) =>
idxS t45.a t45.len sL1.1.2.1 1 fun (p46 : Addr) =>
ldA (.int .i64) hJ2 p46 fun (t47 : Int) =>
Let (IntKind.wrap .i64 (sL1.1.1 + 1) : Int) fun (t48 : Int) =>
idxS t1.a t1.len t48 1 fun (p49 : Addr) =>
ldA .sl hJ2 p49 fun (t50 : Sl) =>
Let (IntKind.wrap .i64 (sL1.1.2.1 + 1) : Int) fun (t51 : Int) =>
idxS t50.a t50.len t51 1 fun (p52 : Addr) =>
ldA (.int .i64) hJ2 p52 fun (t53 : Int) =>
J3 ((t47 == t53), ()) hJ2) (
J3 (false, ()) hJ2)) (
J3 (false, ()) hJ2)
def J1_lev_Edits (a0_a : ByteArray) (a1_b : ByteArray) (t1 : Sl) (p4 : Addr) (sL1 : (Int × Int × Unit) × Hp) (R1 : (Int × Int × Unit) × Hp → Prop) (sJ1 : Unit) (hJ1 : Hp) : Prop :=
Jn (J2_lev_Edits a0_a a1_b t1 p4 sL1 R1) fun (J2 : Bool × Unit → Hp → Prop) =>
cnd (decide (sL1.1.1 < (ByteArray.size a0_a : Int))) (
J2 (decide (sL1.1.2.1 < (ByteArray.size a1_b : Int)), ()) hJ1) (
J2 (false, ()) hJ1)
def L1_lev_Edits (a0_a : ByteArray) (a1_b : ByteArray) (K : ByteArray → Hp → Prop) (t1 : Sl) (p4 : Addr) (sL1 : (Int × Int × Unit) × Hp) (R1 : (Int × Int × Unit) × Hp → Prop) : Prop :=
Jn (J1_lev_Edits a0_a a1_b t1 p4 sL1 R1) fun (J1 : Unit → Hp → Prop) =>
cnd (decide (sL1.1.1 < (ByteArray.size a0_a : Int))) (
J1 (()) sL1.2) (
cnd (decide (sL1.1.2.1 < (ByteArray.size a1_b : Int))) (
J1 (()) sL1.2) (
C_strings_Builder_String (some p4) sL1.2 fun (t54 : ByteArray) (h55 : Hp) =>
K t54 h55))
def F_lev_Edits (a0_a : ByteArray) (a1_b : ByteArray) (h : Hp) (K : ByteArray → Hp → Prop) : Prop :=
C_lev_table a0_a a1_b h fun (t1 : Sl) (h2 : Hp) =>
Let (Array.push h2 (Obj.cells #[.pointer none, .slice none 0 0] 43)) fun (h3 : Hp) =>
Let (Addr.mk (Array.size h2) 0 none) fun (p4 : Addr) =>
∃ n, Lp (L1_lev_Edits a0_a a1_b K t1 p4) n ((0, 0, ()), h3)

theorem F_lev_Edits_ok (a0_a : ByteArray) (a1_b : ByteArray) (h : Hp) (K : ByteArray → Hp → Prop) (hF : F_lev_Edits a0_a a1_b h K) : C_lev_Edits a0_a a1_b h K := by
  have e : bodyVC Try.prog Try.f11 (.seq .no (.seq .no (.seq .no (.seq (.seq .no (.block (.loop [(7, .at (.int .i64)), (8, .at (.int .i64))] (.join [] (.seq .no (.cond .no .no)) (.block (.join [(9, .at .bool)] .no (.block (.join [(36, .at .bool)] .no (.cond (.seq .no (.seq .no .no)) (.join [(71, .at .bool)] .no (.cond (.seq .no (.seq .no .no)) (.join [(107, .at .bool)] .no (.cond (.seq .no .no) (.seq .no .no)))))))))))))) (.seq .no .no))))) (Option.getD Try.f11.body .skip) [.string a0_a, .string a1_b] h [.at .str] (fun s h => K s.1 h) = F_lev_Edits a0_a a1_b h K := by kernel_rfl
  exact fun_sound mixed Try.func11 rfl (e.mpr hF)

def J1_lev_Apply (K : ByteArray → Bool → Hp → Prop) (p2 : Addr) (sJ1 : ByteArray × ByteArray × Unit) (hJ1 : Hp) : Prop :=
cnd (!strEq sJ1.1 (ByteArray.mk #[])) (
K (ByteArray.mk #[]) false hJ1) (
cnd (!strEq sJ1.2.1 (ByteArray.mk #[])) (
K (ByteArray.mk #[]) false hJ1) (
C_strings_Builder_String (some p2) hJ1 fun (t3 : ByteArray) (h4 : Hp) =>
K t3 true h4))
def J4_lev_Apply (sL1 : (ByteArray × ByteArray × Int × Unit) × Hp) (R1 : (ByteArray × ByteArray × Int × Unit) × Hp → Prop) (t5 : Int) (sJ4 : ByteArray × Unit) (hJ4 : Hp) : Prop :=
cnd (t5 != 43) (
slcStr sL1.1.1 (some 1) none fun (t7 : ByteArray) =>
Let (IntKind.wrap .i64 (sL1.1.2.2.1 + 1) : Int) fun (t8 : Int) =>
R1 ((t7, sJ4.1, t8, ()), hJ4)) (
Let (IntKind.wrap .i64 (sL1.1.2.2.1 + 1) : Int) fun (t9 : Int) =>
R1 ((sL1.1.1, sJ4.1, t9, ()), hJ4))
def J3_lev_Apply (p2 : Addr) (sL1 : (ByteArray × ByteArray × Int × Unit) × Hp) (R1 : (ByteArray × ByteArray × Int × Unit) × Hp → Prop) (t5 : Int) (t6 : Int) (sJ3 : Unit) (hJ3 : Hp) : Prop :=
Jn (J4_lev_Apply sL1 R1 t5) fun (J4 : ByteArray × Unit → Hp → Prop) =>
cnd (t6 != 45) (
idxStr sL1.1.2.1 0 fun (t10 : Int) =>
C_strings_Builder_WriteByte (some p2) t10 hJ3 fun (t11 : Value) (h12 : Hp) =>
slcStr sL1.1.2.1 (some 1) none fun (t13 : ByteArray) =>
J4 (t13, ()) h12) (
J4 (sL1.1.2.1, ()) hJ3)
def J2_lev_Apply (a2_e : ByteArray) (K : ByteArray → Bool → Hp → Prop) (p2 : Addr) (sL1 : (ByteArray × ByteArray × Int × Unit) × Hp) (R1 : (ByteArray × ByteArray × Int × Unit) × Hp → Prop) (t5 : Int) (t6 : Int) (sJ2 : Unit) (hJ2 : Hp) : Prop :=
Jn (J3_lev_Apply p2 sL1 R1 t5 t6) fun (J3 : Unit → Hp → Prop) =>
cnd (t5 != 43) (
cnd (t6 != 45) (
idxStr sL1.1.1 0 fun (t14 : Int) =>
idxStr sL1.1.2.1 0 fun (t15 : Int) =>
idxStr a2_e sL1.1.2.2.1 fun (t16 : Int) =>
cnd (!((t14 == t15) == (t16 == 61))) (
K (ByteArray.mk #[]) false hJ2) (
J3 (()) hJ2)) (
J3 (()) hJ2)) (
J3 (()) hJ2)
def L1_lev_Apply (a2_e : ByteArray) (K : ByteArray → Bool → Hp → Prop) (p2 : Addr) (J1 : ByteArray × ByteArray × Unit → Hp → Prop) (sL1 : (ByteArray × ByteArray × Int × Unit) × Hp) (R1 : (ByteArray × ByteArray × Int × Unit) × Hp → Prop) : Prop :=
cnd (decide (sL1.1.2.2.1 < (ByteArray.size a2_e : Int))) (
idxStr a2_e sL1.1.2.2.1 fun (t5 : Int) =>
idxStr a2_e sL1.1.2.2.1 fun (t6 : Int) =>
Jn (J2_lev_Apply a2_e K p2 sL1 R1 t5 t6) fun (J2 : Unit → Hp → Prop) =>
idxStr a2_e sL1.1.2.2.1 fun (t17 : Int) =>
C_strings_IndexByte (ByteArray.mk #[61, 33, 45, 43]) t17 sL1.2 fun (t18 : Int) (h19 : Hp) =>
cnd (decide (t18 < 0)) (
K (ByteArray.mk #[]) false h19) (
cnd (t5 != 43) (
cnd (strEq sL1.1.1 (ByteArray.mk #[])) (
K (ByteArray.mk #[]) false h19) (
cnd (t6 != 45) (
cnd (strEq sL1.1.2.1 (ByteArray.mk #[])) (
K (ByteArray.mk #[]) false h19) (
J2 (()) h19)) (
J2 (()) h19))) (
cnd (t6 != 45) (
cnd (strEq sL1.1.2.1 (ByteArray.mk #[])) (
K (ByteArray.mk #[]) false h19) (
J2 (()) h19)) (
J2 (()) h19)))) (
J1 (sL1.1.1, sL1.1.2.1, ()) sL1.2)
def F_lev_Apply (a0_a : ByteArray) (a1_b : ByteArray) (a2_e : ByteArray) (h : Hp) (K : ByteArray → Bool → Hp → Prop) : Prop :=
Let (Array.push h (Obj.cells #[.pointer none, .slice none 0 0] 43)) fun (h1 : Hp) =>
Let (Addr.mk (Array.size h) 0 none) fun (p2 : Addr) =>
Jn (J1_lev_Apply K p2) fun (J1 : ByteArray × ByteArray × Unit → Hp → Prop) =>
∃ n, Lp (L1_lev_Apply a2_e K p2 J1) n ((a0_a, a1_b, 0, ()), h1)

theorem F_lev_Apply_ok (a0_a : ByteArray) (a1_b : ByteArray) (a2_e : ByteArray) (h : Hp) (K : ByteArray → Bool → Hp → Prop) (hF : F_lev_Apply a0_a a1_b a2_e h K) : C_lev_Apply a0_a a1_b a2_e h K := by
  have e : bodyVC Try.prog Try.f12 (.seq .no (.seq .no (.join [(0, .at .str), (1, .at .str)] (.seq .no (.block (.loop [(0, .at .str), (1, .at .str), (14, .at (.int .i64))] (.seq .no (.seq (.cond .no .no) (.seq (.block (.seq .no (.seq .no (.join [] (.seq .no (.cond (.seq .no .no) .no)) (.join [] (.seq .no (.cond (.seq .no .no) .no)) (.join [(1, .at .str)] (.seq .no (.cond (.seq .no .no) .no)) (.seq .no (.cond .no .no)))))))) .no)))))) (.seq (.seq .no (.cond (.seq .no .no) .no)) (.seq .no .no))))) (Option.getD Try.f12.body .skip) [.string a0_a, .string a1_b, .string a2_e] h [.at .str, .at .bool] (fun s h => K s.1 s.2.1 h) = F_lev_Apply a0_a a1_b a2_e h K := by kernel_rfl
  exact fun_sound mixed Try.func12 rfl (e.mpr hF)

def J5_ref08_Edits (sL1 : (ByteArray × ByteArray × ByteArray × Unit) × Hp) (R1 : (ByteArray × ByteArray × ByteArray × Unit) × Hp → Prop) (sJ5 : Bool × Unit) (hJ5 : Hp) : Prop :=
cnd sJ5.1 (
catS sL1.1.2.2.1 (ByteArray.mk #[45]) fun (t9 : ByteArray) =>
slcStr sL1.1.1 (some 1) none fun (t10 : ByteArray) =>
R1 ((t10, sL1.1.2.1, t9, ()), hJ5)) (
catS sL1.1.2.2.1 (ByteArray.mk #[43]) fun (t11 : ByteArray) =>
slcStr sL1.1.2.1 (some 1) none fun (t12 : ByteArray) =>
R1 ((sL1.1.1, t12, t11, ()), hJ5))
def J4_ref08_Edits (sL1 : (ByteArray × ByteArray × ByteArray × Unit) × Hp) (R1 : (ByteArray × ByteArray × ByteArray × Unit) × Hp → Prop) (t1 : Int) (sJ4 : Bool × Unit) (hJ4 : Hp) : Prop :=
cnd sJ4.1 (
catS sL1.1.2.2.1 (ByteArray.mk #[33]) fun (t6 : ByteArray) =>
slcStr sL1.1.1 (some 1) none fun (t7 : ByteArray) =>
slcStr sL1.1.2.1 (some 1) none fun (t8 : ByteArray) =>
R1 ((t7, t8, t6, ()), hJ4)) (
Jn (J5_ref08_Edits sL1 R1) fun (J5 : Bool × Unit → Hp → Prop) =>
cnd (decide ((ByteArray.size sL1.1.1 : Int) > 0)) (
slcStr sL1.1.1 (some 1) none fun (t13 : ByteArray) =>
C_ref08_Dist t13 sL1.1.2.1 hJ4 fun (t14 : Int) (h15 : Hp) =>
Let (IntKind.wrap .i64 (t14 + 1) : Int) fun (t16 : Int) =>
J5 ((t16 == t1), ()) h15) (
J5 (false, ()) hJ4))
def J3_ref08_Edits (sL1 : (ByteArray × ByteArray × ByteArray × Unit) × Hp) (R1 : (ByteArray × ByteArray × ByteArray × Unit) × Hp → Prop) (t1 : Int) (sJ2 : Bool × Unit) (sJ3 : Bool × Unit) (hJ3 : Hp) : Prop :=
cnd sJ3.1 (
catS sL1.1.2.2.1 (ByteArray.mk #[61]) fun (t3 : ByteArray) =>
slcStr sL1.1.1 (some 1) none fun (t4 : ByteArray) =>
slcStr sL1.1.2.1 (some 1) none fun (t5 : ByteArray) =>
R1 ((t4, t5, t3, ()), hJ3)) (
Jn (J4_ref08_Edits sL1 R1 t1) fun (J4 : Bool × Unit → Hp → Prop) =>
cnd sJ2.1 (
idxStr sL1.1.1 0 fun (t17 : Int) =>
idxStr sL1.1.2.1 0 fun (t18 : Int) =>
cnd (t17 != t18) (
slcStr sL1.1.1 (some 1) none fun (t19 : ByteArray) =>
slcStr sL1.1.2.1 (some 1) none fun (t20 : ByteArray) =>
C_ref08_Dist t19 t20 hJ3 fun (t21 : Int) (h22 : Hp) =>
Let (IntKind.wrap .i64 (t21 + 1) : Int) fun (t23 : Int) =>
J4 ((t23 == t1), ()) h22) (
J4 (false, ()) hJ3)) (
J4 (false, ()) hJ3))
def J2_ref08_Edits (sL1 : (ByteArray × ByteArray × ByteArray × Unit) × Hp) (R1 : (ByteArray × ByteArray × ByteArray × Unit) × Hp → Prop) (t1 : Int) (sJ2 : Bool × Unit) (hJ2 : Hp) : Prop :=
Jn (J3_ref08_Edits sL1 R1 t1 sJ2) fun (J3 : Bool × Unit → Hp → Prop) =>
cnd sJ2.1 (
idxStr sL1.1.1 0 fun (t24 : Int) =>
idxStr sL1.1.2.1 0 fun (t25 : Int) =>
cnd (t24 == t25) (
slcStr sL1.1.1 (some 1) none fun (t26 : ByteArray) =>
slcStr sL1.1.2.1 (some 1) none fun (t27 : ByteArray) =>
C_ref08_Dist t26 t27 hJ2 fun (t28 : Int) (h29 : Hp) =>
J3 ((t28 == t1), ()) h29) (
J3 (false, ()) hJ2)) (
J3 (false, ()) hJ2)
def J1_ref08_Edits (sL1 : (ByteArray × ByteArray × ByteArray × Unit) × Hp) (R1 : (ByteArray × ByteArray × ByteArray × Unit) × Hp → Prop) (sJ1 : Unit) (hJ1 : Hp) : Prop :=
C_ref08_Dist sL1.1.1 sL1.1.2.1 hJ1 fun (t1 : Int) (h2 : Hp) =>
Jn (J2_ref08_Edits sL1 R1 t1) fun (J2 : Bool × Unit → Hp → Prop) =>
cnd (decide ((ByteArray.size sL1.1.1 : Int) > 0)) (
J2 (decide ((ByteArray.size sL1.1.2.1 : Int) > 0), ()) h2) (
J2 (false, ()) h2)
def L1_ref08_Edits (K : ByteArray → Hp → Prop) (sL1 : (ByteArray × ByteArray × ByteArray × Unit) × Hp) (R1 : (ByteArray × ByteArray × ByteArray × Unit) × Hp → Prop) : Prop :=
Jn (J1_ref08_Edits sL1 R1) fun (J1 : Unit → Hp → Prop) =>
cnd (decide ((ByteArray.size sL1.1.1 : Int) > 0)) (
J1 (()) sL1.2) (
cnd (decide ((ByteArray.size sL1.1.2.1 : Int) > 0)) (
J1 (()) sL1.2) (
K sL1.1.2.2.1 sL1.2))
def F_ref08_Edits (a0_a : ByteArray) (a1_b : ByteArray) (h : Hp) (K : ByteArray → Hp → Prop) : Prop :=
∃ n, Lp (L1_ref08_Edits K) n ((a0_a, a1_b, (ByteArray.mk #[]), ()), h)

theorem F_ref08_Edits_ok (a0_a : ByteArray) (a1_b : ByteArray) (h : Hp) (K : ByteArray → Hp → Prop) (hF : F_ref08_Edits a0_a a1_b h K) : C_ref08_Edits a0_a a1_b h K := by
  have e : bodyVC Try.prog Try.f13 (.seq .no (.seq .no (.seq (.block (.loop [(0, .at .str), (1, .at .str), (5, .at .str)] (.join [] (.seq .no (.cond .no .no)) (.block (.seq .no (.join [(7, .at .bool)] .no (.join [(43, .at .bool)] .no (.cond (.seq .no (.seq .no .no)) (.join [(67, .at .bool)] .no (.cond (.seq .no (.seq .no .no)) (.join [(85, .at .bool)] .no (.cond (.seq .no .no) (.seq .no .no))))))))))))) (.seq .no .no)))) (Option.getD Try.f13.body .skip) [.string a0_a, .string a1_b] h [.at .str] (fun s h => K s.1 h) = F_ref08_Edits a0_a a1_b h K := by kernel_rfl
  exact fun_sound mixed Try.func13 rfl (e.mpr hF)

def J1_ref08_Dist (a0_a : ByteArray) (a1_b : ByteArray) (K : Int → Hp → Prop) (sJ1 : Sl × Unit) (hJ1 : Hp) : Prop :=
idxS sJ1.1.a sJ1.1.len (ByteArray.size a0_a : Int) 1 fun (p1 : Addr) =>
ldA .sl hJ1 p1 fun (t2 : Sl) =>
idxS t2.a t2.len (ByteArray.size a1_b : Int) 1 fun (p3 : Addr) =>
ldA (.int .i64) hJ1 p3 fun (t4 : Int) =>
K t4 hJ1
def J3_ref08_Dist (sL1 : (Sl × Int × Unit) × Hp) (sL2 : (Sl × Int × Unit) × Hp) (R2 : (Sl × Int × Unit) × Hp → Prop) (sJ3 : Int × Unit) (hJ3 : Hp) : Prop :=
Let (IntKind.wrap .i64 (sL1.1.2.1 - 1) : Int) fun (t12 : Int) =>
idxS sL1.1.1.a sL1.1.1.len t12 1 fun (p13 : Addr) =>
ldA .sl hJ3 p13 fun (t14 : Sl) =>
idxS t14.a t14.len sL2.1.2.1 1 fun (p15 : Addr) =>
ldA (.int .i64) hJ3 p15 fun (t16 : Int) =>
Let (IntKind.wrap .i64 (t16 + 1) : Int) fun (t17 : Int) =>
Let (IntKind.wrap .i64 (sL2.1.2.1 - 1) : Int) fun (t18 : Int) =>
idxS sL2.1.1.a sL2.1.1.len t18 1 fun (p19 : Addr) =>
ldA (.int .i64) hJ3 p19 fun (t20 : Int) =>
Let (IntKind.wrap .i64 (t20 + 1) : Int) fun (t21 : Int) =>
Let (if t17 < sJ3.1 then t17 else sJ3.1 : Int) fun (t22 : Int) =>
Let (if t21 < t22 then t21 else t22 : Int) fun (t23 : Int) =>
Let (Array.push hJ3 (Obj.cells #[.int .i64 t23] 3)) fun (h24 : Hp) =>
Let (Addr.mk (Array.size hJ3) 0 none) fun (p25 : Addr) =>
appS 3 1 8 [.int .i64 0] sL2.1.1.a sL2.1.1.len sL2.1.1.cap (.slice (some p25) 1 1) h24 fun (t26 : Sl) (h27 : Hp) =>
Let (IntKind.wrap .i64 (sL2.1.2.1 + 1) : Int) fun (t28 : Int) =>
R2 ((t26, t28, ()), h27)
def J2_ref08_Dist (a0_a : ByteArray) (a1_b : ByteArray) (sL1 : (Sl × Int × Unit) × Hp) (sL2 : (Sl × Int × Unit) × Hp) (R2 : (Sl × Int × Unit) × Hp → Prop) (t5 : Int) (sJ2 : Bool × Unit) (hJ2 : Hp) : Prop :=
cnd sJ2.1 (
Let (IntKind.wrap .i64 (sL1.1.2.1 - 1) : Int) fun (t6 : Int) =>
idxS sL1.1.1.a sL1.1.1.len t6 1 fun (p7 : Addr) =>
ldA .sl hJ2 p7 fun (t8 : Sl) =>
Let (IntKind.wrap .i64 (sL2.1.2.1 - 1) : Int) fun (t9 : Int) =>
idxS t8.a t8.len t9 1 fun (p10 : Addr) =>
ldA (.int .i64) hJ2 p10 fun (t11 : Int) =>
Jn (J3_ref08_Dist sL1 sL2 R2) fun (J3 : Int × Unit → Hp → Prop) =>
Let (IntKind.wrap .i64 (sL1.1.2.1 - 1) : Int) fun (t29 : Int) =>
idxStr a0_a t29 fun (t30 : Int) =>
Let (IntKind.wrap .i64 (sL2.1.2.1 - 1) : Int) fun (t31 : Int) =>
idxStr a1_b t31 fun (t32 : Int) =>
cnd (t30 != t32) (
Let (IntKind.wrap .i64 (t11 + 1) : Int) fun (t33 : Int) =>
J3 (t33, ()) hJ2) (
J3 (t11, ()) hJ2)) (
Let (Array.push hJ2 (Obj.cells #[.int .i64 t5] 3)) fun (h34 : Hp) =>
Let (Addr.mk (Array.size hJ2) 0 none) fun (p35 : Addr) =>
appS 3 1 8 [.int .i64 0] sL2.1.1.a sL2.1.1.len sL2.1.1.cap (.slice (some p35) 1 1) h34 fun (t36 : Sl) (h37 : Hp) =>
Let (IntKind.wrap .i64 (sL2.1.2.1 + 1) : Int) fun (t38 : Int) =>
R2 ((t36, t38, ()), h37))
def L2_ref08_Dist (a0_a : ByteArray) (a1_b : ByteArray) (sL1 : (Sl × Int × Unit) × Hp) (R1 : (Sl × Int × Unit) × Hp → Prop) (sL2 : (Sl × Int × Unit) × Hp) (R2 : (Sl × Int × Unit) × Hp → Prop) : Prop :=
cnd (decide (sL2.1.2.1 ≤ (ByteArray.size a1_b : Int))) (
Let (IntKind.wrap .i64 (sL1.1.2.1 + sL2.1.2.1) : Int) fun (t5 : Int) =>
Jn (J2_ref08_Dist a0_a a1_b sL1 sL2 R2 t5) fun (J2 : Bool × Unit → Hp → Prop) =>
cnd (decide (sL1.1.2.1 > 0)) (
J2 (decide (sL2.1.2.1 > 0), ()) sL2.2) (
J2 (false, ()) sL2.2)) (
Let (Array.push sL2.2 (Obj.cells #[.slice sL2.1.1.a sL2.1.1.len sL2.1.1.cap] 34)) fun (h39 : Hp) =>
Let (Addr.mk (Array.size sL2.2) 0 none) fun (p40 : Addr) =>
appS 34 1 24 [.slice none 0 0] sL1.1.1.a sL1.1.1.len sL1.1.1.cap (.slice (some p40) 1 1) h39 fun (t41 : Sl) (h42 : Hp) =>
Let (IntKind.wrap .i64 (sL1.1.2.1 + 1) : Int) fun (t43 : Int) =>
R1 ((t41, t43, ()), h42))
def L1_ref08_Dist (a0_a : ByteArray) (a1_b : ByteArray) (J1 : Sl × Unit → Hp → Prop) (sL1 : (Sl × Int × Unit) × Hp) (R1 : (Sl × Int × Unit) × Hp → Prop) : Prop :=
cnd (decide (sL1.1.2.1 ≤ (ByteArray.size a0_a : Int))) (
∃ n, Lp (L2_ref08_Dist a0_a a1_b sL1 R1) n (((Sl.mk none 0 0), 0, ()), sL1.2)) (
J1 ((Sl.mk sL1.1.1.a sL1.1.1.len sL1.1.1.cap), ()) sL1.2)
def F_ref08_Dist (a0_a : ByteArray) (a1_b : ByteArray) (h : Hp) (K : Int → Hp → Prop) : Prop :=
Jn (J1_ref08_Dist a0_a a1_b K) fun (J1 : Sl × Unit → Hp → Prop) =>
∃ n, Lp (L1_ref08_Dist a0_a a1_b J1) n (((Sl.mk none 0 0), 0, ()), h)

theorem F_ref08_Dist_ok (a0_a : ByteArray) (a1_b : ByteArray) (h : Hp) (K : Int → Hp → Prop) (hF : F_ref08_Dist a0_a a1_b h K) : C_ref08_Dist a0_a a1_b h K := by
  have e : bodyVC Try.prog Try.f14 (.seq .no (.seq .no (.join [(5, .at .sl)] (.seq .no (.block (.loop [(5, .at .sl), (6, .at (.int .i64))] (.seq (.seq .no (.cond .no .no)) (.seq (.block (.seq .no (.seq (.seq .no (.block (.loop [(7, .at .sl), (8, .at (.int .i64))] (.seq (.seq .no (.cond .no .no)) (.seq (.block (.seq .no (.seq (.join [(30, .at .bool)] .no (.cond (.seq .no (.join [(9, .at (.int .i64))] (.seq .no (.cond .no .no)) .no)) .no)) .no))) .no))))) .no))) .no))))) (.seq .no .no)))) (Option.getD Try.f14.body .skip) [.string a0_a, .string a1_b] h [.at (.int .i64)] (fun s h => K s.1 h) = F_ref08_Dist a0_a a1_b h K := by kernel_rfl
  exact fun_sound mixed Try.func14 rfl (e.mpr hF)

def J1_ref08_Apply (a0_a : ByteArray) (a1_b : ByteArray) (K : ByteArray → Bool → Hp → Prop) (sJ1 : ByteArray × Int × Int × Unit) (hJ1 : Hp) : Prop :=
cnd (decide (sJ1.2.1 < (ByteArray.size a0_a : Int))) (
K (ByteArray.mk #[]) false hJ1) (
cnd (decide (sJ1.2.2.1 < (ByteArray.size a1_b : Int))) (
K (ByteArray.mk #[]) false hJ1) (
K sJ1.1 true hJ1))
def J3_ref08_Apply (a1_b : ByteArray) (sL1 : (ByteArray × Int × Int × Int × Unit) × Hp) (R1 : (ByteArray × Int × Int × Int × Unit) × Hp → Prop) (sJ3 : Unit) (hJ3 : Hp) : Prop :=
Let (IntKind.wrap .i64 (sL1.1.2.2.1 + 1) : Int) fun (t2 : Int) =>
slcStr a1_b (some sL1.1.2.2.1) (some t2) fun (t3 : ByteArray) =>
catS sL1.1.1 t3 fun (t4 : ByteArray) =>
Let (IntKind.wrap .i64 (sL1.1.2.1 + 1) : Int) fun (t5 : Int) =>
Let (IntKind.wrap .i64 (sL1.1.2.2.1 + 1) : Int) fun (t6 : Int) =>
Let (IntKind.wrap .i64 (sL1.1.2.2.2.1 + 1) : Int) fun (t7 : Int) =>
R1 ((t4, t5, t6, t7, ()), hJ3)
def J2_ref08_Apply (a0_a : ByteArray) (a1_b : ByteArray) (a2_e : ByteArray) (K : ByteArray → Bool → Hp → Prop) (sL1 : (ByteArray × Int × Int × Int × Unit) × Hp) (R1 : (ByteArray × Int × Int × Int × Unit) × Hp → Prop) (t1 : Int) (sJ2 : Bool × Unit) (hJ2 : Hp) : Prop :=
cnd sJ2.1 (
Jn (J3_ref08_Apply a1_b sL1 R1) fun (J3 : Unit → Hp → Prop) =>
cnd (decide (sL1.1.2.1 ≥ (ByteArray.size a0_a : Int))) (
K (ByteArray.mk #[]) false hJ2) (
cnd (decide (sL1.1.2.2.1 ≥ (ByteArray.size a1_b : Int))) (
K (ByteArray.mk #[]) false hJ2) (
idxStr a0_a sL1.1.2.1 fun (t8 : Int) =>
idxStr a1_b sL1.1.2.2.1 fun (t9 : Int) =>
idxStr a2_e sL1.1.2.2.2.1 fun (t10 : Int) =>
cnd (!((t8 == t9) == (t10 == 61))) (
K (ByteArray.mk #[]) false hJ2) (
J3 (()) hJ2)))) (
cnd (t1 == 45) (
cnd (decide (sL1.1.2.1 ≥ (ByteArray.size a0_a : Int))) (
K (ByteArray.mk #[]) false hJ2) (
Let (IntKind.wrap .i64 (sL1.1.2.1 + 1) : Int) fun (t11 : Int) =>
Let (IntKind.wrap .i64 (sL1.1.2.2.2.1 + 1) : Int) fun (t12 : Int) =>
R1 ((sL1.1.1, t11, sL1.1.2.2.1, t12, ()), hJ2))) (
cnd (t1 == 43) (
cnd (decide (sL1.1.2.2.1 ≥ (ByteArray.size a1_b : Int))) (
K (ByteArray.mk #[]) false hJ2) (
Let (IntKind.wrap .i64 (sL1.1.2.2.1 + 1) : Int) fun (t13 : Int) =>
slcStr a1_b (some sL1.1.2.2.1) (some t13) fun (t14 : ByteArray) =>
catS sL1.1.1 t14 fun (t15 : ByteArray) =>
Let (IntKind.wrap .i64 (sL1.1.2.2.1 + 1) : Int) fun (t16 : Int) =>
Let (IntKind.wrap .i64 (sL1.1.2.2.2.1 + 1) : Int) fun (t17 : Int) =>
R1 ((t15, sL1.1.2.1, t16, t17, ()), hJ2))) (
K (ByteArray.mk #[]) false hJ2)))
def L1_ref08_Apply (a0_a : ByteArray) (a1_b : ByteArray) (a2_e : ByteArray) (K : ByteArray → Bool → Hp → Prop) (J1 : ByteArray × Int × Int × Unit → Hp → Prop) (sL1 : (ByteArray × Int × Int × Int × Unit) × Hp) (R1 : (ByteArray × Int × Int × Int × Unit) × Hp → Prop) : Prop :=
cnd (decide (sL1.1.2.2.2.1 < (ByteArray.size a2_e : Int))) (
idxStr a2_e sL1.1.2.2.2.1 fun (t1 : Int) =>
Jn (J2_ref08_Apply a0_a a1_b a2_e K sL1 R1 t1) fun (J2 : Bool × Unit → Hp → Prop) =>
cnd (t1 == 61) (
J2 ((t1 == 61), ()) sL1.2) (
J2 ((t1 == 33), ()) sL1.2)) (
J1 (sL1.1.1, sL1.1.2.1, sL1.1.2.2.1, ()) sL1.2)
def F_ref08_Apply (a0_a : ByteArray) (a1_b : ByteArray) (a2_e : ByteArray) (h : Hp) (K : ByteArray → Bool → Hp → Prop) : Prop :=
Jn (J1_ref08_Apply a0_a a1_b K) fun (J1 : ByteArray × Int × Int × Unit → Hp → Prop) =>
∃ n, Lp (L1_ref08_Apply a0_a a1_b a2_e K J1) n (((ByteArray.mk #[]), 0, 0, 0, ()), h)

theorem F_ref08_Apply_ok (a0_a : ByteArray) (a1_b : ByteArray) (a2_e : ByteArray) (h : Hp) (K : ByteArray → Bool → Hp → Prop) (hF : F_ref08_Apply a0_a a1_b a2_e h K) : C_ref08_Apply a0_a a1_b a2_e h K := by
  have e : bodyVC Try.prog Try.f15 (.seq .no (.seq .no (.seq .no (.join [(8, .at .str), (9, .at (.int .i64)), (10, .at (.int .i64))] (.seq .no (.block (.loop [(8, .at .str), (9, .at (.int .i64)), (10, .at (.int .i64)), (11, .at (.int .i64))] (.seq (.seq .no (.cond .no .no)) (.seq (.block (.seq .no (.block (.join [(21, .at .bool)] (.seq .no (.cond .no .no)) (.cond (.join [] (.seq .no (.cond (.seq .no .no) .no)) (.seq .no (.seq .no .no))) (.seq .no (.cond (.seq (.seq .no (.cond (.seq .no .no) .no)) .no) (.seq .no (.cond (.seq (.seq .no (.cond (.seq .no .no) .no)) (.seq .no .no)) (.seq .no .no)))))))))) .no))))) (.seq (.seq .no (.cond (.seq .no .no) .no)) (.seq .no .no)))))) (Option.getD Try.f15.body .skip) [.string a0_a, .string a1_b, .string a2_e] h [.at .str, .at .bool] (fun s h => K s.1 s.2.1 h) = F_ref08_Apply a0_a a1_b a2_e h K := by kernel_rfl
  exact fun_sound mixed Try.func15 rfl (e.mpr hF)

def J2_lev_Upto (K : Int → Bool → Hp → Prop) (t2 : ByteArray) (t5 : Int) (p13 : Addr) (sJ2 : Unit) (hJ2 : Hp) : Prop :=
ldA (.int .i64) hJ2 p13 fun (t16 : Int) =>
ldA .sl hJ2 (Addr.add p13 1) fun (t17 : Sl) =>
Let (IntKind.wrap .i64 (t5 + 1) : Int) fun (t18 : Int) =>
C_lev_band_at t16 t17 (ByteArray.size t2 : Int) t18 hJ2 fun (t19 : Int) (h20 : Hp) =>
cnd (decide (t19 > t5)) (
K 0 false h20) (
K t19 true h20)
def L1_lev_Upto (t1 : ByteArray) (t2 : ByteArray) (t5 : Int) (p13 : Addr) (J2 : Unit → Hp → Prop) (sL1 : (Int × Unit) × Hp) (R1 : (Int × Unit) × Hp → Prop) : Prop :=
cnd (decide (sL1.1.1 < (ByteArray.size t1 : Int))) (
ldA (.int .i64) sL1.2 p13 fun (t21 : Int) =>
ldA .sl sL1.2 (Addr.add p13 1) fun (t22 : Sl) =>
Let (IntKind.wrap .i64 (sL1.1.1 + 1) : Int) fun (t23 : Int) =>
idxStr t1 sL1.1.1 fun (t24 : Int) =>
C_lev_band_step t21 t22 t23 t24 t2 t5 sL1.2 fun (t25 : Int) (t26 : Sl) (h27 : Hp) =>
stC h27 p13 (
Let (hset h27 p13 (.int .i64 t25)) fun (h28 : Hp) =>
stC h28 (Addr.add p13 1) (
Let (hset h28 (Addr.add p13 1) (.slice t26.a t26.len t26.cap)) fun (h29 : Hp) =>
Let (IntKind.wrap .i64 (sL1.1.1 + 1) : Int) fun (t30 : Int) =>
R1 ((t30, ()), h29)))) (
J2 (()) sL1.2)
def J1_lev_Upto (a2_most : Int) (K : Int → Bool → Hp → Prop) (t1 : ByteArray) (t2 : ByteArray) (sJ1 : Unit) (hJ1 : Hp) : Prop :=
Let (if (ByteArray.size t2 : Int) > (ByteArray.size t1 : Int) then (ByteArray.size t2 : Int) else (ByteArray.size t1 : Int) : Int) fun (t4 : Int) =>
Let (if t4 < a2_most then t4 else a2_most : Int) fun (t5 : Int) =>
Let (if t5 < (ByteArray.size t2 : Int) then t5 else (ByteArray.size t2 : Int) : Int) fun (t6 : Int) =>
C_lev_first t6 hJ1 fun (t7 : Sl) (h8 : Hp) =>
slc3 t7.a t7.len t7.cap none (t7.len : Int) (t7.len : Int) 1 fun (t9 : Option Addr) (l10 c11 : Nat) =>
Let (Array.push h8 (Obj.cells #[.int .i64 0, .slice none 0 0] 50)) fun (h12 : Hp) =>
Let (Addr.mk (Array.size h8) 0 none) fun (p13 : Addr) =>
stC h12 p13 (
Let (hset h12 p13 (.int .i64 0)) fun (h14 : Hp) =>
stC h14 (Addr.add p13 1) (
Let (hset h14 (Addr.add p13 1) (.slice t9 l10 c11)) fun (h15 : Hp) =>
Jn (J2_lev_Upto K t2 t5 p13) fun (J2 : Unit → Hp → Prop) =>
∃ n, Lp (L1_lev_Upto t1 t2 t5 p13 J2) n ((0, ()), h15)))
def F_lev_Upto (a0_a : ByteArray) (a1_b : ByteArray) (a2_most : Int) (h : Hp) (K : Int → Bool → Hp → Prop) : Prop :=
C_lev_Trim a0_a a1_b h fun (t1 : ByteArray) (t2 : ByteArray) (h3 : Hp) =>
Jn (J1_lev_Upto a2_most K t1 t2) fun (J1 : Unit → Hp → Prop) =>
cnd (decide (a2_most < 0)) (
K 0 false h3) (
Let (IntKind.wrap .i64 ((ByteArray.size t1 : Int) - (ByteArray.size t2 : Int)) : Int) fun (t31 : Int) =>
Let (IntKind.wrap .i64 ((ByteArray.size t2 : Int) - (ByteArray.size t1 : Int)) : Int) fun (t32 : Int) =>
Let (if t32 > t31 then t32 else t31 : Int) fun (t33 : Int) =>
cnd (decide (t33 > a2_most)) (
K 0 false h3) (
J1 (()) h3))

theorem F_lev_Upto_ok (a0_a : ByteArray) (a1_b : ByteArray) (a2_most : Int) (h : Hp) (K : Int → Bool → Hp → Prop) (hF : F_lev_Upto a0_a a1_b a2_most h K) : C_lev_Upto a0_a a1_b a2_most h K := by
  have e : bodyVC Try.prog Try.f16 (.seq .no (.seq .no (.join [] (.seq .no (.cond (.seq .no .no) .no)) (.seq .no (.seq .no (.seq .no (.join [] (.seq .no (.block (.loop [(56, .at (.int .i64))] (.seq .no (.seq (.cond .no .no) (.seq (.block (.seq .no .no)) .no)))))) (.seq .no (.seq (.seq .no (.cond (.seq .no .no) .no)) (.seq .no .no)))))))))) (Option.getD Try.f16.body .skip) [.string a0_a, .string a1_b, .int .i64 a2_most] h [.at (.int .i64), .at .bool] (fun s h => K s.1 s.2.1 h) = F_lev_Upto a0_a a1_b a2_most h K := by kernel_rfl
  exact fun_sound mixed Try.func16 rfl (e.mpr hF)

def J2_lev_Trim (K : ByteArray → ByteArray → Hp → Prop) (t1 : ByteArray) (t2 : ByteArray) (sJ2 : Int × Unit) (hJ2 : Hp) : Prop :=
Let (IntKind.wrap .i64 ((ByteArray.size t1 : Int) - sJ2.1) : Int) fun (t3 : Int) =>
slcStr t1 none (some t3) fun (t4 : ByteArray) =>
Let (IntKind.wrap .i64 ((ByteArray.size t2 : Int) - sJ2.1) : Int) fun (t5 : Int) =>
slcStr t2 none (some t5) fun (t6 : ByteArray) =>
K t4 t6 hJ2
def L1_lev_Trim (t1 : ByteArray) (t2 : ByteArray) (J2 : Int × Unit → Hp → Prop) (sL1 : (Int × Unit) × Hp) (R1 : (Int × Unit) × Hp → Prop) : Prop :=
Let (if (ByteArray.size t2 : Int) < (ByteArray.size t1 : Int) then (ByteArray.size t2 : Int) else (ByteArray.size t1 : Int) : Int) fun (t7 : Int) =>
cnd (decide (sL1.1.1 < t7)) (
Let (IntKind.wrap .i64 ((ByteArray.size t1 : Int) - 1) : Int) fun (t8 : Int) =>
Let (IntKind.wrap .i64 (t8 - sL1.1.1) : Int) fun (t9 : Int) =>
idxStr t1 t9 fun (t10 : Int) =>
Let (IntKind.wrap .i64 ((ByteArray.size t2 : Int) - 1) : Int) fun (t11 : Int) =>
Let (IntKind.wrap .i64 (t11 - sL1.1.1) : Int) fun (t12 : Int) =>
idxStr t2 t12 fun (t13 : Int) =>
cnd (t10 == t13) (
Let (IntKind.wrap .i64 (sL1.1.1 + 1) : Int) fun (t14 : Int) =>
R1 ((t14, ()), sL1.2)) (
J2 (sL1.1.1, ()) sL1.2)) (
J2 (sL1.1.1, ()) sL1.2)
def J1_lev_Trim (a0_a : ByteArray) (a1_b : ByteArray) (K : ByteArray → ByteArray → Hp → Prop) (sJ1 : Int × Unit) (hJ1 : Hp) : Prop :=
slcStr a0_a (some sJ1.1) none fun (t1 : ByteArray) =>
slcStr a1_b (some sJ1.1) none fun (t2 : ByteArray) =>
Jn (J2_lev_Trim K t1 t2) fun (J2 : Int × Unit → Hp → Prop) =>
∃ n, Lp (L1_lev_Trim t1 t2 J2) n ((0, ()), hJ1)
def L2_lev_Trim (a0_a : ByteArray) (a1_b : ByteArray) (J1 : Int × Unit → Hp → Prop) (sL2 : (Int × Unit) × Hp) (R2 : (Int × Unit) × Hp → Prop) : Prop :=
Let (if (ByteArray.size a1_b : Int) < (ByteArray.size a0_a : Int) then (ByteArray.size a1_b : Int) else (ByteArray.size a0_a : Int) : Int) fun (t15 : Int) =>
cnd (decide (sL2.1.1 < t15)) (
idxStr a0_a sL2.1.1 fun (t16 : Int) =>
idxStr a1_b sL2.1.1 fun (t17 : Int) =>
cnd (t16 == t17) (
Let (IntKind.wrap .i64 (sL2.1.1 + 1) : Int) fun (t18 : Int) =>
R2 ((t18, ()), sL2.2)) (
J1 (sL2.1.1, ()) sL2.2)) (
J1 (sL2.1.1, ()) sL2.2)
def F_lev_Trim (a0_a : ByteArray) (a1_b : ByteArray) (h : Hp) (K : ByteArray → ByteArray → Hp → Prop) : Prop :=
Jn (J1_lev_Trim a0_a a1_b K) fun (J1 : Int × Unit → Hp → Prop) =>
∃ n, Lp (L2_lev_Trim a0_a a1_b J1) n ((0, ()), h)

theorem F_lev_Trim_ok (a0_a : ByteArray) (a1_b : ByteArray) (h : Hp) (K : ByteArray → ByteArray → Hp → Prop) (hF : F_lev_Trim a0_a a1_b h K) : C_lev_Trim a0_a a1_b h K := by
  have e : bodyVC Try.prog Try.f17 (.seq .no (.seq .no (.join [(6, .at (.int .i64))] (.block (.loop [(6, .at (.int .i64))] (.seq (.seq .no (.cond .no .no)) (.block .no)))) (.seq .no (.seq .no (.join [(6, .at (.int .i64))] (.block (.loop [(6, .at (.int .i64))] (.seq (.seq .no (.cond .no .no)) (.block .no)))) (.seq .no .no))))))) (Option.getD Try.f17.body .skip) [.string a0_a, .string a1_b] h [.at .str, .at .str] (fun s h => K s.1 s.2.1 h) = F_lev_Trim a0_a a1_b h K := by kernel_rfl
  exact fun_sound mixed Try.func17 rfl (e.mpr hF)

def J2_ref08_Trim (sL1 : (ByteArray × ByteArray × Unit) × Hp) (R1 : (ByteArray × ByteArray × Unit) × Hp → Prop) (sJ2 : Unit) (hJ2 : Hp) : Prop :=
Let (IntKind.wrap .i64 ((ByteArray.size sL1.1.1 : Int) - 1) : Int) fun (t1 : Int) =>
slcStr sL1.1.1 none (some t1) fun (t2 : ByteArray) =>
Let (IntKind.wrap .i64 ((ByteArray.size sL1.1.2.1 : Int) - 1) : Int) fun (t3 : Int) =>
slcStr sL1.1.2.1 none (some t3) fun (t4 : ByteArray) =>
R1 ((t2, t4, ()), hJ2)
def L1_ref08_Trim (K : ByteArray → ByteArray → Hp → Prop) (sL1 : (ByteArray × ByteArray × Unit) × Hp) (R1 : (ByteArray × ByteArray × Unit) × Hp → Prop) : Prop :=
Jn (J2_ref08_Trim sL1 R1) fun (J2 : Unit → Hp → Prop) =>
cnd (decide ((ByteArray.size sL1.1.1 : Int) > 0)) (
cnd (decide ((ByteArray.size sL1.1.2.1 : Int) > 0)) (
Let (IntKind.wrap .i64 ((ByteArray.size sL1.1.1 : Int) - 1) : Int) fun (t5 : Int) =>
idxStr sL1.1.1 t5 fun (t6 : Int) =>
Let (IntKind.wrap .i64 ((ByteArray.size sL1.1.2.1 : Int) - 1) : Int) fun (t7 : Int) =>
idxStr sL1.1.2.1 t7 fun (t8 : Int) =>
cnd (t6 == t8) (
J2 (()) sL1.2) (
K sL1.1.1 sL1.1.2.1 sL1.2)) (
K sL1.1.1 sL1.1.2.1 sL1.2)) (
K sL1.1.1 sL1.1.2.1 sL1.2)
def J1_ref08_Trim (K : ByteArray → ByteArray → Hp → Prop) (sJ1 : ByteArray × ByteArray × Unit) (hJ1 : Hp) : Prop :=
∃ n, Lp (L1_ref08_Trim K) n ((sJ1.1, sJ1.2.1, ()), hJ1)
def J3_ref08_Trim (sL2 : (ByteArray × ByteArray × Unit) × Hp) (R2 : (ByteArray × ByteArray × Unit) × Hp → Prop) (sJ3 : Unit) (hJ3 : Hp) : Prop :=
slcStr sL2.1.1 (some 1) none fun (t9 : ByteArray) =>
slcStr sL2.1.2.1 (some 1) none fun (t10 : ByteArray) =>
R2 ((t9, t10, ()), hJ3)
def L2_ref08_Trim (J1 : ByteArray × ByteArray × Unit → Hp → Prop) (sL2 : (ByteArray × ByteArray × Unit) × Hp) (R2 : (ByteArray × ByteArray × Unit) × Hp → Prop) : Prop :=
Jn (J3_ref08_Trim sL2 R2) fun (J3 : Unit → Hp → Prop) =>
cnd (decide ((ByteArray.size sL2.1.1 : Int) > 0)) (
cnd (decide ((ByteArray.size sL2.1.2.1 : Int) > 0)) (
idxStr sL2.1.1 0 fun (t11 : Int) =>
idxStr sL2.1.2.1 0 fun (t12 : Int) =>
cnd (t11 == t12) (
J3 (()) sL2.2) (
J1 (sL2.1.1, sL2.1.2.1, ()) sL2.2)) (
J1 (sL2.1.1, sL2.1.2.1, ()) sL2.2)) (
J1 (sL2.1.1, sL2.1.2.1, ()) sL2.2)
def F_ref08_Trim (a0_a : ByteArray) (a1_b : ByteArray) (h : Hp) (K : ByteArray → ByteArray → Hp → Prop) : Prop :=
Jn (J1_ref08_Trim K) fun (J1 : ByteArray × ByteArray × Unit → Hp → Prop) =>
∃ n, Lp (L2_ref08_Trim J1) n ((a0_a, a1_b, ()), h)

theorem F_ref08_Trim_ok (a0_a : ByteArray) (a1_b : ByteArray) (h : Hp) (K : ByteArray → ByteArray → Hp → Prop) (hF : F_ref08_Trim a0_a a1_b h K) : C_ref08_Trim a0_a a1_b h K := by
  have e : bodyVC Try.prog Try.f18 (.seq .no (.join [(0, .at .str), (1, .at .str)] (.block (.loop [(0, .at .str), (1, .at .str)] (.join [] (.seq .no (.cond .no .no)) (.block (.seq .no .no))))) (.seq (.block (.loop [(0, .at .str), (1, .at .str)] (.join [] (.seq .no (.cond .no .no)) (.block (.seq .no .no))))) (.seq .no .no)))) (Option.getD Try.f18.body .skip) [.string a0_a, .string a1_b] h [.at .str, .at .str] (fun s h => K s.1 s.2.1 h) = F_ref08_Trim a0_a a1_b h K := by kernel_rfl
  exact fun_sound mixed Try.func18 rfl (e.mpr hF)

def J1_ref08_Least (a0_a : ByteArray) (a1_b : ByteArray) (K : Int → Hp → Prop) (sJ1 : Int × Int × Unit) (hJ1 : Hp) : Prop :=
Let (IntKind.wrap .i64 ((ByteArray.size a0_a : Int) - (ByteArray.size a1_b : Int)) : Int) fun (t1 : Int) =>
Let (IntKind.wrap .i64 ((ByteArray.size a1_b : Int) - (ByteArray.size a0_a : Int)) : Int) fun (t2 : Int) =>
Let (if sJ1.2.1 > sJ1.1 then sJ1.2.1 else sJ1.1 : Int) fun (t3 : Int) =>
Let (if t1 > t3 then t1 else t3 : Int) fun (t4 : Int) =>
Let (if t2 > t4 then t2 else t4 : Int) fun (t5 : Int) =>
K t5 hJ1
def L1_ref08_Least (a0_a : ByteArray) (a1_b : ByteArray) (J1 : Int × Int × Unit → Hp → Prop) (sL1 : (Int × Int × Int × Unit) × Hp) (R1 : (Int × Int × Int × Unit) × Hp → Prop) : Prop :=
cnd (decide (sL1.1.2.2.1 < 256)) (
C_ref08_count a0_a sL1.1.2.2.1 sL1.2 fun (t6 : Int) (h7 : Hp) =>
C_ref08_count a1_b sL1.1.2.2.1 h7 fun (t8 : Int) (h9 : Hp) =>
Let (IntKind.wrap .i64 (t6 - t8) : Int) fun (t10 : Int) =>
Let (if 0 > t10 then 0 else t10 : Int) fun (t11 : Int) =>
Let (IntKind.wrap .i64 (sL1.1.1 + t11) : Int) fun (t12 : Int) =>
Let (IntKind.wrap .i64 (0 - t10) : Int) fun (t13 : Int) =>
Let (if 0 > t13 then 0 else t13 : Int) fun (t14 : Int) =>
Let (IntKind.wrap .i64 (sL1.1.2.1 + t14) : Int) fun (t15 : Int) =>
Let (IntKind.wrap .i64 (sL1.1.2.2.1 + 1) : Int) fun (t16 : Int) =>
R1 ((t12, t15, t16, ()), h9)) (
J1 (sL1.1.1, sL1.1.2.1, ()) sL1.2)
def F_ref08_Least (a0_a : ByteArray) (a1_b : ByteArray) (h : Hp) (K : Int → Hp → Prop) : Prop :=
Jn (J1_ref08_Least a0_a a1_b K) fun (J1 : Int × Int × Unit → Hp → Prop) =>
∃ n, Lp (L1_ref08_Least a0_a a1_b J1) n ((0, 0, 0, ()), h)

theorem F_ref08_Least_ok (a0_a : ByteArray) (a1_b : ByteArray) (h : Hp) (K : Int → Hp → Prop) (hF : F_ref08_Least a0_a a1_b h K) : C_ref08_Least a0_a a1_b h K := by
  have e : bodyVC Try.prog Try.f19 (.seq .no (.seq .no (.join [(5, .at (.int .i64)), (6, .at (.int .i64))] (.seq .no (.block (.loop [(5, .at (.int .i64)), (6, .at (.int .i64)), (7, .at (.int .i64))] (.seq (.seq .no (.cond .no .no)) (.seq (.block (.seq .no (.seq .no .no))) .no))))) (.seq .no .no)))) (Option.getD Try.f19.body .skip) [.string a0_a, .string a1_b] h [.at (.int .i64)] (fun s h => K s.1 h) = F_ref08_Least a0_a a1_b h K := by kernel_rfl
  exact fun_sound mixed Try.func19 rfl (e.mpr hF)

def L1_lev_first (K : Sl → Hp → Prop) (t2 : Sl) (sL1 : (Int × Unit) × Hp) (R1 : (Int × Unit) × Hp → Prop) : Prop :=
cnd (decide (sL1.1.1 < (t2.len : Int))) (
idxS t2.a t2.len sL1.1.1 1 fun (p4 : Addr) =>
((1 : Nat) = 1) ∧ (
stC sL1.2 p4 (
Let (hset sL1.2 p4 (.int .i64 sL1.1.1)) fun (h5 : Hp) =>
Let (IntKind.wrap .i64 (sL1.1.1 + 1) : Int) fun (t6 : Int) =>
R1 ((t6, ()), h5)))) (
K t2 sL1.2)
def F_lev_first (a0_n : Int) (h : Hp) (K : Sl → Hp → Prop) : Prop :=
Let (IntKind.wrap .i64 (a0_n + 1) : Int) fun (t1 : Int) =>
mkS 3 1 8 [.int .i64 0] t1 t1 h fun (t2 : Sl) (h3 : Hp) =>
∃ n, Lp (L1_lev_first K t2) n ((0, ()), h3)

theorem F_lev_first_ok (a0_n : Int) (h : Hp) (K : Sl → Hp → Prop) (hF : F_lev_first a0_n h K) : C_lev_first a0_n h K := by
  have e : bodyVC Try.prog Try.f20 (.seq .no (.seq .no (.seq (.seq .no (.block (.loop [(10, .at (.int .i64))] (.seq .no (.seq (.cond .no .no) (.seq (.block (.seq .no .no)) .no)))))) (.seq .no .no)))) (Option.getD Try.f20.body .skip) [.int .i64 a0_n] h [.at .sl] (fun s h => K s.1 h) = F_lev_first a0_n h K := by kernel_rfl
  exact fun_sound mixed Try.func20 rfl (e.mpr hF)

def J1_lev_next (a0_row : Sl) (sL1 : (Int × Unit) × Hp) (R1 : (Int × Unit) × Hp → Prop) (sJ1 : Int × Unit) (hJ1 : Hp) : Prop :=
Let (IntKind.wrap .i64 (sL1.1.1 + 1) : Int) fun (t12 : Int) =>
idxS a0_row.a a0_row.len t12 1 fun (p13 : Addr) =>
((1 : Nat) = 1) ∧ (
stC hJ1 p13 (
Let (hset hJ1 p13 (.int .i64 sJ1.1)) fun (h14 : Hp) =>
Let (IntKind.wrap .i64 (sL1.1.1 + 1) : Int) fun (t15 : Int) =>
R1 ((t15, ()), h14)))
def L1_lev_next (a0_row : Sl) (a1_c : Int) (a2_b : ByteArray) (K : Sl → Hp → Prop) (t1 : Sl) (sL1 : (Int × Unit) × Hp) (R1 : (Int × Unit) × Hp → Prop) : Prop :=
cnd (decide (sL1.1.1 < (ByteArray.size a2_b : Int))) (
idxS t1.a t1.len sL1.1.1 1 fun (p10 : Addr) =>
ldA (.int .i64) sL1.2 p10 fun (t11 : Int) =>
Jn (J1_lev_next a0_row sL1 R1) fun (J1 : Int × Unit → Hp → Prop) =>
idxStr a2_b sL1.1.1 fun (t16 : Int) =>
cnd (t16 != a1_c) (
Let (IntKind.wrap .i64 (sL1.1.1 + 1) : Int) fun (t17 : Int) =>
idxS t1.a t1.len t17 1 fun (p18 : Addr) =>
ldA (.int .i64) sL1.2 p18 fun (t19 : Int) =>
idxS a0_row.a a0_row.len sL1.1.1 1 fun (p20 : Addr) =>
ldA (.int .i64) sL1.2 p20 fun (t21 : Int) =>
Let (if t19 < t11 then t19 else t11 : Int) fun (t22 : Int) =>
Let (if t21 < t22 then t21 else t22 : Int) fun (t23 : Int) =>
Let (IntKind.wrap .i64 ((1 : Int) + t23) : Int) fun (t24 : Int) =>
J1 (t24, ()) sL1.2) (
J1 (t11, ()) sL1.2)) (
K a0_row sL1.2)
def F_lev_next (a0_row : Sl) (a1_c : Int) (a2_b : ByteArray) (h : Hp) (K : Sl → Hp → Prop) : Prop :=
mkS 3 1 8 [.int .i64 0] (a0_row.len : Int) (a0_row.len : Int) h fun (t1 : Sl) (h2 : Hp) =>
cpS 1 t1.a t1.len (.slice a0_row.a a0_row.len a0_row.cap) h2 fun (t3 : Nat) (h4 : Hp) =>
idxS a0_row.a a0_row.len 0 1 fun (p5 : Addr) =>
ldA (.int .i64) h4 p5 fun (t6 : Int) =>
Let (IntKind.wrap .i64 (t6 + 1) : Int) fun (t7 : Int) =>
idxS a0_row.a a0_row.len 0 1 fun (p8 : Addr) =>
((1 : Nat) = 1) ∧ (
stC h4 p8 (
Let (hset h4 p8 (.int .i64 t7)) fun (h9 : Hp) =>
∃ n, Lp (L1_lev_next a0_row a1_c a2_b K t1) n ((0, ()), h9)))

theorem F_lev_next_ok (a0_row : Sl) (a1_c : Int) (a2_b : ByteArray) (h : Hp) (K : Sl → Hp → Prop) (hF : F_lev_next a0_row a1_c a2_b h K) : C_lev_next a0_row a1_c a2_b h K := by
  have e : bodyVC Try.prog Try.f21 (.seq .no (.seq .no (.seq .no (.seq .no (.seq (.seq .no (.block (.loop [(23, .at (.int .i64))] (.seq .no (.seq (.cond .no .no) (.seq (.block (.seq .no (.seq .no (.join [(9, .at (.int .i64))] (.seq .no (.cond .no .no)) .no)))) .no)))))) (.seq .no .no)))))) (Option.getD Try.f21.body .skip) [.slice a0_row.a a0_row.len a0_row.cap, .int .u8 a1_c, .string a2_b] h [.at .sl] (fun s h => K s.1 h) = F_lev_next a0_row a1_c a2_b h K := by kernel_rfl
  exact fun_sound mixed Try.func21 rfl (e.mpr hF)

def L2_lev_table (a0_a : ByteArray) (a1_b : ByteArray) (t2 : Sl) (sL1 : (Int × Unit) × Hp) (R1 : (Int × Unit) × Hp → Prop) (sL2 : (Int × Unit) × Hp) (R2 : (Int × Unit) × Hp → Prop) : Prop :=
cnd (decide (sL2.1.1 ≥ 0)) (
idxS t2.a t2.len sL1.1.1 1 fun (p20 : Addr) =>
ldA .sl sL2.2 p20 fun (t21 : Sl) =>
Let (IntKind.wrap .i64 (sL1.1.1 + 1) : Int) fun (t22 : Int) =>
idxS t2.a t2.len t22 1 fun (p23 : Addr) =>
ldA .sl sL2.2 p23 fun (t24 : Sl) =>
Let (IntKind.wrap .i64 (sL2.1.1 + 1) : Int) fun (t25 : Int) =>
idxS t24.a t24.len t25 1 fun (p26 : Addr) =>
ldA (.int .i64) sL2.2 p26 fun (t27 : Int) =>
idxS t21.a t21.len sL2.1.1 1 fun (p28 : Addr) =>
((1 : Nat) = 1) ∧ (
stC sL2.2 p28 (
Let (hset sL2.2 p28 (.int .i64 t27)) fun (h29 : Hp) =>
idxStr a0_a sL1.1.1 fun (t30 : Int) =>
idxStr a1_b sL2.1.1 fun (t31 : Int) =>
cnd (t30 != t31) (
idxS t2.a t2.len sL1.1.1 1 fun (p32 : Addr) =>
ldA .sl h29 p32 fun (t33 : Sl) =>
Let (IntKind.wrap .i64 (sL1.1.1 + 1) : Int) fun (t34 : Int) =>
idxS t2.a t2.len t34 1 fun (p35 : Addr) =>
ldA .sl h29 p35 fun (t36 : Sl) =>
Let (IntKind.wrap .i64 (sL2.1.1 + 1) : Int) fun (t37 : Int) =>
idxS t36.a t36.len t37 1 fun (p38 : Addr) =>
ldA (.int .i64) h29 p38 fun (t39 : Int) =>
Let (IntKind.wrap .i64 (sL1.1.1 + 1) : Int) fun (t40 : Int) =>
idxS t2.a t2.len t40 1 fun (p41 : Addr) =>
ldA .sl h29 p41 fun (t42 : Sl) =>
idxS t42.a t42.len sL2.1.1 1 fun (p43 : Addr) =>
ldA (.int .i64) h29 p43 fun (t44 : Int) =>
idxS t2.a t2.len sL1.1.1 1 fun (p45 : Addr) =>
ldA .sl h29 p45 fun (t46 : Sl) =>
Let (IntKind.wrap .i64 (sL2.1.1 + 1) : Int) fun (t47 : Int) =>
idxS t46.a t46.len t47 1 fun (p48 : Addr) =>
ldA (.int .i64) h29 p48 fun (t49 : Int) =>
Let (if t44 < t39 then t44 else t39 : Int) fun (t50 : Int) =>
Let (if t49 < t50 then t49 else t50 : Int) fun (t51 : Int) =>
Let (IntKind.wrap .i64 ((1 : Int) + t51) : Int) fun (t52 : Int) =>
idxS t33.a t33.len sL2.1.1 1 fun (p53 : Addr) =>
((1 : Nat) = 1) ∧ (
stC h29 p53 (
Let (hset h29 p53 (.int .i64 t52)) fun (h54 : Hp) =>
Let (IntKind.wrap .i64 (sL2.1.1 - 1) : Int) fun (t55 : Int) =>
R2 ((t55, ()), h54)))) (
Let (IntKind.wrap .i64 (sL2.1.1 - 1) : Int) fun (t56 : Int) =>
R2 ((t56, ()), h29))))) (
Let (IntKind.wrap .i64 (sL1.1.1 - 1) : Int) fun (t57 : Int) =>
R1 ((t57, ()), sL2.2))
def L1_lev_table (a0_a : ByteArray) (a1_b : ByteArray) (K : Sl → Hp → Prop) (t2 : Sl) (sL1 : (Int × Unit) × Hp) (R1 : (Int × Unit) × Hp → Prop) : Prop :=
cnd (decide (sL1.1.1 ≥ 0)) (
Let (IntKind.wrap .i64 ((ByteArray.size a1_b : Int) + 1) : Int) fun (t9 : Int) =>
mkS 3 1 8 [.int .i64 0] t9 t9 sL1.2 fun (t10 : Sl) (h11 : Hp) =>
idxS t2.a t2.len sL1.1.1 1 fun (p12 : Addr) =>
((1 : Nat) = 1) ∧ (
stC h11 p12 (
Let (hset h11 p12 (.slice t10.a t10.len t10.cap)) fun (h13 : Hp) =>
idxS t2.a t2.len sL1.1.1 1 fun (p14 : Addr) =>
ldA .sl h13 p14 fun (t15 : Sl) =>
Let (IntKind.wrap .i64 ((ByteArray.size a0_a : Int) - sL1.1.1) : Int) fun (t16 : Int) =>
idxS t15.a t15.len (ByteArray.size a1_b : Int) 1 fun (p17 : Addr) =>
((1 : Nat) = 1) ∧ (
stC h13 p17 (
Let (hset h13 p17 (.int .i64 t16)) fun (h18 : Hp) =>
Let (IntKind.wrap .i64 ((ByteArray.size a1_b : Int) - 1) : Int) fun (t19 : Int) =>
∃ n, Lp (L2_lev_table a0_a a1_b t2 sL1 R1) n ((t19, ()), h18)))))) (
K t2 sL1.2)
def J1_lev_table (a0_a : ByteArray) (a1_b : ByteArray) (K : Sl → Hp → Prop) (t2 : Sl) (sJ1 : Unit) (hJ1 : Hp) : Prop :=
Let (IntKind.wrap .i64 ((ByteArray.size a0_a : Int) - 1) : Int) fun (t8 : Int) =>
∃ n, Lp (L1_lev_table a0_a a1_b K t2) n ((t8, ()), hJ1)
def L3_lev_table (a0_a : ByteArray) (a1_b : ByteArray) (t2 : Sl) (J1 : Unit → Hp → Prop) (t59 : Sl) (sL3 : (Int × Unit) × Hp) (R3 : (Int × Unit) × Hp → Prop) : Prop :=
cnd (decide (sL3.1.1 < (t59.len : Int))) (
idxS t2.a t2.len (ByteArray.size a0_a : Int) 1 fun (p60 : Addr) =>
ldA .sl sL3.2 p60 fun (t61 : Sl) =>
Let (IntKind.wrap .i64 ((ByteArray.size a1_b : Int) - sL3.1.1) : Int) fun (t62 : Int) =>
idxS t61.a t61.len sL3.1.1 1 fun (p63 : Addr) =>
((1 : Nat) = 1) ∧ (
stC sL3.2 p63 (
Let (hset sL3.2 p63 (.int .i64 t62)) fun (h64 : Hp) =>
Let (IntKind.wrap .i64 (sL3.1.1 + 1) : Int) fun (t65 : Int) =>
R3 ((t65, ()), h64)))) (
J1 (()) sL3.2)
def F_lev_table (a0_a : ByteArray) (a1_b : ByteArray) (h : Hp) (K : Sl → Hp → Prop) : Prop :=
Let (IntKind.wrap .i64 ((ByteArray.size a0_a : Int) + 1) : Int) fun (t1 : Int) =>
mkS 34 1 24 [.slice none 0 0] t1 t1 h fun (t2 : Sl) (h3 : Hp) =>
C_lev_first (ByteArray.size a1_b : Int) h3 fun (t4 : Sl) (h5 : Hp) =>
idxS t2.a t2.len (ByteArray.size a0_a : Int) 1 fun (p6 : Addr) =>
((1 : Nat) = 1) ∧ (
stC h5 p6 (
Let (hset h5 p6 (.slice t4.a t4.len t4.cap)) fun (h7 : Hp) =>
Jn (J1_lev_table a0_a a1_b K t2) fun (J1 : Unit → Hp → Prop) =>
idxS t2.a t2.len (ByteArray.size a0_a : Int) 1 fun (p58 : Addr) =>
ldA .sl h7 p58 fun (t59 : Sl) =>
∃ n, Lp (L3_lev_table a0_a a1_b t2 J1 t59) n ((0, ()), h7)))

theorem F_lev_table_ok (a0_a : ByteArray) (a1_b : ByteArray) (h : Hp) (K : Sl → Hp → Prop) (hF : F_lev_table a0_a a1_b h K) : C_lev_table a0_a a1_b h K := by
  have e : bodyVC Try.prog Try.f22 (.seq .no (.seq .no (.seq .no (.join [] (.seq .no (.block (.loop [(26, .at (.int .i64))] (.seq .no (.seq (.cond .no .no) (.seq (.block (.seq .no .no)) .no)))))) (.seq (.seq .no (.block (.loop [(7, .at (.int .i64))] (.seq (.seq .no (.cond .no .no)) (.seq (.block (.seq .no (.seq .no (.seq .no (.block (.loop [(8, .at (.int .i64))] (.seq (.seq .no (.cond .no .no)) (.seq (.block (.seq .no (.seq .no (.cond .no .no)))) .no)))))))) .no))))) (.seq .no .no)))))) (Option.getD Try.f22.body .skip) [.string a0_a, .string a1_b] h [.at .sl] (fun s h => K s.1 h) = F_lev_table a0_a a1_b h K := by kernel_rfl
  exact fun_sound mixed Try.func22 rfl (e.mpr hF)

def F_strings_Builder_WriteByte (a0_b : Option Addr) (a1_c : Int) (h : Hp) (K : Value → Hp → Prop) : Prop :=
C_strings_Builder_copyCheck a0_b h fun  (h1 : Hp) =>
someA a0_b fun (p2 : Addr) =>
ldA .sl h1 (Addr.add p2 1) fun (t3 : Sl) =>
Let (Array.push h1 (Obj.cells #[.int .u8 a1_c] 5)) fun (h4 : Hp) =>
Let (Addr.mk (Array.size h1) 0 none) fun (p5 : Addr) =>
appS 5 1 1 [.int .u8 0] t3.a t3.len t3.cap (.slice (some p5) 1 1) h4 fun (t6 : Sl) (h7 : Hp) =>
someA a0_b fun (p8 : Addr) =>
((1 : Nat) = 1) ∧ (
stC h7 (Addr.add p8 1) (
Let (hset h7 (Addr.add p8 1) (.slice t6.a t6.len t6.cap)) fun (h9 : Hp) =>
K .nilIface h9))

theorem F_strings_Builder_WriteByte_ok (a0_b : Option Addr) (a1_c : Int) (h : Hp) (K : Value → Hp → Prop) (hF : F_strings_Builder_WriteByte a0_b a1_c h K) : C_strings_Builder_WriteByte a0_b a1_c h K := by
  have e : bodyVC Try.prog Try.f23 (.seq .no (.seq .no (.seq .no (.seq .no .no)))) (Option.getD Try.f23.body .skip) [.pointer a0_b, .int .u8 a1_c] h [.at .raw] (fun s h => K s.1 h) = F_strings_Builder_WriteByte a0_b a1_c h K := by kernel_rfl
  exact fun_sound mixed Try.func23 rfl (e.mpr hF)

def F_strings_Builder_String (a0_b : Option Addr) (h : Hp) (K : ByteArray → Hp → Prop) : Prop :=
someA a0_b fun (p1 : Addr) =>
ldA .sl h (Addr.add p1 1) fun (t2 : Sl) =>
smV Try.prog (Builtin.unsafeSliceData_ #[41] 54 #[.slice t2.a t2.len t2.cap]) .ptr h fun (t3 : Option Addr) (h4 : Hp) =>
Ext h h4 ∧ (
someA a0_b fun (p5 : Addr) =>
ldA .sl h (Addr.add p5 1) fun (t6 : Sl) =>
smV Try.prog (Builtin.unsafeString_ #[54, 3] 9 #[.pointer t3, .int .i64 (t6.len : Int)]) .str h4 fun (t7 : ByteArray) (h8 : Hp) =>
K t7 h8)

theorem F_strings_Builder_String_ok (a0_b : Option Addr) (h : Hp) (K : ByteArray → Hp → Prop) (hF : F_strings_Builder_String a0_b h K) : C_strings_Builder_String a0_b h K := by
  have e : bodyVC Try.prog Try.f24 (.seq .no (.seq .no .no)) (Option.getD Try.f24.body .skip) [.pointer a0_b] h [.at .str] (fun s h => K s.1 h) = F_strings_Builder_String a0_b h K := by kernel_rfl
  exact fun_sound mixed Try.func24 rfl (e.mpr hF)

def F_strings_IndexByte (a0_s : ByteArray) (a1_c : Int) (h : Hp) (K : Int → Hp → Prop) : Prop :=
C_internal_stringslite_IndexByte a0_s a1_c h fun (t1 : Int) (h2 : Hp) =>
K t1 h2

theorem F_strings_IndexByte_ok (a0_s : ByteArray) (a1_c : Int) (h : Hp) (K : Int → Hp → Prop) (hF : F_strings_IndexByte a0_s a1_c h K) : C_strings_IndexByte a0_s a1_c h K := by
  have e : bodyVC Try.prog Try.f25 (.seq .no (.seq .no .no)) (Option.getD Try.f25.body .skip) [.string a0_s, .int .u8 a1_c] h [.at (.int .i64)] (fun s h => K s.1 h) = F_strings_IndexByte a0_s a1_c h K := by kernel_rfl
  exact fun_sound mixed Try.func25 rfl (e.mpr hF)

def J1_lev_band_step (p14 : Addr) (t17 : Int) (sL1 : (Int × Unit) × Hp) (R1 : (Int × Unit) × Hp → Prop) (sJ1 : Int × Unit) (hJ1 : Hp) : Prop :=
ldA .sl hJ1 (Addr.add p14 1) fun (t23 : Sl) =>
Let (if t17 < sJ1.1 then t17 else sJ1.1 : Int) fun (t24 : Int) =>
Let (Array.push hJ1 (Obj.cells #[.int .i64 t24] 3)) fun (h25 : Hp) =>
Let (Addr.mk (Array.size hJ1) 0 none) fun (p26 : Addr) =>
appS 3 1 8 [.int .i64 0] t23.a t23.len t23.cap (.slice (some p26) 1 1) h25 fun (t27 : Sl) (h28 : Hp) =>
((1 : Nat) = 1) ∧ (
stC h28 (Addr.add p14 1) (
Let (hset h28 (Addr.add p14 1) (.slice t27.a t27.len t27.cap)) fun (h29 : Hp) =>
Let (IntKind.wrap .i64 (sL1.1.1 + 1) : Int) fun (t30 : Int) =>
R1 ((t30, ()), h29)))
def J2_lev_band_step (p2 : Addr) (p14 : Addr) (t17 : Int) (sL1 : (Int × Unit) × Hp) (t22 : Int) (J1 : Int × Unit → Hp → Prop) (sJ2 : Int × Unit) (hJ2 : Hp) : Prop :=
ldA (.int .i64) hJ2 p2 fun (t31 : Int) =>
ldA .sl hJ2 (Addr.add p2 1) fun (t32 : Sl) =>
Let (IntKind.wrap .i64 (sL1.1.1 - 1) : Int) fun (t33 : Int) =>
C_lev_band_at t31 t32 t33 t17 hJ2 fun (t34 : Int) (h35 : Hp) =>
Ext hJ2 h35 ∧ (
Let (IntKind.wrap .i64 (t34 + sJ2.1) : Int) fun (t36 : Int) =>
ldA (.int .i64) hJ2 p14 fun (t37 : Int) =>
ldA .sl hJ2 (Addr.add p14 1) fun (t38 : Sl) =>
Let (IntKind.wrap .i64 (sL1.1.1 - 1) : Int) fun (t39 : Int) =>
C_lev_band_at t37 t38 t39 t17 h35 fun (t40 : Int) (h41 : Hp) =>
Let (IntKind.wrap .i64 (t40 + 1) : Int) fun (t42 : Int) =>
Let (if t36 < t22 then t36 else t22 : Int) fun (t43 : Int) =>
Let (if t42 < t43 then t42 else t43 : Int) fun (t44 : Int) =>
J1 (t44, ()) h41)
def L1_lev_band_step (a3_c : Int) (a4_b : ByteArray) (K : Int → Sl → Hp → Prop) (p2 : Addr) (p4 : Addr) (t8 : Int) (p14 : Addr) (t17 : Int) (sL1 : (Int × Unit) × Hp) (R1 : (Int × Unit) × Hp → Prop) : Prop :=
cnd (decide (sL1.1.1 ≤ t8)) (
ldA (.int .i64) sL1.2 p2 fun (t18 : Int) =>
ldA .sl sL1.2 (Addr.add p2 1) fun (t19 : Sl) =>
C_lev_band_at t18 t19 sL1.1.1 t17 sL1.2 fun (t20 : Int) (h21 : Hp) =>
Let (IntKind.wrap .i64 (t20 + 1) : Int) fun (t22 : Int) =>
Jn (J1_lev_band_step p14 t17 sL1 R1) fun (J1 : Int × Unit → Hp → Prop) =>
cnd (decide (sL1.1.1 > 0)) (
Jn (J2_lev_band_step p2 p14 t17 sL1 t22 J1) fun (J2 : Int × Unit → Hp → Prop) =>
Let (IntKind.wrap .i64 (sL1.1.1 - 1) : Int) fun (t45 : Int) =>
idxStr a4_b t45 fun (t46 : Int) =>
cnd (t46 == a3_c) (
J2 (0, ()) h21) (
J2 (1, ()) h21)) (
J1 (t22, ()) h21)) (
ldA (.int .i64) sL1.2 p14 fun (t47 : Int) =>
ldA .sl sL1.2 (Addr.add p14 1) fun (t48 : Sl) =>
stC sL1.2 p4 (
Let (hset sL1.2 p4 (.int .i64 t47)) fun (h49 : Hp) =>
stC h49 (Addr.add p4 1) (
Let (hset h49 (Addr.add p4 1) (.slice t48.a t48.len t48.cap)) fun (h50 : Hp) =>
ldA (.int .i64) h50 p4 fun (r51 : Int) =>
ldA .sl h50 (Addr.add p4 1) fun (r52 : Sl) =>
K r51 r52 h50)))
def F_lev_band_step (a0_x : Int) (a1_x : Sl) (a2_n : Int) (a3_c : Int) (a4_b : ByteArray) (a5_most : Int) (h : Hp) (K : Int → Sl → Hp → Prop) : Prop :=
Let (Array.push h (Obj.cells #[.int .i64 a0_x, .slice a1_x.a a1_x.len a1_x.cap] 50)) fun (h1 : Hp) =>
Let (Addr.mk (Array.size h) 0 none) fun (p2 : Addr) =>
Let (Array.push h1 (Obj.cells #[.int .i64 0, .slice none 0 0] 50)) fun (h3 : Hp) =>
Let (Addr.mk (Array.size h1) 0 none) fun (p4 : Addr) =>
Let (IntKind.wrap .i64 (a2_n - a5_most) : Int) fun (t5 : Int) =>
Let (if t5 > 0 then t5 else 0 : Int) fun (t6 : Int) =>
Let (IntKind.wrap .i64 (a2_n + a5_most) : Int) fun (t7 : Int) =>
Let (if t7 < (ByteArray.size a4_b : Int) then t7 else (ByteArray.size a4_b : Int) : Int) fun (t8 : Int) =>
Let (IntKind.wrap .i64 (t8 - t6) : Int) fun (t9 : Int) =>
Let (IntKind.wrap .i64 (t9 + 1) : Int) fun (t10 : Int) =>
mkS 3 1 8 [.int .i64 0] 0 t10 h3 fun (t11 : Sl) (h12 : Hp) =>
Let (Array.push h12 (Obj.cells #[.int .i64 0, .slice none 0 0] 50)) fun (h13 : Hp) =>
Let (Addr.mk (Array.size h12) 0 none) fun (p14 : Addr) =>
stC h13 p14 (
Let (hset h13 p14 (.int .i64 t6)) fun (h15 : Hp) =>
stC h15 (Addr.add p14 1) (
Let (hset h15 (Addr.add p14 1) (.slice t11.a t11.len t11.cap)) fun (h16 : Hp) =>
Let (IntKind.wrap .i64 (a5_most + 1) : Int) fun (t17 : Int) =>
∃ n, Lp (L1_lev_band_step a3_c a4_b K p2 p4 t8 p14 t17) n ((t6, ()), h16)))

theorem F_lev_band_step_ok (a0_x : Int) (a1_x : Sl) (a2_n : Int) (a3_c : Int) (a4_b : ByteArray) (a5_most : Int) (h : Hp) (K : Int → Sl → Hp → Prop) (hF : F_lev_band_step a0_x a1_x a2_n a3_c a4_b a5_most h K) : C_lev_band_step a0_x a1_x a2_n a3_c a4_b a5_most h K := by
  have e : bodyVC Try.prog Try.f26 (.seq .no (.seq .no (.seq .no (.seq .no (.seq (.seq .no (.block (.loop [(15, .at (.int .i64))] (.seq (.seq .no (.cond .no .no)) (.seq (.block (.seq .no (.join [(16, .at (.int .i64))] (.seq .no (.cond (.seq .no (.join [(17, .at (.int .i64))] (.seq .no (.cond .no .no)) .no)) .no)) .no))) .no))))) (.seq .no .no)))))) (Option.getD Try.f26.body .skip) [.agg #[.int .i64 a0_x, .slice a1_x.a a1_x.len a1_x.cap], .int .i64 a2_n, .int .u8 a3_c, .string a4_b, .int .i64 a5_most] h [.agg [(.int .i64), .sl]] (fun s h => K s.1.1 s.1.2.1 h) = F_lev_band_step a0_x a1_x a2_n a3_c a4_b a5_most h K := by kernel_rfl
  exact fun_sound mixed Try.func26 rfl (e.mpr hF)

def J1_lev_band_at (a2_i : Int) (K : Int → Hp → Prop) (p2 : Addr) (sJ1 : Unit) (hJ1 : Hp) : Prop :=
ldA .sl hJ1 (Addr.add p2 1) fun (t3 : Sl) =>
ldA (.int .i64) hJ1 p2 fun (t4 : Int) =>
Let (IntKind.wrap .i64 (a2_i - t4) : Int) fun (t5 : Int) =>
idxS t3.a t3.len t5 1 fun (p6 : Addr) =>
ldA (.int .i64) hJ1 p6 fun (t7 : Int) =>
K t7 hJ1
def F_lev_band_at (a0_x : Int) (a1_x : Sl) (a2_i : Int) (a3_far : Int) (h : Hp) (K : Int → Hp → Prop) : Prop :=
Let (Array.push h (Obj.cells #[.int .i64 a0_x, .slice a1_x.a a1_x.len a1_x.cap] 50)) fun (h1 : Hp) =>
Let (Addr.mk (Array.size h) 0 none) fun (p2 : Addr) =>
Jn (J1_lev_band_at a2_i K p2) fun (J1 : Unit → Hp → Prop) =>
ldA (.int .i64) h1 p2 fun (t8 : Int) =>
cnd (decide (a2_i < t8)) (
K a3_far h1) (
ldA (.int .i64) h1 p2 fun (t9 : Int) =>
ldA .sl h1 (Addr.add p2 1) fun (t10 : Sl) =>
Let (IntKind.wrap .i64 (t9 + (t10.len : Int)) : Int) fun (t11 : Int) =>
cnd (decide (a2_i ≥ t11)) (
K a3_far h1) (
J1 (()) h1))

theorem F_lev_band_at_ok (a0_x : Int) (a1_x : Sl) (a2_i : Int) (a3_far : Int) (h : Hp) (K : Int → Hp → Prop) (hF : F_lev_band_at a0_x a1_x a2_i a3_far h K) : C_lev_band_at a0_x a1_x a2_i a3_far h K := by
  have e : bodyVC Try.prog Try.f27 (.seq .no (.join [] (.seq .no (.cond (.seq .no .no) .no)) (.seq .no .no))) (Option.getD Try.f27.body .skip) [.agg #[.int .i64 a0_x, .slice a1_x.a a1_x.len a1_x.cap], .int .i64 a2_i, .int .i64 a3_far] h [.at (.int .i64)] (fun s h => K s.1 h) = F_lev_band_at a0_x a1_x a2_i a3_far h K := by kernel_rfl
  exact fun_sound mixed Try.func27 rfl (e.mpr hF)

def L1_ref08_count (a0_s : ByteArray) (a1_c : Int) (K : Int → Hp → Prop) (sL1 : (Int × Int × Unit) × Hp) (R1 : (Int × Int × Unit) × Hp → Prop) : Prop :=
cnd (decide (sL1.1.2.1 < (ByteArray.size a0_s : Int))) (
idxStr a0_s sL1.1.2.1 fun (t1 : Int) =>
Let (IntKind.wrap .i64 (t1) : Int) fun (t2 : Int) =>
cnd (t2 == a1_c) (
Let (IntKind.wrap .i64 (sL1.1.1 + 1) : Int) fun (t3 : Int) =>
Let (IntKind.wrap .i64 (sL1.1.2.1 + 1) : Int) fun (t4 : Int) =>
R1 ((t3, t4, ()), sL1.2)) (
Let (IntKind.wrap .i64 (sL1.1.2.1 + 1) : Int) fun (t5 : Int) =>
R1 ((sL1.1.1, t5, ()), sL1.2))) (
K sL1.1.1 sL1.2)
def F_ref08_count (a0_s : ByteArray) (a1_c : Int) (h : Hp) (K : Int → Hp → Prop) : Prop :=
∃ n, Lp (L1_ref08_count a0_s a1_c K) n ((0, 0, ()), h)

theorem F_ref08_count_ok (a0_s : ByteArray) (a1_c : Int) (h : Hp) (K : Int → Hp → Prop) (hF : F_ref08_count a0_s a1_c h K) : C_ref08_count a0_s a1_c h K := by
  have e : bodyVC Try.prog Try.f28 (.seq .no (.seq .no (.seq (.seq .no (.block (.loop [(5, .at (.int .i64)), (6, .at (.int .i64))] (.seq (.seq .no (.cond .no .no)) (.seq (.block (.seq .no (.cond .no .no))) .no))))) (.seq .no .no)))) (Option.getD Try.f28.body .skip) [.string a0_s, .int .i64 a1_c] h [.at (.int .i64)] (fun s h => K s.1 h) = F_ref08_count a0_s a1_c h K := by kernel_rfl
  exact fun_sound mixed Try.func28 rfl (e.mpr hF)

def F_strings_Builder_copyCheck (a0_b : Option Addr) (h : Hp) (K : Hp → Prop) : Prop :=
someA a0_b fun (p1 : Addr) =>
ldA .ptr h p1 fun (t2 : Option Addr) =>
cnd (Option.isNone t2) (
smV Try.prog (Conv.unsafePointer 40 55 (.pointer a0_b)) .ptr h fun (t3 : Option Addr) (h4 : Hp) =>
C_internal_abi_NoEscape t3 h4 fun (t5 : Option Addr) (h6 : Hp) =>
smV Try.prog (Conv.unsafePointer 55 40 (.pointer t5)) .ptr h6 fun (t7 : Option Addr) (h8 : Hp) =>
someA a0_b fun (p9 : Addr) =>
((1 : Nat) = 1) ∧ (
stC h8 p9 (
Let (hset h8 p9 (.pointer t7)) fun (h10 : Hp) =>
K h10))) (
someA a0_b fun (p11 : Addr) =>
ldA .ptr h p11 fun (t12 : Option Addr) =>
eqPA t12 a0_b fun (t13 : Bool) =>
cnd (!t13) (
False) (
K h))

theorem F_strings_Builder_copyCheck_ok (a0_b : Option Addr) (h : Hp) (K : Hp → Prop) (hF : F_strings_Builder_copyCheck a0_b h K) : C_strings_Builder_copyCheck a0_b h K := by
  have e : bodyVC Try.prog Try.f29 (.seq .no (.cond .no (.seq .no (.cond .no .no)))) (Option.getD Try.f29.body .skip) [.pointer a0_b] h [] (fun s h => K h) = F_strings_Builder_copyCheck a0_b h K := by kernel_rfl
  exact fun_sound mixed Try.func29 rfl (e.mpr hF)

def F_internal_stringslite_IndexByte (a0_s : ByteArray) (a1_c : Int) (h : Hp) (K : Int → Hp → Prop) : Prop :=
C_internal_bytealg_IndexByteString a0_s a1_c h fun (t1 : Int) (h2 : Hp) =>
K t1 h2

theorem F_internal_stringslite_IndexByte_ok (a0_s : ByteArray) (a1_c : Int) (h : Hp) (K : Int → Hp → Prop) (hF : F_internal_stringslite_IndexByte a0_s a1_c h K) : C_internal_stringslite_IndexByte a0_s a1_c h K := by
  have e : bodyVC Try.prog Try.f30 (.seq .no (.seq .no .no)) (Option.getD Try.f30.body .skip) [.string a0_s, .int .u8 a1_c] h [.at (.int .i64)] (fun s h => K s.1 h) = F_internal_stringslite_IndexByte a0_s a1_c h K := by kernel_rfl
  exact fun_sound mixed Try.func30 rfl (e.mpr hF)

end Go.Proofs.YtbfjigemklbjfaaF
