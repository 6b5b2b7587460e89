/- The formulas of the seat's functions and the proofs that they are enough, printed by gen.py of this session. No condition. -/
import Derived.Test.YtibaekemfefoaaaProg
import Derived.Test.YtibaekemfefoaaaK7
namespace Go.Proofs.YtibaekemfefoaaaF
open Go Go.Proofs.YtibaekemfefoaaaK Go.Proofs
set_option linter.unusedVariables false
set_option maxRecDepth 100000
theorem mixed : Try.prog.follows .mixedOrders = true := by kernel_rfl
def C_gosem_cut  (h : Hp) (K : Hp → Prop) : Prop :=
  ExtT Try.prog 1 [] [] h fun s h => K h
def C_gosem_cut_init  (h : Hp) (K : Hp → Prop) : Prop :=
  CallT Try.prog 2 [] [] h fun s h => K h
def C_law09_MetricHolds (a0_n : Int) (a1_size : Int) (a2_l : Int) (a3_l : Sl) (a4_l : ByteArray) (a5_l : Int) (a6_l : Sl) (a7_l : ByteArray) (a8_l : Int) (a9_l : Sl) (a10_l : ByteArray) (h : Hp) (K : Bool → Hp → Prop) : Prop :=
  CallT Try.prog 3 [.int .i64 a0_n, .int .i64 a1_size, .agg #[.int .i64 a2_l, .slice a3_l.a a3_l.len a3_l.cap, .string a4_l, .int .i64 a5_l, .slice a6_l.a a6_l.len a6_l.cap, .string a7_l, .int .i64 a8_l, .slice a9_l.a a9_l.len a9_l.cap, .string a10_l]] [.at .bool] h fun s h => K s.1 h
def C_ref05_Right (a0_x : Int) (a1_x : Sl) (a2_x : ByteArray) (a3_metric : Int) (a4_size : Int) (h : Hp) (K : Bool → Hp → Prop) : Prop :=
  CallT Try.prog 4 [.agg #[.int .i64 a0_x, .slice a1_x.a a1_x.len a1_x.cap, .string a2_x], .int .i64 a3_metric, .int .i64 a4_size] [.at .bool] h fun s h => K s.1 h
def C_ref09_Short (a0_l : Sl) (a1_most : Int) (h : Hp) (K : Bool → Hp → Prop) : Prop :=
  CallT Try.prog 5 [.slice a0_l.a a0_l.len a0_l.cap, .int .i64 a1_most] [.at .bool] h fun s h => K s.1 h
def C_law09_lives  (h : Hp) (K : Bool → Hp → Prop) : Prop :=
  CallT Try.prog 6 [] [.at .bool] h fun s h => K s.1 h
def C_metric_Dist (a0_metric : Int) (a1_x : Int) (a2_x : Sl) (a3_x : ByteArray) (a4_y : Int) (a5_y : Sl) (a6_y : ByteArray) (h : Hp) (K : Int → Hp → Prop) : Prop :=
  CallT Try.prog 7 [.int .i64 a0_metric, .agg #[.int .i64 a1_x, .slice a2_x.a a2_x.len a2_x.cap, .string a3_x], .agg #[.int .i64 a4_y, .slice a5_y.a a5_y.len a5_y.cap, .string a6_y]] [.at (.int .i64)] h fun s h => K s.1 h
def C_ref05_Same (a0_x : Int) (a1_x : Sl) (a2_x : ByteArray) (a3_y : Int) (a4_y : Sl) (a5_y : ByteArray) (h : Hp) (K : Bool → Hp → Prop) : Prop :=
  CallT Try.prog 8 [.agg #[.int .i64 a0_x, .slice a1_x.a a1_x.len a1_x.cap, .string a2_x], .agg #[.int .i64 a3_y, .slice a4_y.a a4_y.len a4_y.cap, .string a5_y]] [.at .bool] h fun s h => K s.1 h
def C_metric_Least (a0_metric : Int) (a1_x : Int) (a2_x : Sl) (a3_x : ByteArray) (a4_y : Int) (a5_y : Sl) (a6_y : ByteArray) (h : Hp) (K : Int → Hp → Prop) : Prop :=
  CallT Try.prog 9 [.int .i64 a0_metric, .agg #[.int .i64 a1_x, .slice a2_x.a a2_x.len a2_x.cap, .string a3_x], .agg #[.int .i64 a4_y, .slice a5_y.a a5_y.len a5_y.cap, .string a6_y]] [.at (.int .i64)] h fun s h => K s.1 h
def C_metric_New (a0_metric : Int) (h : Hp) (K : Option Addr → Hp → Prop) : Prop :=
  CallT Try.prog 10 [.int .i64 a0_metric] [.at .ptr] h fun s h => K s.1 h
def C_metric_Meter_Dist (a0_m : Option Addr) (a1_x : Int) (a2_x : Sl) (a3_x : ByteArray) (a4_y : Int) (a5_y : Sl) (a6_y : ByteArray) (h : Hp) (K : Int → Hp → Prop) : Prop :=
  CallT Try.prog 11 [.pointer a0_m, .agg #[.int .i64 a1_x, .slice a2_x.a a2_x.len a2_x.cap, .string a3_x], .agg #[.int .i64 a4_y, .slice a5_y.a a5_y.len a5_y.cap, .string a6_y]] [.at (.int .i64)] h fun s h => K s.1 h
def C_metric_Meter_Calls (a0_m : Option Addr) (h : Hp) (K : Int → Hp → Prop) : Prop :=
  CallT Try.prog 12 [.pointer a0_m] [.at (.int .i64)] h fun s h => K s.1 h
def C_metric_Meter_Metric (a0_m : Option Addr) (h : Hp) (K : Int → Hp → Prop) : Prop :=
  CallT Try.prog 13 [.pointer a0_m] [.at (.int .i64)] h fun s h => K s.1 h
def C_lone_Dist (a0_a : Sl) (a1_b : Sl) (h : Hp) (K : Int → Hp → Prop) : Prop :=
  CallT Try.prog 14 [.slice a0_a.a a0_a.len a0_a.cap, .slice a1_b.a a1_b.len a1_b.cap] [.at (.int .i64)] h fun s h => K s.1 h
def C_ham_Dist (a0_a : ByteArray) (a1_b : ByteArray) (h : Hp) (K : Int → Hp → Prop) : Prop :=
  CallT Try.prog 15 [.string a0_a, .string a1_b] [.at (.int .i64)] h fun s h => K s.1 h
def C_lev_Dist (a0_a : ByteArray) (a1_b : ByteArray) (h : Hp) (K : Int → Hp → Prop) : Prop :=
  CallT Try.prog 16 [.string a0_a, .string a1_b] [.at (.int .i64)] h fun s h => K s.1 h
def C_ref05_Less (a0_x : Int) (a1_x : Sl) (a2_x : ByteArray) (a3_y : Int) (a4_y : Sl) (a5_y : ByteArray) (h : Hp) (K : Bool → Hp → Prop) : Prop :=
  CallT Try.prog 17 [.agg #[.int .i64 a0_x, .slice a1_x.a a1_x.len a1_x.cap, .string a2_x], .agg #[.int .i64 a3_y, .slice a4_y.a a4_y.len a4_y.cap, .string a5_y]] [.at .bool] h fun s h => K s.1 h
def C_lone_Least (a0_a : Sl) (a1_b : Sl) (h : Hp) (K : Int → Hp → Prop) : Prop :=
  CallT Try.prog 18 [.slice a0_a.a a0_a.len a0_a.cap, .slice a1_b.a a1_b.len a1_b.cap] [.at (.int .i64)] h fun s h => K s.1 h
def C_lev_Least (a0_a : ByteArray) (a1_b : ByteArray) (h : Hp) (K : Int → Hp → Prop) : Prop :=
  CallT Try.prog 19 [.string a0_a, .string a1_b] [.at (.int .i64)] h fun s h => K s.1 h
def C_lone_places (a0_a : Sl) (a1_b : Sl) (h : Hp) (K : Value → Hp → Prop) : Prop :=
  CallT Try.prog 20 [.slice a0_a.a a0_a.len a0_a.cap, .slice a1_b.a a1_b.len a1_b.cap] [.at .raw] h fun s h => K s.1 h
def C_ham_longer (a0_a : ByteArray) (a1_b : ByteArray) (h : Hp) (K : Int → Hp → Prop) : Prop :=
  CallT Try.prog 21 [.string a0_a, .string a1_b] [.at (.int .i64)] h fun s h => K s.1 h
def C_ham_Places (a0_a : ByteArray) (a1_b : ByteArray) (h : Hp) (K : Sl → Hp → Prop) : Prop :=
  CallT Try.prog 22 [.string a0_a, .string a1_b] [.at .sl] h fun s h => K s.1 h
def C_lev_Trim (a0_a : ByteArray) (a1_b : ByteArray) (h : Hp) (K : ByteArray → ByteArray → Hp → Prop) : Prop :=
  CallT Try.prog 23 [.string a0_a, .string a1_b] [.at .str, .at .str] h fun s h => K s.1 s.2.1 h
def C_lev_first (a0_n : Int) (h : Hp) (K : Sl → Hp → Prop) : Prop :=
  CallT Try.prog 24 [.int .i64 a0_n] [.at .sl] h fun s h => K s.1 h
def C_lev_next (a0_row : Sl) (a1_c : Int) (a2_b : ByteArray) (h : Hp) (K : Sl → Hp → Prop) : Prop :=
  CallT Try.prog 25 [.slice a0_row.a a0_row.len a0_row.cap, .int .u8 a1_c, .string a2_b] [.at .sl] h fun s h => K s.1 h
def C_lone_Norm (a0_a : Sl) (h : Hp) (K : Int → Hp → Prop) : Prop :=
  CallT Try.prog 26 [.slice a0_a.a a0_a.len a0_a.cap] [.at (.int .i64)] h fun s h => K s.1 h
def C_lone_places_1 (a0_yield : Value) (a1_t : Option Addr) (a2_t : Option Addr) (h : Hp) (K : Hp → Prop) : Prop :=
  CallT Try.prog 27 [a0_yield, .pointer a1_t, .pointer a2_t] [] h fun s h => K h
def C_lone_apart (a0_x : Int) (a1_y : Int) (h : Hp) (K : Int → Hp → Prop) : Prop :=
  CallT Try.prog 28 [.int .i32 a0_x, .int .i32 a1_y] [.at (.int .i64)] h fun s h => K s.1 h
def C_lone_at (a0_a : Sl) (a1_i : Int) (h : Hp) (K : Int → Hp → Prop) : Prop :=
  CallT Try.prog 29 [.slice a0_a.a a0_a.len a0_a.cap, .int .i64 a1_i] [.at (.int .i32)] h fun s h => K s.1 h
abbrev T_ : TypeId := 0
abbrev T_func : TypeId := 1
abbrev T_int64 : TypeId := 2
abbrev T_int : TypeId := 3
abbrev T_bool : TypeId := 4
abbrev T_uint8 : TypeId := 5
abbrev T_abi_BoundsErrorCode : TypeId := 6
abbrev T_struct_x_int64_y_int_signed_bool_code_abi_BoundsErrorCode : TypeId := 7
abbrev T_runtime_boundsError : TypeId := 8
abbrev T_string : TypeId := 9
abbrev T_runtime_errorString : TypeId := 10
abbrev T_runtime_plainError : TypeId := 11
abbrev T_uintptr : TypeId := 12
abbrev T_struct_msg_string_addr_uintptr : TypeId := 13
abbrev T_runtime_errorAddressString : TypeId := 14
abbrev T_Pruntime_TypeAssertionError : TypeId := 15
abbrev T_Pruntime_PanicNilError : TypeId := 16
abbrev T_Pabi_Type : TypeId := 17
abbrev T_struct_typ_Pabi_Type : TypeId := 18
abbrev T_maps_unhashableTypeError : TypeId := 19
abbrev T_interface : TypeId := 20
abbrev T_int32 : TypeId := 21
abbrev T_Sint32 : TypeId := 22
abbrev T_struct_Tag_int_Vec_Sint32_Str_string : TypeId := 23
abbrev T_api_Object : TypeId := 24
abbrev T_3_api_Object : TypeId := 25
abbrev T_func_api_Object_int_int_bool : TypeId := 26
abbrev T_func_Sapi_Object_int_bool : TypeId := 27
abbrev T_Sapi_Object : TypeId := 28
abbrev T_func_bool : TypeId := 29
abbrev T_func_int_api_Object_api_Object_int : TypeId := 30
abbrev T_func_api_Object_api_Object_bool : TypeId := 31
abbrev T_func_int_int_3_api_Object_bool : TypeId := 32
abbrev T_Pmetric_Meter : TypeId := 33
abbrev T_func_int_Pmetric_Meter : TypeId := 34
abbrev T_func_api_Object_api_Object_int : TypeId := 35
abbrev T_func_int : TypeId := 36
abbrev T_func_Sint32_Sint32_int : TypeId := 37
abbrev T_func_string_string_int : TypeId := 38
abbrev T_struct_metric_int_calls_int : TypeId := 39
abbrev T_metric_Meter : TypeId := 40
abbrev T_func_func_int_bool : TypeId := 41
abbrev T_iter_Seq_int : TypeId := 42
abbrev T_func_Sint32_Sint32_iter_Seq_int : TypeId := 43
abbrev T_Sint : TypeId := 44
abbrev T_func_string_string_Sint : TypeId := 45
abbrev T_string_string : TypeId := 46
abbrev T_func_string_string_string_string : TypeId := 47
abbrev T_func_int_Sint : TypeId := 48
abbrev T_func_Sint_uint8_string_Sint : TypeId := 49
abbrev T_func_Sint32_int : TypeId := 50
abbrev T_256_int : TypeId := 51
abbrev T_func_int_bool : TypeId := 52
abbrev T_func_int32_int32_int : TypeId := 53
abbrev T_func_Sint32_int_int32 : TypeId := 54
abbrev T_func_string : TypeId := 55
abbrev T_runtime_TypeAssertionError : TypeId := 57
abbrev T_0_Pruntime_PanicNilError : TypeId := 58
abbrev T_struct_0_Pruntime_PanicNilError : TypeId := 59
abbrev T_runtime_PanicNilError : TypeId := 60
abbrev T_uint32 : TypeId := 61
abbrev T_abi_TFlag : TypeId := 62
abbrev T_abi_Kind : TypeId := 63
abbrev T_func_unsafe_Pointer_unsafe_Pointer_bool : TypeId := 64
abbrev T_Puint8 : TypeId := 65
abbrev T_abi_NameOff : TypeId := 66
abbrev T_abi_TypeOff : TypeId := 67
abbrev T_abi_Type : TypeId := 69
abbrev T_unsafe_Pointer : TypeId := 70
def F_gosem_cut_init  (h : Hp) (K : Hp → Prop) : Prop :=
C_gosem_cut  h fun  (h1 : Hp) =>
K h1

theorem F_gosem_cut_init_ok  (h : Hp) (K : Hp → Prop) (hF : F_gosem_cut_init  h K) : C_gosem_cut_init  h K := by
  have e : bodyVC Try.prog Try.f2 .no (Option.getD Try.f2.body .skip) [] h [] (fun s h => K h) = F_gosem_cut_init  h K := by kernel_rfl
  exact fun_sound mixed Try.func2 rfl (e.mpr hF)

def J2_law09_MetricHolds (a0_n : Int) (K : Bool → Hp → Prop) (sR1 : (Option Addr) × (Option Addr) × (Option Addr) × Unit) (sJ2 : Bool × Unit) (hJ2 : Hp) : Prop :=
cnd sJ2.1 (
C_law09_lives  hJ2 fun (t4 : Bool) (h5 : Hp) =>
K t4 h5) (
someA sR1.1 fun (p6 : Addr) =>
ldA (.int .i64) hJ2 p6 fun (t7 : Int) =>
ldA .sl hJ2 (Addr.add p6 1) fun (t8 : Sl) =>
ldA .str hJ2 (Addr.add p6 2) fun (t9 : ByteArray) =>
someA sR1.2.1 fun (p10 : Addr) =>
ldA (.int .i64) hJ2 p10 fun (t11 : Int) =>
ldA .sl hJ2 (Addr.add p10 1) fun (t12 : Sl) =>
ldA .str hJ2 (Addr.add p10 2) fun (t13 : ByteArray) =>
C_metric_Dist a0_n t7 t8 t9 t11 t12 t13 hJ2 fun (t14 : Int) (h15 : Hp) =>
someA sR1.1 fun (p16 : Addr) =>
ldA (.int .i64) h15 p16 fun (t17 : Int) =>
ldA .sl h15 (Addr.add p16 1) fun (t18 : Sl) =>
ldA .str h15 (Addr.add p16 2) fun (t19 : ByteArray) =>
someA sR1.2.1 fun (p20 : Addr) =>
ldA (.int .i64) h15 p20 fun (t21 : Int) =>
ldA .sl h15 (Addr.add p20 1) fun (t22 : Sl) =>
ldA .str h15 (Addr.add p20 2) fun (t23 : ByteArray) =>
C_ref05_Same t17 t18 t19 t21 t22 t23 h15 fun (t24 : Bool) (h25 : Hp) =>
cnd ((t14 == 0) == t24) (
cnd (decide (t14 ≥ 0)) (
cnd (decide (t14 ≤ 1125899906842624)) (
someA sR1.2.1 fun (p26 : Addr) =>
ldA (.int .i64) h25 p26 fun (t27 : Int) =>
ldA .sl h25 (Addr.add p26 1) fun (t28 : Sl) =>
ldA .str h25 (Addr.add p26 2) fun (t29 : ByteArray) =>
someA sR1.1 fun (p30 : Addr) =>
ldA (.int .i64) h25 p30 fun (t31 : Int) =>
ldA .sl h25 (Addr.add p30 1) fun (t32 : Sl) =>
ldA .str h25 (Addr.add p30 2) fun (t33 : ByteArray) =>
C_metric_Dist a0_n t27 t28 t29 t31 t32 t33 h25 fun (t34 : Int) (h35 : Hp) =>
cnd (t14 == t34) (
someA sR1.1 fun (p36 : Addr) =>
ldA (.int .i64) h35 p36 fun (t37 : Int) =>
ldA .sl h35 (Addr.add p36 1) fun (t38 : Sl) =>
ldA .str h35 (Addr.add p36 2) fun (t39 : ByteArray) =>
someA sR1.2.2.1 fun (p40 : Addr) =>
ldA (.int .i64) h35 p40 fun (t41 : Int) =>
ldA .sl h35 (Addr.add p40 1) fun (t42 : Sl) =>
ldA .str h35 (Addr.add p40 2) fun (t43 : ByteArray) =>
C_metric_Dist a0_n t37 t38 t39 t41 t42 t43 h35 fun (t44 : Int) (h45 : Hp) =>
Ext h35 h45 ∧ (
someA sR1.2.2.1 fun (p46 : Addr) =>
ldA (.int .i64) h35 p46 fun (t47 : Int) =>
ldA .sl h35 (Addr.add p46 1) fun (t48 : Sl) =>
ldA .str h35 (Addr.add p46 2) fun (t49 : ByteArray) =>
someA sR1.2.1 fun (p50 : Addr) =>
ldA (.int .i64) h35 p50 fun (t51 : Int) =>
ldA .sl h35 (Addr.add p50 1) fun (t52 : Sl) =>
ldA .str h35 (Addr.add p50 2) fun (t53 : ByteArray) =>
C_metric_Dist a0_n t47 t48 t49 t51 t52 t53 h45 fun (t54 : Int) (h55 : Hp) =>
Let (IntKind.wrap .i64 (t44 + t54) : Int) fun (t56 : Int) =>
cnd (decide (t14 ≤ t56)) (
someA sR1.1 fun (p57 : Addr) =>
ldA (.int .i64) h55 p57 fun (t58 : Int) =>
ldA .sl h55 (Addr.add p57 1) fun (t59 : Sl) =>
ldA .str h55 (Addr.add p57 2) fun (t60 : ByteArray) =>
someA sR1.2.1 fun (p61 : Addr) =>
ldA (.int .i64) h55 p61 fun (t62 : Int) =>
ldA .sl h55 (Addr.add p61 1) fun (t63 : Sl) =>
ldA .str h55 (Addr.add p61 2) fun (t64 : ByteArray) =>
C_metric_Least a0_n t58 t59 t60 t62 t63 t64 h55 fun (t65 : Int) (h66 : Hp) =>
cnd (decide (t65 ≤ t14)) (
C_law09_lives  h66 fun (t67 : Bool) (h68 : Hp) =>
K t67 h68) (
K false h66)) (
K false h55))) (
K false h35)) (
K false h25)) (
K false h25)) (
K false h25))
def F_law09_MetricHolds (a0_n : Int) (a1_size : Int) (a2_l : Int) (a3_l : Sl) (a4_l : ByteArray) (a5_l : Int) (a6_l : Sl) (a7_l : ByteArray) (a8_l : Int) (a9_l : Sl) (a10_l : ByteArray) (h : Hp) (K : Bool → Hp → Prop) : Prop :=
Let (Array.push h (Obj.cells #[.int .i64 a2_l, .slice a3_l.a a3_l.len a3_l.cap, .string a4_l, .int .i64 a5_l, .slice a6_l.a a6_l.len a6_l.cap, .string a7_l, .int .i64 a8_l, .slice a9_l.a a9_l.len a9_l.cap, .string a10_l] 25)) fun (h1 : Hp) =>
Let (Addr.mk (Array.size h) 0 none) fun (p2 : Addr) =>
RegW Try.prog 95 (Option.getD (regOps (Option.getD Try.f3.body .skip) 1) #[]) [(5, some (.pointer (some p2)))] h1 [(7, .at .ptr), (8, .at .ptr), (9, .at .ptr)] fun (sR1 : (Option Addr) × (Option Addr) × (Option Addr) × Unit) (h3 : Hp) =>
Jn (J2_law09_MetricHolds a0_n K sR1) fun (J2 : Bool × Unit → Hp → Prop) =>
someA sR1.1 fun (p69 : Addr) =>
ldA (.int .i64) h3 p69 fun (t70 : Int) =>
ldA .sl h3 (Addr.add p69 1) fun (t71 : Sl) =>
ldA .str h3 (Addr.add p69 2) fun (t72 : ByteArray) =>
C_ref05_Right t70 t71 t72 a0_n a1_size h3 fun (t73 : Bool) (h74 : Hp) =>
cnd (!t73) (
J2 (true, ()) h74) (
someA sR1.2.1 fun (p75 : Addr) =>
ldA (.int .i64) h74 p75 fun (t76 : Int) =>
ldA .sl h74 (Addr.add p75 1) fun (t77 : Sl) =>
ldA .str h74 (Addr.add p75 2) fun (t78 : ByteArray) =>
C_ref05_Right t76 t77 t78 a0_n a1_size h74 fun (t79 : Bool) (h80 : Hp) =>
cnd (!t79) (
J2 (true, ()) h80) (
someA sR1.2.2.1 fun (p81 : Addr) =>
ldA (.int .i64) h80 p81 fun (t82 : Int) =>
ldA .sl h80 (Addr.add p81 1) fun (t83 : Sl) =>
ldA .str h80 (Addr.add p81 2) fun (t84 : ByteArray) =>
C_ref05_Right t82 t83 t84 a0_n a1_size h80 fun (t85 : Bool) (h86 : Hp) =>
cnd (!t85) (
J2 (true, ()) h86) (
someA sR1.1 fun (p87 : Addr) =>
ldA (.int .i64) h86 p87 fun (t88 : Int) =>
ldA .sl h86 (Addr.add p87 1) fun (t89 : Sl) =>
ldA .str h86 (Addr.add p87 2) fun (t90 : ByteArray) =>
someA sR1.2.1 fun (p91 : Addr) =>
ldA (.int .i64) h86 p91 fun (t92 : Int) =>
ldA .sl h86 (Addr.add p91 1) fun (t93 : Sl) =>
ldA .str h86 (Addr.add p91 2) fun (t94 : ByteArray) =>
someA sR1.2.2.1 fun (p95 : Addr) =>
ldA (.int .i64) h86 p95 fun (t96 : Int) =>
ldA .sl h86 (Addr.add p95 1) fun (t97 : Sl) =>
ldA .str h86 (Addr.add p95 2) fun (t98 : ByteArray) =>
Let (Array.push h86 (Obj.cells #[.int .i64 t88, .slice t89.a t89.len t89.cap, .string t90, .int .i64 t92, .slice t93.a t93.len t93.cap, .string t94, .int .i64 t96, .slice t97.a t97.len t97.cap, .string t98] 24)) fun (h99 : Hp) =>
Let (Addr.mk (Array.size h86) 0 none) fun (p100 : Addr) =>
C_ref09_Short (Sl.mk (some p100) 3 3) 120 h99 fun (t101 : Bool) (h102 : Hp) =>
J2 (!t101, ()) h102)))

theorem F_law09_MetricHolds_ok (a0_n : Int) (a1_size : Int) (a2_l : Int) (a3_l : Sl) (a4_l : ByteArray) (a5_l : Int) (a6_l : Sl) (a7_l : ByteArray) (a8_l : Int) (a9_l : Sl) (a10_l : ByteArray) (h : Hp) (K : Bool → Hp → Prop) (hF : F_law09_MetricHolds a0_n a1_size a2_l a3_l a4_l a5_l a6_l a7_l a8_l a9_l a10_l h K) : C_law09_MetricHolds a0_n a1_size a2_l a3_l a4_l a5_l a6_l a7_l a8_l a9_l a10_l h K := by
  have e : bodyVC Try.prog Try.f3 (.seq .no (.seq (.sem [5] [(7, .at .ptr), (8, .at .ptr), (9, .at .ptr)]) (.seq (.join [(43, .at .bool)] .no (.cond (.seq .no .no) .no)) (.seq .no (.seq .no .no))))) (Option.getD Try.f3.body .skip) [.int .i64 a0_n, .int .i64 a1_size, .agg #[.int .i64 a2_l, .slice a3_l.a a3_l.len a3_l.cap, .string a4_l, .int .i64 a5_l, .slice a6_l.a a6_l.len a6_l.cap, .string a7_l, .int .i64 a8_l, .slice a9_l.a a9_l.len a9_l.cap, .string a10_l]] h [.at .bool] (fun s h => K s.1 h) = F_law09_MetricHolds a0_n a1_size a2_l a3_l a4_l a5_l a6_l a7_l a8_l a9_l a10_l h K := by kernel_rfl
  exact fun_sound mixed Try.func3 rfl (e.mpr hF)

def J1_ref05_Right (a3_metric : Int) (a4_size : Int) (K : Bool → Hp → Prop) (p2 : Addr) (sJ1 : Unit) (hJ1 : Hp) : Prop :=
cnd (a3_metric == 1) (
ldA (.int .i64) hJ1 p2 fun (t3 : Int) =>
cnd (t3 == 1) (
ldA .sl hJ1 (Addr.add p2 1) fun (t4 : Sl) =>
cnd ((t4.len : Int) == a4_size) (
ldA .str hJ1 (Addr.add p2 2) fun (t5 : ByteArray) =>
K ((ByteArray.size t5 : Int) == 0) hJ1) (
K false hJ1)) (
K false hJ1)) (
cnd (a3_metric == 2) (
ldA (.int .i64) hJ1 p2 fun (t6 : Int) =>
cnd (t6 == 2) (
ldA .str hJ1 (Addr.add p2 2) fun (t7 : ByteArray) =>
cnd ((ByteArray.size t7 : Int) == a4_size) (
ldA .sl hJ1 (Addr.add p2 1) fun (t8 : Sl) =>
K ((t8.len : Int) == 0) hJ1) (
K false hJ1)) (
K false hJ1)) (
cnd (a3_metric == 3) (
ldA (.int .i64) hJ1 p2 fun (t9 : Int) =>
cnd (t9 == 2) (
ldA .str hJ1 (Addr.add p2 2) fun (t10 : ByteArray) =>
cnd (decide ((ByteArray.size t10 : Int) ≤ a4_size)) (
ldA .sl hJ1 (Addr.add p2 1) fun (t11 : Sl) =>
K ((t11.len : Int) == 0) hJ1) (
K false hJ1)) (
K false hJ1)) (
K false hJ1)))
def F_ref05_Right (a0_x : Int) (a1_x : Sl) (a2_x : ByteArray) (a3_metric : Int) (a4_size : Int) (h : Hp) (K : Bool → Hp → Prop) : Prop :=
Let (Array.push h (Obj.cells #[.int .i64 a0_x, .slice a1_x.a a1_x.len a1_x.cap, .string a2_x] 24)) fun (h1 : Hp) =>
Let (Addr.mk (Array.size h) 0 none) fun (p2 : Addr) =>
Jn (J1_ref05_Right a3_metric a4_size K p2) fun (J1 : Unit → Hp → Prop) =>
cnd (decide (a4_size < 0)) (
K false h1) (
cnd (decide (a4_size > 65536)) (
K false h1) (
J1 (()) h1))

theorem F_ref05_Right_ok (a0_x : Int) (a1_x : Sl) (a2_x : ByteArray) (a3_metric : Int) (a4_size : Int) (h : Hp) (K : Bool → Hp → Prop) (hF : F_ref05_Right a0_x a1_x a2_x a3_metric a4_size h K) : C_ref05_Right a0_x a1_x a2_x a3_metric a4_size h K := by
  have e : bodyVC Try.prog Try.f4 (.seq .no (.join [] (.seq .no (.cond (.seq .no .no) .no)) (.seq (.seq .no (.cond (.seq .no .no) .no)) (.seq (.seq .no (.cond (.seq .no .no) .no)) (.seq .no .no))))) (Option.getD Try.f4.body .skip) [.agg #[.int .i64 a0_x, .slice a1_x.a a1_x.len a1_x.cap, .string a2_x], .int .i64 a3_metric, .int .i64 a4_size] h [.at .bool] (fun s h => K s.1 h) = F_ref05_Right a0_x a1_x a2_x a3_metric a4_size h K := by kernel_rfl
  exact fun_sound mixed Try.func4 rfl (e.mpr hF)

def L1_ref09_Short (a0_l : Sl) (a1_most : Int) (K : Bool → Hp → Prop) (sL1 : (Int × Unit) × Hp) (R1 : (Int × Unit) × Hp → Prop) : Prop :=
cnd (decide (sL1.1.1 < (a0_l.len : Int))) (
idxS a0_l.a a0_l.len sL1.1.1 3 fun (p1 : Addr) =>
ldA .str sL1.2 (Addr.add p1 2) fun (t2 : ByteArray) =>
cnd (decide ((ByteArray.size t2 : Int) > a1_most)) (
K false sL1.2) (
idxS a0_l.a a0_l.len sL1.1.1 3 fun (p3 : Addr) =>
ldA .sl sL1.2 (Addr.add p3 1) fun (t4 : Sl) =>
cnd (decide ((t4.len : Int) > a1_most)) (
K false sL1.2) (
Let (IntKind.wrap .i64 (sL1.1.1 + 1) : Int) fun (t5 : Int) =>
R1 ((t5, ()), sL1.2)))) (
K true sL1.2)
def F_ref09_Short (a0_l : Sl) (a1_most : Int) (h : Hp) (K : Bool → Hp → Prop) : Prop :=
∃ n, Lp (L1_ref09_Short a0_l a1_most K) n ((0, ()), h)

theorem F_ref09_Short_ok (a0_l : Sl) (a1_most : Int) (h : Hp) (K : Bool → Hp → Prop) (hF : F_ref09_Short a0_l a1_most h K) : C_ref09_Short a0_l a1_most h K := by
  have e : bodyVC Try.prog Try.f5 (.seq .no (.seq (.seq .no (.block (.loop [(5, .at (.int .i64))] (.seq (.seq .no (.cond .no .no)) (.seq (.block (.seq .no (.cond (.seq .no .no) .no))) .no))))) (.seq .no .no))) (Option.getD Try.f5.body .skip) [.slice a0_l.a a0_l.len a0_l.cap, .int .i64 a1_most] h [.at .bool] (fun s h => K s.1 h) = F_ref09_Short a0_l a1_most h K := by kernel_rfl
  exact fun_sound mixed Try.func5 rfl (e.mpr hF)

def F_law09_lives  (h : Hp) (K : Bool → Hp → Prop) : Prop :=
C_metric_New 2 h fun (t1 : Option Addr) (h2 : Hp) =>
C_metric_Meter_Dist t1 2 (Sl.mk none 0 0) (ByteArray.mk #[97, 98]) 2 (Sl.mk none 0 0) (ByteArray.mk #[97, 99]) h2 fun (t3 : Int) (h4 : Hp) =>
cnd (t3 == 1) (
C_metric_Meter_Calls t1 h4 fun (t5 : Int) (h6 : Hp) =>
cnd (t5 == 1) (
C_metric_Meter_Metric t1 h6 fun (t7 : Int) (h8 : Hp) =>
K (t7 == 2) h8) (
K false h6)) (
K false h4)

theorem F_law09_lives_ok  (h : Hp) (K : Bool → Hp → Prop) (hF : F_law09_lives  h K) : C_law09_lives  h K := by
  have e : bodyVC Try.prog Try.f6 (.seq .no (.seq .no (.seq .no .no))) (Option.getD Try.f6.body .skip) [] h [.at .bool] (fun s h => K s.1 h) = F_law09_lives  h K := by kernel_rfl
  exact fun_sound mixed Try.func6 rfl (e.mpr hF)

def F_metric_Dist (a0_metric : Int) (a1_x : Int) (a2_x : Sl) (a3_x : ByteArray) (a4_y : Int) (a5_y : Sl) (a6_y : ByteArray) (h : Hp) (K : Int → Hp → Prop) : Prop :=
Let (Array.push h (Obj.cells #[.int .i64 a1_x, .slice a2_x.a a2_x.len a2_x.cap, .string a3_x] 24)) fun (h1 : Hp) =>
Let (Addr.mk (Array.size h) 0 none) fun (p2 : Addr) =>
Let (Array.push h1 (Obj.cells #[.int .i64 a4_y, .slice a5_y.a a5_y.len a5_y.cap, .string a6_y] 24)) fun (h3 : Hp) =>
Let (Addr.mk (Array.size h1) 0 none) fun (p4 : Addr) =>
cnd (a0_metric == 1) (
ldA .sl h3 (Addr.add p2 1) fun (t5 : Sl) =>
ldA .sl h3 (Addr.add p4 1) fun (t6 : Sl) =>
C_lone_Dist t5 t6 h3 fun (t7 : Int) (h8 : Hp) =>
K t7 h8) (
cnd (a0_metric == 2) (
ldA .str h3 (Addr.add p2 2) fun (t9 : ByteArray) =>
ldA .str h3 (Addr.add p4 2) fun (t10 : ByteArray) =>
C_ham_Dist t9 t10 h3 fun (t11 : Int) (h12 : Hp) =>
K t11 h12) (
cnd (a0_metric == 3) (
ldA .str h3 (Addr.add p2 2) fun (t13 : ByteArray) =>
ldA .str h3 (Addr.add p4 2) fun (t14 : ByteArray) =>
C_lev_Dist t13 t14 h3 fun (t15 : Int) (h16 : Hp) =>
K t15 h16) (
K 0 h3)))

theorem F_metric_Dist_ok (a0_metric : Int) (a1_x : Int) (a2_x : Sl) (a3_x : ByteArray) (a4_y : Int) (a5_y : Sl) (a6_y : ByteArray) (h : Hp) (K : Int → Hp → Prop) (hF : F_metric_Dist a0_metric a1_x a2_x a3_x a4_y a5_y a6_y h K) : C_metric_Dist a0_metric a1_x a2_x a3_x a4_y a5_y a6_y h K := by
  have e : bodyVC Try.prog Try.f7 (.seq .no (.seq (.seq .no (.block (.seq .no (.cond (.seq .no .no) (.seq .no (.cond (.seq .no .no) (.seq .no (.cond (.seq .no .no) .no)))))))) (.seq .no .no))) (Option.getD Try.f7.body .skip) [.int .i64 a0_metric, .agg #[.int .i64 a1_x, .slice a2_x.a a2_x.len a2_x.cap, .string a3_x], .agg #[.int .i64 a4_y, .slice a5_y.a a5_y.len a5_y.cap, .string a6_y]] h [.at (.int .i64)] (fun s h => K s.1 h) = F_metric_Dist a0_metric a1_x a2_x a3_x a4_y a5_y a6_y h K := by kernel_rfl
  exact fun_sound mixed Try.func7 rfl (e.mpr hF)

def F_ref05_Same (a0_x : Int) (a1_x : Sl) (a2_x : ByteArray) (a3_y : Int) (a4_y : Sl) (a5_y : ByteArray) (h : Hp) (K : Bool → Hp → Prop) : Prop :=
Let (Array.push h (Obj.cells #[.int .i64 a0_x, .slice a1_x.a a1_x.len a1_x.cap, .string a2_x] 24)) fun (h1 : Hp) =>
Let (Addr.mk (Array.size h) 0 none) fun (p2 : Addr) =>
Let (Array.push h1 (Obj.cells #[.int .i64 a3_y, .slice a4_y.a a4_y.len a4_y.cap, .string a5_y] 24)) fun (h3 : Hp) =>
Let (Addr.mk (Array.size h1) 0 none) fun (p4 : Addr) =>
ldA (.int .i64) h3 p2 fun (t5 : Int) =>
ldA .sl h3 (Addr.add p2 1) fun (t6 : Sl) =>
ldA .str h3 (Addr.add p2 2) fun (t7 : ByteArray) =>
ldA (.int .i64) h3 p4 fun (t8 : Int) =>
ldA .sl h3 (Addr.add p4 1) fun (t9 : Sl) =>
ldA .str h3 (Addr.add p4 2) fun (t10 : ByteArray) =>
C_ref05_Less t5 t6 t7 t8 t9 t10 h3 fun (t11 : Bool) (h12 : Hp) =>
cnd (!t11) (
ldA (.int .i64) h12 p4 fun (t13 : Int) =>
ldA .sl h12 (Addr.add p4 1) fun (t14 : Sl) =>
ldA .str h12 (Addr.add p4 2) fun (t15 : ByteArray) =>
ldA (.int .i64) h12 p2 fun (t16 : Int) =>
ldA .sl h12 (Addr.add p2 1) fun (t17 : Sl) =>
ldA .str h12 (Addr.add p2 2) fun (t18 : ByteArray) =>
C_ref05_Less t13 t14 t15 t16 t17 t18 h12 fun (t19 : Bool) (h20 : Hp) =>
K (!t19) h20) (
K false h12)

theorem F_ref05_Same_ok (a0_x : Int) (a1_x : Sl) (a2_x : ByteArray) (a3_y : Int) (a4_y : Sl) (a5_y : ByteArray) (h : Hp) (K : Bool → Hp → Prop) (hF : F_ref05_Same a0_x a1_x a2_x a3_y a4_y a5_y h K) : C_ref05_Same a0_x a1_x a2_x a3_y a4_y a5_y h K := by
  have e : bodyVC Try.prog Try.f8 (.seq .no (.seq .no .no)) (Option.getD Try.f8.body .skip) [.agg #[.int .i64 a0_x, .slice a1_x.a a1_x.len a1_x.cap, .string a2_x], .agg #[.int .i64 a3_y, .slice a4_y.a a4_y.len a4_y.cap, .string a5_y]] h [.at .bool] (fun s h => K s.1 h) = F_ref05_Same a0_x a1_x a2_x a3_y a4_y a5_y h K := by kernel_rfl
  exact fun_sound mixed Try.func8 rfl (e.mpr hF)

def J1_metric_Least (K : Int → Hp → Prop) (p2 : Addr) (p4 : Addr) (sJ1 : Int × Unit) (hJ1 : Hp) : Prop :=
ldA .str hJ1 (Addr.add p2 2) fun (t5 : ByteArray) =>
ldA .str hJ1 (Addr.add p4 2) fun (t6 : ByteArray) =>
Let (IntKind.wrap .i64 ((ByteArray.size t5 : Int) - (ByteArray.size t6 : Int)) : Int) fun (t7 : Int) =>
ldA .str hJ1 (Addr.add p4 2) fun (t8 : ByteArray) =>
ldA .str hJ1 (Addr.add p2 2) fun (t9 : ByteArray) =>
Let (IntKind.wrap .i64 ((ByteArray.size t8 : Int) - (ByteArray.size t9 : Int)) : Int) fun (t10 : Int) =>
Let (if t7 > sJ1.1 then t7 else sJ1.1 : Int) fun (t11 : Int) =>
Let (if t10 > t11 then t10 else t11 : Int) fun (t12 : Int) =>
K t12 hJ1
def F_metric_Least (a0_metric : Int) (a1_x : Int) (a2_x : Sl) (a3_x : ByteArray) (a4_y : Int) (a5_y : Sl) (a6_y : ByteArray) (h : Hp) (K : Int → Hp → Prop) : Prop :=
Let (Array.push h (Obj.cells #[.int .i64 a1_x, .slice a2_x.a a2_x.len a2_x.cap, .string a3_x] 24)) fun (h1 : Hp) =>
Let (Addr.mk (Array.size h) 0 none) fun (p2 : Addr) =>
Let (Array.push h1 (Obj.cells #[.int .i64 a4_y, .slice a5_y.a a5_y.len a5_y.cap, .string a6_y] 24)) fun (h3 : Hp) =>
Let (Addr.mk (Array.size h1) 0 none) fun (p4 : Addr) =>
Jn (J1_metric_Least K p2 p4) fun (J1 : Int × Unit → Hp → Prop) =>
cnd (a0_metric == 1) (
ldA .sl h3 (Addr.add p2 1) fun (t13 : Sl) =>
ldA .sl h3 (Addr.add p4 1) fun (t14 : Sl) =>
C_lone_Least t13 t14 h3 fun (t15 : Int) (h16 : Hp) =>
K t15 h16) (
cnd (a0_metric == 3) (
ldA .str h3 (Addr.add p2 2) fun (t17 : ByteArray) =>
ldA .str h3 (Addr.add p4 2) fun (t18 : ByteArray) =>
C_lev_Least t17 t18 h3 fun (t19 : Int) (h20 : Hp) =>
J1 (t19, ()) h20) (
cnd (a0_metric == 2) (
J1 (0, ()) h3) (
K 0 h3)))

theorem F_metric_Least_ok (a0_metric : Int) (a1_x : Int) (a2_x : Sl) (a3_x : ByteArray) (a4_y : Int) (a5_y : Sl) (a6_y : ByteArray) (h : Hp) (K : Int → Hp → Prop) (hF : F_metric_Least a0_metric a1_x a2_x a3_x a4_y a5_y a6_y h K) : C_metric_Least a0_metric a1_x a2_x a3_x a4_y a5_y a6_y h K := by
  have e : bodyVC Try.prog Try.f9 (.seq .no (.seq .no (.seq (.seq .no (.block (.join [(7, .at (.int .i64))] (.block (.seq (.block (.seq (.block (.seq (.seq (.seq .no (.cond .no .no)) (.seq (.seq .no (.cond .no .no)) (.seq .no (.cond .no .no)))) .no)) (.seq (.seq .no .no) .no))) .no)) (.seq .no .no)))) (.seq .no .no)))) (Option.getD Try.f9.body .skip) [.int .i64 a0_metric, .agg #[.int .i64 a1_x, .slice a2_x.a a2_x.len a2_x.cap, .string a3_x], .agg #[.int .i64 a4_y, .slice a5_y.a a5_y.len a5_y.cap, .string a6_y]] h [.at (.int .i64)] (fun s h => K s.1 h) = F_metric_Least a0_metric a1_x a2_x a3_x a4_y a5_y a6_y h K := by kernel_rfl
  exact fun_sound mixed Try.func9 rfl (e.mpr hF)

def F_metric_New (a0_metric : Int) (h : Hp) (K : Option Addr → Hp → Prop) : Prop :=
Let (Array.push h (Obj.cells #[.int .i64 a0_metric, .int .i64 0] 40)) fun (h1 : Hp) =>
Let (Addr.mk (Array.size h) 0 none) fun (p2 : Addr) =>
K (some p2) h1

theorem F_metric_New_ok (a0_metric : Int) (h : Hp) (K : Option Addr → Hp → Prop) (hF : F_metric_New a0_metric h K) : C_metric_New a0_metric h K := by
  have e : bodyVC Try.prog Try.f10 (.seq .no (.seq .no .no)) (Option.getD Try.f10.body .skip) [.int .i64 a0_metric] h [.at .ptr] (fun s h => K s.1 h) = F_metric_New a0_metric h K := by kernel_rfl
  exact fun_sound mixed Try.func10 rfl (e.mpr hF)

def F_metric_Meter_Dist (a0_m : Option Addr) (a1_x : Int) (a2_x : Sl) (a3_x : ByteArray) (a4_y : Int) (a5_y : Sl) (a6_y : ByteArray) (h : Hp) (K : Int → Hp → Prop) : Prop :=
Let (Array.push h (Obj.cells #[.int .i64 a1_x, .slice a2_x.a a2_x.len a2_x.cap, .string a3_x] 24)) fun (h1 : Hp) =>
Let (Addr.mk (Array.size h) 0 none) fun (p2 : Addr) =>
Let (Array.push h1 (Obj.cells #[.int .i64 a4_y, .slice a5_y.a a5_y.len a5_y.cap, .string a6_y] 24)) fun (h3 : Hp) =>
Let (Addr.mk (Array.size h1) 0 none) fun (p4 : Addr) =>
cnd (Option.isNone a0_m) (
K 0 h3) (
someA a0_m fun (p5 : Addr) =>
ldA (.int .i64) h3 (Addr.add p5 1) fun (t6 : Int) =>
Let (IntKind.wrap .i64 (t6 + 1) : Int) fun (t7 : Int) =>
someA a0_m fun (p8 : Addr) =>
((1 : Nat) = 1) ∧ (
stC h3 (Addr.add p8 1) (
Let (hset h3 (Addr.add p8 1) (.int .i64 t7)) fun (h9 : Hp) =>
someA a0_m fun (p10 : Addr) =>
ldA (.int .i64) h9 p10 fun (t11 : Int) =>
ldA (.int .i64) h9 p2 fun (t12 : Int) =>
ldA .sl h9 (Addr.add p2 1) fun (t13 : Sl) =>
ldA .str h9 (Addr.add p2 2) fun (t14 : ByteArray) =>
ldA (.int .i64) h9 p4 fun (t15 : Int) =>
ldA .sl h9 (Addr.add p4 1) fun (t16 : Sl) =>
ldA .str h9 (Addr.add p4 2) fun (t17 : ByteArray) =>
C_metric_Dist t11 t12 t13 t14 t15 t16 t17 h9 fun (t18 : Int) (h19 : Hp) =>
K t18 h19)))

theorem F_metric_Meter_Dist_ok (a0_m : Option Addr) (a1_x : Int) (a2_x : Sl) (a3_x : ByteArray) (a4_y : Int) (a5_y : Sl) (a6_y : ByteArray) (h : Hp) (K : Int → Hp → Prop) (hF : F_metric_Meter_Dist a0_m a1_x a2_x a3_x a4_y a5_y a6_y h K) : C_metric_Meter_Dist a0_m a1_x a2_x a3_x a4_y a5_y a6_y h K := by
  have e : bodyVC Try.prog Try.f11 (.seq .no (.seq (.seq .no (.cond (.seq .no .no) .no)) (.seq .no (.seq .no .no)))) (Option.getD Try.f11.body .skip) [.pointer a0_m, .agg #[.int .i64 a1_x, .slice a2_x.a a2_x.len a2_x.cap, .string a3_x], .agg #[.int .i64 a4_y, .slice a5_y.a a5_y.len a5_y.cap, .string a6_y]] h [.at (.int .i64)] (fun s h => K s.1 h) = F_metric_Meter_Dist a0_m a1_x a2_x a3_x a4_y a5_y a6_y h K := by kernel_rfl
  exact fun_sound mixed Try.func11 rfl (e.mpr hF)

def F_metric_Meter_Calls (a0_m : Option Addr) (h : Hp) (K : Int → Hp → Prop) : Prop :=
cnd (Option.isNone a0_m) (
K 0 h) (
someA a0_m fun (p1 : Addr) =>
ldA (.int .i64) h (Addr.add p1 1) fun (t2 : Int) =>
K t2 h)

theorem F_metric_Meter_Calls_ok (a0_m : Option Addr) (h : Hp) (K : Int → Hp → Prop) (hF : F_metric_Meter_Calls a0_m h K) : C_metric_Meter_Calls a0_m h K := by
  have e : bodyVC Try.prog Try.f12 (.seq .no (.seq (.seq .no (.cond (.seq .no .no) .no)) (.seq .no .no))) (Option.getD Try.f12.body .skip) [.pointer a0_m] h [.at (.int .i64)] (fun s h => K s.1 h) = F_metric_Meter_Calls a0_m h K := by kernel_rfl
  exact fun_sound mixed Try.func12 rfl (e.mpr hF)

def F_metric_Meter_Metric (a0_m : Option Addr) (h : Hp) (K : Int → Hp → Prop) : Prop :=
cnd (Option.isNone a0_m) (
K 0 h) (
someA a0_m fun (p1 : Addr) =>
ldA (.int .i64) h p1 fun (t2 : Int) =>
K t2 h)

theorem F_metric_Meter_Metric_ok (a0_m : Option Addr) (h : Hp) (K : Int → Hp → Prop) (hF : F_metric_Meter_Metric a0_m h K) : C_metric_Meter_Metric a0_m h K := by
  have e : bodyVC Try.prog Try.f13 (.seq .no (.seq (.seq .no (.cond (.seq .no .no) .no)) (.seq .no .no))) (Option.getD Try.f13.body .skip) [.pointer a0_m] h [.at (.int .i64)] (fun s h => K s.1 h) = F_metric_Meter_Metric a0_m h K := by kernel_rfl
  exact fun_sound mixed Try.func13 rfl (e.mpr hF)

def F_lone_Dist (a0_a : Sl) (a1_b : Sl) (h : Hp) (K : Int → Hp → Prop) : Prop :=
Let (Array.push h (Obj.cells #[.int .i64 0] 3)) fun (h1 : Hp) =>
Let (Addr.mk (Array.size h) 0 none) fun (p2 : Addr) =>
((1 : Nat) = 1) ∧ (
stC h1 p2 (
Let (hset h1 p2 (.int .i64 0)) fun (h3 : Hp) =>
C_lone_places a0_a a1_b h3 fun (t4 : Value) (h5 : Hp) =>
rngF Try.prog t4 (.at (.int .i64)) h5 (fun (t6 : Int) (h7 : Hp) (Kn8 : Hp → Prop) (Kx9 : Option Nat → Hp → Prop) =>
Rb (Array.size h5) h7 h7 fun (h10 : Hp) =>
ldA (.int .i64) h10 p2 fun (t11 : Int) =>
Let (IntKind.wrap .i64 (t11 + t6) : Int) fun (t12 : Int) =>
((1 : Nat) = 1) ∧ (
stC h10 p2 (
Let (hset h10 p2 (.int .i64 t12)) fun (h13 : Hp) =>
RKeep h10 h13 ∧ Kn8 h13))) (fun (h14 : Hp) =>
ldA (.int .i64) h14 p2 fun (t15 : Int) =>
∀ (h16 : Hp), Stp (Array.size h) h14 h16 → (
K t15 h16)) (StopL (fun (h17 : Hp) =>
∀ (h18 : Hp), Stp (Array.size h) h17 h18 → (
K 0 h18)) [(0, fun (h19 : Hp) =>
ldA (.int .i64) h19 p2 fun (t20 : Int) =>
∀ (h21 : Hp), Stp (Array.size h) h19 h21 → (
K t20 h21))])))

theorem F_lone_Dist_ok (a0_a : Sl) (a1_b : Sl) (h : Hp) (K : Int → Hp → Prop) (hF : F_lone_Dist a0_a a1_b h K) : C_lone_Dist a0_a a1_b h K := by
  have e : bodyVC Try.prog Try.f14 (.seq .no (.seq .no (.seq (.seq .no (.block (.rng (10, .at (.int .i64)) .no (.block .no)))) (.seq .no .no)))) (Option.getD Try.f14.body .skip) [.slice a0_a.a a0_a.len a0_a.cap, .slice a1_b.a a1_b.len a1_b.cap] h [.at (.int .i64)] (fun s h => K s.1 h) = F_lone_Dist a0_a a1_b h K := by kernel_rfl
  exact fun_sound mixed Try.func14 rfl (e.mpr hF)

def F_ham_Dist (a0_a : ByteArray) (a1_b : ByteArray) (h : Hp) (K : Int → Hp → Prop) : Prop :=
C_ham_longer a0_a a1_b h fun (t1 : Int) (h2 : Hp) =>
C_ham_Places a0_a a1_b h2 fun (t3 : Sl) (h4 : Hp) =>
Let (IntKind.wrap .i64 (t1 + (t3.len : Int)) : Int) fun (t5 : Int) =>
K t5 h4

theorem F_ham_Dist_ok (a0_a : ByteArray) (a1_b : ByteArray) (h : Hp) (K : Int → Hp → Prop) (hF : F_ham_Dist a0_a a1_b h K) : C_ham_Dist a0_a a1_b h K := by
  have e : bodyVC Try.prog Try.f15 (.seq .no (.seq .no .no)) (Option.getD Try.f15.body .skip) [.string a0_a, .string a1_b] h [.at (.int .i64)] (fun s h => K s.1 h) = F_ham_Dist a0_a a1_b h K := by kernel_rfl
  exact fun_sound mixed Try.func15 rfl (e.mpr hF)

def J1_lev_Dist (K : Int → Hp → Prop) (t2 : ByteArray) (sJ1 : Sl × Unit) (hJ1 : Hp) : Prop :=
idxS sJ1.1.a sJ1.1.len (ByteArray.size t2 : Int) 1 fun (p6 : Addr) =>
ldA (.int .i64) hJ1 p6 fun (t7 : Int) =>
K t7 hJ1
def L1_lev_Dist (t1 : ByteArray) (t2 : ByteArray) (J1 : Sl × Unit → Hp → Prop) (sL1 : (Sl × Int × Unit) × Hp) (R1 : (Sl × Int × Unit) × Hp → Prop) : Prop :=
cnd (decide (sL1.1.2.1 < (ByteArray.size t1 : Int))) (
idxStr t1 sL1.1.2.1 fun (t8 : Int) =>
C_lev_next (Sl.mk sL1.1.1.a sL1.1.1.len sL1.1.1.cap) t8 t2 sL1.2 fun (t9 : Sl) (h10 : Hp) =>
Let (IntKind.wrap .i64 (sL1.1.2.1 + 1) : Int) fun (t11 : Int) =>
R1 ((t9, t11, ()), h10)) (
J1 ((Sl.mk sL1.1.1.a sL1.1.1.len sL1.1.1.cap), ()) sL1.2)
def F_lev_Dist (a0_a : ByteArray) (a1_b : ByteArray) (h : Hp) (K : Int → Hp → Prop) : Prop :=
C_lev_Trim a0_a a1_b h fun (t1 : ByteArray) (t2 : ByteArray) (h3 : Hp) =>
C_lev_first (ByteArray.size t2 : Int) h3 fun (t4 : Sl) (h5 : Hp) =>
Jn (J1_lev_Dist K t2) fun (J1 : Sl × Unit → Hp → Prop) =>
∃ n, Lp (L1_lev_Dist t1 t2 J1) n ((t4, 0, ()), h5)

theorem F_lev_Dist_ok (a0_a : ByteArray) (a1_b : ByteArray) (h : Hp) (K : Int → Hp → Prop) (hF : F_lev_Dist a0_a a1_b h K) : C_lev_Dist a0_a a1_b h K := by
  have e : bodyVC Try.prog Try.f16 (.seq .no (.seq .no (.seq .no (.join [(5, .at .sl)] (.seq .no (.block (.loop [(5, .at .sl), (18, .at (.int .i64))] (.seq .no (.seq (.cond .no .no) (.seq (.block (.seq .no .no)) .no)))))) (.seq .no .no))))) (Option.getD Try.f16.body .skip) [.string a0_a, .string a1_b] h [.at (.int .i64)] (fun s h => K s.1 h) = F_lev_Dist a0_a a1_b h K := by kernel_rfl
  exact fun_sound mixed Try.func16 rfl (e.mpr hF)

def J1_ref05_Less (K : Bool → Hp → Prop) (p2 : Addr) (p4 : Addr) (sJ1 : Unit) (hJ1 : Hp) : Prop :=
ldA .str hJ1 (Addr.add p2 2) fun (t13 : ByteArray) =>
ldA .str hJ1 (Addr.add p4 2) fun (t14 : ByteArray) =>
K (strLt t13 t14) hJ1
def L1_ref05_Less (K : Bool → Hp → Prop) (p2 : Addr) (p4 : Addr) (J1 : Unit → Hp → Prop) (sL1 : (Int × Unit) × Hp) (R1 : (Int × Unit) × Hp → Prop) : Prop :=
ldA .sl sL1.2 (Addr.add p2 1) fun (t15 : Sl) =>
cnd (decide (sL1.1.1 < (t15.len : Int))) (
ldA .sl sL1.2 (Addr.add p2 1) fun (t16 : Sl) =>
idxS t16.a t16.len sL1.1.1 1 fun (p17 : Addr) =>
ldA (.int .i32) sL1.2 p17 fun (t18 : Int) =>
ldA .sl sL1.2 (Addr.add p4 1) fun (t19 : Sl) =>
idxS t19.a t19.len sL1.1.1 1 fun (p20 : Addr) =>
ldA (.int .i32) sL1.2 p20 fun (t21 : Int) =>
cnd (t18 != t21) (
ldA .sl sL1.2 (Addr.add p2 1) fun (t22 : Sl) =>
idxS t22.a t22.len sL1.1.1 1 fun (p23 : Addr) =>
ldA (.int .i32) sL1.2 p23 fun (t24 : Int) =>
ldA .sl sL1.2 (Addr.add p4 1) fun (t25 : Sl) =>
idxS t25.a t25.len sL1.1.1 1 fun (p26 : Addr) =>
ldA (.int .i32) sL1.2 p26 fun (t27 : Int) =>
K (decide (t24 < t27)) sL1.2) (
Let (IntKind.wrap .i64 (sL1.1.1 + 1) : Int) fun (t28 : Int) =>
R1 ((t28, ()), sL1.2))) (
J1 (()) sL1.2)
def F_ref05_Less (a0_x : Int) (a1_x : Sl) (a2_x : ByteArray) (a3_y : Int) (a4_y : Sl) (a5_y : ByteArray) (h : Hp) (K : Bool → Hp → Prop) : Prop :=
Let (Array.push h (Obj.cells #[.int .i64 a0_x, .slice a1_x.a a1_x.len a1_x.cap, .string a2_x] 24)) fun (h1 : Hp) =>
Let (Addr.mk (Array.size h) 0 none) fun (p2 : Addr) =>
Let (Array.push h1 (Obj.cells #[.int .i64 a3_y, .slice a4_y.a a4_y.len a4_y.cap, .string a5_y] 24)) fun (h3 : Hp) =>
Let (Addr.mk (Array.size h1) 0 none) fun (p4 : Addr) =>
ldA (.int .i64) h3 p2 fun (t5 : Int) =>
ldA (.int .i64) h3 p4 fun (t6 : Int) =>
cnd (t5 != t6) (
ldA (.int .i64) h3 p2 fun (t7 : Int) =>
ldA (.int .i64) h3 p4 fun (t8 : Int) =>
K (decide (t7 < t8)) h3) (
ldA .sl h3 (Addr.add p2 1) fun (t9 : Sl) =>
ldA .sl h3 (Addr.add p4 1) fun (t10 : Sl) =>
cnd ((t9.len : Int) != (t10.len : Int)) (
ldA .sl h3 (Addr.add p2 1) fun (t11 : Sl) =>
ldA .sl h3 (Addr.add p4 1) fun (t12 : Sl) =>
K (decide ((t11.len : Int) < (t12.len : Int))) h3) (
Jn (J1_ref05_Less K p2 p4) fun (J1 : Unit → Hp → Prop) =>
∃ n, Lp (L1_ref05_Less K p2 p4 J1) n ((0, ()), h3)))

theorem F_ref05_Less_ok (a0_x : Int) (a1_x : Sl) (a2_x : ByteArray) (a3_y : Int) (a4_y : Sl) (a5_y : ByteArray) (h : Hp) (K : Bool → Hp → Prop) (hF : F_ref05_Less a0_x a1_x a2_x a3_y a4_y a5_y h K) : C_ref05_Less a0_x a1_x a2_x a3_y a4_y a5_y h K := by
  have e : bodyVC Try.prog Try.f17 (.seq .no (.seq (.seq .no (.cond (.seq .no .no) .no)) (.seq (.seq .no (.cond (.seq .no .no) .no)) (.join [] (.seq .no (.block (.loop [(5, .at (.int .i64))] (.seq (.seq .no (.cond .no .no)) (.seq (.block (.seq .no (.cond (.seq .no .no) .no))) .no))))) (.seq .no .no))))) (Option.getD Try.f17.body .skip) [.agg #[.int .i64 a0_x, .slice a1_x.a a1_x.len a1_x.cap, .string a2_x], .agg #[.int .i64 a3_y, .slice a4_y.a a4_y.len a4_y.cap, .string a5_y]] h [.at .bool] (fun s h => K s.1 h) = F_ref05_Less a0_x a1_x a2_x a3_y a4_y a5_y h K := by kernel_rfl
  exact fun_sound mixed Try.func17 rfl (e.mpr hF)

def F_lone_Least (a0_a : Sl) (a1_b : Sl) (h : Hp) (K : Int → Hp → Prop) : Prop :=
C_lone_Norm a0_a h fun (t1 : Int) (h2 : Hp) =>
C_lone_Norm a1_b h2 fun (t3 : Int) (h4 : Hp) =>
Let (IntKind.wrap .i64 (t1 - t3) : Int) fun (t5 : Int) =>
Let (IntKind.wrap .i64 (0 - t5) : Int) fun (t6 : Int) =>
Let (if t6 > t5 then t6 else t5 : Int) fun (t7 : Int) =>
K t7 h4

theorem F_lone_Least_ok (a0_a : Sl) (a1_b : Sl) (h : Hp) (K : Int → Hp → Prop) (hF : F_lone_Least a0_a a1_b h K) : C_lone_Least a0_a a1_b h K := by
  have e : bodyVC Try.prog Try.f18 (.seq .no (.seq .no (.seq .no .no))) (Option.getD Try.f18.body .skip) [.slice a0_a.a a0_a.len a0_a.cap, .slice a1_b.a a1_b.len a1_b.cap] h [.at (.int .i64)] (fun s h => K s.1 h) = F_lone_Least a0_a a1_b h K := by kernel_rfl
  exact fun_sound mixed Try.func18 rfl (e.mpr hF)

def J3_lev_Least (a0_a : ByteArray) (a1_b : ByteArray) (K : Int → Hp → Prop) (sJ3 : Int × Int × Unit) (hJ3 : Hp) : Prop :=
Let (IntKind.wrap .i64 ((ByteArray.size a0_a : Int) - (ByteArray.size a1_b : Int)) : Int) fun (t3 : Int) =>
Let (IntKind.wrap .i64 ((ByteArray.size a1_b : Int) - (ByteArray.size a0_a : Int)) : Int) fun (t4 : Int) =>
Let (if t4 > t3 then t4 else t3 : Int) fun (t5 : Int) =>
Let (if sJ3.1 > t5 then sJ3.1 else t5 : Int) fun (t6 : Int) =>
Let (if sJ3.2.1 > t6 then sJ3.2.1 else t6 : Int) fun (t7 : Int) =>
K t7 hJ3
def L1_lev_Least (J3 : Int × Int × Unit → Hp → Prop) (t8 : Int) (t9 : Int) (t10 : Int) (t11 : Int) (t12 : Int) (t13 : Int) (t14 : Int) (t15 : Int) (t16 : Int) (t17 : Int) (t18 : Int) (t19 : Int) (t20 : Int) (t21 : Int) (t22 : Int) (t23 : Int) (t24 : Int) (t25 : Int) (t26 : Int) (t27 : Int) (t28 : Int) (t29 : Int) (t30 : Int) (t31 : Int) (t32 : Int) (t33 : Int) (t34 : Int) (t35 : Int) (t36 : Int) (t37 : Int) (t38 : Int) (t39 : Int) (t40 : Int) (t41 : Int) (t42 : Int) (t43 : Int) (t44 : Int) (t45 : Int) (t46 : Int) (t47 : Int) (t48 : Int) (t49 : Int) (t50 : Int) (t51 : Int) (t52 : Int) (t53 : Int) (t54 : Int) (t55 : Int) (t56 : Int) (t57 : Int) (t58 : Int) (t59 : Int) (t60 : Int) (t61 : Int) (t62 : Int) (t63 : Int) (t64 : Int) (t65 : Int) (t66 : Int) (t67 : Int) (t68 : Int) (t69 : Int) (t70 : Int) (t71 : Int) (t72 : Int) (t73 : Int) (t74 : Int) (t75 : Int) (t76 : Int) (t77 : Int) (t78 : Int) (t79 : Int) (t80 : Int) (t81 : Int) (t82 : Int) (t83 : Int) (t84 : Int) (t85 : Int) (t86 : Int) (t87 : Int) (t88 : Int) (t89 : Int) (t90 : Int) (t91 : Int) (t92 : Int) (t93 : Int) (t94 : Int) (t95 : Int) (t96 : Int) (t97 : Int) (t98 : Int) (t99 : Int) (t100 : Int) (t101 : Int) (t102 : Int) (t103 : Int) (t104 : Int) (t105 : Int) (t106 : Int) (t107 : Int) (t108 : Int) (t109 : Int) (t110 : Int) (t111 : Int) (t112 : Int) (t113 : Int) (t114 : Int) (t115 : Int) (t116 : Int) (t117 : Int) (t118 : Int) (t119 : Int) (t120 : Int) (t121 : Int) (t122 : Int) (t123 : Int) (t124 : Int) (t125 : Int) (t126 : Int) (t127 : Int) (t128 : Int) (t129 : Int) (t130 : Int) (t131 : Int) (t132 : Int) (t133 : Int) (t134 : Int) (t135 : Int) (t136 : Int) (t137 : Int) (t138 : Int) (t139 : Int) (t140 : Int) (t141 : Int) (t142 : Int) (t143 : Int) (t144 : Int) (t145 : Int) (t146 : Int) (t147 : Int) (t148 : Int) (t149 : Int) (t150 : Int) (t151 : Int) (t152 : Int) (t153 : Int) (t154 : Int) (t155 : Int) (t156 : Int) (t157 : Int) (t158 : Int) (t159 : Int) (t160 : Int) (t161 : Int) (t162 : Int) (t163 : Int) (t164 : Int) (t165 : Int) (t166 : Int) (t167 : Int) (t168 : Int) (t169 : Int) (t170 : Int) (t171 : Int) (t172 : Int) (t173 : Int) (t174 : Int) (t175 : Int) (t176 : Int) (t177 : Int) (t178 : Int) (t179 : Int) (t180 : Int) (t181 : Int) (t182 : Int) (t183 : Int) (t184 : Int) (t185 : Int) (t186 : Int) (t187 : Int) (t188 : Int) (t189 : Int) (t190 : Int) (t191 : Int) (t192 : Int) (t193 : Int) (t194 : Int) (t195 : Int) (t196 : Int) (t197 : Int) (t198 : Int) (t199 : Int) (t200 : Int) (t201 : Int) (t202 : Int) (t203 : Int) (t204 : Int) (t205 : Int) (t206 : Int) (t207 : Int) (t208 : Int) (t209 : Int) (t210 : Int) (t211 : Int) (t212 : Int) (t213 : Int) (t214 : Int) (t215 : Int) (t216 : Int) (t217 : Int) (t218 : Int) (t219 : Int) (t220 : Int) (t221 : Int) (t222 : Int) (t223 : Int) (t224 : Int) (t225 : Int) (t226 : Int) (t227 : Int) (t228 : Int) (t229 : Int) (t230 : Int) (t231 : Int) (t232 : Int) (t233 : Int) (t234 : Int) (t235 : Int) (t236 : Int) (t237 : Int) (t238 : Int) (t239 : Int) (t240 : Int) (t241 : Int) (t242 : Int) (t243 : Int) (t244 : Int) (t245 : Int) (t246 : Int) (t247 : Int) (t248 : Int) (t249 : Int) (t250 : Int) (t251 : Int) (t252 : Int) (t253 : Int) (t254 : Int) (t255 : Int) (t256 : Int) (t257 : Int) (t258 : Int) (t259 : Int) (t260 : Int) (t261 : Int) (t262 : Int) (t263 : Int) (sL1 : (Int × Int × Int × Unit) × Hp) (R1 : (Int × Int × Int × Unit) × Hp → Prop) : Prop :=
cnd (decide (sL1.1.2.2.1 < 256)) (
idxAr (.int .i64) [.int .i64 t8, .int .i64 t9, .int .i64 t10, .int .i64 t11, .int .i64 t12, .int .i64 t13, .int .i64 t14, .int .i64 t15, .int .i64 t16, .int .i64 t17, .int .i64 t18, .int .i64 t19, .int .i64 t20, .int .i64 t21, .int .i64 t22, .int .i64 t23, .int .i64 t24, .int .i64 t25, .int .i64 t26, .int .i64 t27, .int .i64 t28, .int .i64 t29, .int .i64 t30, .int .i64 t31, .int .i64 t32, .int .i64 t33, .int .i64 t34, .int .i64 t35, .int .i64 t36, .int .i64 t37, .int .i64 t38, .int .i64 t39, .int .i64 t40, .int .i64 t41, .int .i64 t42, .int .i64 t43, .int .i64 t44, .int .i64 t45, .int .i64 t46, .int .i64 t47, .int .i64 t48, .int .i64 t49, .int .i64 t50, .int .i64 t51, .int .i64 t52, .int .i64 t53, .int .i64 t54, .int .i64 t55, .int .i64 t56, .int .i64 t57, .int .i64 t58, .int .i64 t59, .int .i64 t60, .int .i64 t61, .int .i64 t62, .int .i64 t63, .int .i64 t64, .int .i64 t65, .int .i64 t66, .int .i64 t67, .int .i64 t68, .int .i64 t69, .int .i64 t70, .int .i64 t71, .int .i64 t72, .int .i64 t73, .int .i64 t74, .int .i64 t75, .int .i64 t76, .int .i64 t77, .int .i64 t78, .int .i64 t79, .int .i64 t80, .int .i64 t81, .int .i64 t82, .int .i64 t83, .int .i64 t84, .int .i64 t85, .int .i64 t86, .int .i64 t87, .int .i64 t88, .int .i64 t89, .int .i64 t90, .int .i64 t91, .int .i64 t92, .int .i64 t93, .int .i64 t94, .int .i64 t95, .int .i64 t96, .int .i64 t97, .int .i64 t98, .int .i64 t99, .int .i64 t100, .int .i64 t101, .int .i64 t102, .int .i64 t103, .int .i64 t104, .int .i64 t105, .int .i64 t106, .int .i64 t107, .int .i64 t108, .int .i64 t109, .int .i64 t110, .int .i64 t111, .int .i64 t112, .int .i64 t113, .int .i64 t114, .int .i64 t115, .int .i64 t116, .int .i64 t117, .int .i64 t118, .int .i64 t119, .int .i64 t120, .int .i64 t121, .int .i64 t122, .int .i64 t123, .int .i64 t124, .int .i64 t125, .int .i64 t126, .int .i64 t127, .int .i64 t128, .int .i64 t129, .int .i64 t130, .int .i64 t131, .int .i64 t132, .int .i64 t133, .int .i64 t134, .int .i64 t135, .int .i64 t136, .int .i64 t137, .int .i64 t138, .int .i64 t139, .int .i64 t140, .int .i64 t141, .int .i64 t142, .int .i64 t143, .int .i64 t144, .int .i64 t145, .int .i64 t146, .int .i64 t147, .int .i64 t148, .int .i64 t149, .int .i64 t150, .int .i64 t151, .int .i64 t152, .int .i64 t153, .int .i64 t154, .int .i64 t155, .int .i64 t156, .int .i64 t157, .int .i64 t158, .int .i64 t159, .int .i64 t160, .int .i64 t161, .int .i64 t162, .int .i64 t163, .int .i64 t164, .int .i64 t165, .int .i64 t166, .int .i64 t167, .int .i64 t168, .int .i64 t169, .int .i64 t170, .int .i64 t171, .int .i64 t172, .int .i64 t173, .int .i64 t174, .int .i64 t175, .int .i64 t176, .int .i64 t177, .int .i64 t178, .int .i64 t179, .int .i64 t180, .int .i64 t181, .int .i64 t182, .int .i64 t183, .int .i64 t184, .int .i64 t185, .int .i64 t186, .int .i64 t187, .int .i64 t188, .int .i64 t189, .int .i64 t190, .int .i64 t191, .int .i64 t192, .int .i64 t193, .int .i64 t194, .int .i64 t195, .int .i64 t196, .int .i64 t197, .int .i64 t198, .int .i64 t199, .int .i64 t200, .int .i64 t201, .int .i64 t202, .int .i64 t203, .int .i64 t204, .int .i64 t205, .int .i64 t206, .int .i64 t207, .int .i64 t208, .int .i64 t209, .int .i64 t210, .int .i64 t211, .int .i64 t212, .int .i64 t213, .int .i64 t214, .int .i64 t215, .int .i64 t216, .int .i64 t217, .int .i64 t218, .int .i64 t219, .int .i64 t220, .int .i64 t221, .int .i64 t222, .int .i64 t223, .int .i64 t224, .int .i64 t225, .int .i64 t226, .int .i64 t227, .int .i64 t228, .int .i64 t229, .int .i64 t230, .int .i64 t231, .int .i64 t232, .int .i64 t233, .int .i64 t234, .int .i64 t235, .int .i64 t236, .int .i64 t237, .int .i64 t238, .int .i64 t239, .int .i64 t240, .int .i64 t241, .int .i64 t242, .int .i64 t243, .int .i64 t244, .int .i64 t245, .int .i64 t246, .int .i64 t247, .int .i64 t248, .int .i64 t249, .int .i64 t250, .int .i64 t251, .int .i64 t252, .int .i64 t253, .int .i64 t254, .int .i64 t255, .int .i64 t256, .int .i64 t257, .int .i64 t258, .int .i64 t259, .int .i64 t260, .int .i64 t261, .int .i64 t262, .int .i64 t263] 256 sL1.1.2.2.1 fun (t264 : Int) =>
Let (if 0 > t264 then 0 else t264 : Int) fun (t265 : Int) =>
Let (IntKind.wrap .i64 (sL1.1.1 + t265) : Int) fun (t266 : Int) =>
Let (IntKind.wrap .i64 (0 - t264) : Int) fun (t267 : Int) =>
Let (if 0 > t267 then 0 else t267 : Int) fun (t268 : Int) =>
Let (IntKind.wrap .i64 (sL1.1.2.1 + t268) : Int) fun (t269 : Int) =>
Let (IntKind.wrap .i64 (sL1.1.2.2.1 + 1) : Int) fun (t270 : Int) =>
R1 ((t266, t269, t270, ()), sL1.2)) (
J3 (sL1.1.1, sL1.1.2.1, ()) sL1.2)
def J2_lev_Least (a0_a : ByteArray) (a1_b : ByteArray) (K : Int → Hp → Prop) (p2 : Addr) (sJ2 : Unit) (hJ2 : Hp) : Prop :=
Jn (J3_lev_Least a0_a a1_b K) fun (J3 : Int × Int × Unit → Hp → Prop) =>
ldA (.int .i64) hJ2 p2 fun (t8 : Int) =>
ldA (.int .i64) hJ2 (Addr.add p2 1) fun (t9 : Int) =>
ldA (.int .i64) hJ2 (Addr.add p2 2) fun (t10 : Int) =>
ldA (.int .i64) hJ2 (Addr.add p2 3) fun (t11 : Int) =>
ldA (.int .i64) hJ2 (Addr.add p2 4) fun (t12 : Int) =>
ldA (.int .i64) hJ2 (Addr.add p2 5) fun (t13 : Int) =>
ldA (.int .i64) hJ2 (Addr.add p2 6) fun (t14 : Int) =>
ldA (.int .i64) hJ2 (Addr.add p2 7) fun (t15 : Int) =>
ldA (.int .i64) hJ2 (Addr.add p2 8) fun (t16 : Int) =>
ldA (.int .i64) hJ2 (Addr.add p2 9) fun (t17 : Int) =>
ldA (.int .i64) hJ2 (Addr.add p2 10) fun (t18 : Int) =>
ldA (.int .i64) hJ2 (Addr.add p2 11) fun (t19 : Int) =>
ldA (.int .i64) hJ2 (Addr.add p2 12) fun (t20 : Int) =>
ldA (.int .i64) hJ2 (Addr.add p2 13) fun (t21 : Int) =>
ldA (.int .i64) hJ2 (Addr.add p2 14) fun (t22 : Int) =>
ldA (.int .i64) hJ2 (Addr.add p2 15) fun (t23 : Int) =>
ldA (.int .i64) hJ2 (Addr.add p2 16) fun (t24 : Int) =>
ldA (.int .i64) hJ2 (Addr.add p2 17) fun (t25 : Int) =>
ldA (.int .i64) hJ2 (Addr.add p2 18) fun (t26 : Int) =>
ldA (.int .i64) hJ2 (Addr.add p2 19) fun (t27 : Int) =>
ldA (.int .i64) hJ2 (Addr.add p2 20) fun (t28 : Int) =>
ldA (.int .i64) hJ2 (Addr.add p2 21) fun (t29 : Int) =>
ldA (.int .i64) hJ2 (Addr.add p2 22) fun (t30 : Int) =>
ldA (.int .i64) hJ2 (Addr.add p2 23) fun (t31 : Int) =>
ldA (.int .i64) hJ2 (Addr.add p2 24) fun (t32 : Int) =>
ldA (.int .i64) hJ2 (Addr.add p2 25) fun (t33 : Int) =>
ldA (.int .i64) hJ2 (Addr.add p2 26) fun (t34 : Int) =>
ldA (.int .i64) hJ2 (Addr.add p2 27) fun (t35 : Int) =>
ldA (.int .i64) hJ2 (Addr.add p2 28) fun (t36 : Int) =>
ldA (.int .i64) hJ2 (Addr.add p2 29) fun (t37 : Int) =>
ldA (.int .i64) hJ2 (Addr.add p2 30) fun (t38 : Int) =>
ldA (.int .i64) hJ2 (Addr.add p2 31) fun (t39 : Int) =>
ldA (.int .i64) hJ2 (Addr.add p2 32) fun (t40 : Int) =>
ldA (.int .i64) hJ2 (Addr.add p2 33) fun (t41 : Int) =>
ldA (.int .i64) hJ2 (Addr.add p2 34) fun (t42 : Int) =>
ldA (.int .i64) hJ2 (Addr.add p2 35) fun (t43 : Int) =>
ldA (.int .i64) hJ2 (Addr.add p2 36) fun (t44 : Int) =>
ldA (.int .i64) hJ2 (Addr.add p2 37) fun (t45 : Int) =>
ldA (.int .i64) hJ2 (Addr.add p2 38) fun (t46 : Int) =>
ldA (.int .i64) hJ2 (Addr.add p2 39) fun (t47 : Int) =>
ldA (.int .i64) hJ2 (Addr.add p2 40) fun (t48 : Int) =>
ldA (.int .i64) hJ2 (Addr.add p2 41) fun (t49 : Int) =>
ldA (.int .i64) hJ2 (Addr.add p2 42) fun (t50 : Int) =>
ldA (.int .i64) hJ2 (Addr.add p2 43) fun (t51 : Int) =>
ldA (.int .i64) hJ2 (Addr.add p2 44) fun (t52 : Int) =>
ldA (.int .i64) hJ2 (Addr.add p2 45) fun (t53 : Int) =>
ldA (.int .i64) hJ2 (Addr.add p2 46) fun (t54 : Int) =>
ldA (.int .i64) hJ2 (Addr.add p2 47) fun (t55 : Int) =>
ldA (.int .i64) hJ2 (Addr.add p2 48) fun (t56 : Int) =>
ldA (.int .i64) hJ2 (Addr.add p2 49) fun (t57 : Int) =>
ldA (.int .i64) hJ2 (Addr.add p2 50) fun (t58 : Int) =>
ldA (.int .i64) hJ2 (Addr.add p2 51) fun (t59 : Int) =>
ldA (.int .i64) hJ2 (Addr.add p2 52) fun (t60 : Int) =>
ldA (.int .i64) hJ2 (Addr.add p2 53) fun (t61 : Int) =>
ldA (.int .i64) hJ2 (Addr.add p2 54) fun (t62 : Int) =>
ldA (.int .i64) hJ2 (Addr.add p2 55) fun (t63 : Int) =>
ldA (.int .i64) hJ2 (Addr.add p2 56) fun (t64 : Int) =>
ldA (.int .i64) hJ2 (Addr.add p2 57) fun (t65 : Int) =>
ldA (.int .i64) hJ2 (Addr.add p2 58) fun (t66 : Int) =>
ldA (.int .i64) hJ2 (Addr.add p2 59) fun (t67 : Int) =>
ldA (.int .i64) hJ2 (Addr.add p2 60) fun (t68 : Int) =>
ldA (.int .i64) hJ2 (Addr.add p2 61) fun (t69 : Int) =>
ldA (.int .i64) hJ2 (Addr.add p2 62) fun (t70 : Int) =>
ldA (.int .i64) hJ2 (Addr.add p2 63) fun (t71 : Int) =>
ldA (.int .i64) hJ2 (Addr.add p2 64) fun (t72 : Int) =>
ldA (.int .i64) hJ2 (Addr.add p2 65) fun (t73 : Int) =>
ldA (.int .i64) hJ2 (Addr.add p2 66) fun (t74 : Int) =>
ldA (.int .i64) hJ2 (Addr.add p2 67) fun (t75 : Int) =>
ldA (.int .i64) hJ2 (Addr.add p2 68) fun (t76 : Int) =>
ldA (.int .i64) hJ2 (Addr.add p2 69) fun (t77 : Int) =>
ldA (.int .i64) hJ2 (Addr.add p2 70) fun (t78 : Int) =>
ldA (.int .i64) hJ2 (Addr.add p2 71) fun (t79 : Int) =>
ldA (.int .i64) hJ2 (Addr.add p2 72) fun (t80 : Int) =>
ldA (.int .i64) hJ2 (Addr.add p2 73) fun (t81 : Int) =>
ldA (.int .i64) hJ2 (Addr.add p2 74) fun (t82 : Int) =>
ldA (.int .i64) hJ2 (Addr.add p2 75) fun (t83 : Int) =>
ldA (.int .i64) hJ2 (Addr.add p2 76) fun (t84 : Int) =>
ldA (.int .i64) hJ2 (Addr.add p2 77) fun (t85 : Int) =>
ldA (.int .i64) hJ2 (Addr.add p2 78) fun (t86 : Int) =>
ldA (.int .i64) hJ2 (Addr.add p2 79) fun (t87 : Int) =>
ldA (.int .i64) hJ2 (Addr.add p2 80) fun (t88 : Int) =>
ldA (.int .i64) hJ2 (Addr.add p2 81) fun (t89 : Int) =>
ldA (.int .i64) hJ2 (Addr.add p2 82) fun (t90 : Int) =>
ldA (.int .i64) hJ2 (Addr.add p2 83) fun (t91 : Int) =>
ldA (.int .i64) hJ2 (Addr.add p2 84) fun (t92 : Int) =>
ldA (.int .i64) hJ2 (Addr.add p2 85) fun (t93 : Int) =>
ldA (.int .i64) hJ2 (Addr.add p2 86) fun (t94 : Int) =>
ldA (.int .i64) hJ2 (Addr.add p2 87) fun (t95 : Int) =>
ldA (.int .i64) hJ2 (Addr.add p2 88) fun (t96 : Int) =>
ldA (.int .i64) hJ2 (Addr.add p2 89) fun (t97 : Int) =>
ldA (.int .i64) hJ2 (Addr.add p2 90) fun (t98 : Int) =>
ldA (.int .i64) hJ2 (Addr.add p2 91) fun (t99 : Int) =>
ldA (.int .i64) hJ2 (Addr.add p2 92) fun (t100 : Int) =>
ldA (.int .i64) hJ2 (Addr.add p2 93) fun (t101 : Int) =>
ldA (.int .i64) hJ2 (Addr.add p2 94) fun (t102 : Int) =>
ldA (.int .i64) hJ2 (Addr.add p2 95) fun (t103 : Int) =>
ldA (.int .i64) hJ2 (Addr.add p2 96) fun (t104 : Int) =>
ldA (.int .i64) hJ2 (Addr.add p2 97) fun (t105 : Int) =>
ldA (.int .i64) hJ2 (Addr.add p2 98) fun (t106 : Int) =>
ldA (.int .i64) hJ2 (Addr.add p2 99) fun (t107 : Int) =>
ldA (.int .i64) hJ2 (Addr.add p2 100) fun (t108 : Int) =>
ldA (.int .i64) hJ2 (Addr.add p2 101) fun (t109 : Int) =>
ldA (.int .i64) hJ2 (Addr.add p2 102) fun (t110 : Int) =>
ldA (.int .i64) hJ2 (Addr.add p2 103) fun (t111 : Int) =>
ldA (.int .i64) hJ2 (Addr.add p2 104) fun (t112 : Int) =>
ldA (.int .i64) hJ2 (Addr.add p2 105) fun (t113 : Int) =>
ldA (.int .i64) hJ2 (Addr.add p2 106) fun (t114 : Int) =>
ldA (.int .i64) hJ2 (Addr.add p2 107) fun (t115 : Int) =>
ldA (.int .i64) hJ2 (Addr.add p2 108) fun (t116 : Int) =>
ldA (.int .i64) hJ2 (Addr.add p2 109) fun (t117 : Int) =>
ldA (.int .i64) hJ2 (Addr.add p2 110) fun (t118 : Int) =>
ldA (.int .i64) hJ2 (Addr.add p2 111) fun (t119 : Int) =>
ldA (.int .i64) hJ2 (Addr.add p2 112) fun (t120 : Int) =>
ldA (.int .i64) hJ2 (Addr.add p2 113) fun (t121 : Int) =>
ldA (.int .i64) hJ2 (Addr.add p2 114) fun (t122 : Int) =>
ldA (.int .i64) hJ2 (Addr.add p2 115) fun (t123 : Int) =>
ldA (.int .i64) hJ2 (Addr.add p2 116) fun (t124 : Int) =>
ldA (.int .i64) hJ2 (Addr.add p2 117) fun (t125 : Int) =>
ldA (.int .i64) hJ2 (Addr.add p2 118) fun (t126 : Int) =>
ldA (.int .i64) hJ2 (Addr.add p2 119) fun (t127 : Int) =>
ldA (.int .i64) hJ2 (Addr.add p2 120) fun (t128 : Int) =>
ldA (.int .i64) hJ2 (Addr.add p2 121) fun (t129 : Int) =>
ldA (.int .i64) hJ2 (Addr.add p2 122) fun (t130 : Int) =>
ldA (.int .i64) hJ2 (Addr.add p2 123) fun (t131 : Int) =>
ldA (.int .i64) hJ2 (Addr.add p2 124) fun (t132 : Int) =>
ldA (.int .i64) hJ2 (Addr.add p2 125) fun (t133 : Int) =>
ldA (.int .i64) hJ2 (Addr.add p2 126) fun (t134 : Int) =>
ldA (.int .i64) hJ2 (Addr.add p2 127) fun (t135 : Int) =>
ldA (.int .i64) hJ2 (Addr.add p2 128) fun (t136 : Int) =>
ldA (.int .i64) hJ2 (Addr.add p2 129) fun (t137 : Int) =>
ldA (.int .i64) hJ2 (Addr.add p2 130) fun (t138 : Int) =>
ldA (.int .i64) hJ2 (Addr.add p2 131) fun (t139 : Int) =>
ldA (.int .i64) hJ2 (Addr.add p2 132) fun (t140 : Int) =>
ldA (.int .i64) hJ2 (Addr.add p2 133) fun (t141 : Int) =>
ldA (.int .i64) hJ2 (Addr.add p2 134) fun (t142 : Int) =>
ldA (.int .i64) hJ2 (Addr.add p2 135) fun (t143 : Int) =>
ldA (.int .i64) hJ2 (Addr.add p2 136) fun (t144 : Int) =>
ldA (.int .i64) hJ2 (Addr.add p2 137) fun (t145 : Int) =>
ldA (.int .i64) hJ2 (Addr.add p2 138) fun (t146 : Int) =>
ldA (.int .i64) hJ2 (Addr.add p2 139) fun (t147 : Int) =>
ldA (.int .i64) hJ2 (Addr.add p2 140) fun (t148 : Int) =>
ldA (.int .i64) hJ2 (Addr.add p2 141) fun (t149 : Int) =>
ldA (.int .i64) hJ2 (Addr.add p2 142) fun (t150 : Int) =>
ldA (.int .i64) hJ2 (Addr.add p2 143) fun (t151 : Int) =>
ldA (.int .i64) hJ2 (Addr.add p2 144) fun (t152 : Int) =>
ldA (.int .i64) hJ2 (Addr.add p2 145) fun (t153 : Int) =>
ldA (.int .i64) hJ2 (Addr.add p2 146) fun (t154 : Int) =>
ldA (.int .i64) hJ2 (Addr.add p2 147) fun (t155 : Int) =>
ldA (.int .i64) hJ2 (Addr.add p2 148) fun (t156 : Int) =>
ldA (.int .i64) hJ2 (Addr.add p2 149) fun (t157 : Int) =>
ldA (.int .i64) hJ2 (Addr.add p2 150) fun (t158 : Int) =>
ldA (.int .i64) hJ2 (Addr.add p2 151) fun (t159 : Int) =>
ldA (.int .i64) hJ2 (Addr.add p2 152) fun (t160 : Int) =>
ldA (.int .i64) hJ2 (Addr.add p2 153) fun (t161 : Int) =>
ldA (.int .i64) hJ2 (Addr.add p2 154) fun (t162 : Int) =>
ldA (.int .i64) hJ2 (Addr.add p2 155) fun (t163 : Int) =>
ldA (.int .i64) hJ2 (Addr.add p2 156) fun (t164 : Int) =>
ldA (.int .i64) hJ2 (Addr.add p2 157) fun (t165 : Int) =>
ldA (.int .i64) hJ2 (Addr.add p2 158) fun (t166 : Int) =>
ldA (.int .i64) hJ2 (Addr.add p2 159) fun (t167 : Int) =>
ldA (.int .i64) hJ2 (Addr.add p2 160) fun (t168 : Int) =>
ldA (.int .i64) hJ2 (Addr.add p2 161) fun (t169 : Int) =>
ldA (.int .i64) hJ2 (Addr.add p2 162) fun (t170 : Int) =>
ldA (.int .i64) hJ2 (Addr.add p2 163) fun (t171 : Int) =>
ldA (.int .i64) hJ2 (Addr.add p2 164) fun (t172 : Int) =>
ldA (.int .i64) hJ2 (Addr.add p2 165) fun (t173 : Int) =>
ldA (.int .i64) hJ2 (Addr.add p2 166) fun (t174 : Int) =>
ldA (.int .i64) hJ2 (Addr.add p2 167) fun (t175 : Int) =>
ldA (.int .i64) hJ2 (Addr.add p2 168) fun (t176 : Int) =>
ldA (.int .i64) hJ2 (Addr.add p2 169) fun (t177 : Int) =>
ldA (.int .i64) hJ2 (Addr.add p2 170) fun (t178 : Int) =>
ldA (.int .i64) hJ2 (Addr.add p2 171) fun (t179 : Int) =>
ldA (.int .i64) hJ2 (Addr.add p2 172) fun (t180 : Int) =>
ldA (.int .i64) hJ2 (Addr.add p2 173) fun (t181 : Int) =>
ldA (.int .i64) hJ2 (Addr.add p2 174) fun (t182 : Int) =>
ldA (.int .i64) hJ2 (Addr.add p2 175) fun (t183 : Int) =>
ldA (.int .i64) hJ2 (Addr.add p2 176) fun (t184 : Int) =>
ldA (.int .i64) hJ2 (Addr.add p2 177) fun (t185 : Int) =>
ldA (.int .i64) hJ2 (Addr.add p2 178) fun (t186 : Int) =>
ldA (.int .i64) hJ2 (Addr.add p2 179) fun (t187 : Int) =>
ldA (.int .i64) hJ2 (Addr.add p2 180) fun (t188 : Int) =>
ldA (.int .i64) hJ2 (Addr.add p2 181) fun (t189 : Int) =>
ldA (.int .i64) hJ2 (Addr.add p2 182) fun (t190 : Int) =>
ldA (.int .i64) hJ2 (Addr.add p2 183) fun (t191 : Int) =>
ldA (.int .i64) hJ2 (Addr.add p2 184) fun (t192 : Int) =>
ldA (.int .i64) hJ2 (Addr.add p2 185) fun (t193 : Int) =>
ldA (.int .i64) hJ2 (Addr.add p2 186) fun (t194 : Int) =>
ldA (.int .i64) hJ2 (Addr.add p2 187) fun (t195 : Int) =>
ldA (.int .i64) hJ2 (Addr.add p2 188) fun (t196 : Int) =>
ldA (.int .i64) hJ2 (Addr.add p2 189) fun (t197 : Int) =>
ldA (.int .i64) hJ2 (Addr.add p2 190) fun (t198 : Int) =>
ldA (.int .i64) hJ2 (Addr.add p2 191) fun (t199 : Int) =>
ldA (.int .i64) hJ2 (Addr.add p2 192) fun (t200 : Int) =>
ldA (.int .i64) hJ2 (Addr.add p2 193) fun (t201 : Int) =>
ldA (.int .i64) hJ2 (Addr.add p2 194) fun (t202 : Int) =>
ldA (.int .i64) hJ2 (Addr.add p2 195) fun (t203 : Int) =>
ldA (.int .i64) hJ2 (Addr.add p2 196) fun (t204 : Int) =>
ldA (.int .i64) hJ2 (Addr.add p2 197) fun (t205 : Int) =>
ldA (.int .i64) hJ2 (Addr.add p2 198) fun (t206 : Int) =>
ldA (.int .i64) hJ2 (Addr.add p2 199) fun (t207 : Int) =>
ldA (.int .i64) hJ2 (Addr.add p2 200) fun (t208 : Int) =>
ldA (.int .i64) hJ2 (Addr.add p2 201) fun (t209 : Int) =>
ldA (.int .i64) hJ2 (Addr.add p2 202) fun (t210 : Int) =>
ldA (.int .i64) hJ2 (Addr.add p2 203) fun (t211 : Int) =>
ldA (.int .i64) hJ2 (Addr.add p2 204) fun (t212 : Int) =>
ldA (.int .i64) hJ2 (Addr.add p2 205) fun (t213 : Int) =>
ldA (.int .i64) hJ2 (Addr.add p2 206) fun (t214 : Int) =>
ldA (.int .i64) hJ2 (Addr.add p2 207) fun (t215 : Int) =>
ldA (.int .i64) hJ2 (Addr.add p2 208) fun (t216 : Int) =>
ldA (.int .i64) hJ2 (Addr.add p2 209) fun (t217 : Int) =>
ldA (.int .i64) hJ2 (Addr.add p2 210) fun (t218 : Int) =>
ldA (.int .i64) hJ2 (Addr.add p2 211) fun (t219 : Int) =>
ldA (.int .i64) hJ2 (Addr.add p2 212) fun (t220 : Int) =>
ldA (.int .i64) hJ2 (Addr.add p2 213) fun (t221 : Int) =>
ldA (.int .i64) hJ2 (Addr.add p2 214) fun (t222 : Int) =>
ldA (.int .i64) hJ2 (Addr.add p2 215) fun (t223 : Int) =>
ldA (.int .i64) hJ2 (Addr.add p2 216) fun (t224 : Int) =>
ldA (.int .i64) hJ2 (Addr.add p2 217) fun (t225 : Int) =>
ldA (.int .i64) hJ2 (Addr.add p2 218) fun (t226 : Int) =>
ldA (.int .i64) hJ2 (Addr.add p2 219) fun (t227 : Int) =>
ldA (.int .i64) hJ2 (Addr.add p2 220) fun (t228 : Int) =>
ldA (.int .i64) hJ2 (Addr.add p2 221) fun (t229 : Int) =>
ldA (.int .i64) hJ2 (Addr.add p2 222) fun (t230 : Int) =>
ldA (.int .i64) hJ2 (Addr.add p2 223) fun (t231 : Int) =>
ldA (.int .i64) hJ2 (Addr.add p2 224) fun (t232 : Int) =>
ldA (.int .i64) hJ2 (Addr.add p2 225) fun (t233 : Int) =>
ldA (.int .i64) hJ2 (Addr.add p2 226) fun (t234 : Int) =>
ldA (.int .i64) hJ2 (Addr.add p2 227) fun (t235 : Int) =>
ldA (.int .i64) hJ2 (Addr.add p2 228) fun (t236 : Int) =>
ldA (.int .i64) hJ2 (Addr.add p2 229) fun (t237 : Int) =>
ldA (.int .i64) hJ2 (Addr.add p2 230) fun (t238 : Int) =>
ldA (.int .i64) hJ2 (Addr.add p2 231) fun (t239 : Int) =>
ldA (.int .i64) hJ2 (Addr.add p2 232) fun (t240 : Int) =>
ldA (.int .i64) hJ2 (Addr.add p2 233) fun (t241 : Int) =>
ldA (.int .i64) hJ2 (Addr.add p2 234) fun (t242 : Int) =>
ldA (.int .i64) hJ2 (Addr.add p2 235) fun (t243 : Int) =>
ldA (.int .i64) hJ2 (Addr.add p2 236) fun (t244 : Int) =>
ldA (.int .i64) hJ2 (Addr.add p2 237) fun (t245 : Int) =>
ldA (.int .i64) hJ2 (Addr.add p2 238) fun (t246 : Int) =>
ldA (.int .i64) hJ2 (Addr.add p2 239) fun (t247 : Int) =>
ldA (.int .i64) hJ2 (Addr.add p2 240) fun (t248 : Int) =>
ldA (.int .i64) hJ2 (Addr.add p2 241) fun (t249 : Int) =>
ldA (.int .i64) hJ2 (Addr.add p2 242) fun (t250 : Int) =>
ldA (.int .i64) hJ2 (Addr.add p2 243) fun (t251 : Int) =>
ldA (.int .i64) hJ2 (Addr.add p2 244) fun (t252 : Int) =>
ldA (.int .i64) hJ2 (Addr.add p2 245) fun (t253 : Int) =>
ldA (.int .i64) hJ2 (Addr.add p2 246) fun (t254 : Int) =>
ldA (.int .i64) hJ2 (Addr.add p2 247) fun (t255 : Int) =>
ldA (.int .i64) hJ2 (Addr.add p2 248) fun (t256 : Int) =>
ldA (.int .i64) hJ2 (Addr.add p2 249) fun (t257 : Int) =>
ldA (.int .i64) hJ2 (Addr.add p2 250) fun (t258 : Int) =>
ldA (.int .i64) hJ2 (Addr.add p2 251) fun (t259 : Int) =>
ldA (.int .i64) hJ2 (Addr.add p2 252) fun (t260 : Int) =>
ldA (.int .i64) hJ2 (Addr.add p2 253) fun (t261 : Int) =>
ldA (.int .i64) hJ2 (Addr.add p2 254) fun (t262 : Int) =>
ldA (.int .i64) hJ2 (Addr.add p2 255) fun (t263 : Int) =>
∃ n, Lp (L1_lev_Least J3 t8 t9 t10 t11 t12 t13 t14 t15 t16 t17 t18 t19 t20 t21 t22 t23 t24 t25 t26 t27 t28 t29 t30 t31 t32 t33 t34 t35 t36 t37 t38 t39 t40 t41 t42 t43 t44 t45 t46 t47 t48 t49 t50 t51 t52 t53 t54 t55 t56 t57 t58 t59 t60 t61 t62 t63 t64 t65 t66 t67 t68 t69 t70 t71 t72 t73 t74 t75 t76 t77 t78 t79 t80 t81 t82 t83 t84 t85 t86 t87 t88 t89 t90 t91 t92 t93 t94 t95 t96 t97 t98 t99 t100 t101 t102 t103 t104 t105 t106 t107 t108 t109 t110 t111 t112 t113 t114 t115 t116 t117 t118 t119 t120 t121 t122 t123 t124 t125 t126 t127 t128 t129 t130 t131 t132 t133 t134 t135 t136 t137 t138 t139 t140 t141 t142 t143 t144 t145 t146 t147 t148 t149 t150 t151 t152 t153 t154 t155 t156 t157 t158 t159 t160 t161 t162 t163 t164 t165 t166 t167 t168 t169 t170 t171 t172 t173 t174 t175 t176 t177 t178 t179 t180 t181 t182 t183 t184 t185 t186 t187 t188 t189 t190 t191 t192 t193 t194 t195 t196 t197 t198 t199 t200 t201 t202 t203 t204 t205 t206 t207 t208 t209 t210 t211 t212 t213 t214 t215 t216 t217 t218 t219 t220 t221 t222 t223 t224 t225 t226 t227 t228 t229 t230 t231 t232 t233 t234 t235 t236 t237 t238 t239 t240 t241 t242 t243 t244 t245 t246 t247 t248 t249 t250 t251 t252 t253 t254 t255 t256 t257 t258 t259 t260 t261 t262 t263) n ((0, 0, 0, ()), hJ2)
def L2_lev_Least (a1_b : ByteArray) (p2 : Addr) (J2 : Unit → Hp → Prop) (sL2 : (Int × Unit) × Hp) (R2 : (Int × Unit) × Hp → Prop) : Prop :=
cnd (decide (sL2.1.1 < (ByteArray.size a1_b : Int))) (
idxStr a1_b sL2.1.1 fun (t271 : Int) =>
idxS (some p2) 256 t271 1 fun (p272 : Addr) =>
ldA (.int .i64) sL2.2 p272 fun (t273 : Int) =>
Let (IntKind.wrap .i64 (t273 - 1) : Int) fun (t274 : Int) =>
idxS (some p2) 256 t271 1 fun (p275 : Addr) =>
((1 : Nat) = 1) ∧ (
stC sL2.2 p275 (
Let (hset sL2.2 p275 (.int .i64 t274)) fun (h276 : Hp) =>
Let (IntKind.wrap .i64 (sL2.1.1 + 1) : Int) fun (t277 : Int) =>
R2 ((t277, ()), h276)))) (
J2 (()) sL2.2)
def J1_lev_Least (a0_a : ByteArray) (a1_b : ByteArray) (K : Int → Hp → Prop) (p2 : Addr) (sJ1 : Unit) (hJ1 : Hp) : Prop :=
Jn (J2_lev_Least a0_a a1_b K p2) fun (J2 : Unit → Hp → Prop) =>
∃ n, Lp (L2_lev_Least a1_b p2 J2) n ((0, ()), hJ1)
def L3_lev_Least (a0_a : ByteArray) (p2 : Addr) (J1 : Unit → Hp → Prop) (sL3 : (Int × Unit) × Hp) (R3 : (Int × Unit) × Hp → Prop) : Prop :=
cnd (decide (sL3.1.1 < (ByteArray.size a0_a : Int))) (
idxStr a0_a sL3.1.1 fun (t278 : Int) =>
idxS (some p2) 256 t278 1 fun (p279 : Addr) =>
ldA (.int .i64) sL3.2 p279 fun (t280 : Int) =>
Let (IntKind.wrap .i64 (t280 + 1) : Int) fun (t281 : Int) =>
idxS (some p2) 256 t278 1 fun (p282 : Addr) =>
((1 : Nat) = 1) ∧ (
stC sL3.2 p282 (
Let (hset sL3.2 p282 (.int .i64 t281)) fun (h283 : Hp) =>
Let (IntKind.wrap .i64 (sL3.1.1 + 1) : Int) fun (t284 : Int) =>
R3 ((t284, ()), h283)))) (
J1 (()) sL3.2)
def F_lev_Least (a0_a : ByteArray) (a1_b : ByteArray) (h : Hp) (K : Int → Hp → Prop) : Prop :=
Let (Array.push h (Obj.cells #[.int .i64 0, .int .i64 0, .int .i64 0, .int .i64 0, .int .i64 0, .int .i64 0, .int .i64 0, .int .i64 0, .int .i64 0, .int .i64 0, .int .i64 0, .int .i64 0, .int .i64 0, .int .i64 0, .int .i64 0, .int .i64 0, .int .i64 0, .int .i64 0, .int .i64 0, .int .i64 0, .int .i64 0, .int .i64 0, .int .i64 0, .int .i64 0, .int .i64 0, .int .i64 0, .int .i64 0, .int .i64 0, .int .i64 0, .int .i64 0, .int .i64 0, .int .i64 0, .int .i64 0, .int .i64 0, .int .i64 0, .int .i64 0, .int .i64 0, .int .i64 0, .int .i64 0, .int .i64 0, .int .i64 0, .int .i64 0, .int .i64 0, .int .i64 0, .int .i64 0, .int .i64 0, .int .i64 0, .int .i64 0, .int .i64 0, .int .i64 0, .int .i64 0, .int .i64 0, .int .i64 0, .int .i64 0, .int .i64 0, .int .i64 0, .int .i64 0, .int .i64 0, .int .i64 0, .int .i64 0, .int .i64 0, .int .i64 0, .int .i64 0, .int .i64 0, .int .i64 0, .int .i64 0, .int .i64 0, .int .i64 0, .int .i64 0, .int .i64 0, .int .i64 0, .int .i64 0, .int .i64 0, .int .i64 0, .int .i64 0, .int .i64 0, .int .i64 0, .int .i64 0, .int .i64 0, .int .i64 0, .int .i64 0, .int .i64 0, .int .i64 0, .int .i64 0, .int .i64 0, .int .i64 0, .int .i64 0, .int .i64 0, .int .i64 0, .int .i64 0, .int .i64 0, .int .i64 0, .int .i64 0, .int .i64 0, .int .i64 0, .int .i64 0, .int .i64 0, .int .i64 0, .int .i64 0, .int .i64 0, .int .i64 0, .int .i64 0, .int .i64 0, .int .i64 0, .int .i64 0, .int .i64 0, .int .i64 0, .int .i64 0, .int .i64 0, .int .i64 0, .int .i64 0, .int .i64 0, .int .i64 0, .int .i64 0, .int .i64 0, .int .i64 0, .int .i64 0, .int .i64 0, .int .i64 0, .int .i64 0, .int .i64 0, .int .i64 0, .int .i64 0, .int .i64 0, .int .i64 0, .int .i64 0, .int .i64 0, .int .i64 0, .int .i64 0, .int .i64 0, .int .i64 0, .int .i64 0, .int .i64 0, .int .i64 0, .int .i64 0, .int .i64 0, .int .i64 0, .int .i64 0, .int .i64 0, .int .i64 0, .int .i64 0, .int .i64 0, .int .i64 0, .int .i64 0, .int .i64 0, .int .i64 0, .int .i64 0, .int .i64 0, .int .i64 0, .int .i64 0, .int .i64 0, .int .i64 0, .int .i64 0, .int .i64 0, .int .i64 0, .int .i64 0, .int .i64 0, .int .i64 0, .int .i64 0, .int .i64 0, .int .i64 0, .int .i64 0, .int .i64 0, .int .i64 0, .int .i64 0, .int .i64 0, .int .i64 0, .int .i64 0, .int .i64 0, .int .i64 0, .int .i64 0, .int .i64 0, .int .i64 0, .int .i64 0, .int .i64 0, .int .i64 0, .int .i64 0, .int .i64 0, .int .i64 0, .int .i64 0, .int .i64 0, .int .i64 0, .int .i64 0, .int .i64 0, .int .i64 0, .int .i64 0, .int .i64 0, .int .i64 0, .int .i64 0, .int .i64 0, .int .i64 0, .int .i64 0, .int .i64 0, .int .i64 0, .int .i64 0, .int .i64 0, .int .i64 0, .int .i64 0, .int .i64 0, .int .i64 0, .int .i64 0, .int .i64 0, .int .i64 0, .int .i64 0, .int .i64 0, .int .i64 0, .int .i64 0, .int .i64 0, .int .i64 0, .int .i64 0, .int .i64 0, .int .i64 0, .int .i64 0, .int .i64 0, .int .i64 0, .int .i64 0, .int .i64 0, .int .i64 0, .int .i64 0, .int .i64 0, .int .i64 0, .int .i64 0, .int .i64 0, .int .i64 0, .int .i64 0, .int .i64 0, .int .i64 0, .int .i64 0, .int .i64 0, .int .i64 0, .int .i64 0, .int .i64 0, .int .i64 0, .int .i64 0, .int .i64 0, .int .i64 0, .int .i64 0, .int .i64 0, .int .i64 0, .int .i64 0, .int .i64 0, .int .i64 0, .int .i64 0, .int .i64 0, .int .i64 0, .int .i64 0, .int .i64 0, .int .i64 0, .int .i64 0, .int .i64 0, .int .i64 0, .int .i64 0, .int .i64 0, .int .i64 0, .int .i64 0, .int .i64 0] 51)) fun (h1 : Hp) =>
Let (Addr.mk (Array.size h) 0 none) fun (p2 : Addr) =>
Jn (J1_lev_Least a0_a a1_b K p2) fun (J1 : Unit → Hp → Prop) =>
∃ n, Lp (L3_lev_Least a0_a p2 J1) n ((0, ()), h1)

theorem F_lev_Least_ok (a0_a : ByteArray) (a1_b : ByteArray) (h : Hp) (K : Int → Hp → Prop) (hF : F_lev_Least a0_a a1_b h K) : C_lev_Least a0_a a1_b h K := by
  have e : bodyVC Try.prog Try.f19 (.seq .no (.seq .no (.join [] (.seq .no (.block (.loop [(14, .at (.int .i64))] (.seq .no (.seq (.cond .no .no) (.seq (.block (.seq .no .no)) .no)))))) (.join [] (.seq .no (.block (.loop [(27, .at (.int .i64))] (.seq .no (.seq (.cond .no .no) (.seq (.block (.seq .no .no)) .no)))))) (.seq .no (.join [(8, .at (.int .i64)), (9, .at (.int .i64))] (.seq .no (.block (.loop [(8, .at (.int .i64)), (9, .at (.int .i64)), (39, .at (.int .i64))] (.seq .no (.seq (.cond .no .no) (.seq (.block (.seq .no (.seq .no .no))) .no)))))) (.seq .no .no))))))) (Option.getD Try.f19.body .skip) [.string a0_a, .string a1_b] h [.at (.int .i64)] (fun s h => K s.1 h) = F_lev_Least a0_a a1_b h K := by kernel_rfl
  exact fun_sound mixed Try.func19 rfl (e.mpr hF)

def F_lone_places (a0_a : Sl) (a1_b : Sl) (h : Hp) (K : Value → Hp → Prop) : Prop :=
Let (Array.push h (Obj.cells #[.slice a0_a.a a0_a.len a0_a.cap] 22)) fun (h1 : Hp) =>
Let (Addr.mk (Array.size h) 0 none) fun (p2 : Addr) =>
Let (Array.push h1 (Obj.cells #[.slice a1_b.a a1_b.len a1_b.cap] 22)) fun (h3 : Hp) =>
Let (Addr.mk (Array.size h1) 0 none) fun (p4 : Addr) =>
K (.func (.func 27) #[] #[.pointer (some p2), .pointer (some p4)]) h3

theorem F_lone_places_ok (a0_a : Sl) (a1_b : Sl) (h : Hp) (K : Value → Hp → Prop) (hF : F_lone_places a0_a a1_b h K) : C_lone_places a0_a a1_b h K := by
  have e : bodyVC Try.prog Try.f20 (.seq .no (.seq .no .no)) (Option.getD Try.f20.body .skip) [.slice a0_a.a a0_a.len a0_a.cap, .slice a1_b.a a1_b.len a1_b.cap] h [.at .raw] (fun s h => K s.1 h) = F_lone_places a0_a a1_b h K := by kernel_rfl
  exact fun_sound mixed Try.func20 rfl (e.mpr hF)

def F_ham_longer (a0_a : ByteArray) (a1_b : ByteArray) (h : Hp) (K : Int → Hp → Prop) : Prop :=
Let (IntKind.wrap .i64 ((ByteArray.size a0_a : Int) - (ByteArray.size a1_b : Int)) : Int) fun (t1 : Int) =>
Let (IntKind.wrap .i64 ((ByteArray.size a1_b : Int) - (ByteArray.size a0_a : Int)) : Int) fun (t2 : Int) =>
Let (if t2 > t1 then t2 else t1 : Int) fun (t3 : Int) =>
K t3 h

theorem F_ham_longer_ok (a0_a : ByteArray) (a1_b : ByteArray) (h : Hp) (K : Int → Hp → Prop) (hF : F_ham_longer a0_a a1_b h K) : C_ham_longer a0_a a1_b h K := by
  have e : bodyVC Try.prog Try.f21 (.seq .no (.seq .no .no)) (Option.getD Try.f21.body .skip) [.string a0_a, .string a1_b] h [.at (.int .i64)] (fun s h => K s.1 h) = F_ham_longer a0_a a1_b h K := by kernel_rfl
  exact fun_sound mixed Try.func21 rfl (e.mpr hF)

def L1_ham_Places (a0_a : ByteArray) (a1_b : ByteArray) (K : Sl → Hp → Prop) (t1 : Int) (sL1 : (Sl × Int × Unit) × Hp) (R1 : (Sl × Int × Unit) × Hp → Prop) : Prop :=
cnd (decide (sL1.1.2.1 < t1)) (
idxStr a0_a sL1.1.2.1 fun (t2 : Int) =>
idxStr a1_b sL1.1.2.1 fun (t3 : Int) =>
cnd (t2 != t3) (
Let (Array.push sL1.2 (Obj.cells #[.int .i64 sL1.1.2.1] 3)) fun (h4 : Hp) =>
Let (Addr.mk (Array.size sL1.2) 0 none) fun (p5 : Addr) =>
appS 3 1 8 [.int .i64 0] sL1.1.1.a sL1.1.1.len sL1.1.1.cap (.slice (some p5) 1 1) h4 fun (t6 : Sl) (h7 : Hp) =>
Let (IntKind.wrap .i64 (sL1.1.2.1 + 1) : Int) fun (t8 : Int) =>
R1 ((t6, t8, ()), h7)) (
Let (IntKind.wrap .i64 (sL1.1.2.1 + 1) : Int) fun (t9 : Int) =>
R1 (((Sl.mk sL1.1.1.a sL1.1.1.len sL1.1.1.cap), t9, ()), sL1.2))) (
K (Sl.mk sL1.1.1.a sL1.1.1.len sL1.1.1.cap) sL1.2)
def F_ham_Places (a0_a : ByteArray) (a1_b : ByteArray) (h : Hp) (K : Sl → Hp → Prop) : Prop :=
Let (if (ByteArray.size a1_b : Int) < (ByteArray.size a0_a : Int) then (ByteArray.size a1_b : Int) else (ByteArray.size a0_a : Int) : Int) fun (t1 : Int) =>
∃ n, Lp (L1_ham_Places a0_a a1_b K t1) n (((Sl.mk none 0 0), 0, ()), h)

theorem F_ham_Places_ok (a0_a : ByteArray) (a1_b : ByteArray) (h : Hp) (K : Sl → Hp → Prop) (hF : F_ham_Places a0_a a1_b h K) : C_ham_Places a0_a a1_b h K := by
  have e : bodyVC Try.prog Try.f22 (.seq .no (.seq .no (.seq (.seq .no (.block (.loop [(5, .at .sl), (12, .at (.int .i64))] (.seq .no (.seq (.cond .no .no) (.seq (.block (.seq .no (.seq .no (.cond .no .no)))) .no)))))) (.seq .no .no)))) (Option.getD Try.f22.body .skip) [.string a0_a, .string a1_b] h [.at .sl] (fun s h => K s.1 h) = F_ham_Places a0_a a1_b h K := by kernel_rfl
  exact fun_sound mixed Try.func22 rfl (e.mpr hF)

def J2_lev_Trim (K : ByteArray → ByteArray → Hp → Prop) (t1 : ByteArray) (t2 : ByteArray) (sJ2 : Int × Unit) (hJ2 : Hp) : Prop :=
Let (IntKind.wrap .i64 ((ByteArray.size t1 : Int) - sJ2.1) : Int) fun (t3 : Int) =>
slcStr t1 none (some t3) fun (t4 : ByteArray) =>
Let (IntKind.wrap .i64 ((ByteArray.size t2 : Int) - sJ2.1) : Int) fun (t5 : Int) =>
slcStr t2 none (some t5) fun (t6 : ByteArray) =>
K t4 t6 hJ2
def L1_lev_Trim (t1 : ByteArray) (t2 : ByteArray) (J2 : Int × Unit → Hp → Prop) (sL1 : (Int × Unit) × Hp) (R1 : (Int × Unit) × Hp → Prop) : Prop :=
Let (if (ByteArray.size t2 : Int) < (ByteArray.size t1 : Int) then (ByteArray.size t2 : Int) else (ByteArray.size t1 : Int) : Int) fun (t7 : Int) =>
cnd (decide (sL1.1.1 < t7)) (
Let (IntKind.wrap .i64 ((ByteArray.size t1 : Int) - 1) : Int) fun (t8 : Int) =>
Let (IntKind.wrap .i64 (t8 - sL1.1.1) : Int) fun (t9 : Int) =>
idxStr t1 t9 fun (t10 : Int) =>
Let (IntKind.wrap .i64 ((ByteArray.size t2 : Int) - 1) : Int) fun (t11 : Int) =>
Let (IntKind.wrap .i64 (t11 - sL1.1.1) : Int) fun (t12 : Int) =>
idxStr t2 t12 fun (t13 : Int) =>
cnd (t10 == t13) (
Let (IntKind.wrap .i64 (sL1.1.1 + 1) : Int) fun (t14 : Int) =>
R1 ((t14, ()), sL1.2)) (
J2 (sL1.1.1, ()) sL1.2)) (
J2 (sL1.1.1, ()) sL1.2)
def J1_lev_Trim (a0_a : ByteArray) (a1_b : ByteArray) (K : ByteArray → ByteArray → Hp → Prop) (sJ1 : Int × Unit) (hJ1 : Hp) : Prop :=
slcStr a0_a (some sJ1.1) none fun (t1 : ByteArray) =>
slcStr a1_b (some sJ1.1) none fun (t2 : ByteArray) =>
Jn (J2_lev_Trim K t1 t2) fun (J2 : Int × Unit → Hp → Prop) =>
∃ n, Lp (L1_lev_Trim t1 t2 J2) n ((0, ()), hJ1)
def L2_lev_Trim (a0_a : ByteArray) (a1_b : ByteArray) (J1 : Int × Unit → Hp → Prop) (sL2 : (Int × Unit) × Hp) (R2 : (Int × Unit) × Hp → Prop) : Prop :=
Let (if (ByteArray.size a1_b : Int) < (ByteArray.size a0_a : Int) then (ByteArray.size a1_b : Int) else (ByteArray.size a0_a : Int) : Int) fun (t15 : Int) =>
cnd (decide (sL2.1.1 < t15)) (
idxStr a0_a sL2.1.1 fun (t16 : Int) =>
idxStr a1_b sL2.1.1 fun (t17 : Int) =>
cnd (t16 == t17) (
Let (IntKind.wrap .i64 (sL2.1.1 + 1) : Int) fun (t18 : Int) =>
R2 ((t18, ()), sL2.2)) (
J1 (sL2.1.1, ()) sL2.2)) (
J1 (sL2.1.1, ()) sL2.2)
def F_lev_Trim (a0_a : ByteArray) (a1_b : ByteArray) (h : Hp) (K : ByteArray → ByteArray → Hp → Prop) : Prop :=
Jn (J1_lev_Trim a0_a a1_b K) fun (J1 : Int × Unit → Hp → Prop) =>
∃ n, Lp (L2_lev_Trim a0_a a1_b J1) n ((0, ()), h)

theorem F_lev_Trim_ok (a0_a : ByteArray) (a1_b : ByteArray) (h : Hp) (K : ByteArray → ByteArray → Hp → Prop) (hF : F_lev_Trim a0_a a1_b h K) : C_lev_Trim a0_a a1_b h K := by
  have e : bodyVC Try.prog Try.f23 (.seq .no (.seq .no (.join [(6, .at (.int .i64))] (.block (.loop [(6, .at (.int .i64))] (.seq (.seq .no (.cond .no .no)) (.block .no)))) (.seq .no (.seq .no (.join [(6, .at (.int .i64))] (.block (.loop [(6, .at (.int .i64))] (.seq (.seq .no (.cond .no .no)) (.block .no)))) (.seq .no .no))))))) (Option.getD Try.f23.body .skip) [.string a0_a, .string a1_b] h [.at .str, .at .str] (fun s h => K s.1 s.2.1 h) = F_lev_Trim a0_a a1_b h K := by kernel_rfl
  exact fun_sound mixed Try.func23 rfl (e.mpr hF)

def L1_lev_first (K : Sl → Hp → Prop) (t2 : Sl) (sL1 : (Int × Unit) × Hp) (R1 : (Int × Unit) × Hp → Prop) : Prop :=
cnd (decide (sL1.1.1 < (t2.len : Int))) (
idxS t2.a t2.len sL1.1.1 1 fun (p4 : Addr) =>
((1 : Nat) = 1) ∧ (
stC sL1.2 p4 (
Let (hset sL1.2 p4 (.int .i64 sL1.1.1)) fun (h5 : Hp) =>
Let (IntKind.wrap .i64 (sL1.1.1 + 1) : Int) fun (t6 : Int) =>
R1 ((t6, ()), h5)))) (
K t2 sL1.2)
def F_lev_first (a0_n : Int) (h : Hp) (K : Sl → Hp → Prop) : Prop :=
Let (IntKind.wrap .i64 (a0_n + 1) : Int) fun (t1 : Int) =>
mkS 3 1 8 [.int .i64 0] t1 t1 h fun (t2 : Sl) (h3 : Hp) =>
∃ n, Lp (L1_lev_first K t2) n ((0, ()), h3)

theorem F_lev_first_ok (a0_n : Int) (h : Hp) (K : Sl → Hp → Prop) (hF : F_lev_first a0_n h K) : C_lev_first a0_n h K := by
  have e : bodyVC Try.prog Try.f24 (.seq .no (.seq .no (.seq (.seq .no (.block (.loop [(10, .at (.int .i64))] (.seq .no (.seq (.cond .no .no) (.seq (.block (.seq .no .no)) .no)))))) (.seq .no .no)))) (Option.getD Try.f24.body .skip) [.int .i64 a0_n] h [.at .sl] (fun s h => K s.1 h) = F_lev_first a0_n h K := by kernel_rfl
  exact fun_sound mixed Try.func24 rfl (e.mpr hF)

def J1_lev_next (a0_row : Sl) (sL1 : (Int × Unit) × Hp) (R1 : (Int × Unit) × Hp → Prop) (sJ1 : Int × Unit) (hJ1 : Hp) : Prop :=
Let (IntKind.wrap .i64 (sL1.1.1 + 1) : Int) fun (t12 : Int) =>
idxS a0_row.a a0_row.len t12 1 fun (p13 : Addr) =>
((1 : Nat) = 1) ∧ (
stC hJ1 p13 (
Let (hset hJ1 p13 (.int .i64 sJ1.1)) fun (h14 : Hp) =>
Let (IntKind.wrap .i64 (sL1.1.1 + 1) : Int) fun (t15 : Int) =>
R1 ((t15, ()), h14)))
def L1_lev_next (a0_row : Sl) (a1_c : Int) (a2_b : ByteArray) (K : Sl → Hp → Prop) (t1 : Sl) (sL1 : (Int × Unit) × Hp) (R1 : (Int × Unit) × Hp → Prop) : Prop :=
cnd (decide (sL1.1.1 < (ByteArray.size a2_b : Int))) (
idxS t1.a t1.len sL1.1.1 1 fun (p10 : Addr) =>
ldA (.int .i64) sL1.2 p10 fun (t11 : Int) =>
Jn (J1_lev_next a0_row sL1 R1) fun (J1 : Int × Unit → Hp → Prop) =>
idxStr a2_b sL1.1.1 fun (t16 : Int) =>
cnd (t16 != a1_c) (
Let (IntKind.wrap .i64 (sL1.1.1 + 1) : Int) fun (t17 : Int) =>
idxS t1.a t1.len t17 1 fun (p18 : Addr) =>
ldA (.int .i64) sL1.2 p18 fun (t19 : Int) =>
idxS a0_row.a a0_row.len sL1.1.1 1 fun (p20 : Addr) =>
ldA (.int .i64) sL1.2 p20 fun (t21 : Int) =>
Let (if t19 < t11 then t19 else t11 : Int) fun (t22 : Int) =>
Let (if t21 < t22 then t21 else t22 : Int) fun (t23 : Int) =>
Let (IntKind.wrap .i64 ((1 : Int) + t23) : Int) fun (t24 : Int) =>
J1 (t24, ()) sL1.2) (
J1 (t11, ()) sL1.2)) (
K a0_row sL1.2)
def F_lev_next (a0_row : Sl) (a1_c : Int) (a2_b : ByteArray) (h : Hp) (K : Sl → Hp → Prop) : Prop :=
mkS 3 1 8 [.int .i64 0] (a0_row.len : Int) (a0_row.len : Int) h fun (t1 : Sl) (h2 : Hp) =>
cpS 1 t1.a t1.len (.slice a0_row.a a0_row.len a0_row.cap) h2 fun (t3 : Nat) (h4 : Hp) =>
idxS a0_row.a a0_row.len 0 1 fun (p5 : Addr) =>
ldA (.int .i64) h4 p5 fun (t6 : Int) =>
Let (IntKind.wrap .i64 (t6 + 1) : Int) fun (t7 : Int) =>
idxS a0_row.a a0_row.len 0 1 fun (p8 : Addr) =>
((1 : Nat) = 1) ∧ (
stC h4 p8 (
Let (hset h4 p8 (.int .i64 t7)) fun (h9 : Hp) =>
∃ n, Lp (L1_lev_next a0_row a1_c a2_b K t1) n ((0, ()), h9)))

theorem F_lev_next_ok (a0_row : Sl) (a1_c : Int) (a2_b : ByteArray) (h : Hp) (K : Sl → Hp → Prop) (hF : F_lev_next a0_row a1_c a2_b h K) : C_lev_next a0_row a1_c a2_b h K := by
  have e : bodyVC Try.prog Try.f25 (.seq .no (.seq .no (.seq .no (.seq .no (.seq (.seq .no (.block (.loop [(23, .at (.int .i64))] (.seq .no (.seq (.cond .no .no) (.seq (.block (.seq .no (.seq .no (.join [(9, .at (.int .i64))] (.seq .no (.cond .no .no)) .no)))) .no)))))) (.seq .no .no)))))) (Option.getD Try.f25.body .skip) [.slice a0_row.a a0_row.len a0_row.cap, .int .u8 a1_c, .string a2_b] h [.at .sl] (fun s h => K s.1 h) = F_lev_next a0_row a1_c a2_b h K := by kernel_rfl
  exact fun_sound mixed Try.func25 rfl (e.mpr hF)

def F_lone_Norm (a0_a : Sl) (h : Hp) (K : Int → Hp → Prop) : Prop :=
C_lone_Dist a0_a (Sl.mk none 0 0) h fun (t1 : Int) (h2 : Hp) =>
K t1 h2

theorem F_lone_Norm_ok (a0_a : Sl) (h : Hp) (K : Int → Hp → Prop) (hF : F_lone_Norm a0_a h K) : C_lone_Norm a0_a h K := by
  have e : bodyVC Try.prog Try.f26 (.seq .no (.seq .no .no)) (Option.getD Try.f26.body .skip) [.slice a0_a.a a0_a.len a0_a.cap] h [.at (.int .i64)] (fun s h => K s.1 h) = F_lone_Norm a0_a h K := by kernel_rfl
  exact fun_sound mixed Try.func26 rfl (e.mpr hF)

def L1_lone_places_1 (a0_yield : Value) (a1_t : Option Addr) (a2_t : Option Addr) (K : Hp → Prop) (t5 : Int) (sL1 : (Int × Unit) × Hp) (R1 : (Int × Unit) × Hp → Prop) : Prop :=
cnd (decide (sL1.1.1 < t5)) (
someA a1_t fun (p6 : Addr) =>
ldA .sl sL1.2 p6 fun (t7 : Sl) =>
C_lone_at t7 sL1.1.1 sL1.2 fun (t8 : Int) (h9 : Hp) =>
Ext sL1.2 h9 ∧ (
someA a2_t fun (p10 : Addr) =>
ldA .sl sL1.2 p10 fun (t11 : Sl) =>
C_lone_at t11 sL1.1.1 h9 fun (t12 : Int) (h13 : Hp) =>
C_lone_apart t8 t12 h13 fun (t14 : Int) (h15 : Hp) =>
callV Try.prog a0_yield [.int .i64 t14] [.at .bool] h15 fun (s : Bool × Unit) (h17 : Hp) =>
cnd (!s.1) (
K h17) (
Let (IntKind.wrap .i64 (sL1.1.1 + 1) : Int) fun (t18 : Int) =>
R1 ((t18, ()), h17)))) (
K sL1.2)
def F_lone_places_1 (a0_yield : Value) (a1_t : Option Addr) (a2_t : Option Addr) (h : Hp) (K : Hp → Prop) : Prop :=
someA a1_t fun (p1 : Addr) =>
ldA .sl h p1 fun (t2 : Sl) =>
someA a2_t fun (p3 : Addr) =>
ldA .sl h p3 fun (t4 : Sl) =>
Let (if (t4.len : Int) > (t2.len : Int) then (t4.len : Int) else (t2.len : Int) : Int) fun (t5 : Int) =>
∃ n, Lp (L1_lone_places_1 a0_yield a1_t a2_t K t5) n ((0, ()), h)

theorem F_lone_places_1_ok (a0_yield : Value) (a1_t : Option Addr) (a2_t : Option Addr) (h : Hp) (K : Hp → Prop) (hF : F_lone_places_1 a0_yield a1_t a2_t h K) : C_lone_places_1 a0_yield a1_t a2_t h K := by
  have e : bodyVC Try.prog Try.f27 (.seq .no (.block (.loop [(10, .at (.int .i64))] (.seq .no (.seq (.cond .no .no) (.seq (.block (.seq .no (.seq .no (.cond .no .no)))) .no)))))) (Option.getD Try.f27.body .skip) [a0_yield, .pointer a1_t, .pointer a2_t] h [] (fun s h => K h) = F_lone_places_1 a0_yield a1_t a2_t h K := by kernel_rfl
  exact fun_sound mixed Try.func27 rfl (e.mpr hF)

def F_lone_apart (a0_x : Int) (a1_y : Int) (h : Hp) (K : Int → Hp → Prop) : Prop :=
Let (IntKind.wrap .i64 (a0_x) : Int) fun (t1 : Int) =>
Let (IntKind.wrap .i64 (a1_y) : Int) fun (t2 : Int) =>
Let (IntKind.wrap .i64 (t1 - t2) : Int) fun (t3 : Int) =>
Let (IntKind.wrap .i64 (0 - t3) : Int) fun (t4 : Int) =>
Let (if t4 > t3 then t4 else t3 : Int) fun (t5 : Int) =>
K t5 h

theorem F_lone_apart_ok (a0_x : Int) (a1_y : Int) (h : Hp) (K : Int → Hp → Prop) (hF : F_lone_apart a0_x a1_y h K) : C_lone_apart a0_x a1_y h K := by
  have e : bodyVC Try.prog Try.f28 (.seq .no (.seq .no (.seq .no .no))) (Option.getD Try.f28.body .skip) [.int .i32 a0_x, .int .i32 a1_y] h [.at (.int .i64)] (fun s h => K s.1 h) = F_lone_apart a0_x a1_y h K := by kernel_rfl
  exact fun_sound mixed Try.func28 rfl (e.mpr hF)

def F_lone_at (a0_a : Sl) (a1_i : Int) (h : Hp) (K : Int → Hp → Prop) : Prop :=
cnd (decide (a1_i < (a0_a.len : Int))) (
idxS a0_a.a a0_a.len a1_i 1 fun (p1 : Addr) =>
ldA (.int .i32) h p1 fun (t2 : Int) =>
K t2 h) (
K 0 h)

theorem F_lone_at_ok (a0_a : Sl) (a1_i : Int) (h : Hp) (K : Int → Hp → Prop) (hF : F_lone_at a0_a a1_i h K) : C_lone_at a0_a a1_i h K := by
  have e : bodyVC Try.prog Try.f29 (.seq .no (.seq (.seq .no (.cond (.seq .no .no) .no)) (.seq .no .no))) (Option.getD Try.f29.body .skip) [.slice a0_a.a a0_a.len a0_a.cap, .int .i64 a1_i] h [.at (.int .i32)] (fun s h => K s.1 h) = F_lone_at a0_a a1_i h K := by kernel_rfl
  exact fun_sound mixed Try.func29 rfl (e.mpr hF)

end Go.Proofs.YtibaekemfefoaaaF
