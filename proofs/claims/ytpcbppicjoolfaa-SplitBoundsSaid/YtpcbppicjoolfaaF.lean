/- The formulas of the seat's functions and the proofs that they are enough, printed by gen.py of this session. No condition. -/
import Derived.Test.YtpcbppicjoolfaaProg
import Derived.Test.YtpcbppicjoolfaaK7
namespace Go.Proofs.YtpcbppicjoolfaaF
open Go Go.Proofs.YtpcbppicjoolfaaK Go.Proofs
set_option linter.unusedVariables false
set_option maxRecDepth 100000
theorem mixed : Try.prog.follows .mixedOrders = true := by kernel_rfl
def C_gosem_cut  (h : Hp) (K : Hp → Prop) : Prop :=
  ExtT Try.prog 1 [] [] h fun s h => K h
def C_gosem_cut_init  (h : Hp) (K : Hp → Prop) : Prop :=
  CallT Try.prog 2 [] [] h fun s h => K h
def C_law18_SplitHalves (a0_l : Sl) (a1_k : Int) (h : Hp) (K : Bool → Hp → Prop) : Prop :=
  CallT Try.prog 3 [.slice a0_l.a a0_l.len a0_l.cap, .int .i64 a1_k] [.at .bool] h fun s h => K s.1 h
def C_law18_SplitBounds (a0_l : Sl) (a1_k : Int) (h : Hp) (K : Bool → Hp → Prop) : Prop :=
  CallT Try.prog 4 [.slice a0_l.a a0_l.len a0_l.cap, .int .i64 a1_k] [.at .bool] h fun s h => K s.1 h
def C_ref18_Unlike (a0_l : Sl) (h : Hp) (K : Bool → Hp → Prop) : Prop :=
  CallT Try.prog 5 [.slice a0_l.a a0_l.len a0_l.cap] [.at .bool] h fun s h => K s.1 h
def C_law18_lives  (h : Hp) (K : Bool → Hp → Prop) : Prop :=
  CallT Try.prog 6 [] [.at .bool] h fun s h => K s.1 h
def C_split_Nth (a0_l : Sl) (a1_k : Int) (h : Hp) (K : Int → Int → Bool → Hp → Prop) : Prop :=
  CallT Try.prog 7 [.slice a0_l.a a0_l.len a0_l.cap, .int .i64 a1_k] [.agg [(.int .i64), (.int .i64)], .at .bool] h fun s h => K s.1.1 s.1.2.1 s.2.1 h
def C_law18_fars (a0_l : Sl) (h : Hp) (K : Sl → Hp → Prop) : Prop :=
  CallT Try.prog 8 [.slice a0_l.a a0_l.len a0_l.cap] [.at .sl] h fun s h => K s.1 h
def C_ref18_Nth (a0_l : Sl) (a1_k : Int) (h : Hp) (K : Int → Int → Bool → Hp → Prop) : Prop :=
  CallT Try.prog 9 [.slice a0_l.a a0_l.len a0_l.cap, .int .i64 a1_k] [.agg [(.int .i64), (.int .i64)], .at .bool] h fun s h => K s.1.1 s.1.2.1 s.2.1 h
def C_split_Halve (a0_l : Sl) (a1_k : Int) (h : Hp) (K : Sl → Sl → Hp → Prop) : Prop :=
  CallT Try.prog 10 [.slice a0_l.a a0_l.len a0_l.cap, .int .i64 a1_k] [.at .sl, .at .sl] h fun s h => K s.1 s.2.1 h
def C_ref18_Halve (a0_l : Sl) (a1_k : Int) (h : Hp) (K : Sl → Sl → Hp → Prop) : Prop :=
  CallT Try.prog 11 [.slice a0_l.a a0_l.len a0_l.cap, .int .i64 a1_k] [.at .sl, .at .sl] h fun s h => K s.1 s.2.1 h
def C_law18_same (a0_a : Sl) (a1_b : Sl) (h : Hp) (K : Bool → Hp → Prop) : Prop :=
  CallT Try.prog 12 [.slice a0_a.a a0_a.len a0_a.cap, .slice a1_b.a a1_b.len a1_b.cap] [.at .bool] h fun s h => K s.1 h
def C_split_Bounds (a0_l : Sl) (h : Hp) (K : Int → Int → Hp → Prop) : Prop :=
  CallT Try.prog 13 [.slice a0_l.a a0_l.len a0_l.cap] [.at (.int .i64), .at (.int .i64)] h fun s h => K s.1 s.2.1 h
def C_split_middle (a0_l : Sl) (h : Hp) (K : Int → Int → Hp → Prop) : Prop :=
  CallT Try.prog 14 [.slice a0_l.a a0_l.len a0_l.cap] [.agg [(.int .i64), (.int .i64)]] h fun s h => K s.1.1 s.1.2.1 h
def C_split_around (a0_l : Sl) (a1_p : Int) (a2_p : Int) (h : Hp) (K : Sl → Sl → Hp → Prop) : Prop :=
  CallT Try.prog 15 [.slice a0_l.a a0_l.len a0_l.cap, .agg #[.int .i64 a1_p, .int .i64 a2_p]] [.at .sl, .at .sl] h fun s h => K s.1 s.2.1 h
def C_ref18_Rank (a0_l : Sl) (a1_x : Int) (a2_x : Int) (h : Hp) (K : Int → Hp → Prop) : Prop :=
  CallT Try.prog 16 [.slice a0_l.a a0_l.len a0_l.cap, .agg #[.int .i64 a1_x, .int .i64 a2_x]] [.at (.int .i64)] h fun s h => K s.1 h
def C_slices_Clone_split_Far_split_Far (a0_s : Sl) (h : Hp) (K : Sl → Hp → Prop) : Prop :=
  CallT Try.prog 17 [.slice a0_s.a a0_s.len a0_s.cap] [.at .sl] h fun s h => K s.1 h
def C_split_order (a0_a : Int) (a1_a : Int) (a2_b : Int) (a3_b : Int) (h : Hp) (K : Int → Hp → Prop) : Prop :=
  CallT Try.prog 18 [.agg #[.int .i64 a0_a, .int .i64 a1_a], .agg #[.int .i64 a2_b, .int .i64 a3_b]] [.at (.int .i64)] h fun s h => K s.1 h
def C_slices_SortFunc_split_Far_split_Far (a0_x : Sl) (a1_cmp : Value) (h : Hp) (K : Hp → Prop) : Prop :=
  CallT Try.prog 19 [.slice a0_x.a a0_x.len a0_x.cap, a1_cmp] [] h fun s h => K h
def C_cmp_Or_int (a0_vals : Sl) (h : Hp) (K : Int → Hp → Prop) : Prop :=
  CallT Try.prog 20 [.slice a0_vals.a a0_vals.len a0_vals.cap] [.at (.int .i64)] h fun s h => K s.1 h
def C_cmp_Compare_int (a0_x : Int) (a1_y : Int) (h : Hp) (K : Int → Hp → Prop) : Prop :=
  CallT Try.prog 21 [.int .i64 a0_x, .int .i64 a1_y] [.at (.int .i64)] h fun s h => K s.1 h
def C_slices_pdqsortCmpFunc_split_Far (a0_data : Sl) (a1_a : Int) (a2_b : Int) (a3_limit : Int) (a4_cmp : Value) (h : Hp) (K : Hp → Prop) : Prop :=
  CallT Try.prog 22 [.slice a0_data.a a0_data.len a0_data.cap, .int .i64 a1_a, .int .i64 a2_b, .int .i64 a3_limit, a4_cmp] [] h fun s h => K h
def C_math_bits_Len (a0_x : Int) (h : Hp) (K : Int → Hp → Prop) : Prop :=
  CallT Try.prog 23 [.int .u64 a0_x] [.at (.int .i64)] h fun s h => K s.1 h
def C_cmp_isNaN_int (a0_x : Int) (h : Hp) (K : Bool → Hp → Prop) : Prop :=
  CallT Try.prog 24 [.int .i64 a0_x] [.at .bool] h fun s h => K s.1 h
def C_slices_insertionSortCmpFunc_split_Far (a0_data : Sl) (a1_a : Int) (a2_b : Int) (a3_cmp : Value) (h : Hp) (K : Hp → Prop) : Prop :=
  CallT Try.prog 25 [.slice a0_data.a a0_data.len a0_data.cap, .int .i64 a1_a, .int .i64 a2_b, a3_cmp] [] h fun s h => K h
def C_slices_heapSortCmpFunc_split_Far (a0_data : Sl) (a1_a : Int) (a2_b : Int) (a3_cmp : Value) (h : Hp) (K : Hp → Prop) : Prop :=
  CallT Try.prog 26 [.slice a0_data.a a0_data.len a0_data.cap, .int .i64 a1_a, .int .i64 a2_b, a3_cmp] [] h fun s h => K h
def C_slices_breakPatternsCmpFunc_split_Far (a0_data : Sl) (a1_a : Int) (a2_b : Int) (a3_cmp : Value) (h : Hp) (K : Hp → Prop) : Prop :=
  CallT Try.prog 27 [.slice a0_data.a a0_data.len a0_data.cap, .int .i64 a1_a, .int .i64 a2_b, a3_cmp] [] h fun s h => K h
def C_slices_choosePivotCmpFunc_split_Far (a0_data : Sl) (a1_a : Int) (a2_b : Int) (a3_cmp : Value) (h : Hp) (K : Int → Int → Hp → Prop) : Prop :=
  CallT Try.prog 28 [.slice a0_data.a a0_data.len a0_data.cap, .int .i64 a1_a, .int .i64 a2_b, a3_cmp] [.at (.int .i64), .at (.int .i64)] h fun s h => K s.1 s.2.1 h
def C_slices_reverseRangeCmpFunc_split_Far (a0_data : Sl) (a1_a : Int) (a2_b : Int) (a3_cmp : Value) (h : Hp) (K : Hp → Prop) : Prop :=
  CallT Try.prog 29 [.slice a0_data.a a0_data.len a0_data.cap, .int .i64 a1_a, .int .i64 a2_b, a3_cmp] [] h fun s h => K h
def C_slices_partialInsertionSortCmpFunc_split_Far (a0_data : Sl) (a1_a : Int) (a2_b : Int) (a3_cmp : Value) (h : Hp) (K : Bool → Hp → Prop) : Prop :=
  CallT Try.prog 30 [.slice a0_data.a a0_data.len a0_data.cap, .int .i64 a1_a, .int .i64 a2_b, a3_cmp] [.at .bool] h fun s h => K s.1 h
def C_slices_partitionEqualCmpFunc_split_Far (a0_data : Sl) (a1_a : Int) (a2_b : Int) (a3_pivot : Int) (a4_cmp : Value) (h : Hp) (K : Int → Hp → Prop) : Prop :=
  CallT Try.prog 31 [.slice a0_data.a a0_data.len a0_data.cap, .int .i64 a1_a, .int .i64 a2_b, .int .i64 a3_pivot, a4_cmp] [.at (.int .i64)] h fun s h => K s.1 h
def C_slices_partitionCmpFunc_split_Far (a0_data : Sl) (a1_a : Int) (a2_b : Int) (a3_pivot : Int) (a4_cmp : Value) (h : Hp) (K : Int → Bool → Hp → Prop) : Prop :=
  CallT Try.prog 32 [.slice a0_data.a a0_data.len a0_data.cap, .int .i64 a1_a, .int .i64 a2_b, .int .i64 a3_pivot, a4_cmp] [.at (.int .i64), .at .bool] h fun s h => K s.1 s.2.1 h
def C_math_bits_Len32 (a0_x : Int) (h : Hp) (K : Int → Hp → Prop) : Prop :=
  CallT Try.prog 33 [.int .u32 a0_x] [.at (.int .i64)] h fun s h => K s.1 h
def C_math_bits_Len64 (a0_x : Int) (h : Hp) (K : Int → Hp → Prop) : Prop :=
  CallT Try.prog 34 [.int .u64 a0_x] [.at (.int .i64)] h fun s h => K s.1 h
def C_slices_siftDownCmpFunc_split_Far (a0_data : Sl) (a1_lo : Int) (a2_hi : Int) (a3_first : Int) (a4_cmp : Value) (h : Hp) (K : Hp → Prop) : Prop :=
  CallT Try.prog 35 [.slice a0_data.a a0_data.len a0_data.cap, .int .i64 a1_lo, .int .i64 a2_hi, .int .i64 a3_first, a4_cmp] [] h fun s h => K h
def C_slices_nextPowerOfTwo (a0_length : Int) (h : Hp) (K : Int → Hp → Prop) : Prop :=
  CallT Try.prog 36 [.int .i64 a0_length] [.at (.int .u64)] h fun s h => K s.1 h
def C_slices_xorshift_Next (a0_r : Option Addr) (h : Hp) (K : Int → Hp → Prop) : Prop :=
  CallT Try.prog 37 [.pointer a0_r] [.at (.int .u64)] h fun s h => K s.1 h
def C_slices_medianAdjacentCmpFunc_split_Far (a0_data : Sl) (a1_a : Int) (a2_swaps : Option Addr) (a3_cmp : Value) (h : Hp) (K : Int → Hp → Prop) : Prop :=
  CallT Try.prog 38 [.slice a0_data.a a0_data.len a0_data.cap, .int .i64 a1_a, .pointer a2_swaps, a3_cmp] [.at (.int .i64)] h fun s h => K s.1 h
def C_slices_medianCmpFunc_split_Far (a0_data : Sl) (a1_a : Int) (a2_b : Int) (a3_c : Int) (a4_swaps : Option Addr) (a5_cmp : Value) (h : Hp) (K : Int → Hp → Prop) : Prop :=
  CallT Try.prog 39 [.slice a0_data.a a0_data.len a0_data.cap, .int .i64 a1_a, .int .i64 a2_b, .int .i64 a3_c, .pointer a4_swaps, a5_cmp] [.at (.int .i64)] h fun s h => K s.1 h
def C_slices_order2CmpFunc_split_Far (a0_data : Sl) (a1_a : Int) (a2_b : Int) (a3_swaps : Option Addr) (a4_cmp : Value) (h : Hp) (K : Int → Int → Hp → Prop) : Prop :=
  CallT Try.prog 40 [.slice a0_data.a a0_data.len a0_data.cap, .int .i64 a1_a, .int .i64 a2_b, .pointer a3_swaps, a4_cmp] [.at (.int .i64), .at (.int .i64)] h fun s h => K s.1 s.2.1 h
abbrev T_ : TypeId := 0
abbrev T_func : TypeId := 1
abbrev T_int64 : TypeId := 2
abbrev T_int : TypeId := 3
abbrev T_bool : TypeId := 4
abbrev T_uint8 : TypeId := 5
abbrev T_abi_BoundsErrorCode : TypeId := 6
abbrev T_struct_x_int64_y_int_signed_bool_code_abi_BoundsErrorCode : TypeId := 7
abbrev T_runtime_boundsError : TypeId := 8
abbrev T_string : TypeId := 9
abbrev T_runtime_errorString : TypeId := 10
abbrev T_runtime_plainError : TypeId := 11
abbrev T_uintptr : TypeId := 12
abbrev T_struct_msg_string_addr_uintptr : TypeId := 13
abbrev T_runtime_errorAddressString : TypeId := 14
abbrev T_Pruntime_TypeAssertionError : TypeId := 15
abbrev T_Pruntime_PanicNilError : TypeId := 16
abbrev T_Pabi_Type : TypeId := 17
abbrev T_struct_typ_Pabi_Type : TypeId := 18
abbrev T_maps_unhashableTypeError : TypeId := 19
abbrev T_interface : TypeId := 20
abbrev T_int32 : TypeId := 21
abbrev T_Swaywiserref18_Far : TypeId := 22
abbrev T_func_Swaywiserref18_Far_bool : TypeId := 23
abbrev T_func_bool : TypeId := 24
abbrev T_struct_At_int_Dist_int : TypeId := 25
abbrev T_split_Far : TypeId := 26
abbrev T_split_Far_bool : TypeId := 27
abbrev T_func_Ssplit_Far_int_split_Far_bool : TypeId := 28
abbrev T_Ssplit_Far : TypeId := 29
abbrev T_func_Swaywiserref18_Far_Ssplit_Far : TypeId := 30
abbrev T_waywiserref18_Far : TypeId := 31
abbrev T_waywiserref18_Far_bool : TypeId := 32
abbrev T_func_Swaywiserref18_Far_int_waywiserref18_Far_bool : TypeId := 33
abbrev T_Ssplit_Far_Ssplit_Far : TypeId := 34
abbrev T_func_Ssplit_Far_int_Ssplit_Far_Ssplit_Far : TypeId := 35
abbrev T_Swaywiserref18_Far_Swaywiserref18_Far : TypeId := 36
abbrev T_func_Ssplit_Far_Swaywiserref18_Far_bool : TypeId := 38
abbrev T_func_Swaywiserref18_Far_int_bool : TypeId := 39
abbrev T_int_int : TypeId := 40
abbrev T_func_Ssplit_Far_int_int : TypeId := 41
abbrev T_func_Ssplit_Far_split_Far : TypeId := 42
abbrev T_func_Ssplit_Far_split_Far_Ssplit_Far_Ssplit_Far : TypeId := 43
abbrev T_func_Swaywiserref18_Far_waywiserref18_Far_int : TypeId := 44
abbrev T_func_Ssplit_Far_Ssplit_Far : TypeId := 45
abbrev T_func_split_Far_split_Far_int : TypeId := 46
abbrev T_func_Ssplit_Far_func_split_Far_split_Far_int : TypeId := 47
abbrev T_func_int_int : TypeId := 48
abbrev T_func_int_int_int : TypeId := 49
abbrev T_func_Ssplit_Far_int_int_int_func_split_Far_split_Far_int : TypeId := 50
abbrev T_func_uint_int : TypeId := 51
abbrev T_uint : TypeId := 52
abbrev T_Sint : TypeId := 53
abbrev T_func_int_bool : TypeId := 54
abbrev T_func_Ssplit_Far_int_int_func_split_Far_split_Far_int : TypeId := 55
abbrev T_slices_sortedHint : TypeId := 56
abbrev T_int_slices_sortedHint : TypeId := 57
abbrev T_func_Ssplit_Far_int_int_func_split_Far_split_Far_int_bool : TypeId := 59
abbrev T_int_bool : TypeId := 61
abbrev T_func_uint32_int : TypeId := 63
abbrev T_uint32 : TypeId := 64
abbrev T_func_uint64_int : TypeId := 65
abbrev T_uint64 : TypeId := 66
abbrev T_slices_xorshift : TypeId := 67
abbrev T_func_int_uint : TypeId := 68
abbrev T_func_uint64 : TypeId := 69
abbrev T_func_Ssplit_Far_int_Pint_func_split_Far_split_Far_int_int : TypeId := 70
abbrev T_Pint : TypeId := 71
abbrev T_Pslices_xorshift : TypeId := 73
abbrev T_func_string : TypeId := 75
abbrev T_runtime_TypeAssertionError : TypeId := 77
abbrev T_0_Pruntime_PanicNilError : TypeId := 78
abbrev T_struct_0_Pruntime_PanicNilError : TypeId := 79
abbrev T_runtime_PanicNilError : TypeId := 80
abbrev T_func_int : TypeId := 81
abbrev T_abi_TFlag : TypeId := 82
abbrev T_abi_Kind : TypeId := 83
abbrev T_func_unsafe_Pointer_unsafe_Pointer_bool : TypeId := 84
abbrev T_Puint8 : TypeId := 85
abbrev T_abi_NameOff : TypeId := 86
abbrev T_abi_TypeOff : TypeId := 87
abbrev T_abi_Type : TypeId := 89
abbrev T_unsafe_Pointer : TypeId := 90
def F_gosem_cut_init  (h : Hp) (K : Hp → Prop) : Prop :=
C_gosem_cut  h fun  (h1 : Hp) =>
K h1

theorem F_gosem_cut_init_ok  (h : Hp) (K : Hp → Prop) (hF : F_gosem_cut_init  h K) : C_gosem_cut_init  h K := by
  have e : bodyVC Try.prog Try.f2 .no (Option.getD Try.f2.body .skip) [] h [] (fun s h => K h) = F_gosem_cut_init  h K := by kernel_rfl
  exact fun_sound mixed Try.func2 rfl (e.mpr hF)

def J1_law18_SplitHalves (a0_l : Sl) (a1_k : Int) (K : Bool → Hp → Prop) (sJ1 : Bool × Unit) (hJ1 : Hp) : Prop :=
cnd sJ1.1 (
C_law18_lives  hJ1 fun (t1 : Bool) (h2 : Hp) =>
K t1 h2) (
C_law18_fars a0_l hJ1 fun (t3 : Sl) (h4 : Hp) =>
C_split_Nth t3 a1_k h4 fun (t5 : Int) (t6 : Int) (t7 : Bool) (h8 : Hp) =>
Let (Array.push h8 (Obj.cells #[.int .i64 0, .int .i64 0] 26)) fun (h9 : Hp) =>
Let (Addr.mk (Array.size h8) 0 none) fun (p10 : Addr) =>
stC h9 p10 (
Let (hset h9 p10 (.int .i64 t5)) fun (h11 : Hp) =>
stC h11 (Addr.add p10 1) (
Let (hset h11 (Addr.add p10 1) (.int .i64 t6)) fun (h12 : Hp) =>
C_ref18_Nth a0_l a1_k h12 fun (t13 : Int) (t14 : Int) (t15 : Bool) (h16 : Hp) =>
Let (Array.push h16 (Obj.cells #[.int .i64 0, .int .i64 0] 31)) fun (h17 : Hp) =>
Let (Addr.mk (Array.size h16) 0 none) fun (p18 : Addr) =>
stC h17 p18 (
Let (hset h17 p18 (.int .i64 t13)) fun (h19 : Hp) =>
stC h19 (Addr.add p18 1) (
Let (hset h19 (Addr.add p18 1) (.int .i64 t14)) fun (h20 : Hp) =>
C_law18_fars a0_l h20 fun (t21 : Sl) (h22 : Hp) =>
C_split_Halve t21 a1_k h22 fun (t23 : Sl) (t24 : Sl) (h25 : Hp) =>
C_ref18_Halve a0_l a1_k h25 fun (t26 : Sl) (t27 : Sl) (h28 : Hp) =>
ldA (.int .i64) h28 p10 fun (t29 : Int) =>
ldA (.int .i64) h28 p18 fun (t30 : Int) =>
cnd (t29 == t30) (
ldA (.int .i64) h28 (Addr.add p10 1) fun (t31 : Int) =>
ldA (.int .i64) h28 (Addr.add p18 1) fun (t32 : Int) =>
cnd (t31 == t32) (
cnd (t7 == t15) (
C_law18_same t23 t26 h28 fun (t33 : Bool) (h34 : Hp) =>
cnd t33 (
C_law18_same t24 t27 h34 fun (t35 : Bool) (h36 : Hp) =>
cnd t35 (
C_law18_lives  h36 fun (t37 : Bool) (h38 : Hp) =>
K t37 h38) (
K false h36)) (
K false h34)) (
K false h28)) (
K false h28)) (
K false h28))))))
def F_law18_SplitHalves (a0_l : Sl) (a1_k : Int) (h : Hp) (K : Bool → Hp → Prop) : Prop :=
Jn (J1_law18_SplitHalves a0_l a1_k K) fun (J1 : Bool × Unit → Hp → Prop) =>
cnd (decide ((a0_l.len : Int) > 300)) (
J1 (true, ()) h) (
C_ref18_Unlike a0_l h fun (t39 : Bool) (h40 : Hp) =>
J1 (!t39, ()) h40)

theorem F_law18_SplitHalves_ok (a0_l : Sl) (a1_k : Int) (h : Hp) (K : Bool → Hp → Prop) (hF : F_law18_SplitHalves a0_l a1_k h K) : C_law18_SplitHalves a0_l a1_k h K := by
  have e : bodyVC Try.prog Try.f3 (.seq .no (.seq (.join [(20, .at .bool)] .no (.cond (.seq .no .no) .no)) (.seq .no (.seq .no (.seq .no (.seq .no (.seq .no .no))))))) (Option.getD Try.f3.body .skip) [.slice a0_l.a a0_l.len a0_l.cap, .int .i64 a1_k] h [.at .bool] (fun s h => K s.1 h) = F_law18_SplitHalves a0_l a1_k h K := by kernel_rfl
  exact fun_sound mixed Try.func3 rfl (e.mpr hF)

def J3_law18_SplitBounds (K : Bool → Hp → Prop) (t10 : Int) (t11 : Int) (sJ3 : Bool × Int × Int × Unit) (hJ3 : Hp) : Prop :=
cnd sJ3.1 (
cnd (t10 == sJ3.2.1) (
cnd (t11 == sJ3.2.2.1) (
C_law18_lives  hJ3 fun (t19 : Bool) (h20 : Hp) =>
K t19 h20) (
K false hJ3)) (
K false hJ3)) (
K false hJ3)
def J4_law18_SplitBounds (a0_l : Sl) (sL1 : (Bool × Int × Int × Int × Unit) × Hp) (R1 : (Bool × Int × Int × Int × Unit) × Hp → Prop) (sJ4 : Int × Int × Unit) (hJ4 : Hp) : Prop :=
idxS a0_l.a a0_l.len sL1.1.2.2.2.1 2 fun (p21 : Addr) =>
ldA (.int .i64) hJ4 (Addr.add p21 1) fun (t22 : Int) =>
Let (if t22 < sJ4.1 then t22 else sJ4.1 : Int) fun (t23 : Int) =>
idxS a0_l.a a0_l.len sL1.1.2.2.2.1 2 fun (p24 : Addr) =>
ldA (.int .i64) hJ4 (Addr.add p24 1) fun (t25 : Int) =>
Let (if t25 > sJ4.2.1 then t25 else sJ4.2.1 : Int) fun (t26 : Int) =>
Let (IntKind.wrap .i64 (sL1.1.2.2.2.1 + 1) : Int) fun (t27 : Int) =>
R1 ((true, t23, t26, t27, ()), hJ4)
def L1_law18_SplitBounds (a0_l : Sl) (J3 : Bool × Int × Int × Unit → Hp → Prop) (sL1 : (Bool × Int × Int × Int × Unit) × Hp) (R1 : (Bool × Int × Int × Int × Unit) × Hp → Prop) : Prop :=
cnd (decide (sL1.1.2.2.2.1 < (a0_l.len : Int))) (
Jn (J4_law18_SplitBounds a0_l sL1 R1) fun (J4 : Int × Int × Unit → Hp → Prop) =>
cnd (sL1.1.2.2.2.1 == 0) (
idxS a0_l.a a0_l.len sL1.1.2.2.2.1 2 fun (p28 : Addr) =>
ldA (.int .i64) sL1.2 (Addr.add p28 1) fun (t29 : Int) =>
idxS a0_l.a a0_l.len sL1.1.2.2.2.1 2 fun (p30 : Addr) =>
ldA (.int .i64) sL1.2 (Addr.add p30 1) fun (t31 : Int) =>
J4 (t29, t31, ()) sL1.2) (
J4 (sL1.1.2.1, sL1.1.2.2.1, ()) sL1.2)) (
J3 (sL1.1.1, sL1.1.2.1, sL1.1.2.2.1, ()) sL1.2)
def J2_law18_SplitBounds (a0_l : Sl) (K : Bool → Hp → Prop) (t10 : Int) (t11 : Int) (sJ2 : Unit) (hJ2 : Hp) : Prop :=
Jn (J3_law18_SplitBounds K t10 t11) fun (J3 : Bool × Int × Int × Unit → Hp → Prop) =>
∃ n, Lp (L1_law18_SplitBounds a0_l J3) n ((((a0_l.len : Int) == 0), 1, 0, 0, ()), hJ2)
def J1_law18_SplitBounds (a0_l : Sl) (a1_k : Int) (K : Bool → Hp → Prop) (sJ1 : Bool × Unit) (hJ1 : Hp) : Prop :=
cnd sJ1.1 (
C_law18_lives  hJ1 fun (t1 : Bool) (h2 : Hp) =>
K t1 h2) (
C_law18_fars a0_l hJ1 fun (t3 : Sl) (h4 : Hp) =>
C_split_Halve t3 a1_k h4 fun (t5 : Sl) (t6 : Sl) (h7 : Hp) =>
C_law18_fars a0_l h7 fun (t8 : Sl) (h9 : Hp) =>
C_split_Bounds t8 h9 fun (t10 : Int) (t11 : Int) (h12 : Hp) =>
C_split_Bounds t5 h12 fun (t13 : Int) (t14 : Int) (h15 : Hp) =>
C_split_Bounds t6 h15 fun (t16 : Int) (t17 : Int) (h18 : Hp) =>
Jn (J2_law18_SplitBounds a0_l K t10 t11) fun (J2 : Unit → Hp → Prop) =>
cnd (decide ((t5.len : Int) > 0)) (
cnd (decide ((t6.len : Int) > 0)) (
cnd (decide (t14 > t16)) (
K false h18) (
J2 (()) h18)) (
J2 (()) h18)) (
J2 (()) h18))
def F_law18_SplitBounds (a0_l : Sl) (a1_k : Int) (h : Hp) (K : Bool → Hp → Prop) : Prop :=
Jn (J1_law18_SplitBounds a0_l a1_k K) fun (J1 : Bool × Unit → Hp → Prop) =>
cnd (decide ((a0_l.len : Int) > 300)) (
J1 (true, ()) h) (
C_ref18_Unlike a0_l h fun (t32 : Bool) (h33 : Hp) =>
J1 (!t32, ()) h33)

theorem F_law18_SplitBounds_ok (a0_l : Sl) (a1_k : Int) (h : Hp) (K : Bool → Hp → Prop) (hF : F_law18_SplitBounds a0_l a1_k h K) : C_law18_SplitBounds a0_l a1_k h K := by
  have e : bodyVC Try.prog Try.f4 (.seq .no (.seq (.join [(24, .at .bool)] .no (.cond (.seq .no .no) .no)) (.seq .no (.seq .no (.seq .no (.seq .no (.join [] (.seq .no (.cond (.seq .no .no) .no)) (.seq .no (.join [(13, .at .bool), (14, .at (.int .i64)), (15, .at (.int .i64))] (.seq .no (.block (.loop [(13, .at .bool), (14, .at (.int .i64)), (15, .at (.int .i64)), (16, .at (.int .i64))] (.seq (.seq .no (.cond .no .no)) (.seq (.block (.join [(14, .at (.int .i64)), (15, .at (.int .i64))] (.seq .no (.cond (.seq .no .no) .no)) (.seq .no (.seq .no .no)))) .no))))) (.seq .no .no)))))))))) (Option.getD Try.f4.body .skip) [.slice a0_l.a a0_l.len a0_l.cap, .int .i64 a1_k] h [.at .bool] (fun s h => K s.1 h) = F_law18_SplitBounds a0_l a1_k h K := by kernel_rfl
  exact fun_sound mixed Try.func4 rfl (e.mpr hF)

def L2_ref18_Unlike (a0_l : Sl) (K : Bool → Hp → Prop) (sL1 : (Int × Unit) × Hp) (R1 : (Int × Unit) × Hp → Prop) (sL2 : (Int × Unit) × Hp) (R2 : (Int × Unit) × Hp → Prop) : Prop :=
cnd (decide (sL2.1.1 < sL1.1.1)) (
idxS a0_l.a a0_l.len sL1.1.1 2 fun (p1 : Addr) =>
ldA (.int .i64) sL2.2 p1 fun (t2 : Int) =>
idxS a0_l.a a0_l.len sL2.1.1 2 fun (p3 : Addr) =>
ldA (.int .i64) sL2.2 p3 fun (t4 : Int) =>
cnd (t2 == t4) (
K false sL2.2) (
Let (IntKind.wrap .i64 (sL2.1.1 + 1) : Int) fun (t5 : Int) =>
R2 ((t5, ()), sL2.2))) (
Let (IntKind.wrap .i64 (sL1.1.1 + 1) : Int) fun (t6 : Int) =>
R1 ((t6, ()), sL2.2))
def L1_ref18_Unlike (a0_l : Sl) (K : Bool → Hp → Prop) (sL1 : (Int × Unit) × Hp) (R1 : (Int × Unit) × Hp → Prop) : Prop :=
cnd (decide (sL1.1.1 < (a0_l.len : Int))) (
∃ n, Lp (L2_ref18_Unlike a0_l K sL1 R1) n ((0, ()), sL1.2)) (
K true sL1.2)
def F_ref18_Unlike (a0_l : Sl) (h : Hp) (K : Bool → Hp → Prop) : Prop :=
∃ n, Lp (L1_ref18_Unlike a0_l K) n ((0, ()), h)

theorem F_ref18_Unlike_ok (a0_l : Sl) (h : Hp) (K : Bool → Hp → Prop) (hF : F_ref18_Unlike a0_l h K) : C_ref18_Unlike a0_l h K := by
  have e : bodyVC Try.prog Try.f5 (.seq .no (.seq (.seq .no (.block (.loop [(3, .at (.int .i64))] (.seq (.seq .no (.cond .no .no)) (.seq (.block (.seq .no (.block (.loop [(4, .at (.int .i64))] (.seq (.seq .no (.cond .no .no)) (.seq (.block (.seq .no (.cond (.seq .no .no) .no))) .no)))))) .no))))) (.seq .no .no))) (Option.getD Try.f5.body .skip) [.slice a0_l.a a0_l.len a0_l.cap] h [.at .bool] (fun s h => K s.1 h) = F_ref18_Unlike a0_l h K := by kernel_rfl
  exact fun_sound mixed Try.func5 rfl (e.mpr hF)

def F_law18_lives  (h : Hp) (K : Bool → Hp → Prop) : Prop :=
Let (Array.push h (Obj.cells #[.int .i64 0, .int .i64 5, .int .i64 1, .int .i64 3, .int .i64 2, .int .i64 4] 26)) fun (h1 : Hp) =>
Let (Addr.mk (Array.size h) 0 none) fun (p2 : Addr) =>
C_split_Nth (Sl.mk (some p2) 3 3) 1 h1 fun (t3 : Int) (t4 : Int) (t5 : Bool) (h6 : Hp) =>
Let (Array.push h6 (Obj.cells #[.int .i64 0, .int .i64 0] 26)) fun (h7 : Hp) =>
Let (Addr.mk (Array.size h6) 0 none) fun (p8 : Addr) =>
stC h7 p8 (
Let (hset h7 p8 (.int .i64 t3)) fun (h9 : Hp) =>
stC h9 (Addr.add p8 1) (
Let (hset h9 (Addr.add p8 1) (.int .i64 t4)) fun (h10 : Hp) =>
cnd t5 (
ldA (.int .i64) h10 p8 fun (t11 : Int) =>
cnd (t11 == 2) (
ldA (.int .i64) h10 (Addr.add p8 1) fun (t12 : Int) =>
K (t12 == 4) h10) (
K false h10)) (
K false h10)))

theorem F_law18_lives_ok  (h : Hp) (K : Bool → Hp → Prop) (hF : F_law18_lives  h K) : C_law18_lives  h K := by
  have e : bodyVC Try.prog Try.f6 (.seq .no (.seq .no (.seq .no .no))) (Option.getD Try.f6.body .skip) [] h [.at .bool] (fun s h => K s.1 h) = F_law18_lives  h K := by kernel_rfl
  exact fun_sound mixed Try.func6 rfl (e.mpr hF)

def L1_split_Nth (K : Int → Int → Bool → Hp → Prop) (p2 : Addr) (sL1 : (Sl × Int × Unit) × Hp) (R1 : (Sl × Int × Unit) × Hp → Prop) : Prop :=
C_split_middle (Sl.mk sL1.1.1.a sL1.1.1.len sL1.1.1.cap) sL1.2 fun (t7 : Int) (t8 : Int) (h9 : Hp) =>
Let (Array.push h9 (Obj.cells #[.int .i64 0, .int .i64 0] 26)) fun (h10 : Hp) =>
Let (Addr.mk (Array.size h9) 0 none) fun (p11 : Addr) =>
stC h10 p11 (
Let (hset h10 p11 (.int .i64 t7)) fun (h12 : Hp) =>
stC h12 (Addr.add p11 1) (
Let (hset h12 (Addr.add p11 1) (.int .i64 t8)) fun (h13 : Hp) =>
ldA (.int .i64) h13 p11 fun (t14 : Int) =>
ldA (.int .i64) h13 (Addr.add p11 1) fun (t15 : Int) =>
C_split_around (Sl.mk sL1.1.1.a sL1.1.1.len sL1.1.1.cap) t14 t15 h13 fun (t16 : Sl) (t17 : Sl) (h18 : Hp) =>
cnd (decide (sL1.1.2.1 < (t16.len : Int))) (
R1 ((t16, sL1.1.2.1, ()), h18)) (
Let (IntKind.wrap .i64 ((sL1.1.1.len : Int) - (t17.len : Int)) : Int) fun (t19 : Int) =>
cnd (decide (sL1.1.2.1 ≥ t19)) (
Let (IntKind.wrap .i64 ((sL1.1.1.len : Int) - (t17.len : Int)) : Int) fun (t20 : Int) =>
Let (IntKind.wrap .i64 (sL1.1.2.1 - t20) : Int) fun (t21 : Int) =>
R1 ((t17, t21, ()), h18)) (
ldA (.int .i64) h18 p11 fun (t22 : Int) =>
ldA (.int .i64) h18 (Addr.add p11 1) fun (t23 : Int) =>
stC h18 p2 (
Let (hset h18 p2 (.int .i64 t22)) fun (h24 : Hp) =>
stC h24 (Addr.add p2 1) (
Let (hset h24 (Addr.add p2 1) (.int .i64 t23)) fun (h25 : Hp) =>
ldA (.int .i64) h25 p2 fun (r26 : Int) =>
ldA (.int .i64) h25 (Addr.add p2 1) fun (r27 : Int) =>
K r26 r27 true h25))))))
def J1_split_Nth (a0_l : Sl) (a1_k : Int) (K : Int → Int → Bool → Hp → Prop) (p2 : Addr) (sJ1 : Bool × Unit) (hJ1 : Hp) : Prop :=
cnd sJ1.1 (
stC hJ1 p2 (
Let (hset hJ1 p2 (.int .i64 0)) fun (h3 : Hp) =>
stC h3 (Addr.add p2 1) (
Let (hset h3 (Addr.add p2 1) (.int .i64 0)) fun (h4 : Hp) =>
ldA (.int .i64) h4 p2 fun (r5 : Int) =>
ldA (.int .i64) h4 (Addr.add p2 1) fun (r6 : Int) =>
K r5 r6 false h4))) (
∃ n, Lp (L1_split_Nth K p2) n ((a0_l, a1_k, ()), hJ1))
def F_split_Nth (a0_l : Sl) (a1_k : Int) (h : Hp) (K : Int → Int → Bool → Hp → Prop) : Prop :=
Let (Array.push h (Obj.cells #[.int .i64 0, .int .i64 0] 26)) fun (h1 : Hp) =>
Let (Addr.mk (Array.size h) 0 none) fun (p2 : Addr) =>
Jn (J1_split_Nth a0_l a1_k K p2) fun (J1 : Bool × Unit → Hp → Prop) =>
cnd (decide (a1_k < 0)) (
J1 (true, ()) h1) (
J1 (decide (a1_k ≥ (a0_l.len : Int)), ()) h1)

theorem F_split_Nth_ok (a0_l : Sl) (a1_k : Int) (h : Hp) (K : Int → Int → Bool → Hp → Prop) (hF : F_split_Nth a0_l a1_k h K) : C_split_Nth a0_l a1_k h K := by
  have e : bodyVC Try.prog Try.f7 (.seq .no (.scope (.seq (.join [(16, .at .bool)] .no (.cond (.seq .no .no) .no)) (.seq .no (.block (.loop [(0, .at .sl), (1, .at (.int .i64))] (.block (.seq .no (.seq .no (.seq (.block (.seq .no (.cond (.seq .no .no) (.seq .no (.cond (.seq .no (.seq .no .no)) .no))))) (.seq .no .no))))))))))) (Option.getD Try.f7.body .skip) [.slice a0_l.a a0_l.len a0_l.cap, .int .i64 a1_k] h [.agg [(.int .i64), (.int .i64)], .at .bool] (fun s h => K s.1.1 s.1.2.1 s.2.1 h) = F_split_Nth a0_l a1_k h K := by kernel_rfl
  exact fun_sound mixed Try.func7 rfl (e.mpr hF)

def L1_law18_fars (a0_l : Sl) (K : Sl → Hp → Prop) (sL1 : (Sl × Int × Unit) × Hp) (R1 : (Sl × Int × Unit) × Hp → Prop) : Prop :=
cnd (decide (sL1.1.2.1 < (a0_l.len : Int))) (
idxS a0_l.a a0_l.len sL1.1.2.1 2 fun (p1 : Addr) =>
ldA (.int .i64) sL1.2 p1 fun (t2 : Int) =>
idxS a0_l.a a0_l.len sL1.1.2.1 2 fun (p3 : Addr) =>
ldA (.int .i64) sL1.2 (Addr.add p3 1) fun (t4 : Int) =>
Let (Array.push sL1.2 (Obj.cells #[.int .i64 t2, .int .i64 t4] 26)) fun (h5 : Hp) =>
Let (Addr.mk (Array.size sL1.2) 0 none) fun (p6 : Addr) =>
appS 26 2 16 [.int .i64 0, .int .i64 0] sL1.1.1.a sL1.1.1.len sL1.1.1.cap (.slice (some p6) 1 1) h5 fun (t7 : Sl) (h8 : Hp) =>
Let (IntKind.wrap .i64 (sL1.1.2.1 + 1) : Int) fun (t9 : Int) =>
R1 ((t7, t9, ()), h8)) (
K (Sl.mk sL1.1.1.a sL1.1.1.len sL1.1.1.cap) sL1.2)
def F_law18_fars (a0_l : Sl) (h : Hp) (K : Sl → Hp → Prop) : Prop :=
∃ n, Lp (L1_law18_fars a0_l K) n (((Sl.mk none 0 0), 0, ()), h)

theorem F_law18_fars_ok (a0_l : Sl) (h : Hp) (K : Sl → Hp → Prop) (hF : F_law18_fars a0_l h K) : C_law18_fars a0_l h K := by
  have e : bodyVC Try.prog Try.f8 (.seq .no (.seq .no (.seq (.seq .no (.block (.loop [(3, .at .sl), (4, .at (.int .i64))] (.seq (.seq .no (.cond .no .no)) (.seq (.block .no) .no))))) (.seq .no .no)))) (Option.getD Try.f8.body .skip) [.slice a0_l.a a0_l.len a0_l.cap] h [.at .sl] (fun s h => K s.1 h) = F_law18_fars a0_l h K := by kernel_rfl
  exact fun_sound mixed Try.func8 rfl (e.mpr hF)

def L1_ref18_Nth (a0_l : Sl) (a1_k : Int) (K : Int → Int → Bool → Hp → Prop) (p2 : Addr) (sL1 : (Int × Unit) × Hp) (R1 : (Int × Unit) × Hp → Prop) : Prop :=
cnd (decide (sL1.1.1 < (a0_l.len : Int))) (
idxS a0_l.a a0_l.len sL1.1.1 2 fun (p3 : Addr) =>
ldA (.int .i64) sL1.2 p3 fun (t4 : Int) =>
ldA (.int .i64) sL1.2 (Addr.add p3 1) fun (t5 : Int) =>
C_ref18_Rank a0_l t4 t5 sL1.2 fun (t6 : Int) (h7 : Hp) =>
cnd (t6 == a1_k) (
idxS a0_l.a a0_l.len sL1.1.1 2 fun (p8 : Addr) =>
ldA (.int .i64) h7 p8 fun (t9 : Int) =>
ldA (.int .i64) h7 (Addr.add p8 1) fun (t10 : Int) =>
stC h7 p2 (
Let (hset h7 p2 (.int .i64 t9)) fun (h11 : Hp) =>
stC h11 (Addr.add p2 1) (
Let (hset h11 (Addr.add p2 1) (.int .i64 t10)) fun (h12 : Hp) =>
ldA (.int .i64) h12 p2 fun (r13 : Int) =>
ldA (.int .i64) h12 (Addr.add p2 1) fun (r14 : Int) =>
K r13 r14 true h12))) (
Let (IntKind.wrap .i64 (sL1.1.1 + 1) : Int) fun (t15 : Int) =>
R1 ((t15, ()), h7))) (
stC sL1.2 p2 (
Let (hset sL1.2 p2 (.int .i64 0)) fun (h16 : Hp) =>
stC h16 (Addr.add p2 1) (
Let (hset h16 (Addr.add p2 1) (.int .i64 0)) fun (h17 : Hp) =>
ldA (.int .i64) h17 p2 fun (r18 : Int) =>
ldA (.int .i64) h17 (Addr.add p2 1) fun (r19 : Int) =>
K r18 r19 false h17)))
def F_ref18_Nth (a0_l : Sl) (a1_k : Int) (h : Hp) (K : Int → Int → Bool → Hp → Prop) : Prop :=
Let (Array.push h (Obj.cells #[.int .i64 0, .int .i64 0] 31)) fun (h1 : Hp) =>
Let (Addr.mk (Array.size h) 0 none) fun (p2 : Addr) =>
∃ n, Lp (L1_ref18_Nth a0_l a1_k K p2) n ((0, ()), h1)

theorem F_ref18_Nth_ok (a0_l : Sl) (a1_k : Int) (h : Hp) (K : Int → Int → Bool → Hp → Prop) (hF : F_ref18_Nth a0_l a1_k h K) : C_ref18_Nth a0_l a1_k h K := by
  have e : bodyVC Try.prog Try.f9 (.seq .no (.seq (.seq .no (.block (.loop [(6, .at (.int .i64))] (.seq (.seq .no (.cond .no .no)) (.seq (.block (.seq .no (.cond (.seq .no .no) .no))) .no))))) (.seq .no .no))) (Option.getD Try.f9.body .skip) [.slice a0_l.a a0_l.len a0_l.cap, .int .i64 a1_k] h [.agg [(.int .i64), (.int .i64)], .at .bool] (fun s h => K s.1.1 s.1.2.1 s.2.1 h) = F_ref18_Nth a0_l a1_k h K := by kernel_rfl
  exact fun_sound mixed Try.func9 rfl (e.mpr hF)

def L1_split_Halve (a0_l : Sl) (K : Sl → Sl → Hp → Prop) (p7 : Addr) (sL1 : (Sl × Sl × Int × Unit) × Hp) (R1 : (Sl × Sl × Int × Unit) × Hp → Prop) : Prop :=
cnd (decide (sL1.1.2.2.1 < (a0_l.len : Int))) (
idxS a0_l.a a0_l.len sL1.1.2.2.1 2 fun (p12 : Addr) =>
ldA (.int .i64) sL1.2 p12 fun (t13 : Int) =>
ldA (.int .i64) sL1.2 (Addr.add p12 1) fun (t14 : Int) =>
Let (Array.push sL1.2 (Obj.cells #[.int .i64 0, .int .i64 0] 26)) fun (h15 : Hp) =>
Let (Addr.mk (Array.size sL1.2) 0 none) fun (p16 : Addr) =>
stC h15 p16 (
Let (hset h15 p16 (.int .i64 t13)) fun (h17 : Hp) =>
stC h17 (Addr.add p16 1) (
Let (hset h17 (Addr.add p16 1) (.int .i64 t14)) fun (h18 : Hp) =>
ldA (.int .i64) h18 p16 fun (t19 : Int) =>
ldA (.int .i64) h18 (Addr.add p16 1) fun (t20 : Int) =>
ldA (.int .i64) h18 p7 fun (t21 : Int) =>
ldA (.int .i64) h18 (Addr.add p7 1) fun (t22 : Int) =>
C_split_order t19 t20 t21 t22 h18 fun (t23 : Int) (h24 : Hp) =>
cnd (decide (t23 < 0)) (
ldA (.int .i64) h24 p16 fun (t25 : Int) =>
ldA (.int .i64) h24 (Addr.add p16 1) fun (t26 : Int) =>
Let (Array.push h24 (Obj.cells #[.int .i64 t25, .int .i64 t26] 26)) fun (h27 : Hp) =>
Let (Addr.mk (Array.size h24) 0 none) fun (p28 : Addr) =>
appS 26 2 16 [.int .i64 0, .int .i64 0] sL1.1.1.a sL1.1.1.len sL1.1.1.cap (.slice (some p28) 1 1) h27 fun (t29 : Sl) (h30 : Hp) =>
Let (IntKind.wrap .i64 (sL1.1.2.2.1 + 1) : Int) fun (t31 : Int) =>
R1 ((t29, (Sl.mk sL1.1.2.1.a sL1.1.2.1.len sL1.1.2.1.cap), t31, ()), h30)) (
ldA (.int .i64) h24 p16 fun (t32 : Int) =>
ldA (.int .i64) h24 (Addr.add p16 1) fun (t33 : Int) =>
Let (Array.push h24 (Obj.cells #[.int .i64 t32, .int .i64 t33] 26)) fun (h34 : Hp) =>
Let (Addr.mk (Array.size h24) 0 none) fun (p35 : Addr) =>
appS 26 2 16 [.int .i64 0, .int .i64 0] sL1.1.2.1.a sL1.1.2.1.len sL1.1.2.1.cap (.slice (some p35) 1 1) h34 fun (t36 : Sl) (h37 : Hp) =>
Let (IntKind.wrap .i64 (sL1.1.2.2.1 + 1) : Int) fun (t38 : Int) =>
R1 (((Sl.mk sL1.1.1.a sL1.1.1.len sL1.1.1.cap), t36, t38, ()), h37))))) (
K (Sl.mk sL1.1.1.a sL1.1.1.len sL1.1.1.cap) (Sl.mk sL1.1.2.1.a sL1.1.2.1.len sL1.1.2.1.cap) sL1.2)
def F_split_Halve (a0_l : Sl) (a1_k : Int) (h : Hp) (K : Sl → Sl → Hp → Prop) : Prop :=
Let (if 0 > a1_k then 0 else a1_k : Int) fun (t1 : Int) =>
C_split_Nth a0_l t1 h fun (t2 : Int) (t3 : Int) (t4 : Bool) (h5 : Hp) =>
Let (Array.push h5 (Obj.cells #[.int .i64 0, .int .i64 0] 26)) fun (h6 : Hp) =>
Let (Addr.mk (Array.size h5) 0 none) fun (p7 : Addr) =>
stC h6 p7 (
Let (hset h6 p7 (.int .i64 t2)) fun (h8 : Hp) =>
stC h8 (Addr.add p7 1) (
Let (hset h8 (Addr.add p7 1) (.int .i64 t3)) fun (h9 : Hp) =>
cnd (!t4) (
C_slices_Clone_split_Far_split_Far a0_l h9 fun (t10 : Sl) (h11 : Hp) =>
K t10 (Sl.mk none 0 0) h11) (
∃ n, Lp (L1_split_Halve a0_l K p7) n (((Sl.mk none 0 0), (Sl.mk none 0 0), 0, ()), h9))))

theorem F_split_Halve_ok (a0_l : Sl) (a1_k : Int) (h : Hp) (K : Sl → Sl → Hp → Prop) (hF : F_split_Halve a0_l a1_k h K) : C_split_Halve a0_l a1_k h K := by
  have e : bodyVC Try.prog Try.f10 (.seq .no (.seq .no (.seq (.seq .no (.cond (.seq .no .no) .no)) (.seq .no (.seq (.seq .no (.block (.loop [(8, .at .sl), (9, .at .sl), (25, .at (.int .i64))] (.seq .no (.seq (.cond .no .no) (.seq (.block (.seq .no (.seq .no (.cond .no .no)))) .no)))))) (.seq .no .no)))))) (Option.getD Try.f10.body .skip) [.slice a0_l.a a0_l.len a0_l.cap, .int .i64 a1_k] h [.at .sl, .at .sl] (fun s h => K s.1 s.2.1 h) = F_split_Halve a0_l a1_k h K := by kernel_rfl
  exact fun_sound mixed Try.func10 rfl (e.mpr hF)

def L1_ref18_Halve (a0_l : Sl) (a1_k : Int) (K : Sl → Sl → Hp → Prop) (sL1 : (Sl × Sl × Int × Unit) × Hp) (R1 : (Sl × Sl × Int × Unit) × Hp → Prop) : Prop :=
cnd (decide (sL1.1.2.2.1 < (a0_l.len : Int))) (
idxS a0_l.a a0_l.len sL1.1.2.2.1 2 fun (p1 : Addr) =>
ldA (.int .i64) sL1.2 p1 fun (t2 : Int) =>
ldA (.int .i64) sL1.2 (Addr.add p1 1) fun (t3 : Int) =>
C_ref18_Rank a0_l t2 t3 sL1.2 fun (t4 : Int) (h5 : Hp) =>
cnd (decide (t4 < a1_k)) (
idxS a0_l.a a0_l.len sL1.1.2.2.1 2 fun (p6 : Addr) =>
ldA (.int .i64) h5 p6 fun (t7 : Int) =>
ldA (.int .i64) h5 (Addr.add p6 1) fun (t8 : Int) =>
Let (Array.push h5 (Obj.cells #[.int .i64 t7, .int .i64 t8] 31)) fun (h9 : Hp) =>
Let (Addr.mk (Array.size h5) 0 none) fun (p10 : Addr) =>
appS 31 2 16 [.int .i64 0, .int .i64 0] sL1.1.1.a sL1.1.1.len sL1.1.1.cap (.slice (some p10) 1 1) h9 fun (t11 : Sl) (h12 : Hp) =>
Let (IntKind.wrap .i64 (sL1.1.2.2.1 + 1) : Int) fun (t13 : Int) =>
R1 ((t11, (Sl.mk sL1.1.2.1.a sL1.1.2.1.len sL1.1.2.1.cap), t13, ()), h12)) (
idxS a0_l.a a0_l.len sL1.1.2.2.1 2 fun (p14 : Addr) =>
ldA (.int .i64) h5 p14 fun (t15 : Int) =>
ldA (.int .i64) h5 (Addr.add p14 1) fun (t16 : Int) =>
Let (Array.push h5 (Obj.cells #[.int .i64 t15, .int .i64 t16] 31)) fun (h17 : Hp) =>
Let (Addr.mk (Array.size h5) 0 none) fun (p18 : Addr) =>
appS 31 2 16 [.int .i64 0, .int .i64 0] sL1.1.2.1.a sL1.1.2.1.len sL1.1.2.1.cap (.slice (some p18) 1 1) h17 fun (t19 : Sl) (h20 : Hp) =>
Let (IntKind.wrap .i64 (sL1.1.2.2.1 + 1) : Int) fun (t21 : Int) =>
R1 (((Sl.mk sL1.1.1.a sL1.1.1.len sL1.1.1.cap), t19, t21, ()), h20))) (
K (Sl.mk sL1.1.1.a sL1.1.1.len sL1.1.1.cap) (Sl.mk sL1.1.2.1.a sL1.1.2.1.len sL1.1.2.1.cap) sL1.2)
def F_ref18_Halve (a0_l : Sl) (a1_k : Int) (h : Hp) (K : Sl → Sl → Hp → Prop) : Prop :=
∃ n, Lp (L1_ref18_Halve a0_l a1_k K) n (((Sl.mk none 0 0), (Sl.mk none 0 0), 0, ()), h)

theorem F_ref18_Halve_ok (a0_l : Sl) (a1_k : Int) (h : Hp) (K : Sl → Sl → Hp → Prop) (hF : F_ref18_Halve a0_l a1_k h K) : C_ref18_Halve a0_l a1_k h K := by
  have e : bodyVC Try.prog Try.f11 (.seq .no (.seq .no (.seq (.seq .no (.block (.loop [(6, .at .sl), (7, .at .sl), (8, .at (.int .i64))] (.seq (.seq .no (.cond .no .no)) (.seq (.block (.seq .no (.cond .no .no))) .no))))) (.seq .no .no)))) (Option.getD Try.f11.body .skip) [.slice a0_l.a a0_l.len a0_l.cap, .int .i64 a1_k] h [.at .sl, .at .sl] (fun s h => K s.1 s.2.1 h) = F_ref18_Halve a0_l a1_k h K := by kernel_rfl
  exact fun_sound mixed Try.func11 rfl (e.mpr hF)

def L1_law18_same (a0_a : Sl) (a1_b : Sl) (K : Bool → Hp → Prop) (sL1 : (Int × Unit) × Hp) (R1 : (Int × Unit) × Hp → Prop) : Prop :=
cnd (decide (sL1.1.1 < (a0_a.len : Int))) (
idxS a0_a.a a0_a.len sL1.1.1 2 fun (p1 : Addr) =>
ldA (.int .i64) sL1.2 p1 fun (t2 : Int) =>
idxS a1_b.a a1_b.len sL1.1.1 2 fun (p3 : Addr) =>
ldA (.int .i64) sL1.2 p3 fun (t4 : Int) =>
cnd (t2 != t4) (
K false sL1.2) (
idxS a0_a.a a0_a.len sL1.1.1 2 fun (p5 : Addr) =>
ldA (.int .i64) sL1.2 (Addr.add p5 1) fun (t6 : Int) =>
idxS a1_b.a a1_b.len sL1.1.1 2 fun (p7 : Addr) =>
ldA (.int .i64) sL1.2 (Addr.add p7 1) fun (t8 : Int) =>
cnd (t6 != t8) (
K false sL1.2) (
Let (IntKind.wrap .i64 (sL1.1.1 + 1) : Int) fun (t9 : Int) =>
R1 ((t9, ()), sL1.2)))) (
K true sL1.2)
def F_law18_same (a0_a : Sl) (a1_b : Sl) (h : Hp) (K : Bool → Hp → Prop) : Prop :=
cnd ((a0_a.len : Int) != (a1_b.len : Int)) (
K false h) (
∃ n, Lp (L1_law18_same a0_a a1_b K) n ((0, ()), h))

theorem F_law18_same_ok (a0_a : Sl) (a1_b : Sl) (h : Hp) (K : Bool → Hp → Prop) (hF : F_law18_same a0_a a1_b h K) : C_law18_same a0_a a1_b h K := by
  have e : bodyVC Try.prog Try.f12 (.seq .no (.seq (.seq .no (.cond (.seq .no .no) .no)) (.seq (.seq .no (.block (.loop [(5, .at (.int .i64))] (.seq (.seq .no (.cond .no .no)) (.seq (.block (.seq .no (.cond (.seq .no .no) .no))) .no))))) (.seq .no .no)))) (Option.getD Try.f12.body .skip) [.slice a0_a.a a0_a.len a0_a.cap, .slice a1_b.a a1_b.len a1_b.cap] h [.at .bool] (fun s h => K s.1 h) = F_law18_same a0_a a1_b h K := by kernel_rfl
  exact fun_sound mixed Try.func12 rfl (e.mpr hF)

def L1_split_Bounds (a0_l : Sl) (K : Int → Int → Hp → Prop) (sL1 : (Int × Int × Int × Unit) × Hp) (R1 : (Int × Int × Int × Unit) × Hp → Prop) : Prop :=
cnd (decide (sL1.1.2.2.1 < (a0_l.len : Int))) (
idxS a0_l.a a0_l.len sL1.1.2.2.1 2 fun (p5 : Addr) =>
ldA (.int .i64) sL1.2 p5 fun (t6 : Int) =>
ldA (.int .i64) sL1.2 (Addr.add p5 1) fun (t7 : Int) =>
Let (Array.push sL1.2 (Obj.cells #[.int .i64 0, .int .i64 0] 26)) fun (h8 : Hp) =>
Let (Addr.mk (Array.size sL1.2) 0 none) fun (p9 : Addr) =>
stC h8 p9 (
Let (hset h8 p9 (.int .i64 t6)) fun (h10 : Hp) =>
stC h10 (Addr.add p9 1) (
Let (hset h10 (Addr.add p9 1) (.int .i64 t7)) fun (h11 : Hp) =>
ldA (.int .i64) h11 (Addr.add p9 1) fun (t12 : Int) =>
Let (if t12 < sL1.1.1 then t12 else sL1.1.1 : Int) fun (t13 : Int) =>
ldA (.int .i64) h11 (Addr.add p9 1) fun (t14 : Int) =>
Let (if t14 > sL1.1.2.1 then t14 else sL1.1.2.1 : Int) fun (t15 : Int) =>
Let (IntKind.wrap .i64 (sL1.1.2.2.1 + 1) : Int) fun (t16 : Int) =>
R1 ((t13, t15, t16, ()), h11)))) (
K sL1.1.1 sL1.1.2.1 sL1.2)
def F_split_Bounds (a0_l : Sl) (h : Hp) (K : Int → Int → Hp → Prop) : Prop :=
cnd ((a0_l.len : Int) == 0) (
K 1 0 h) (
idxS a0_l.a a0_l.len 0 2 fun (p1 : Addr) =>
ldA (.int .i64) h (Addr.add p1 1) fun (t2 : Int) =>
idxS a0_l.a a0_l.len 0 2 fun (p3 : Addr) =>
ldA (.int .i64) h (Addr.add p3 1) fun (t4 : Int) =>
∃ n, Lp (L1_split_Bounds a0_l K) n ((t2, t4, 0, ()), h))

theorem F_split_Bounds_ok (a0_l : Sl) (h : Hp) (K : Int → Int → Hp → Prop) (hF : F_split_Bounds a0_l h K) : C_split_Bounds a0_l h K := by
  have e : bodyVC Try.prog Try.f13 (.seq .no (.seq (.seq .no (.cond (.seq .no .no) .no)) (.seq .no (.seq (.seq .no (.block (.loop [(4, .at (.int .i64)), (5, .at (.int .i64)), (21, .at (.int .i64))] (.seq .no (.seq (.cond .no .no) (.seq (.block (.seq .no .no)) .no)))))) (.seq .no .no))))) (Option.getD Try.f13.body .skip) [.slice a0_l.a a0_l.len a0_l.cap] h [.at (.int .i64), .at (.int .i64)] (fun s h => K s.1 s.2.1 h) = F_split_Bounds a0_l h K := by kernel_rfl
  exact fun_sound mixed Try.func13 rfl (e.mpr hF)

def F_split_middle (a0_l : Sl) (h : Hp) (K : Int → Int → Hp → Prop) : Prop :=
Let (Array.push h (Obj.cells #[.int .i64 0, .int .i64 0] 26)) fun (h1 : Hp) =>
Let (Addr.mk (Array.size h) 0 none) fun (p2 : Addr) =>
idxS a0_l.a a0_l.len 0 2 fun (p3 : Addr) =>
ldA (.int .i64) h1 p3 fun (t4 : Int) =>
ldA (.int .i64) h1 (Addr.add p3 1) fun (t5 : Int) =>
(2 ≠ (0 : Int)) ∧ (
Let (IntKind.wrap .i64 (Int.tdiv (a0_l.len : Int) 2) : Int) fun (t6 : Int) =>
idxS a0_l.a a0_l.len t6 2 fun (p7 : Addr) =>
ldA (.int .i64) h1 p7 fun (t8 : Int) =>
ldA (.int .i64) h1 (Addr.add p7 1) fun (t9 : Int) =>
Let (IntKind.wrap .i64 ((a0_l.len : Int) - 1) : Int) fun (t10 : Int) =>
idxS a0_l.a a0_l.len t10 2 fun (p11 : Addr) =>
ldA (.int .i64) h1 p11 fun (t12 : Int) =>
ldA (.int .i64) h1 (Addr.add p11 1) fun (t13 : Int) =>
Let (Array.push h1 (Obj.cells #[.int .i64 t4, .int .i64 t5, .int .i64 t8, .int .i64 t9, .int .i64 t12, .int .i64 t13] 26)) fun (h14 : Hp) =>
Let (Addr.mk (Array.size h1) 0 none) fun (p15 : Addr) =>
C_slices_SortFunc_split_Far_split_Far (Sl.mk (some p15) 3 3) (.func (.func 18) #[] #[]) h14 fun  (h16 : Hp) =>
idxS (some p15) 3 1 2 fun (p17 : Addr) =>
ldA (.int .i64) h16 p17 fun (t18 : Int) =>
ldA (.int .i64) h16 (Addr.add p17 1) fun (t19 : Int) =>
stC h16 p2 (
Let (hset h16 p2 (.int .i64 t18)) fun (h20 : Hp) =>
stC h20 (Addr.add p2 1) (
Let (hset h20 (Addr.add p2 1) (.int .i64 t19)) fun (h21 : Hp) =>
ldA (.int .i64) h21 p2 fun (r22 : Int) =>
ldA (.int .i64) h21 (Addr.add p2 1) fun (r23 : Int) =>
K r22 r23 h21)))

theorem F_split_middle_ok (a0_l : Sl) (h : Hp) (K : Int → Int → Hp → Prop) (hF : F_split_middle a0_l h K) : C_split_middle a0_l h K := by
  have e : bodyVC Try.prog Try.f14 (.seq .no (.seq .no (.seq .no (.seq .no .no)))) (Option.getD Try.f14.body .skip) [.slice a0_l.a a0_l.len a0_l.cap] h [.agg [(.int .i64), (.int .i64)]] (fun s h => K s.1.1 s.1.2.1 h) = F_split_middle a0_l h K := by kernel_rfl
  exact fun_sound mixed Try.func14 rfl (e.mpr hF)

def L1_split_around (a0_l : Sl) (K : Sl → Sl → Hp → Prop) (p2 : Addr) (sL1 : (Sl × Sl × Int × Unit) × Hp) (R1 : (Sl × Sl × Int × Unit) × Hp → Prop) : Prop :=
cnd (decide (sL1.1.2.2.1 < (a0_l.len : Int))) (
idxS a0_l.a a0_l.len sL1.1.2.2.1 2 fun (p3 : Addr) =>
ldA (.int .i64) sL1.2 p3 fun (t4 : Int) =>
ldA (.int .i64) sL1.2 (Addr.add p3 1) fun (t5 : Int) =>
Let (Array.push sL1.2 (Obj.cells #[.int .i64 0, .int .i64 0] 26)) fun (h6 : Hp) =>
Let (Addr.mk (Array.size sL1.2) 0 none) fun (p7 : Addr) =>
stC h6 p7 (
Let (hset h6 p7 (.int .i64 t4)) fun (h8 : Hp) =>
stC h8 (Addr.add p7 1) (
Let (hset h8 (Addr.add p7 1) (.int .i64 t5)) fun (h9 : Hp) =>
ldA (.int .i64) h9 p7 fun (t10 : Int) =>
ldA (.int .i64) h9 (Addr.add p7 1) fun (t11 : Int) =>
ldA (.int .i64) h9 p2 fun (t12 : Int) =>
ldA (.int .i64) h9 (Addr.add p2 1) fun (t13 : Int) =>
C_split_order t10 t11 t12 t13 h9 fun (t14 : Int) (h15 : Hp) =>
cnd (decide (t14 < 0)) (
ldA (.int .i64) h15 p7 fun (t16 : Int) =>
ldA (.int .i64) h15 (Addr.add p7 1) fun (t17 : Int) =>
Let (Array.push h15 (Obj.cells #[.int .i64 t16, .int .i64 t17] 26)) fun (h18 : Hp) =>
Let (Addr.mk (Array.size h15) 0 none) fun (p19 : Addr) =>
appS 26 2 16 [.int .i64 0, .int .i64 0] sL1.1.1.a sL1.1.1.len sL1.1.1.cap (.slice (some p19) 1 1) h18 fun (t20 : Sl) (h21 : Hp) =>
Let (IntKind.wrap .i64 (sL1.1.2.2.1 + 1) : Int) fun (t22 : Int) =>
R1 ((t20, (Sl.mk sL1.1.2.1.a sL1.1.2.1.len sL1.1.2.1.cap), t22, ()), h21)) (
cnd (decide (t14 > 0)) (
ldA (.int .i64) h15 p7 fun (t23 : Int) =>
ldA (.int .i64) h15 (Addr.add p7 1) fun (t24 : Int) =>
Let (Array.push h15 (Obj.cells #[.int .i64 t23, .int .i64 t24] 26)) fun (h25 : Hp) =>
Let (Addr.mk (Array.size h15) 0 none) fun (p26 : Addr) =>
appS 26 2 16 [.int .i64 0, .int .i64 0] sL1.1.2.1.a sL1.1.2.1.len sL1.1.2.1.cap (.slice (some p26) 1 1) h25 fun (t27 : Sl) (h28 : Hp) =>
Let (IntKind.wrap .i64 (sL1.1.2.2.1 + 1) : Int) fun (t29 : Int) =>
R1 (((Sl.mk sL1.1.1.a sL1.1.1.len sL1.1.1.cap), t27, t29, ()), h28)) (
Let (IntKind.wrap .i64 (sL1.1.2.2.1 + 1) : Int) fun (t30 : Int) =>
R1 (((Sl.mk sL1.1.1.a sL1.1.1.len sL1.1.1.cap), (Sl.mk sL1.1.2.1.a sL1.1.2.1.len sL1.1.2.1.cap), t30, ()), h15)))))) (
K (Sl.mk sL1.1.1.a sL1.1.1.len sL1.1.1.cap) (Sl.mk sL1.1.2.1.a sL1.1.2.1.len sL1.1.2.1.cap) sL1.2)
def F_split_around (a0_l : Sl) (a1_p : Int) (a2_p : Int) (h : Hp) (K : Sl → Sl → Hp → Prop) : Prop :=
Let (Array.push h (Obj.cells #[.int .i64 a1_p, .int .i64 a2_p] 26)) fun (h1 : Hp) =>
Let (Addr.mk (Array.size h) 0 none) fun (p2 : Addr) =>
∃ n, Lp (L1_split_around a0_l K p2) n (((Sl.mk none 0 0), (Sl.mk none 0 0), 0, ()), h1)

theorem F_split_around_ok (a0_l : Sl) (a1_p : Int) (a2_p : Int) (h : Hp) (K : Sl → Sl → Hp → Prop) (hF : F_split_around a0_l a1_p a2_p h K) : C_split_around a0_l a1_p a2_p h K := by
  have e : bodyVC Try.prog Try.f15 (.seq .no (.seq .no (.seq (.seq .no (.block (.loop [(6, .at .sl), (7, .at .sl), (13, .at (.int .i64))] (.seq .no (.seq (.cond .no .no) (.seq (.block (.seq .no (.seq .no (.block (.seq .no (.cond .no (.seq .no (.cond .no .no)))))))) .no)))))) (.seq .no .no)))) (Option.getD Try.f15.body .skip) [.slice a0_l.a a0_l.len a0_l.cap, .agg #[.int .i64 a1_p, .int .i64 a2_p]] h [.at .sl, .at .sl] (fun s h => K s.1 s.2.1 h) = F_split_around a0_l a1_p a2_p h K := by kernel_rfl
  exact fun_sound mixed Try.func15 rfl (e.mpr hF)

def J1_ref18_Rank (sL1 : (Int × Int × Unit) × Hp) (R1 : (Int × Int × Unit) × Hp → Prop) (sJ1 : Bool × Unit) (hJ1 : Hp) : Prop :=
cnd sJ1.1 (
Let (IntKind.wrap .i64 (sL1.1.1 + 1) : Int) fun (t3 : Int) =>
Let (IntKind.wrap .i64 (sL1.1.2.1 + 1) : Int) fun (t4 : Int) =>
R1 ((t3, t4, ()), hJ1)) (
Let (IntKind.wrap .i64 (sL1.1.2.1 + 1) : Int) fun (t5 : Int) =>
R1 ((sL1.1.1, t5, ()), hJ1))
def L1_ref18_Rank (a0_l : Sl) (K : Int → Hp → Prop) (p2 : Addr) (sL1 : (Int × Int × Unit) × Hp) (R1 : (Int × Int × Unit) × Hp → Prop) : Prop :=
cnd (decide (sL1.1.2.1 < (a0_l.len : Int))) (
Jn (J1_ref18_Rank sL1 R1) fun (J1 : Bool × Unit → Hp → Prop) =>
idxS a0_l.a a0_l.len sL1.1.2.1 2 fun (p6 : Addr) =>
ldA (.int .i64) sL1.2 (Addr.add p6 1) fun (t7 : Int) =>
ldA (.int .i64) sL1.2 (Addr.add p2 1) fun (t8 : Int) =>
cnd (decide (t7 < t8)) (
J1 (true, ()) sL1.2) (
idxS a0_l.a a0_l.len sL1.1.2.1 2 fun (p9 : Addr) =>
ldA (.int .i64) sL1.2 (Addr.add p9 1) fun (t10 : Int) =>
ldA (.int .i64) sL1.2 (Addr.add p2 1) fun (t11 : Int) =>
cnd (t10 == t11) (
idxS a0_l.a a0_l.len sL1.1.2.1 2 fun (p12 : Addr) =>
ldA (.int .i64) sL1.2 p12 fun (t13 : Int) =>
ldA (.int .i64) sL1.2 p2 fun (t14 : Int) =>
J1 (decide (t13 < t14), ()) sL1.2) (
J1 (false, ()) sL1.2))) (
K sL1.1.1 sL1.2)
def F_ref18_Rank (a0_l : Sl) (a1_x : Int) (a2_x : Int) (h : Hp) (K : Int → Hp → Prop) : Prop :=
Let (Array.push h (Obj.cells #[.int .i64 a1_x, .int .i64 a2_x] 31)) fun (h1 : Hp) =>
Let (Addr.mk (Array.size h) 0 none) fun (p2 : Addr) =>
∃ n, Lp (L1_ref18_Rank a0_l K p2) n ((0, 0, ()), h1)

theorem F_ref18_Rank_ok (a0_l : Sl) (a1_x : Int) (a2_x : Int) (h : Hp) (K : Int → Hp → Prop) (hF : F_ref18_Rank a0_l a1_x a2_x h K) : C_ref18_Rank a0_l a1_x a2_x h K := by
  have e : bodyVC Try.prog Try.f16 (.seq .no (.seq .no (.seq (.seq .no (.block (.loop [(5, .at (.int .i64)), (6, .at (.int .i64))] (.seq (.seq .no (.cond .no .no)) (.seq (.block (.join [(40, .at .bool)] .no (.cond .no .no))) .no))))) (.seq .no .no)))) (Option.getD Try.f16.body .skip) [.slice a0_l.a a0_l.len a0_l.cap, .agg #[.int .i64 a1_x, .int .i64 a2_x]] h [.at (.int .i64)] (fun s h => K s.1 h) = F_ref18_Rank a0_l a1_x a2_x h K := by kernel_rfl
  exact fun_sound mixed Try.func16 rfl (e.mpr hF)

def F_slices_Clone_split_Far_split_Far (a0_s : Sl) (h : Hp) (K : Sl → Hp → Prop) : Prop :=
cnd (Option.isNone a0_s.a) (
K (Sl.mk none 0 0) h) (
Let (Array.push h (Obj.cells #[] 26)) fun (h1 : Hp) =>
Let (Addr.mk (Array.size h) 0 none) fun (p2 : Addr) =>
appS 26 2 16 [.int .i64 0, .int .i64 0] (some p2) 0 0 (.slice a0_s.a a0_s.len a0_s.cap) h1 fun (t3 : Sl) (h4 : Hp) =>
K t3 h4)

theorem F_slices_Clone_split_Far_split_Far_ok (a0_s : Sl) (h : Hp) (K : Sl → Hp → Prop) (hF : F_slices_Clone_split_Far_split_Far a0_s h K) : C_slices_Clone_split_Far_split_Far a0_s h K := by
  have e : bodyVC Try.prog Try.f17 (.seq .no (.seq (.seq .no (.cond (.seq .no .no) .no)) (.seq .no .no))) (Option.getD Try.f17.body .skip) [.slice a0_s.a a0_s.len a0_s.cap] h [.at .sl] (fun s h => K s.1 h) = F_slices_Clone_split_Far_split_Far a0_s h K := by kernel_rfl
  exact fun_sound mixed Try.func17 rfl (e.mpr hF)

def F_split_order (a0_a : Int) (a1_a : Int) (a2_b : Int) (a3_b : Int) (h : Hp) (K : Int → Hp → Prop) : Prop :=
Let (Array.push h (Obj.cells #[.int .i64 a0_a, .int .i64 a1_a] 26)) fun (h1 : Hp) =>
Let (Addr.mk (Array.size h) 0 none) fun (p2 : Addr) =>
Let (Array.push h1 (Obj.cells #[.int .i64 a2_b, .int .i64 a3_b] 26)) fun (h3 : Hp) =>
Let (Addr.mk (Array.size h1) 0 none) fun (p4 : Addr) =>
ldA (.int .i64) h3 (Addr.add p2 1) fun (t5 : Int) =>
ldA (.int .i64) h3 (Addr.add p4 1) fun (t6 : Int) =>
C_cmp_Compare_int t5 t6 h3 fun (t7 : Int) (h8 : Hp) =>
Ext h3 h8 ∧ (
ldA (.int .i64) h3 p2 fun (t9 : Int) =>
ldA (.int .i64) h3 p4 fun (t10 : Int) =>
C_cmp_Compare_int t9 t10 h8 fun (t11 : Int) (h12 : Hp) =>
Let (Array.push h12 (Obj.cells #[.int .i64 t7, .int .i64 t11] 3)) fun (h13 : Hp) =>
Let (Addr.mk (Array.size h12) 0 none) fun (p14 : Addr) =>
C_cmp_Or_int (Sl.mk (some p14) 2 2) h13 fun (t15 : Int) (h16 : Hp) =>
K t15 h16)

theorem F_split_order_ok (a0_a : Int) (a1_a : Int) (a2_b : Int) (a3_b : Int) (h : Hp) (K : Int → Hp → Prop) (hF : F_split_order a0_a a1_a a2_b a3_b h K) : C_split_order a0_a a1_a a2_b a3_b h K := by
  have e : bodyVC Try.prog Try.f18 (.seq .no (.seq .no .no)) (Option.getD Try.f18.body .skip) [.agg #[.int .i64 a0_a, .int .i64 a1_a], .agg #[.int .i64 a2_b, .int .i64 a3_b]] h [.at (.int .i64)] (fun s h => K s.1 h) = F_split_order a0_a a1_a a2_b a3_b h K := by kernel_rfl
  exact fun_sound mixed Try.func18 rfl (e.mpr hF)

def F_slices_SortFunc_split_Far_split_Far (a0_x : Sl) (a1_cmp : Value) (h : Hp) (K : Hp → Prop) : Prop :=
Let (IntKind.wrap .u64 ((a0_x.len : Int)) : Int) fun (t1 : Int) =>
C_math_bits_Len t1 h fun (t2 : Int) (h3 : Hp) =>
C_slices_pdqsortCmpFunc_split_Far a0_x 0 (a0_x.len : Int) t2 a1_cmp h3 fun  (h4 : Hp) =>
K h4

theorem F_slices_SortFunc_split_Far_split_Far_ok (a0_x : Sl) (a1_cmp : Value) (h : Hp) (K : Hp → Prop) (hF : F_slices_SortFunc_split_Far_split_Far a0_x a1_cmp h K) : C_slices_SortFunc_split_Far_split_Far a0_x a1_cmp h K := by
  have e : bodyVC Try.prog Try.f19 (.seq .no .no) (Option.getD Try.f19.body .skip) [.slice a0_x.a a0_x.len a0_x.cap, a1_cmp] h [] (fun s h => K h) = F_slices_SortFunc_split_Far_split_Far a0_x a1_cmp h K := by kernel_rfl
  exact fun_sound mixed Try.func19 rfl (e.mpr hF)

def L1_cmp_Or_int (a0_vals : Sl) (K : Int → Hp → Prop) (sL1 : (Int × Unit) × Hp) (R1 : (Int × Unit) × Hp → Prop) : Prop :=
cnd (decide (sL1.1.1 < (a0_vals.len : Int))) (
idxS a0_vals.a a0_vals.len sL1.1.1 1 fun (p1 : Addr) =>
ldA (.int .i64) sL1.2 p1 fun (t2 : Int) =>
cnd (t2 != 0) (
K t2 sL1.2) (
Let (IntKind.wrap .i64 (sL1.1.1 + 1) : Int) fun (t3 : Int) =>
R1 ((t3, ()), sL1.2))) (
K 0 sL1.2)
def F_cmp_Or_int (a0_vals : Sl) (h : Hp) (K : Int → Hp → Prop) : Prop :=
∃ n, Lp (L1_cmp_Or_int a0_vals K) n ((0, ()), h)

theorem F_cmp_Or_int_ok (a0_vals : Sl) (h : Hp) (K : Int → Hp → Prop) (hF : F_cmp_Or_int a0_vals h K) : C_cmp_Or_int a0_vals h K := by
  have e : bodyVC Try.prog Try.f20 (.seq .no (.seq .no (.seq (.seq .no (.block (.loop [(8, .at (.int .i64))] (.seq .no (.seq (.cond .no .no) (.seq (.block (.seq .no (.seq .no (.cond (.seq .no .no) .no)))) .no)))))) (.seq .no .no)))) (Option.getD Try.f20.body .skip) [.slice a0_vals.a a0_vals.len a0_vals.cap] h [.at (.int .i64)] (fun s h => K s.1 h) = F_cmp_Or_int a0_vals h K := by kernel_rfl
  exact fun_sound mixed Try.func20 rfl (e.mpr hF)

def F_cmp_Compare_int (a0_x : Int) (a1_y : Int) (h : Hp) (K : Int → Hp → Prop) : Prop :=
C_cmp_isNaN_int a0_x h fun (t1 : Bool) (h2 : Hp) =>
C_cmp_isNaN_int a1_y h2 fun (t3 : Bool) (h4 : Hp) =>
cnd t1 (
cnd t3 (
K 0 h4) (
K (-1) h4)) (
cnd t3 (
K 1 h4) (
cnd (decide (a0_x < a1_y)) (
K (-1) h4) (
cnd (decide (a0_x > a1_y)) (
K 1 h4) (
K 0 h4))))

theorem F_cmp_Compare_int_ok (a0_x : Int) (a1_y : Int) (h : Hp) (K : Int → Hp → Prop) (hF : F_cmp_Compare_int a0_x a1_y h K) : C_cmp_Compare_int a0_x a1_y h K := by
  have e : bodyVC Try.prog Try.f21 (.seq .no (.seq .no (.seq .no (.seq (.seq .no (.cond (.seq (.seq .no (.cond (.seq .no .no) .no)) (.seq .no .no)) .no)) (.seq (.seq .no (.cond (.seq .no .no) .no)) (.seq (.seq .no (.cond (.seq .no .no) .no)) (.seq (.seq .no (.cond (.seq .no .no) .no)) (.seq .no .no)))))))) (Option.getD Try.f21.body .skip) [.int .i64 a0_x, .int .i64 a1_y] h [.at (.int .i64)] (fun s h => K s.1 h) = F_cmp_Compare_int a0_x a1_y h K := by kernel_rfl
  exact fun_sound mixed Try.func21 rfl (e.mpr hF)

def J4_slices_pdqsortCmpFunc_split_Far (a0_data : Sl) (a4_cmp : Value) (sL1 : (Int × Int × Int × Bool × Bool × Unit) × Hp) (R1 : (Int × Int × Int × Bool × Bool × Unit) × Hp → Prop) (t1 : Int) (sJ1 : Int × Unit) (sJ2 : Int × Int × Unit) (sJ4 : Bool × Unit) (hJ4 : Hp) : Prop :=
cnd sJ4.1 (
C_slices_partitionEqualCmpFunc_split_Far a0_data sL1.1.1 sL1.1.2.1 sJ2.1 a4_cmp hJ4 fun (t7 : Int) (h8 : Hp) =>
R1 ((t7, sL1.1.2.1, sJ1.1, sL1.1.2.2.2.1, sL1.1.2.2.2.2.1, ()), h8)) (
C_slices_partitionCmpFunc_split_Far a0_data sL1.1.1 sL1.1.2.1 sJ2.1 a4_cmp hJ4 fun (t9 : Int) (t10 : Bool) (h11 : Hp) =>
Let (IntKind.wrap .i64 (t9 - sL1.1.1) : Int) fun (t12 : Int) =>
Let (IntKind.wrap .i64 (sL1.1.2.1 - t9) : Int) fun (t13 : Int) =>
(8 ≠ (0 : Int)) ∧ (
Let (IntKind.wrap .i64 (Int.tdiv t1 8) : Int) fun (t14 : Int) =>
cnd (decide (t12 < t13)) (
C_slices_pdqsortCmpFunc_split_Far a0_data sL1.1.1 t9 sJ1.1 a4_cmp h11 fun  (h15 : Hp) =>
Let (IntKind.wrap .i64 (t9 + 1) : Int) fun (t16 : Int) =>
R1 ((t16, sL1.1.2.1, sJ1.1, decide (t12 ≥ t14), t10, ()), h15)) (
Let (IntKind.wrap .i64 (t9 + 1) : Int) fun (t17 : Int) =>
C_slices_pdqsortCmpFunc_split_Far a0_data t17 sL1.1.2.1 sJ1.1 a4_cmp h11 fun  (h18 : Hp) =>
R1 ((sL1.1.1, t9, sJ1.1, decide (t13 ≥ t14), t10, ()), h18))))
def J3_slices_pdqsortCmpFunc_split_Far (a0_data : Sl) (a4_cmp : Value) (sL1 : (Int × Int × Int × Bool × Bool × Unit) × Hp) (R1 : (Int × Int × Int × Bool × Bool × Unit) × Hp → Prop) (t1 : Int) (sJ1 : Int × Unit) (sJ2 : Int × Int × Unit) (sJ3 : Unit) (hJ3 : Hp) : Prop :=
Jn (J4_slices_pdqsortCmpFunc_split_Far a0_data a4_cmp sL1 R1 t1 sJ1 sJ2) fun (J4 : Bool × Unit → Hp → Prop) =>
cnd (decide (sL1.1.1 > 0)) (
Let (IntKind.wrap .i64 (sL1.1.1 - 1) : Int) fun (t19 : Int) =>
idxS a0_data.a a0_data.len t19 2 fun (p20 : Addr) =>
ldA (.int .i64) hJ3 p20 fun (t21 : Int) =>
ldA (.int .i64) hJ3 (Addr.add p20 1) fun (t22 : Int) =>
idxS a0_data.a a0_data.len sJ2.1 2 fun (p23 : Addr) =>
ldA (.int .i64) hJ3 p23 fun (t24 : Int) =>
ldA (.int .i64) hJ3 (Addr.add p23 1) fun (t25 : Int) =>
callV Try.prog a4_cmp [.agg #[.int .i64 t21, .int .i64 t22], .agg #[.int .i64 t24, .int .i64 t25]] [.at (.int .i64)] hJ3 fun (s : Int × Unit) (h27 : Hp) =>
J4 (!(decide (s.1 < 0)), ()) h27) (
J4 (false, ()) hJ3)
def J5_slices_pdqsortCmpFunc_split_Far (a0_data : Sl) (a4_cmp : Value) (K : Hp → Prop) (sL1 : (Int × Int × Int × Bool × Bool × Unit) × Hp) (J3 : Unit → Hp → Prop) (sJ5 : Bool × Unit) (hJ5 : Hp) : Prop :=
cnd sJ5.1 (
C_slices_partialInsertionSortCmpFunc_split_Far a0_data sL1.1.1 sL1.1.2.1 a4_cmp hJ5 fun (t28 : Bool) (h29 : Hp) =>
cnd t28 (
K h29) (
J3 (()) h29)) (
J3 (()) hJ5)
def J2_slices_pdqsortCmpFunc_split_Far (a0_data : Sl) (a4_cmp : Value) (K : Hp → Prop) (sL1 : (Int × Int × Int × Bool × Bool × Unit) × Hp) (R1 : (Int × Int × Int × Bool × Bool × Unit) × Hp → Prop) (t1 : Int) (sJ1 : Int × Unit) (sJ2 : Int × Int × Unit) (hJ2 : Hp) : Prop :=
Jn (J3_slices_pdqsortCmpFunc_split_Far a0_data a4_cmp sL1 R1 t1 sJ1 sJ2) fun (J3 : Unit → Hp → Prop) =>
Jn (J5_slices_pdqsortCmpFunc_split_Far a0_data a4_cmp K sL1 J3) fun (J5 : Bool × Unit → Hp → Prop) =>
cnd sL1.1.2.2.2.1 (
cnd sL1.1.2.2.2.2.1 (
J5 ((sJ2.2.1 == 1), ()) hJ2) (
J5 (false, ()) hJ2)) (
J5 (false, ()) hJ2)
def J1_slices_pdqsortCmpFunc_split_Far (a0_data : Sl) (a4_cmp : Value) (K : Hp → Prop) (sL1 : (Int × Int × Int × Bool × Bool × Unit) × Hp) (R1 : (Int × Int × Int × Bool × Bool × Unit) × Hp → Prop) (t1 : Int) (sJ1 : Int × Unit) (hJ1 : Hp) : Prop :=
C_slices_choosePivotCmpFunc_split_Far a0_data sL1.1.1 sL1.1.2.1 a4_cmp hJ1 fun (t4 : Int) (t5 : Int) (h6 : Hp) =>
Jn (J2_slices_pdqsortCmpFunc_split_Far a0_data a4_cmp K sL1 R1 t1 sJ1) fun (J2 : Int × Int × Unit → Hp → Prop) =>
cnd (t5 == 2) (
C_slices_reverseRangeCmpFunc_split_Far a0_data sL1.1.1 sL1.1.2.1 a4_cmp h6 fun  (h30 : Hp) =>
Let (IntKind.wrap .i64 (sL1.1.2.1 - 1) : Int) fun (t31 : Int) =>
Let (IntKind.wrap .i64 (t4 - sL1.1.1) : Int) fun (t32 : Int) =>
Let (IntKind.wrap .i64 (t31 - t32) : Int) fun (t33 : Int) =>
J2 (t33, 1, ()) h30) (
J2 (t4, t5, ()) h6)
def L1_slices_pdqsortCmpFunc_split_Far (a0_data : Sl) (a4_cmp : Value) (K : Hp → Prop) (sL1 : (Int × Int × Int × Bool × Bool × Unit) × Hp) (R1 : (Int × Int × Int × Bool × Bool × Unit) × Hp → Prop) : Prop :=
Let (IntKind.wrap .i64 (sL1.1.2.1 - sL1.1.1) : Int) fun (t1 : Int) =>
cnd (decide (t1 ≤ 12)) (
C_slices_insertionSortCmpFunc_split_Far a0_data sL1.1.1 sL1.1.2.1 a4_cmp sL1.2 fun  (h2 : Hp) =>
K h2) (
cnd (sL1.1.2.2.1 == 0) (
C_slices_heapSortCmpFunc_split_Far a0_data sL1.1.1 sL1.1.2.1 a4_cmp sL1.2 fun  (h3 : Hp) =>
K h3) (
Jn (J1_slices_pdqsortCmpFunc_split_Far a0_data a4_cmp K sL1 R1 t1) fun (J1 : Int × Unit → Hp → Prop) =>
cnd (!sL1.1.2.2.2.1) (
C_slices_breakPatternsCmpFunc_split_Far a0_data sL1.1.1 sL1.1.2.1 a4_cmp sL1.2 fun  (h34 : Hp) =>
Let (IntKind.wrap .i64 (sL1.1.2.2.1 - 1) : Int) fun (t35 : Int) =>
J1 (t35, ()) h34) (
J1 (sL1.1.2.2.1, ()) sL1.2)))
def F_slices_pdqsortCmpFunc_split_Far (a0_data : Sl) (a1_a : Int) (a2_b : Int) (a3_limit : Int) (a4_cmp : Value) (h : Hp) (K : Hp → Prop) : Prop :=
∃ n, Lp (L1_slices_pdqsortCmpFunc_split_Far a0_data a4_cmp K) n ((a1_a, a2_b, a3_limit, true, true, ()), h)

theorem F_slices_pdqsortCmpFunc_split_Far_ok (a0_data : Sl) (a1_a : Int) (a2_b : Int) (a3_limit : Int) (a4_cmp : Value) (h : Hp) (K : Hp → Prop) (hF : F_slices_pdqsortCmpFunc_split_Far a0_data a1_a a2_b a3_limit a4_cmp h K) : C_slices_pdqsortCmpFunc_split_Far a0_data a1_a a2_b a3_limit a4_cmp h K := by
  have e : bodyVC Try.prog Try.f22 (.seq .no (.seq .no (.block (.loop [(1, .at (.int .i64)), (2, .at (.int .i64)), (3, .at (.int .i64)), (10, .at .bool), (11, .at .bool)] (.block (.seq .no (.seq (.seq .no (.cond (.seq .no .no) .no)) (.seq (.seq .no (.cond (.seq .no .no) .no)) (.join [(3, .at (.int .i64))] (.seq .no (.cond (.seq .no .no) .no)) (.seq .no (.join [(13, .at (.int .i64)), (14, .at (.int .i64))] (.seq .no (.cond (.seq .no (.seq .no .no)) .no)) (.join [] (.join [(75, .at .bool)] .no (.cond (.seq .no (.cond .no .no)) .no)) (.seq (.join [(97, .at .bool)] .no (.cond (.seq .no (.seq .no .no)) .no)) (.seq .no (.seq .no (.seq .no (.seq .no (.seq .no (.cond (.seq .no (.seq .no .no)) (.seq .no (.seq .no .no))))))))))))))))))))) (Option.getD Try.f22.body .skip) [.slice a0_data.a a0_data.len a0_data.cap, .int .i64 a1_a, .int .i64 a2_b, .int .i64 a3_limit, a4_cmp] h [] (fun s h => K h) = F_slices_pdqsortCmpFunc_split_Far a0_data a1_a a2_b a3_limit a4_cmp h K := by kernel_rfl
  exact fun_sound mixed Try.func22 rfl (e.mpr hF)

def F_math_bits_Len (a0_x : Int) (h : Hp) (K : Int → Hp → Prop) : Prop :=
C_math_bits_Len64 a0_x h fun (t1 : Int) (h2 : Hp) =>
K t1 h2

theorem F_math_bits_Len_ok (a0_x : Int) (h : Hp) (K : Int → Hp → Prop) (hF : F_math_bits_Len a0_x h K) : C_math_bits_Len a0_x h K := by
  have e : bodyVC Try.prog Try.f23 (.seq .no (.seq (.cond (.seq .no .no) .no) (.seq .no .no))) (Option.getD Try.f23.body .skip) [.int .u64 a0_x] h [.at (.int .i64)] (fun s h => K s.1 h) = F_math_bits_Len a0_x h K := by kernel_rfl
  exact fun_sound mixed Try.func23 rfl (e.mpr hF)

def F_cmp_isNaN_int (a0_x : Int) (h : Hp) (K : Bool → Hp → Prop) : Prop :=
K (a0_x != a0_x) h

theorem F_cmp_isNaN_int_ok (a0_x : Int) (h : Hp) (K : Bool → Hp → Prop) (hF : F_cmp_isNaN_int a0_x h K) : C_cmp_isNaN_int a0_x h K := by
  have e : bodyVC Try.prog Try.f24 (.seq .no (.seq .no .no)) (Option.getD Try.f24.body .skip) [.int .i64 a0_x] h [.at .bool] (fun s h => K s.1 h) = F_cmp_isNaN_int a0_x h K := by kernel_rfl
  exact fun_sound mixed Try.func24 rfl (e.mpr hF)

def J1_slices_insertionSortCmpFunc_split_Far (a0_data : Sl) (sL2 : (Int × Unit) × Hp) (R2 : (Int × Unit) × Hp → Prop) (sJ1 : Unit) (hJ1 : Hp) : Prop :=
Let (IntKind.wrap .i64 (sL2.1.1 - 1) : Int) fun (t2 : Int) =>
Let (IntKind.wrap .i64 (sL2.1.1 - 1) : Int) fun (t3 : Int) =>
idxS a0_data.a a0_data.len t3 2 fun (p4 : Addr) =>
ldA (.int .i64) hJ1 p4 fun (t5 : Int) =>
ldA (.int .i64) hJ1 (Addr.add p4 1) fun (t6 : Int) =>
idxS a0_data.a a0_data.len sL2.1.1 2 fun (p7 : Addr) =>
ldA (.int .i64) hJ1 p7 fun (t8 : Int) =>
ldA (.int .i64) hJ1 (Addr.add p7 1) fun (t9 : Int) =>
idxS a0_data.a a0_data.len sL2.1.1 2 fun (p10 : Addr) =>
stC hJ1 p10 (
Let (hset hJ1 p10 (.int .i64 t5)) fun (h11 : Hp) =>
stC h11 (Addr.add p10 1) (
Let (hset h11 (Addr.add p10 1) (.int .i64 t6)) fun (h12 : Hp) =>
idxS a0_data.a a0_data.len t2 2 fun (p13 : Addr) =>
stC h12 p13 (
Let (hset h12 p13 (.int .i64 t8)) fun (h14 : Hp) =>
stC h14 (Addr.add p13 1) (
Let (hset h14 (Addr.add p13 1) (.int .i64 t9)) fun (h15 : Hp) =>
Let (IntKind.wrap .i64 (sL2.1.1 - 1) : Int) fun (t16 : Int) =>
R2 ((t16, ()), h15)))))
def L2_slices_insertionSortCmpFunc_split_Far (a0_data : Sl) (a1_a : Int) (a3_cmp : Value) (sL1 : (Int × Unit) × Hp) (R1 : (Int × Unit) × Hp → Prop) (sL2 : (Int × Unit) × Hp) (R2 : (Int × Unit) × Hp → Prop) : Prop :=
Jn (J1_slices_insertionSortCmpFunc_split_Far a0_data sL2 R2) fun (J1 : Unit → Hp → Prop) =>
cnd (decide (sL2.1.1 > a1_a)) (
idxS a0_data.a a0_data.len sL2.1.1 2 fun (p17 : Addr) =>
ldA (.int .i64) sL2.2 p17 fun (t18 : Int) =>
ldA (.int .i64) sL2.2 (Addr.add p17 1) fun (t19 : Int) =>
Let (IntKind.wrap .i64 (sL2.1.1 - 1) : Int) fun (t20 : Int) =>
idxS a0_data.a a0_data.len t20 2 fun (p21 : Addr) =>
ldA (.int .i64) sL2.2 p21 fun (t22 : Int) =>
ldA (.int .i64) sL2.2 (Addr.add p21 1) fun (t23 : Int) =>
callV Try.prog a3_cmp [.agg #[.int .i64 t18, .int .i64 t19], .agg #[.int .i64 t22, .int .i64 t23]] [.at (.int .i64)] sL2.2 fun (s : Int × Unit) (h25 : Hp) =>
cnd (decide (s.1 < 0)) (
J1 (()) h25) (
Let (IntKind.wrap .i64 (sL1.1.1 + 1) : Int) fun (t26 : Int) =>
R1 ((t26, ()), h25))) (
Let (IntKind.wrap .i64 (sL1.1.1 + 1) : Int) fun (t27 : Int) =>
R1 ((t27, ()), sL2.2))
def L1_slices_insertionSortCmpFunc_split_Far (a0_data : Sl) (a1_a : Int) (a2_b : Int) (a3_cmp : Value) (K : Hp → Prop) (sL1 : (Int × Unit) × Hp) (R1 : (Int × Unit) × Hp → Prop) : Prop :=
cnd (decide (sL1.1.1 < a2_b)) (
∃ n, Lp (L2_slices_insertionSortCmpFunc_split_Far a0_data a1_a a3_cmp sL1 R1) n ((sL1.1.1, ()), sL1.2)) (
K sL1.2)
def F_slices_insertionSortCmpFunc_split_Far (a0_data : Sl) (a1_a : Int) (a2_b : Int) (a3_cmp : Value) (h : Hp) (K : Hp → Prop) : Prop :=
Let (IntKind.wrap .i64 (a1_a + 1) : Int) fun (t1 : Int) =>
∃ n, Lp (L1_slices_insertionSortCmpFunc_split_Far a0_data a1_a a2_b a3_cmp K) n ((t1, ()), h)

theorem F_slices_insertionSortCmpFunc_split_Far_ok (a0_data : Sl) (a1_a : Int) (a2_b : Int) (a3_cmp : Value) (h : Hp) (K : Hp → Prop) (hF : F_slices_insertionSortCmpFunc_split_Far a0_data a1_a a2_b a3_cmp h K) : C_slices_insertionSortCmpFunc_split_Far a0_data a1_a a2_b a3_cmp h K := by
  have e : bodyVC Try.prog Try.f25 (.seq .no (.block (.loop [(8, .at (.int .i64))] (.seq (.seq .no (.cond .no .no)) (.seq (.block (.seq .no (.block (.loop [(9, .at (.int .i64))] (.join [] (.seq .no (.cond .no .no)) (.seq (.block .no) .no)))))) .no))))) (Option.getD Try.f25.body .skip) [.slice a0_data.a a0_data.len a0_data.cap, .int .i64 a1_a, .int .i64 a2_b, a3_cmp] h [] (fun s h => K h) = F_slices_insertionSortCmpFunc_split_Far a0_data a1_a a2_b a3_cmp h K := by kernel_rfl
  exact fun_sound mixed Try.func25 rfl (e.mpr hF)

def L1_slices_heapSortCmpFunc_split_Far (a0_data : Sl) (a1_a : Int) (a3_cmp : Value) (K : Hp → Prop) (sL1 : (Int × Unit) × Hp) (R1 : (Int × Unit) × Hp → Prop) : Prop :=
cnd (decide (sL1.1.1 ≥ 0)) (
Let (IntKind.wrap .i64 (a1_a + sL1.1.1) : Int) fun (t3 : Int) =>
Let (IntKind.wrap .i64 (a1_a + sL1.1.1) : Int) fun (t4 : Int) =>
idxS a0_data.a a0_data.len t4 2 fun (p5 : Addr) =>
ldA (.int .i64) sL1.2 p5 fun (t6 : Int) =>
ldA (.int .i64) sL1.2 (Addr.add p5 1) fun (t7 : Int) =>
idxS a0_data.a a0_data.len a1_a 2 fun (p8 : Addr) =>
ldA (.int .i64) sL1.2 p8 fun (t9 : Int) =>
ldA (.int .i64) sL1.2 (Addr.add p8 1) fun (t10 : Int) =>
idxS a0_data.a a0_data.len a1_a 2 fun (p11 : Addr) =>
stC sL1.2 p11 (
Let (hset sL1.2 p11 (.int .i64 t6)) fun (h12 : Hp) =>
stC h12 (Addr.add p11 1) (
Let (hset h12 (Addr.add p11 1) (.int .i64 t7)) fun (h13 : Hp) =>
idxS a0_data.a a0_data.len t3 2 fun (p14 : Addr) =>
stC h13 p14 (
Let (hset h13 p14 (.int .i64 t9)) fun (h15 : Hp) =>
stC h15 (Addr.add p14 1) (
Let (hset h15 (Addr.add p14 1) (.int .i64 t10)) fun (h16 : Hp) =>
C_slices_siftDownCmpFunc_split_Far a0_data 0 sL1.1.1 a1_a a3_cmp h16 fun  (h17 : Hp) =>
Let (IntKind.wrap .i64 (sL1.1.1 - 1) : Int) fun (t18 : Int) =>
R1 ((t18, ()), h17)))))) (
K sL1.2)
def J1_slices_heapSortCmpFunc_split_Far (a0_data : Sl) (a1_a : Int) (a3_cmp : Value) (K : Hp → Prop) (t1 : Int) (sJ1 : Unit) (hJ1 : Hp) : Prop :=
Let (IntKind.wrap .i64 (t1 - 1) : Int) fun (t2 : Int) =>
∃ n, Lp (L1_slices_heapSortCmpFunc_split_Far a0_data a1_a a3_cmp K) n ((t2, ()), hJ1)
def L2_slices_heapSortCmpFunc_split_Far (a0_data : Sl) (a1_a : Int) (a3_cmp : Value) (t1 : Int) (J1 : Unit → Hp → Prop) (sL2 : (Int × Unit) × Hp) (R2 : (Int × Unit) × Hp → Prop) : Prop :=
cnd (decide (sL2.1.1 ≥ 0)) (
C_slices_siftDownCmpFunc_split_Far a0_data sL2.1.1 t1 a1_a a3_cmp sL2.2 fun  (h21 : Hp) =>
Let (IntKind.wrap .i64 (sL2.1.1 - 1) : Int) fun (t22 : Int) =>
R2 ((t22, ()), h21)) (
J1 (()) sL2.2)
def F_slices_heapSortCmpFunc_split_Far (a0_data : Sl) (a1_a : Int) (a2_b : Int) (a3_cmp : Value) (h : Hp) (K : Hp → Prop) : Prop :=
Let (IntKind.wrap .i64 (a2_b - a1_a) : Int) fun (t1 : Int) =>
Jn (J1_slices_heapSortCmpFunc_split_Far a0_data a1_a a3_cmp K t1) fun (J1 : Unit → Hp → Prop) =>
Let (IntKind.wrap .i64 (t1 - 1) : Int) fun (t19 : Int) =>
(2 ≠ (0 : Int)) ∧ (
Let (IntKind.wrap .i64 (Int.tdiv t19 2) : Int) fun (t20 : Int) =>
∃ n, Lp (L2_slices_heapSortCmpFunc_split_Far a0_data a1_a a3_cmp t1 J1) n ((t20, ()), h))

theorem F_slices_heapSortCmpFunc_split_Far_ok (a0_data : Sl) (a1_a : Int) (a2_b : Int) (a3_cmp : Value) (h : Hp) (K : Hp → Prop) (hF : F_slices_heapSortCmpFunc_split_Far a0_data a1_a a2_b a3_cmp h K) : C_slices_heapSortCmpFunc_split_Far a0_data a1_a a2_b a3_cmp h K := by
  have e : bodyVC Try.prog Try.f26 (.seq .no (.seq .no (.seq .no (.join [] (.seq .no (.block (.loop [(11, .at (.int .i64))] (.seq (.seq .no (.cond .no .no)) (.seq (.block .no) .no))))) (.seq .no (.block (.loop [(12, .at (.int .i64))] (.seq (.seq .no (.cond .no .no)) (.seq (.block (.seq .no .no)) .no))))))))) (Option.getD Try.f26.body .skip) [.slice a0_data.a a0_data.len a0_data.cap, .int .i64 a1_a, .int .i64 a2_b, a3_cmp] h [] (fun s h => K h) = F_slices_heapSortCmpFunc_split_Far a0_data a1_a a2_b a3_cmp h K := by kernel_rfl
  exact fun_sound mixed Try.func26 rfl (e.mpr hF)

def J1_slices_breakPatternsCmpFunc_split_Far (a0_data : Sl) (a1_a : Int) (sL1 : (Int × Unit) × Hp) (R1 : (Int × Unit) × Hp → Prop) (sJ1 : Int × Unit) (hJ1 : Hp) : Prop :=
Let (IntKind.wrap .i64 (a1_a + sJ1.1) : Int) fun (t21 : Int) =>
Let (IntKind.wrap .i64 (a1_a + sJ1.1) : Int) fun (t22 : Int) =>
idxS a0_data.a a0_data.len t22 2 fun (p23 : Addr) =>
ldA (.int .i64) hJ1 p23 fun (t24 : Int) =>
ldA (.int .i64) hJ1 (Addr.add p23 1) fun (t25 : Int) =>
idxS a0_data.a a0_data.len sL1.1.1 2 fun (p26 : Addr) =>
ldA (.int .i64) hJ1 p26 fun (t27 : Int) =>
ldA (.int .i64) hJ1 (Addr.add p26 1) fun (t28 : Int) =>
idxS a0_data.a a0_data.len sL1.1.1 2 fun (p29 : Addr) =>
stC hJ1 p29 (
Let (hset hJ1 p29 (.int .i64 t24)) fun (h30 : Hp) =>
stC h30 (Addr.add p29 1) (
Let (hset h30 (Addr.add p29 1) (.int .i64 t25)) fun (h31 : Hp) =>
idxS a0_data.a a0_data.len t21 2 fun (p32 : Addr) =>
stC h31 p32 (
Let (hset h31 p32 (.int .i64 t27)) fun (h33 : Hp) =>
stC h33 (Addr.add p32 1) (
Let (hset h33 (Addr.add p32 1) (.int .i64 t28)) fun (h34 : Hp) =>
Let (IntKind.wrap .i64 (sL1.1.1 + 1) : Int) fun (t35 : Int) =>
R1 ((t35, ()), h34)))))
def L1_slices_breakPatternsCmpFunc_split_Far (a0_data : Sl) (a1_a : Int) (K : Hp → Prop) (t1 : Int) (p4 : Addr) (t6 : Int) (sL1 : (Int × Unit) × Hp) (R1 : (Int × Unit) × Hp → Prop) : Prop :=
(4 ≠ (0 : Int)) ∧ (
Let (IntKind.wrap .i64 (Int.tdiv t1 4) : Int) fun (t12 : Int) =>
Let (IntKind.wrap .i64 (t12 * 2) : Int) fun (t13 : Int) =>
Let (IntKind.wrap .i64 (a1_a + t13) : Int) fun (t14 : Int) =>
Let (IntKind.wrap .i64 (t14 + 1) : Int) fun (t15 : Int) =>
cnd (decide (sL1.1.1 ≤ t15)) (
C_slices_xorshift_Next (some p4) sL1.2 fun (t16 : Int) (h17 : Hp) =>
Let (IntKind.wrap .u64 (t6 - 1) : Int) fun (t18 : Int) =>
Let (ibAnd .u64 t16 t18 : Int) fun (t19 : Int) =>
Let (IntKind.wrap .i64 (t19) : Int) fun (t20 : Int) =>
Jn (J1_slices_breakPatternsCmpFunc_split_Far a0_data a1_a sL1 R1) fun (J1 : Int × Unit → Hp → Prop) =>
cnd (decide (t20 ≥ t1)) (
Let (IntKind.wrap .i64 (t20 - t1) : Int) fun (t36 : Int) =>
J1 (t36, ()) h17) (
J1 (t20, ()) h17)) (
K sL1.2))
def F_slices_breakPatternsCmpFunc_split_Far (a0_data : Sl) (a1_a : Int) (a2_b : Int) (a3_cmp : Value) (h : Hp) (K : Hp → Prop) : Prop :=
Let (IntKind.wrap .i64 (a2_b - a1_a) : Int) fun (t1 : Int) =>
cnd (decide (t1 ≥ 8)) (
Let (IntKind.wrap .u64 (t1) : Int) fun (t2 : Int) =>
Let (Array.push h (Obj.cells #[.int .u64 0] 67)) fun (h3 : Hp) =>
Let (Addr.mk (Array.size h) 0 none) fun (p4 : Addr) =>
((1 : Nat) = 1) ∧ (
stC h3 p4 (
Let (hset h3 p4 (.int .u64 t2)) fun (h5 : Hp) =>
C_slices_nextPowerOfTwo t1 h5 fun (t6 : Int) (h7 : Hp) =>
(4 ≠ (0 : Int)) ∧ (
Let (IntKind.wrap .i64 (Int.tdiv t1 4) : Int) fun (t8 : Int) =>
Let (IntKind.wrap .i64 (t8 * 2) : Int) fun (t9 : Int) =>
Let (IntKind.wrap .i64 (a1_a + t9) : Int) fun (t10 : Int) =>
Let (IntKind.wrap .i64 (t10 - 1) : Int) fun (t11 : Int) =>
∃ n, Lp (L1_slices_breakPatternsCmpFunc_split_Far a0_data a1_a K t1 p4 t6) n ((t11, ()), h7))))) (
K h)

theorem F_slices_breakPatternsCmpFunc_split_Far_ok (a0_data : Sl) (a1_a : Int) (a2_b : Int) (a3_cmp : Value) (h : Hp) (K : Hp → Prop) (hF : F_slices_breakPatternsCmpFunc_split_Far a0_data a1_a a2_b a3_cmp h K) : C_slices_breakPatternsCmpFunc_split_Far a0_data a1_a a2_b a3_cmp h K := by
  have e : bodyVC Try.prog Try.f27 (.seq .no (.seq .no (.cond (.seq .no (.seq .no (.seq .no (.block (.loop [(11, .at (.int .i64))] (.seq (.seq .no (.cond .no .no)) (.seq (.block (.seq .no (.join [(12, .at (.int .i64))] (.seq .no (.cond .no .no)) .no))) .no))))))) .no))) (Option.getD Try.f27.body .skip) [.slice a0_data.a a0_data.len a0_data.cap, .int .i64 a1_a, .int .i64 a2_b, a3_cmp] h [] (fun s h => K h) = F_slices_breakPatternsCmpFunc_split_Far a0_data a1_a a2_b a3_cmp h K := by kernel_rfl
  exact fun_sound mixed Try.func27 rfl (e.mpr hF)

def J1_slices_choosePivotCmpFunc_split_Far (K : Int → Int → Hp → Prop) (p3 : Addr) (sJ1 : Int × Unit) (hJ1 : Hp) : Prop :=
ldA (.int .i64) hJ1 p3 fun (t13 : Int) =>
cnd (t13 == 0) (
K sJ1.1 1 hJ1) (
cnd (t13 == 12) (
K sJ1.1 2 hJ1) (
K sJ1.1 0 hJ1))
def F_slices_choosePivotCmpFunc_split_Far (a0_data : Sl) (a1_a : Int) (a2_b : Int) (a3_cmp : Value) (h : Hp) (K : Int → Int → Hp → Prop) : Prop :=
Let (IntKind.wrap .i64 (a2_b - a1_a) : Int) fun (t1 : Int) =>
Let (Array.push h (Obj.cells #[.int .i64 0] 3)) fun (h2 : Hp) =>
Let (Addr.mk (Array.size h) 0 none) fun (p3 : Addr) =>
(4 ≠ (0 : Int)) ∧ (
Let (IntKind.wrap .i64 (Int.tdiv t1 4) : Int) fun (t4 : Int) =>
Let (IntKind.wrap .i64 (t4 * 1) : Int) fun (t5 : Int) =>
Let (IntKind.wrap .i64 (a1_a + t5) : Int) fun (t6 : Int) =>
(4 ≠ (0 : Int)) ∧ (
Let (IntKind.wrap .i64 (Int.tdiv t1 4) : Int) fun (t7 : Int) =>
Let (IntKind.wrap .i64 (t7 * 2) : Int) fun (t8 : Int) =>
Let (IntKind.wrap .i64 (a1_a + t8) : Int) fun (t9 : Int) =>
(4 ≠ (0 : Int)) ∧ (
Let (IntKind.wrap .i64 (Int.tdiv t1 4) : Int) fun (t10 : Int) =>
Let (IntKind.wrap .i64 (t10 * 3) : Int) fun (t11 : Int) =>
Let (IntKind.wrap .i64 (a1_a + t11) : Int) fun (t12 : Int) =>
Jn (J1_slices_choosePivotCmpFunc_split_Far K p3) fun (J1 : Int × Unit → Hp → Prop) =>
cnd (decide (t1 ≥ 8)) (
cnd (decide (t1 ≥ 50)) (
C_slices_medianAdjacentCmpFunc_split_Far a0_data t6 (some p3) a3_cmp h2 fun (t14 : Int) (h15 : Hp) =>
C_slices_medianAdjacentCmpFunc_split_Far a0_data t9 (some p3) a3_cmp h15 fun (t16 : Int) (h17 : Hp) =>
C_slices_medianAdjacentCmpFunc_split_Far a0_data t12 (some p3) a3_cmp h17 fun (t18 : Int) (h19 : Hp) =>
C_slices_medianCmpFunc_split_Far a0_data t14 t16 t18 (some p3) a3_cmp h19 fun (t20 : Int) (h21 : Hp) =>
J1 (t20, ()) h21) (
C_slices_medianCmpFunc_split_Far a0_data t6 t9 t12 (some p3) a3_cmp h2 fun (t22 : Int) (h23 : Hp) =>
J1 (t22, ()) h23)) (
J1 (t9, ()) h2))))

theorem F_slices_choosePivotCmpFunc_split_Far_ok (a0_data : Sl) (a1_a : Int) (a2_b : Int) (a3_cmp : Value) (h : Hp) (K : Int → Int → Hp → Prop) (hF : F_slices_choosePivotCmpFunc_split_Far a0_data a1_a a2_b a3_cmp h K) : C_slices_choosePivotCmpFunc_split_Far a0_data a1_a a2_b a3_cmp h K := by
  have e : bodyVC Try.prog Try.f28 (.seq .no (.seq .no (.seq .no (.seq .no (.seq .no (.seq .no (.join [(13, .at (.int .i64))] (.seq .no (.cond (.seq (.seq .no (.cond (.seq .no (.seq .no .no)) .no)) .no) .no)) (.seq .no (.block (.seq .no (.cond (.seq .no .no) (.seq .no (.cond (.seq .no .no) (.seq .no .no)))))))))))))) (Option.getD Try.f28.body .skip) [.slice a0_data.a a0_data.len a0_data.cap, .int .i64 a1_a, .int .i64 a2_b, a3_cmp] h [.at (.int .i64), .at (.int .i64)] (fun s h => K s.1 s.2.1 h) = F_slices_choosePivotCmpFunc_split_Far a0_data a1_a a2_b a3_cmp h K := by kernel_rfl
  exact fun_sound mixed Try.func28 rfl (e.mpr hF)

def L1_slices_reverseRangeCmpFunc_split_Far (a0_data : Sl) (K : Hp → Prop) (sL1 : (Int × Int × Unit) × Hp) (R1 : (Int × Int × Unit) × Hp → Prop) : Prop :=
cnd (decide (sL1.1.1 < sL1.1.2.1)) (
idxS a0_data.a a0_data.len sL1.1.2.1 2 fun (p2 : Addr) =>
ldA (.int .i64) sL1.2 p2 fun (t3 : Int) =>
ldA (.int .i64) sL1.2 (Addr.add p2 1) fun (t4 : Int) =>
idxS a0_data.a a0_data.len sL1.1.1 2 fun (p5 : Addr) =>
ldA (.int .i64) sL1.2 p5 fun (t6 : Int) =>
ldA (.int .i64) sL1.2 (Addr.add p5 1) fun (t7 : Int) =>
idxS a0_data.a a0_data.len sL1.1.1 2 fun (p8 : Addr) =>
stC sL1.2 p8 (
Let (hset sL1.2 p8 (.int .i64 t3)) fun (h9 : Hp) =>
stC h9 (Addr.add p8 1) (
Let (hset h9 (Addr.add p8 1) (.int .i64 t4)) fun (h10 : Hp) =>
idxS a0_data.a a0_data.len sL1.1.2.1 2 fun (p11 : Addr) =>
stC h10 p11 (
Let (hset h10 p11 (.int .i64 t6)) fun (h12 : Hp) =>
stC h12 (Addr.add p11 1) (
Let (hset h12 (Addr.add p11 1) (.int .i64 t7)) fun (h13 : Hp) =>
Let (IntKind.wrap .i64 (sL1.1.1 + 1) : Int) fun (t14 : Int) =>
Let (IntKind.wrap .i64 (sL1.1.2.1 - 1) : Int) fun (t15 : Int) =>
R1 ((t14, t15, ()), h13)))))) (
K sL1.2)
def F_slices_reverseRangeCmpFunc_split_Far (a0_data : Sl) (a1_a : Int) (a2_b : Int) (a3_cmp : Value) (h : Hp) (K : Hp → Prop) : Prop :=
Let (IntKind.wrap .i64 (a2_b - 1) : Int) fun (t1 : Int) =>
∃ n, Lp (L1_slices_reverseRangeCmpFunc_split_Far a0_data K) n ((a1_a, t1, ()), h)

theorem F_slices_reverseRangeCmpFunc_split_Far_ok (a0_data : Sl) (a1_a : Int) (a2_b : Int) (a3_cmp : Value) (h : Hp) (K : Hp → Prop) (hF : F_slices_reverseRangeCmpFunc_split_Far a0_data a1_a a2_b a3_cmp h K) : C_slices_reverseRangeCmpFunc_split_Far a0_data a1_a a2_b a3_cmp h K := by
  have e : bodyVC Try.prog Try.f29 (.seq .no (.seq .no (.block (.loop [(8, .at (.int .i64)), (9, .at (.int .i64))] (.seq (.seq .no (.cond .no .no)) (.block (.seq .no (.seq .no .no)))))))) (Option.getD Try.f29.body .skip) [.slice a0_data.a a0_data.len a0_data.cap, .int .i64 a1_a, .int .i64 a2_b, a3_cmp] h [] (fun s h => K h) = F_slices_reverseRangeCmpFunc_split_Far a0_data a1_a a2_b a3_cmp h K := by kernel_rfl
  exact fun_sound mixed Try.func29 rfl (e.mpr hF)

def L2_slices_partialInsertionSortCmpFunc_split_Far (a0_data : Sl) (a2_b : Int) (a3_cmp : Value) (sL1 : (Int × Int × Unit) × Hp) (R1 : (Int × Int × Unit) × Hp → Prop) (sJ1 : Int × Unit) (sL2 : (Int × Unit) × Hp) (R2 : (Int × Unit) × Hp → Prop) : Prop :=
cnd (decide (sL2.1.1 < a2_b)) (
idxS a0_data.a a0_data.len sL2.1.1 2 fun (p19 : Addr) =>
ldA (.int .i64) sL2.2 p19 fun (t20 : Int) =>
ldA (.int .i64) sL2.2 (Addr.add p19 1) fun (t21 : Int) =>
Let (IntKind.wrap .i64 (sL2.1.1 - 1) : Int) fun (t22 : Int) =>
idxS a0_data.a a0_data.len t22 2 fun (p23 : Addr) =>
ldA (.int .i64) sL2.2 p23 fun (t24 : Int) =>
ldA (.int .i64) sL2.2 (Addr.add p23 1) fun (t25 : Int) =>
callV Try.prog a3_cmp [.agg #[.int .i64 t20, .int .i64 t21], .agg #[.int .i64 t24, .int .i64 t25]] [.at (.int .i64)] sL2.2 fun (s : Int × Unit) (h27 : Hp) =>
cnd (!(decide (s.1 < 0))) (
Let (IntKind.wrap .i64 (sL1.1.2.1 + 1) : Int) fun (t28 : Int) =>
R1 ((sJ1.1, t28, ()), h27)) (
Let (IntKind.wrap .i64 (sL2.1.1 - 1) : Int) fun (t29 : Int) =>
Let (IntKind.wrap .i64 (sL2.1.1 - 1) : Int) fun (t30 : Int) =>
idxS a0_data.a a0_data.len t30 2 fun (p31 : Addr) =>
ldA (.int .i64) h27 p31 fun (t32 : Int) =>
ldA (.int .i64) h27 (Addr.add p31 1) fun (t33 : Int) =>
idxS a0_data.a a0_data.len sL2.1.1 2 fun (p34 : Addr) =>
ldA (.int .i64) h27 p34 fun (t35 : Int) =>
ldA (.int .i64) h27 (Addr.add p34 1) fun (t36 : Int) =>
idxS a0_data.a a0_data.len sL2.1.1 2 fun (p37 : Addr) =>
stC h27 p37 (
Let (hset h27 p37 (.int .i64 t32)) fun (h38 : Hp) =>
stC h38 (Addr.add p37 1) (
Let (hset h38 (Addr.add p37 1) (.int .i64 t33)) fun (h39 : Hp) =>
idxS a0_data.a a0_data.len t29 2 fun (p40 : Addr) =>
stC h39 p40 (
Let (hset h39 p40 (.int .i64 t35)) fun (h41 : Hp) =>
stC h41 (Addr.add p40 1) (
Let (hset h41 (Addr.add p40 1) (.int .i64 t36)) fun (h42 : Hp) =>
Let (IntKind.wrap .i64 (sL2.1.1 + 1) : Int) fun (t43 : Int) =>
R2 ((t43, ()), h42))))))) (
Let (IntKind.wrap .i64 (sL1.1.2.1 + 1) : Int) fun (t44 : Int) =>
R1 ((sJ1.1, t44, ()), sL2.2))
def J2_slices_partialInsertionSortCmpFunc_split_Far (a0_data : Sl) (a2_b : Int) (a3_cmp : Value) (sL1 : (Int × Int × Unit) × Hp) (R1 : (Int × Int × Unit) × Hp → Prop) (sJ1 : Int × Unit) (sJ2 : Unit) (hJ2 : Hp) : Prop :=
Let (IntKind.wrap .i64 (a2_b - sJ1.1) : Int) fun (t17 : Int) =>
cnd (decide (t17 ≥ 2)) (
Let (IntKind.wrap .i64 (sJ1.1 + 1) : Int) fun (t18 : Int) =>
∃ n, Lp (L2_slices_partialInsertionSortCmpFunc_split_Far a0_data a2_b a3_cmp sL1 R1 sJ1) n ((t18, ()), hJ2)) (
Let (IntKind.wrap .i64 (sL1.1.2.1 + 1) : Int) fun (t45 : Int) =>
R1 ((sJ1.1, t45, ()), hJ2))
def L3_slices_partialInsertionSortCmpFunc_split_Far (a0_data : Sl) (a3_cmp : Value) (J2 : Unit → Hp → Prop) (sL3 : (Int × Unit) × Hp) (R3 : (Int × Unit) × Hp → Prop) : Prop :=
cnd (decide (sL3.1.1 ≥ 1)) (
idxS a0_data.a a0_data.len sL3.1.1 2 fun (p48 : Addr) =>
ldA (.int .i64) sL3.2 p48 fun (t49 : Int) =>
ldA (.int .i64) sL3.2 (Addr.add p48 1) fun (t50 : Int) =>
Let (IntKind.wrap .i64 (sL3.1.1 - 1) : Int) fun (t51 : Int) =>
idxS a0_data.a a0_data.len t51 2 fun (p52 : Addr) =>
ldA (.int .i64) sL3.2 p52 fun (t53 : Int) =>
ldA (.int .i64) sL3.2 (Addr.add p52 1) fun (t54 : Int) =>
callV Try.prog a3_cmp [.agg #[.int .i64 t49, .int .i64 t50], .agg #[.int .i64 t53, .int .i64 t54]] [.at (.int .i64)] sL3.2 fun (s : Int × Unit) (h56 : Hp) =>
cnd (!(decide (s.1 < 0))) (
J2 (()) h56) (
Let (IntKind.wrap .i64 (sL3.1.1 - 1) : Int) fun (t57 : Int) =>
Let (IntKind.wrap .i64 (sL3.1.1 - 1) : Int) fun (t58 : Int) =>
idxS a0_data.a a0_data.len t58 2 fun (p59 : Addr) =>
ldA (.int .i64) h56 p59 fun (t60 : Int) =>
ldA (.int .i64) h56 (Addr.add p59 1) fun (t61 : Int) =>
idxS a0_data.a a0_data.len sL3.1.1 2 fun (p62 : Addr) =>
ldA (.int .i64) h56 p62 fun (t63 : Int) =>
ldA (.int .i64) h56 (Addr.add p62 1) fun (t64 : Int) =>
idxS a0_data.a a0_data.len sL3.1.1 2 fun (p65 : Addr) =>
stC h56 p65 (
Let (hset h56 p65 (.int .i64 t60)) fun (h66 : Hp) =>
stC h66 (Addr.add p65 1) (
Let (hset h66 (Addr.add p65 1) (.int .i64 t61)) fun (h67 : Hp) =>
idxS a0_data.a a0_data.len t57 2 fun (p68 : Addr) =>
stC h67 p68 (
Let (hset h67 p68 (.int .i64 t63)) fun (h69 : Hp) =>
stC h69 (Addr.add p68 1) (
Let (hset h69 (Addr.add p68 1) (.int .i64 t64)) fun (h70 : Hp) =>
Let (IntKind.wrap .i64 (sL3.1.1 - 1) : Int) fun (t71 : Int) =>
R3 ((t71, ()), h70))))))) (
J2 (()) sL3.2)
def J1_slices_partialInsertionSortCmpFunc_split_Far (a0_data : Sl) (a1_a : Int) (a2_b : Int) (a3_cmp : Value) (K : Bool → Hp → Prop) (sL1 : (Int × Int × Unit) × Hp) (R1 : (Int × Int × Unit) × Hp → Prop) (sJ1 : Int × Unit) (hJ1 : Hp) : Prop :=
cnd (sJ1.1 == a2_b) (
K true hJ1) (
Let (IntKind.wrap .i64 (a2_b - a1_a) : Int) fun (t2 : Int) =>
cnd (decide (t2 < 50)) (
K false hJ1) (
Let (IntKind.wrap .i64 (sJ1.1 - 1) : Int) fun (t3 : Int) =>
Let (IntKind.wrap .i64 (sJ1.1 - 1) : Int) fun (t4 : Int) =>
idxS a0_data.a a0_data.len t4 2 fun (p5 : Addr) =>
ldA (.int .i64) hJ1 p5 fun (t6 : Int) =>
ldA (.int .i64) hJ1 (Addr.add p5 1) fun (t7 : Int) =>
idxS a0_data.a a0_data.len sJ1.1 2 fun (p8 : Addr) =>
ldA (.int .i64) hJ1 p8 fun (t9 : Int) =>
ldA (.int .i64) hJ1 (Addr.add p8 1) fun (t10 : Int) =>
idxS a0_data.a a0_data.len sJ1.1 2 fun (p11 : Addr) =>
stC hJ1 p11 (
Let (hset hJ1 p11 (.int .i64 t6)) fun (h12 : Hp) =>
stC h12 (Addr.add p11 1) (
Let (hset h12 (Addr.add p11 1) (.int .i64 t7)) fun (h13 : Hp) =>
idxS a0_data.a a0_data.len t3 2 fun (p14 : Addr) =>
stC h13 p14 (
Let (hset h13 p14 (.int .i64 t9)) fun (h15 : Hp) =>
stC h15 (Addr.add p14 1) (
Let (hset h15 (Addr.add p14 1) (.int .i64 t10)) fun (h16 : Hp) =>
Jn (J2_slices_partialInsertionSortCmpFunc_split_Far a0_data a2_b a3_cmp sL1 R1 sJ1) fun (J2 : Unit → Hp → Prop) =>
Let (IntKind.wrap .i64 (sJ1.1 - a1_a) : Int) fun (t46 : Int) =>
cnd (decide (t46 ≥ 2)) (
Let (IntKind.wrap .i64 (sJ1.1 - 1) : Int) fun (t47 : Int) =>
∃ n, Lp (L3_slices_partialInsertionSortCmpFunc_split_Far a0_data a3_cmp J2) n ((t47, ()), h16)) (
J2 (()) h16)))))))
def L4_slices_partialInsertionSortCmpFunc_split_Far (a0_data : Sl) (a2_b : Int) (a3_cmp : Value) (J1 : Int × Unit → Hp → Prop) (sL4 : (Int × Unit) × Hp) (R4 : (Int × Unit) × Hp → Prop) : Prop :=
cnd (decide (sL4.1.1 < a2_b)) (
idxS a0_data.a a0_data.len sL4.1.1 2 fun (p72 : Addr) =>
ldA (.int .i64) sL4.2 p72 fun (t73 : Int) =>
ldA (.int .i64) sL4.2 (Addr.add p72 1) fun (t74 : Int) =>
Let (IntKind.wrap .i64 (sL4.1.1 - 1) : Int) fun (t75 : Int) =>
idxS a0_data.a a0_data.len t75 2 fun (p76 : Addr) =>
ldA (.int .i64) sL4.2 p76 fun (t77 : Int) =>
ldA (.int .i64) sL4.2 (Addr.add p76 1) fun (t78 : Int) =>
callV Try.prog a3_cmp [.agg #[.int .i64 t73, .int .i64 t74], .agg #[.int .i64 t77, .int .i64 t78]] [.at (.int .i64)] sL4.2 fun (s : Int × Unit) (h80 : Hp) =>
cnd (!(decide (s.1 < 0))) (
Let (IntKind.wrap .i64 (sL4.1.1 + 1) : Int) fun (t81 : Int) =>
R4 ((t81, ()), h80)) (
J1 (sL4.1.1, ()) h80)) (
J1 (sL4.1.1, ()) sL4.2)
def L1_slices_partialInsertionSortCmpFunc_split_Far (a0_data : Sl) (a1_a : Int) (a2_b : Int) (a3_cmp : Value) (K : Bool → Hp → Prop) (sL1 : (Int × Int × Unit) × Hp) (R1 : (Int × Int × Unit) × Hp → Prop) : Prop :=
cnd (decide (sL1.1.2.1 < 5)) (
Jn (J1_slices_partialInsertionSortCmpFunc_split_Far a0_data a1_a a2_b a3_cmp K sL1 R1) fun (J1 : Int × Unit → Hp → Prop) =>
∃ n, Lp (L4_slices_partialInsertionSortCmpFunc_split_Far a0_data a2_b a3_cmp J1) n ((sL1.1.1, ()), sL1.2)) (
K false sL1.2)
def F_slices_partialInsertionSortCmpFunc_split_Far (a0_data : Sl) (a1_a : Int) (a2_b : Int) (a3_cmp : Value) (h : Hp) (K : Bool → Hp → Prop) : Prop :=
Let (IntKind.wrap .i64 (a1_a + 1) : Int) fun (t1 : Int) =>
∃ n, Lp (L1_slices_partialInsertionSortCmpFunc_split_Far a0_data a1_a a2_b a3_cmp K) n ((t1, 0, ()), h)

theorem F_slices_partialInsertionSortCmpFunc_split_Far_ok (a0_data : Sl) (a1_a : Int) (a2_b : Int) (a3_cmp : Value) (h : Hp) (K : Bool → Hp → Prop) (hF : F_slices_partialInsertionSortCmpFunc_split_Far a0_data a1_a a2_b a3_cmp h K) : C_slices_partialInsertionSortCmpFunc_split_Far a0_data a1_a a2_b a3_cmp h K := by
  have e : bodyVC Try.prog Try.f30 (.seq .no (.seq .no (.seq (.seq .no (.block (.loop [(9, .at (.int .i64)), (10, .at (.int .i64))] (.seq (.seq .no (.cond .no .no)) (.seq (.block (.join [(9, .at (.int .i64))] (.block (.loop [(9, .at (.int .i64))] (.seq (.seq .no (.cond .no .no)) (.block .no)))) (.seq (.seq .no (.cond (.seq .no .no) .no)) (.seq (.seq .no (.cond (.seq .no .no) .no)) (.seq .no (.join [] (.seq .no (.cond (.seq .no (.block (.loop [(11, .at (.int .i64))] (.seq (.seq .no (.cond .no .no)) (.seq (.block (.seq (.seq .no (.cond .no .no)) .no)) .no))))) .no)) (.seq .no (.cond (.seq .no (.block (.loop [(12, .at (.int .i64))] (.seq (.seq .no (.cond .no .no)) (.seq (.block (.seq (.seq .no (.cond .no .no)) .no)) .no))))) .no)))))))) .no))))) (.seq .no .no)))) (Option.getD Try.f30.body .skip) [.slice a0_data.a a0_data.len a0_data.cap, .int .i64 a1_a, .int .i64 a2_b, a3_cmp] h [.at .bool] (fun s h => K s.1 h) = F_slices_partialInsertionSortCmpFunc_split_Far a0_data a1_a a2_b a3_cmp h K := by kernel_rfl
  exact fun_sound mixed Try.func30 rfl (e.mpr hF)

def J2_slices_partitionEqualCmpFunc_split_Far (a0_data : Sl) (K : Int → Hp → Prop) (R1 : (Int × Int × Unit) × Hp → Prop) (sJ1 : Int × Unit) (sJ2 : Int × Unit) (hJ2 : Hp) : Prop :=
cnd (decide (sJ1.1 > sJ2.1)) (
K sJ1.1 hJ2) (
idxS a0_data.a a0_data.len sJ2.1 2 fun (p15 : Addr) =>
ldA (.int .i64) hJ2 p15 fun (t16 : Int) =>
ldA (.int .i64) hJ2 (Addr.add p15 1) fun (t17 : Int) =>
idxS a0_data.a a0_data.len sJ1.1 2 fun (p18 : Addr) =>
ldA (.int .i64) hJ2 p18 fun (t19 : Int) =>
ldA (.int .i64) hJ2 (Addr.add p18 1) fun (t20 : Int) =>
idxS a0_data.a a0_data.len sJ1.1 2 fun (p21 : Addr) =>
stC hJ2 p21 (
Let (hset hJ2 p21 (.int .i64 t16)) fun (h22 : Hp) =>
stC h22 (Addr.add p21 1) (
Let (hset h22 (Addr.add p21 1) (.int .i64 t17)) fun (h23 : Hp) =>
idxS a0_data.a a0_data.len sJ2.1 2 fun (p24 : Addr) =>
stC h23 p24 (
Let (hset h23 p24 (.int .i64 t19)) fun (h25 : Hp) =>
stC h25 (Addr.add p24 1) (
Let (hset h25 (Addr.add p24 1) (.int .i64 t20)) fun (h26 : Hp) =>
Let (IntKind.wrap .i64 (sJ1.1 + 1) : Int) fun (t27 : Int) =>
Let (IntKind.wrap .i64 (sJ2.1 - 1) : Int) fun (t28 : Int) =>
R1 ((t27, t28, ()), h26))))))
def L2_slices_partitionEqualCmpFunc_split_Far (a0_data : Sl) (a1_a : Int) (a4_cmp : Value) (sJ1 : Int × Unit) (J2 : Int × Unit → Hp → Prop) (sL2 : (Int × Unit) × Hp) (R2 : (Int × Unit) × Hp → Prop) : Prop :=
cnd (decide (sJ1.1 ≤ sL2.1.1)) (
idxS a0_data.a a0_data.len a1_a 2 fun (p29 : Addr) =>
ldA (.int .i64) sL2.2 p29 fun (t30 : Int) =>
ldA (.int .i64) sL2.2 (Addr.add p29 1) fun (t31 : Int) =>
idxS a0_data.a a0_data.len sL2.1.1 2 fun (p32 : Addr) =>
ldA (.int .i64) sL2.2 p32 fun (t33 : Int) =>
ldA (.int .i64) sL2.2 (Addr.add p32 1) fun (t34 : Int) =>
callV Try.prog a4_cmp [.agg #[.int .i64 t30, .int .i64 t31], .agg #[.int .i64 t33, .int .i64 t34]] [.at (.int .i64)] sL2.2 fun (s : Int × Unit) (h36 : Hp) =>
cnd (decide (s.1 < 0)) (
Let (IntKind.wrap .i64 (sL2.1.1 - 1) : Int) fun (t37 : Int) =>
R2 ((t37, ()), h36)) (
J2 (sL2.1.1, ()) h36)) (
J2 (sL2.1.1, ()) sL2.2)
def J1_slices_partitionEqualCmpFunc_split_Far (a0_data : Sl) (a1_a : Int) (a4_cmp : Value) (K : Int → Hp → Prop) (sL1 : (Int × Int × Unit) × Hp) (R1 : (Int × Int × Unit) × Hp → Prop) (sJ1 : Int × Unit) (hJ1 : Hp) : Prop :=
Jn (J2_slices_partitionEqualCmpFunc_split_Far a0_data K R1 sJ1) fun (J2 : Int × Unit → Hp → Prop) =>
∃ n, Lp (L2_slices_partitionEqualCmpFunc_split_Far a0_data a1_a a4_cmp sJ1 J2) n ((sL1.1.2.1, ()), hJ1)
def L3_slices_partitionEqualCmpFunc_split_Far (a0_data : Sl) (a1_a : Int) (a4_cmp : Value) (sL1 : (Int × Int × Unit) × Hp) (J1 : Int × Unit → Hp → Prop) (sL3 : (Int × Unit) × Hp) (R3 : (Int × Unit) × Hp → Prop) : Prop :=
cnd (decide (sL3.1.1 ≤ sL1.1.2.1)) (
idxS a0_data.a a0_data.len a1_a 2 fun (p38 : Addr) =>
ldA (.int .i64) sL3.2 p38 fun (t39 : Int) =>
ldA (.int .i64) sL3.2 (Addr.add p38 1) fun (t40 : Int) =>
idxS a0_data.a a0_data.len sL3.1.1 2 fun (p41 : Addr) =>
ldA (.int .i64) sL3.2 p41 fun (t42 : Int) =>
ldA (.int .i64) sL3.2 (Addr.add p41 1) fun (t43 : Int) =>
callV Try.prog a4_cmp [.agg #[.int .i64 t39, .int .i64 t40], .agg #[.int .i64 t42, .int .i64 t43]] [.at (.int .i64)] sL3.2 fun (s : Int × Unit) (h45 : Hp) =>
cnd (!(decide (s.1 < 0))) (
Let (IntKind.wrap .i64 (sL3.1.1 + 1) : Int) fun (t46 : Int) =>
R3 ((t46, ()), h45)) (
J1 (sL3.1.1, ()) h45)) (
J1 (sL3.1.1, ()) sL3.2)
def L1_slices_partitionEqualCmpFunc_split_Far (a0_data : Sl) (a1_a : Int) (a4_cmp : Value) (K : Int → Hp → Prop) (sL1 : (Int × Int × Unit) × Hp) (R1 : (Int × Int × Unit) × Hp → Prop) : Prop :=
Jn (J1_slices_partitionEqualCmpFunc_split_Far a0_data a1_a a4_cmp K sL1 R1) fun (J1 : Int × Unit → Hp → Prop) =>
∃ n, Lp (L3_slices_partitionEqualCmpFunc_split_Far a0_data a1_a a4_cmp sL1 J1) n ((sL1.1.1, ()), sL1.2)
def F_slices_partitionEqualCmpFunc_split_Far (a0_data : Sl) (a1_a : Int) (a2_b : Int) (a3_pivot : Int) (a4_cmp : Value) (h : Hp) (K : Int → Hp → Prop) : Prop :=
idxS a0_data.a a0_data.len a3_pivot 2 fun (p1 : Addr) =>
ldA (.int .i64) h p1 fun (t2 : Int) =>
ldA (.int .i64) h (Addr.add p1 1) fun (t3 : Int) =>
idxS a0_data.a a0_data.len a1_a 2 fun (p4 : Addr) =>
ldA (.int .i64) h p4 fun (t5 : Int) =>
ldA (.int .i64) h (Addr.add p4 1) fun (t6 : Int) =>
idxS a0_data.a a0_data.len a1_a 2 fun (p7 : Addr) =>
stC h p7 (
Let (hset h p7 (.int .i64 t2)) fun (h8 : Hp) =>
stC h8 (Addr.add p7 1) (
Let (hset h8 (Addr.add p7 1) (.int .i64 t3)) fun (h9 : Hp) =>
idxS a0_data.a a0_data.len a3_pivot 2 fun (p10 : Addr) =>
stC h9 p10 (
Let (hset h9 p10 (.int .i64 t5)) fun (h11 : Hp) =>
stC h11 (Addr.add p10 1) (
Let (hset h11 (Addr.add p10 1) (.int .i64 t6)) fun (h12 : Hp) =>
Let (IntKind.wrap .i64 (a1_a + 1) : Int) fun (t13 : Int) =>
Let (IntKind.wrap .i64 (a2_b - 1) : Int) fun (t14 : Int) =>
∃ n, Lp (L1_slices_partitionEqualCmpFunc_split_Far a0_data a1_a a4_cmp K) n ((t13, t14, ()), h12)))))

theorem F_slices_partitionEqualCmpFunc_split_Far_ok (a0_data : Sl) (a1_a : Int) (a2_b : Int) (a3_pivot : Int) (a4_cmp : Value) (h : Hp) (K : Int → Hp → Prop) (hF : F_slices_partitionEqualCmpFunc_split_Far a0_data a1_a a2_b a3_pivot a4_cmp h K) : C_slices_partitionEqualCmpFunc_split_Far a0_data a1_a a2_b a3_pivot a4_cmp h K := by
  have e : bodyVC Try.prog Try.f31 (.seq .no (.seq .no (.seq .no (.seq (.block (.loop [(11, .at (.int .i64)), (12, .at (.int .i64))] (.block (.join [(11, .at (.int .i64))] (.block (.loop [(11, .at (.int .i64))] (.seq (.seq .no (.cond .no .no)) (.block .no)))) (.join [(12, .at (.int .i64))] (.block (.loop [(12, .at (.int .i64))] (.seq (.seq .no (.cond .no .no)) (.block .no)))) (.seq (.seq .no (.cond .no .no)) (.seq .no (.seq .no .no)))))))) (.seq .no .no))))) (Option.getD Try.f31.body .skip) [.slice a0_data.a a0_data.len a0_data.cap, .int .i64 a1_a, .int .i64 a2_b, .int .i64 a3_pivot, a4_cmp] h [.at (.int .i64)] (fun s h => K s.1 h) = F_slices_partitionEqualCmpFunc_split_Far a0_data a1_a a2_b a3_pivot a4_cmp h K := by kernel_rfl
  exact fun_sound mixed Try.func31 rfl (e.mpr hF)

def J3_slices_partitionCmpFunc_split_Far (a0_data : Sl) (a1_a : Int) (K : Int → Bool → Hp → Prop) (sJ3 : Int × Unit) (hJ3 : Hp) : Prop :=
idxS a0_data.a a0_data.len a1_a 2 fun (p41 : Addr) =>
ldA (.int .i64) hJ3 p41 fun (t42 : Int) =>
ldA (.int .i64) hJ3 (Addr.add p41 1) fun (t43 : Int) =>
idxS a0_data.a a0_data.len sJ3.1 2 fun (p44 : Addr) =>
ldA (.int .i64) hJ3 p44 fun (t45 : Int) =>
ldA (.int .i64) hJ3 (Addr.add p44 1) fun (t46 : Int) =>
idxS a0_data.a a0_data.len sJ3.1 2 fun (p47 : Addr) =>
stC hJ3 p47 (
Let (hset hJ3 p47 (.int .i64 t42)) fun (h48 : Hp) =>
stC h48 (Addr.add p47 1) (
Let (hset h48 (Addr.add p47 1) (.int .i64 t43)) fun (h49 : Hp) =>
idxS a0_data.a a0_data.len a1_a 2 fun (p50 : Addr) =>
stC h49 p50 (
Let (hset h49 p50 (.int .i64 t45)) fun (h51 : Hp) =>
stC h51 (Addr.add p50 1) (
Let (hset h51 (Addr.add p50 1) (.int .i64 t46)) fun (h52 : Hp) =>
K sJ3.1 false h52))))
def J5_slices_partitionCmpFunc_split_Far (a0_data : Sl) (J3 : Int × Unit → Hp → Prop) (R1 : (Int × Int × Unit) × Hp → Prop) (sJ4 : Int × Unit) (sJ5 : Int × Unit) (hJ5 : Hp) : Prop :=
cnd (decide (sJ4.1 > sJ5.1)) (
J3 (sJ5.1, ()) hJ5) (
idxS a0_data.a a0_data.len sJ5.1 2 fun (p53 : Addr) =>
ldA (.int .i64) hJ5 p53 fun (t54 : Int) =>
ldA (.int .i64) hJ5 (Addr.add p53 1) fun (t55 : Int) =>
idxS a0_data.a a0_data.len sJ4.1 2 fun (p56 : Addr) =>
ldA (.int .i64) hJ5 p56 fun (t57 : Int) =>
ldA (.int .i64) hJ5 (Addr.add p56 1) fun (t58 : Int) =>
idxS a0_data.a a0_data.len sJ4.1 2 fun (p59 : Addr) =>
stC hJ5 p59 (
Let (hset hJ5 p59 (.int .i64 t54)) fun (h60 : Hp) =>
stC h60 (Addr.add p59 1) (
Let (hset h60 (Addr.add p59 1) (.int .i64 t55)) fun (h61 : Hp) =>
idxS a0_data.a a0_data.len sJ5.1 2 fun (p62 : Addr) =>
stC h61 p62 (
Let (hset h61 p62 (.int .i64 t57)) fun (h63 : Hp) =>
stC h63 (Addr.add p62 1) (
Let (hset h63 (Addr.add p62 1) (.int .i64 t58)) fun (h64 : Hp) =>
Let (IntKind.wrap .i64 (sJ4.1 + 1) : Int) fun (t65 : Int) =>
Let (IntKind.wrap .i64 (sJ5.1 - 1) : Int) fun (t66 : Int) =>
R1 ((t65, t66, ()), h64))))))
def L2_slices_partitionCmpFunc_split_Far (a0_data : Sl) (a1_a : Int) (a4_cmp : Value) (sJ4 : Int × Unit) (J5 : Int × Unit → Hp → Prop) (sL2 : (Int × Unit) × Hp) (R2 : (Int × Unit) × Hp → Prop) : Prop :=
cnd (decide (sJ4.1 ≤ sL2.1.1)) (
idxS a0_data.a a0_data.len sL2.1.1 2 fun (p67 : Addr) =>
ldA (.int .i64) sL2.2 p67 fun (t68 : Int) =>
ldA (.int .i64) sL2.2 (Addr.add p67 1) fun (t69 : Int) =>
idxS a0_data.a a0_data.len a1_a 2 fun (p70 : Addr) =>
ldA (.int .i64) sL2.2 p70 fun (t71 : Int) =>
ldA (.int .i64) sL2.2 (Addr.add p70 1) fun (t72 : Int) =>
callV Try.prog a4_cmp [.agg #[.int .i64 t68, .int .i64 t69], .agg #[.int .i64 t71, .int .i64 t72]] [.at (.int .i64)] sL2.2 fun (s : Int × Unit) (h74 : Hp) =>
cnd (!(decide (s.1 < 0))) (
Let (IntKind.wrap .i64 (sL2.1.1 - 1) : Int) fun (t75 : Int) =>
R2 ((t75, ()), h74)) (
J5 (sL2.1.1, ()) h74)) (
J5 (sL2.1.1, ()) sL2.2)
def J4_slices_partitionCmpFunc_split_Far (a0_data : Sl) (a1_a : Int) (a4_cmp : Value) (J3 : Int × Unit → Hp → Prop) (sL1 : (Int × Int × Unit) × Hp) (R1 : (Int × Int × Unit) × Hp → Prop) (sJ4 : Int × Unit) (hJ4 : Hp) : Prop :=
Jn (J5_slices_partitionCmpFunc_split_Far a0_data J3 R1 sJ4) fun (J5 : Int × Unit → Hp → Prop) =>
∃ n, Lp (L2_slices_partitionCmpFunc_split_Far a0_data a1_a a4_cmp sJ4 J5) n ((sL1.1.2.1, ()), hJ4)
def L3_slices_partitionCmpFunc_split_Far (a0_data : Sl) (a1_a : Int) (a4_cmp : Value) (sL1 : (Int × Int × Unit) × Hp) (J4 : Int × Unit → Hp → Prop) (sL3 : (Int × Unit) × Hp) (R3 : (Int × Unit) × Hp → Prop) : Prop :=
cnd (decide (sL3.1.1 ≤ sL1.1.2.1)) (
idxS a0_data.a a0_data.len sL3.1.1 2 fun (p76 : Addr) =>
ldA (.int .i64) sL3.2 p76 fun (t77 : Int) =>
ldA (.int .i64) sL3.2 (Addr.add p76 1) fun (t78 : Int) =>
idxS a0_data.a a0_data.len a1_a 2 fun (p79 : Addr) =>
ldA (.int .i64) sL3.2 p79 fun (t80 : Int) =>
ldA (.int .i64) sL3.2 (Addr.add p79 1) fun (t81 : Int) =>
callV Try.prog a4_cmp [.agg #[.int .i64 t77, .int .i64 t78], .agg #[.int .i64 t80, .int .i64 t81]] [.at (.int .i64)] sL3.2 fun (s : Int × Unit) (h83 : Hp) =>
cnd (decide (s.1 < 0)) (
Let (IntKind.wrap .i64 (sL3.1.1 + 1) : Int) fun (t84 : Int) =>
R3 ((t84, ()), h83)) (
J4 (sL3.1.1, ()) h83)) (
J4 (sL3.1.1, ()) sL3.2)
def L1_slices_partitionCmpFunc_split_Far (a0_data : Sl) (a1_a : Int) (a4_cmp : Value) (J3 : Int × Unit → Hp → Prop) (sL1 : (Int × Int × Unit) × Hp) (R1 : (Int × Int × Unit) × Hp → Prop) : Prop :=
Jn (J4_slices_partitionCmpFunc_split_Far a0_data a1_a a4_cmp J3 sL1 R1) fun (J4 : Int × Unit → Hp → Prop) =>
∃ n, Lp (L3_slices_partitionCmpFunc_split_Far a0_data a1_a a4_cmp sL1 J4) n ((sL1.1.1, ()), sL1.2)
def J2_slices_partitionCmpFunc_split_Far (a0_data : Sl) (a1_a : Int) (a4_cmp : Value) (K : Int → Bool → Hp → Prop) (sJ1 : Int × Unit) (sJ2 : Int × Unit) (hJ2 : Hp) : Prop :=
cnd (decide (sJ1.1 > sJ2.1)) (
idxS a0_data.a a0_data.len a1_a 2 fun (p15 : Addr) =>
ldA (.int .i64) hJ2 p15 fun (t16 : Int) =>
ldA (.int .i64) hJ2 (Addr.add p15 1) fun (t17 : Int) =>
idxS a0_data.a a0_data.len sJ2.1 2 fun (p18 : Addr) =>
ldA (.int .i64) hJ2 p18 fun (t19 : Int) =>
ldA (.int .i64) hJ2 (Addr.add p18 1) fun (t20 : Int) =>
idxS a0_data.a a0_data.len sJ2.1 2 fun (p21 : Addr) =>
stC hJ2 p21 (
Let (hset hJ2 p21 (.int .i64 t16)) fun (h22 : Hp) =>
stC h22 (Addr.add p21 1) (
Let (hset h22 (Addr.add p21 1) (.int .i64 t17)) fun (h23 : Hp) =>
idxS a0_data.a a0_data.len a1_a 2 fun (p24 : Addr) =>
stC h23 p24 (
Let (hset h23 p24 (.int .i64 t19)) fun (h25 : Hp) =>
stC h25 (Addr.add p24 1) (
Let (hset h25 (Addr.add p24 1) (.int .i64 t20)) fun (h26 : Hp) =>
K sJ2.1 true h26))))) (
idxS a0_data.a a0_data.len sJ2.1 2 fun (p27 : Addr) =>
ldA (.int .i64) hJ2 p27 fun (t28 : Int) =>
ldA (.int .i64) hJ2 (Addr.add p27 1) fun (t29 : Int) =>
idxS a0_data.a a0_data.len sJ1.1 2 fun (p30 : Addr) =>
ldA (.int .i64) hJ2 p30 fun (t31 : Int) =>
ldA (.int .i64) hJ2 (Addr.add p30 1) fun (t32 : Int) =>
idxS a0_data.a a0_data.len sJ1.1 2 fun (p33 : Addr) =>
stC hJ2 p33 (
Let (hset hJ2 p33 (.int .i64 t28)) fun (h34 : Hp) =>
stC h34 (Addr.add p33 1) (
Let (hset h34 (Addr.add p33 1) (.int .i64 t29)) fun (h35 : Hp) =>
idxS a0_data.a a0_data.len sJ2.1 2 fun (p36 : Addr) =>
stC h35 p36 (
Let (hset h35 p36 (.int .i64 t31)) fun (h37 : Hp) =>
stC h37 (Addr.add p36 1) (
Let (hset h37 (Addr.add p36 1) (.int .i64 t32)) fun (h38 : Hp) =>
Let (IntKind.wrap .i64 (sJ1.1 + 1) : Int) fun (t39 : Int) =>
Let (IntKind.wrap .i64 (sJ2.1 - 1) : Int) fun (t40 : Int) =>
Jn (J3_slices_partitionCmpFunc_split_Far a0_data a1_a K) fun (J3 : Int × Unit → Hp → Prop) =>
∃ n, Lp (L1_slices_partitionCmpFunc_split_Far a0_data a1_a a4_cmp J3) n ((t39, t40, ()), h38))))))
def L4_slices_partitionCmpFunc_split_Far (a0_data : Sl) (a1_a : Int) (a4_cmp : Value) (sJ1 : Int × Unit) (J2 : Int × Unit → Hp → Prop) (sL4 : (Int × Unit) × Hp) (R4 : (Int × Unit) × Hp → Prop) : Prop :=
cnd (decide (sJ1.1 ≤ sL4.1.1)) (
idxS a0_data.a a0_data.len sL4.1.1 2 fun (p85 : Addr) =>
ldA (.int .i64) sL4.2 p85 fun (t86 : Int) =>
ldA (.int .i64) sL4.2 (Addr.add p85 1) fun (t87 : Int) =>
idxS a0_data.a a0_data.len a1_a 2 fun (p88 : Addr) =>
ldA (.int .i64) sL4.2 p88 fun (t89 : Int) =>
ldA (.int .i64) sL4.2 (Addr.add p88 1) fun (t90 : Int) =>
callV Try.prog a4_cmp [.agg #[.int .i64 t86, .int .i64 t87], .agg #[.int .i64 t89, .int .i64 t90]] [.at (.int .i64)] sL4.2 fun (s : Int × Unit) (h92 : Hp) =>
cnd (!(decide (s.1 < 0))) (
Let (IntKind.wrap .i64 (sL4.1.1 - 1) : Int) fun (t93 : Int) =>
R4 ((t93, ()), h92)) (
J2 (sL4.1.1, ()) h92)) (
J2 (sL4.1.1, ()) sL4.2)
def J1_slices_partitionCmpFunc_split_Far (a0_data : Sl) (a1_a : Int) (a4_cmp : Value) (K : Int → Bool → Hp → Prop) (t14 : Int) (sJ1 : Int × Unit) (hJ1 : Hp) : Prop :=
Jn (J2_slices_partitionCmpFunc_split_Far a0_data a1_a a4_cmp K sJ1) fun (J2 : Int × Unit → Hp → Prop) =>
∃ n, Lp (L4_slices_partitionCmpFunc_split_Far a0_data a1_a a4_cmp sJ1 J2) n ((t14, ()), hJ1)
def L5_slices_partitionCmpFunc_split_Far (a0_data : Sl) (a1_a : Int) (a4_cmp : Value) (t14 : Int) (J1 : Int × Unit → Hp → Prop) (sL5 : (Int × Unit) × Hp) (R5 : (Int × Unit) × Hp → Prop) : Prop :=
cnd (decide (sL5.1.1 ≤ t14)) (
idxS a0_data.a a0_data.len sL5.1.1 2 fun (p94 : Addr) =>
ldA (.int .i64) sL5.2 p94 fun (t95 : Int) =>
ldA (.int .i64) sL5.2 (Addr.add p94 1) fun (t96 : Int) =>
idxS a0_data.a a0_data.len a1_a 2 fun (p97 : Addr) =>
ldA (.int .i64) sL5.2 p97 fun (t98 : Int) =>
ldA (.int .i64) sL5.2 (Addr.add p97 1) fun (t99 : Int) =>
callV Try.prog a4_cmp [.agg #[.int .i64 t95, .int .i64 t96], .agg #[.int .i64 t98, .int .i64 t99]] [.at (.int .i64)] sL5.2 fun (s : Int × Unit) (h101 : Hp) =>
cnd (decide (s.1 < 0)) (
Let (IntKind.wrap .i64 (sL5.1.1 + 1) : Int) fun (t102 : Int) =>
R5 ((t102, ()), h101)) (
J1 (sL5.1.1, ()) h101)) (
J1 (sL5.1.1, ()) sL5.2)
def F_slices_partitionCmpFunc_split_Far (a0_data : Sl) (a1_a : Int) (a2_b : Int) (a3_pivot : Int) (a4_cmp : Value) (h : Hp) (K : Int → Bool → Hp → Prop) : Prop :=
idxS a0_data.a a0_data.len a3_pivot 2 fun (p1 : Addr) =>
ldA (.int .i64) h p1 fun (t2 : Int) =>
ldA (.int .i64) h (Addr.add p1 1) fun (t3 : Int) =>
idxS a0_data.a a0_data.len a1_a 2 fun (p4 : Addr) =>
ldA (.int .i64) h p4 fun (t5 : Int) =>
ldA (.int .i64) h (Addr.add p4 1) fun (t6 : Int) =>
idxS a0_data.a a0_data.len a1_a 2 fun (p7 : Addr) =>
stC h p7 (
Let (hset h p7 (.int .i64 t2)) fun (h8 : Hp) =>
stC h8 (Addr.add p7 1) (
Let (hset h8 (Addr.add p7 1) (.int .i64 t3)) fun (h9 : Hp) =>
idxS a0_data.a a0_data.len a3_pivot 2 fun (p10 : Addr) =>
stC h9 p10 (
Let (hset h9 p10 (.int .i64 t5)) fun (h11 : Hp) =>
stC h11 (Addr.add p10 1) (
Let (hset h11 (Addr.add p10 1) (.int .i64 t6)) fun (h12 : Hp) =>
Let (IntKind.wrap .i64 (a1_a + 1) : Int) fun (t13 : Int) =>
Let (IntKind.wrap .i64 (a2_b - 1) : Int) fun (t14 : Int) =>
Jn (J1_slices_partitionCmpFunc_split_Far a0_data a1_a a4_cmp K t14) fun (J1 : Int × Unit → Hp → Prop) =>
∃ n, Lp (L5_slices_partitionCmpFunc_split_Far a0_data a1_a a4_cmp t14 J1) n ((t13, ()), h12)))))

theorem F_slices_partitionCmpFunc_split_Far_ok (a0_data : Sl) (a1_a : Int) (a2_b : Int) (a3_pivot : Int) (a4_cmp : Value) (h : Hp) (K : Int → Bool → Hp → Prop) (hF : F_slices_partitionCmpFunc_split_Far a0_data a1_a a2_b a3_pivot a4_cmp h K) : C_slices_partitionCmpFunc_split_Far a0_data a1_a a2_b a3_pivot a4_cmp h K := by
  have e : bodyVC Try.prog Try.f32 (.seq .no (.seq .no (.seq .no (.join [(12, .at (.int .i64))] (.block (.loop [(12, .at (.int .i64))] (.seq (.seq .no (.cond .no .no)) (.block .no)))) (.join [(13, .at (.int .i64))] (.block (.loop [(13, .at (.int .i64))] (.seq (.seq .no (.cond .no .no)) (.block .no)))) (.seq (.seq .no (.cond (.seq .no (.seq .no .no)) .no)) (.seq .no (.seq .no (.seq .no (.join [(13, .at (.int .i64))] (.block (.loop [(12, .at (.int .i64)), (13, .at (.int .i64))] (.block (.join [(12, .at (.int .i64))] (.block (.loop [(12, .at (.int .i64))] (.seq (.seq .no (.cond .no .no)) (.block .no)))) (.join [(13, .at (.int .i64))] (.block (.loop [(13, .at (.int .i64))] (.seq (.seq .no (.cond .no .no)) (.block .no)))) (.seq (.seq .no (.cond .no .no)) (.seq .no (.seq .no .no)))))))) (.seq .no (.seq .no .no)))))))))))) (Option.getD Try.f32.body .skip) [.slice a0_data.a a0_data.len a0_data.cap, .int .i64 a1_a, .int .i64 a2_b, .int .i64 a3_pivot, a4_cmp] h [.at (.int .i64), .at .bool] (fun s h => K s.1 s.2.1 h) = F_slices_partitionCmpFunc_split_Far a0_data a1_a a2_b a3_pivot a4_cmp h K := by kernel_rfl
  exact fun_sound mixed Try.func32 rfl (e.mpr hF)

def J2_math_bits_Len32 (K : Int → Hp → Prop) (sJ2 : Int × Int × Unit) (hJ2 : Hp) : Prop :=
Let (IntKind.wrap .u8 (sJ2.1) : Int) fun (t1 : Int) =>
idxStr (ByteArray.mk #[0, 1, 2, 2, 3, 3, 3, 3, 4, 4, 4, 4, 4, 4, 4, 4, 5, 5, 5, 5, 5, 5, 5, 5, 5, 5, 5, 5, 5, 5, 5, 5, 6, 6, 6, 6, 6, 6, 6, 6, 6, 6, 6, 6, 6, 6, 6, 6, 6, 6, 6, 6, 6, 6, 6, 6, 6, 6, 6, 6, 6, 6, 6, 6, 7, 7, 7, 7, 7, 7, 7, 7, 7, 7, 7, 7, 7, 7, 7, 7, 7, 7, 7, 7, 7, 7, 7, 7, 7, 7, 7, 7, 7, 7, 7, 7, 7, 7, 7, 7, 7, 7, 7, 7, 7, 7, 7, 7, 7, 7, 7, 7, 7, 7, 7, 7, 7, 7, 7, 7, 7, 7, 7, 7, 7, 7, 7, 7, 8, 8, 8, 8, 8, 8, 8, 8, 8, 8, 8, 8, 8, 8, 8, 8, 8, 8, 8, 8, 8, 8, 8, 8, 8, 8, 8, 8, 8, 8, 8, 8, 8, 8, 8, 8, 8, 8, 8, 8, 8, 8, 8, 8, 8, 8, 8, 8, 8, 8, 8, 8, 8, 8, 8, 8, 8, 8, 8, 8, 8, 8, 8, 8, 8, 8, 8, 8, 8, 8, 8, 8, 8, 8, 8, 8, 8, 8, 8, 8, 8, 8, 8, 8, 8, 8, 8, 8, 8, 8, 8, 8, 8, 8, 8, 8, 8, 8, 8, 8, 8, 8, 8, 8, 8, 8, 8, 8, 8, 8, 8, 8, 8, 8, 8, 8, 8, 8, 8, 8, 8, 8, 8, 8, 8, 8, 8, 8]) t1 fun (t2 : Int) =>
Let (IntKind.wrap .i64 (t2) : Int) fun (t3 : Int) =>
Let (IntKind.wrap .i64 (sJ2.2.1 + t3) : Int) fun (t4 : Int) =>
K t4 hJ2
def J1_math_bits_Len32 (K : Int → Hp → Prop) (sJ1 : Int × Int × Unit) (hJ1 : Hp) : Prop :=
Jn (J2_math_bits_Len32 K) fun (J2 : Int × Int × Unit → Hp → Prop) =>
cnd (decide (sJ1.1 ≥ 256)) (
Let (Int.fdiv sJ1.1 (2 ^ min (Int.toNat 8) (IntKind.bits .u32)) : Int) fun (t5 : Int) =>
Let (IntKind.wrap .i64 (sJ1.2.1 + 8) : Int) fun (t6 : Int) =>
J2 (t5, t6, ()) hJ1) (
J2 (sJ1.1, sJ1.2.1, ()) hJ1)
def F_math_bits_Len32 (a0_x : Int) (h : Hp) (K : Int → Hp → Prop) : Prop :=
Jn (J1_math_bits_Len32 K) fun (J1 : Int × Int × Unit → Hp → Prop) =>
cnd (decide (a0_x ≥ 65536)) (
Let (Int.fdiv a0_x (2 ^ min (Int.toNat 16) (IntKind.bits .u32)) : Int) fun (t7 : Int) =>
J1 (t7, 16, ()) h) (
J1 (a0_x, 0, ()) h)

theorem F_math_bits_Len32_ok (a0_x : Int) (h : Hp) (K : Int → Hp → Prop) (hF : F_math_bits_Len32 a0_x h K) : C_math_bits_Len32 a0_x h K := by
  have e : bodyVC Try.prog Try.f33 (.seq .no (.join [(0, .at (.int .u32)), (2, .at (.int .i64))] (.seq .no (.cond (.seq .no .no) .no)) (.join [(0, .at (.int .u32)), (2, .at (.int .i64))] (.seq .no (.cond (.seq .no .no) .no)) (.seq .no .no)))) (Option.getD Try.f33.body .skip) [.int .u32 a0_x] h [.at (.int .i64)] (fun s h => K s.1 h) = F_math_bits_Len32 a0_x h K := by kernel_rfl
  exact fun_sound mixed Try.func33 rfl (e.mpr hF)

def J3_math_bits_Len64 (K : Int → Hp → Prop) (sJ3 : Int × Int × Unit) (hJ3 : Hp) : Prop :=
Let (IntKind.wrap .u8 (sJ3.1) : Int) fun (t1 : Int) =>
idxStr (ByteArray.mk #[0, 1, 2, 2, 3, 3, 3, 3, 4, 4, 4, 4, 4, 4, 4, 4, 5, 5, 5, 5, 5, 5, 5, 5, 5, 5, 5, 5, 5, 5, 5, 5, 6, 6, 6, 6, 6, 6, 6, 6, 6, 6, 6, 6, 6, 6, 6, 6, 6, 6, 6, 6, 6, 6, 6, 6, 6, 6, 6, 6, 6, 6, 6, 6, 7, 7, 7, 7, 7, 7, 7, 7, 7, 7, 7, 7, 7, 7, 7, 7, 7, 7, 7, 7, 7, 7, 7, 7, 7, 7, 7, 7, 7, 7, 7, 7, 7, 7, 7, 7, 7, 7, 7, 7, 7, 7, 7, 7, 7, 7, 7, 7, 7, 7, 7, 7, 7, 7, 7, 7, 7, 7, 7, 7, 7, 7, 7, 7, 8, 8, 8, 8, 8, 8, 8, 8, 8, 8, 8, 8, 8, 8, 8, 8, 8, 8, 8, 8, 8, 8, 8, 8, 8, 8, 8, 8, 8, 8, 8, 8, 8, 8, 8, 8, 8, 8, 8, 8, 8, 8, 8, 8, 8, 8, 8, 8, 8, 8, 8, 8, 8, 8, 8, 8, 8, 8, 8, 8, 8, 8, 8, 8, 8, 8, 8, 8, 8, 8, 8, 8, 8, 8, 8, 8, 8, 8, 8, 8, 8, 8, 8, 8, 8, 8, 8, 8, 8, 8, 8, 8, 8, 8, 8, 8, 8, 8, 8, 8, 8, 8, 8, 8, 8, 8, 8, 8, 8, 8, 8, 8, 8, 8, 8, 8, 8, 8, 8, 8, 8, 8, 8, 8, 8, 8, 8, 8]) t1 fun (t2 : Int) =>
Let (IntKind.wrap .i64 (t2) : Int) fun (t3 : Int) =>
Let (IntKind.wrap .i64 (sJ3.2.1 + t3) : Int) fun (t4 : Int) =>
K t4 hJ3
def J2_math_bits_Len64 (K : Int → Hp → Prop) (sJ2 : Int × Int × Unit) (hJ2 : Hp) : Prop :=
Jn (J3_math_bits_Len64 K) fun (J3 : Int × Int × Unit → Hp → Prop) =>
cnd (decide (sJ2.1 ≥ 256)) (
((0 : Int) ≤ 8) ∧ (
Let (Int.fdiv sJ2.1 (2 ^ min (Int.toNat 8) (IntKind.bits .u64)) : Int) fun (t5 : Int) =>
Let (IntKind.wrap .i64 (sJ2.2.1 + 8) : Int) fun (t6 : Int) =>
J3 (t5, t6, ()) hJ2)) (
J3 (sJ2.1, sJ2.2.1, ()) hJ2)
def J1_math_bits_Len64 (K : Int → Hp → Prop) (sJ1 : Int × Int × Unit) (hJ1 : Hp) : Prop :=
Jn (J2_math_bits_Len64 K) fun (J2 : Int × Int × Unit → Hp → Prop) =>
cnd (decide (sJ1.1 ≥ 65536)) (
((0 : Int) ≤ 16) ∧ (
Let (Int.fdiv sJ1.1 (2 ^ min (Int.toNat 16) (IntKind.bits .u64)) : Int) fun (t7 : Int) =>
Let (IntKind.wrap .i64 (sJ1.2.1 + 16) : Int) fun (t8 : Int) =>
J2 (t7, t8, ()) hJ1)) (
J2 (sJ1.1, sJ1.2.1, ()) hJ1)
def F_math_bits_Len64 (a0_x : Int) (h : Hp) (K : Int → Hp → Prop) : Prop :=
Jn (J1_math_bits_Len64 K) fun (J1 : Int × Int × Unit → Hp → Prop) =>
cnd (decide (a0_x ≥ 4294967296)) (
((0 : Int) ≤ 32) ∧ (
Let (Int.fdiv a0_x (2 ^ min (Int.toNat 32) (IntKind.bits .u64)) : Int) fun (t9 : Int) =>
J1 (t9, 32, ()) h)) (
J1 (a0_x, 0, ()) h)

theorem F_math_bits_Len64_ok (a0_x : Int) (h : Hp) (K : Int → Hp → Prop) (hF : F_math_bits_Len64 a0_x h K) : C_math_bits_Len64 a0_x h K := by
  have e : bodyVC Try.prog Try.f34 (.seq .no (.join [(0, .at (.int .u64)), (2, .at (.int .i64))] (.seq .no (.cond (.seq .no .no) .no)) (.join [(0, .at (.int .u64)), (2, .at (.int .i64))] (.seq .no (.cond (.seq .no .no) .no)) (.join [(0, .at (.int .u64)), (2, .at (.int .i64))] (.seq .no (.cond (.seq .no .no) .no)) (.seq .no .no))))) (Option.getD Try.f34.body .skip) [.int .u64 a0_x] h [.at (.int .i64)] (fun s h => K s.1 h) = F_math_bits_Len64 a0_x h K := by kernel_rfl
  exact fun_sound mixed Try.func34 rfl (e.mpr hF)

def J1_slices_siftDownCmpFunc_split_Far (a0_data : Sl) (a3_first : Int) (a4_cmp : Value) (K : Hp → Prop) (sL1 : (Int × Unit) × Hp) (R1 : (Int × Unit) × Hp → Prop) (sJ1 : Int × Unit) (hJ1 : Hp) : Prop :=
Let (IntKind.wrap .i64 (a3_first + sL1.1.1) : Int) fun (t3 : Int) =>
idxS a0_data.a a0_data.len t3 2 fun (p4 : Addr) =>
ldA (.int .i64) hJ1 p4 fun (t5 : Int) =>
ldA (.int .i64) hJ1 (Addr.add p4 1) fun (t6 : Int) =>
Let (IntKind.wrap .i64 (a3_first + sJ1.1) : Int) fun (t7 : Int) =>
idxS a0_data.a a0_data.len t7 2 fun (p8 : Addr) =>
ldA (.int .i64) hJ1 p8 fun (t9 : Int) =>
ldA (.int .i64) hJ1 (Addr.add p8 1) fun (t10 : Int) =>
callV Try.prog a4_cmp [.agg #[.int .i64 t5, .int .i64 t6], .agg #[.int .i64 t9, .int .i64 t10]] [.at (.int .i64)] hJ1 fun (s : Int × Unit) (h12 : Hp) =>
cnd (!(decide (s.1 < 0))) (
K h12) (
Let (IntKind.wrap .i64 (a3_first + sL1.1.1) : Int) fun (t13 : Int) =>
Let (IntKind.wrap .i64 (a3_first + sJ1.1) : Int) fun (t14 : Int) =>
Let (IntKind.wrap .i64 (a3_first + sJ1.1) : Int) fun (t15 : Int) =>
idxS a0_data.a a0_data.len t15 2 fun (p16 : Addr) =>
ldA (.int .i64) h12 p16 fun (t17 : Int) =>
ldA (.int .i64) h12 (Addr.add p16 1) fun (t18 : Int) =>
Let (IntKind.wrap .i64 (a3_first + sL1.1.1) : Int) fun (t19 : Int) =>
idxS a0_data.a a0_data.len t19 2 fun (p20 : Addr) =>
ldA (.int .i64) h12 p20 fun (t21 : Int) =>
ldA (.int .i64) h12 (Addr.add p20 1) fun (t22 : Int) =>
idxS a0_data.a a0_data.len t13 2 fun (p23 : Addr) =>
stC h12 p23 (
Let (hset h12 p23 (.int .i64 t17)) fun (h24 : Hp) =>
stC h24 (Addr.add p23 1) (
Let (hset h24 (Addr.add p23 1) (.int .i64 t18)) fun (h25 : Hp) =>
idxS a0_data.a a0_data.len t14 2 fun (p26 : Addr) =>
stC h25 p26 (
Let (hset h25 p26 (.int .i64 t21)) fun (h27 : Hp) =>
stC h27 (Addr.add p26 1) (
Let (hset h27 (Addr.add p26 1) (.int .i64 t22)) fun (h28 : Hp) =>
R1 ((sJ1.1, ()), h28))))))
def J2_slices_siftDownCmpFunc_split_Far (t2 : Int) (J1 : Int × Unit → Hp → Prop) (sJ2 : Bool × Unit) (hJ2 : Hp) : Prop :=
cnd sJ2.1 (
Let (IntKind.wrap .i64 (t2 + 1) : Int) fun (t29 : Int) =>
J1 (t29, ()) hJ2) (
J1 (t2, ()) hJ2)
def L1_slices_siftDownCmpFunc_split_Far (a0_data : Sl) (a2_hi : Int) (a3_first : Int) (a4_cmp : Value) (K : Hp → Prop) (sL1 : (Int × Unit) × Hp) (R1 : (Int × Unit) × Hp → Prop) : Prop :=
Let (IntKind.wrap .i64 ((2 : Int) * sL1.1.1) : Int) fun (t1 : Int) =>
Let (IntKind.wrap .i64 (t1 + 1) : Int) fun (t2 : Int) =>
cnd (decide (t2 ≥ a2_hi)) (
K sL1.2) (
Jn (J1_slices_siftDownCmpFunc_split_Far a0_data a3_first a4_cmp K sL1 R1) fun (J1 : Int × Unit → Hp → Prop) =>
Jn (J2_slices_siftDownCmpFunc_split_Far t2 J1) fun (J2 : Bool × Unit → Hp → Prop) =>
Let (IntKind.wrap .i64 (t2 + 1) : Int) fun (t30 : Int) =>
cnd (decide (t30 < a2_hi)) (
Let (IntKind.wrap .i64 (a3_first + t2) : Int) fun (t31 : Int) =>
idxS a0_data.a a0_data.len t31 2 fun (p32 : Addr) =>
ldA (.int .i64) sL1.2 p32 fun (t33 : Int) =>
ldA (.int .i64) sL1.2 (Addr.add p32 1) fun (t34 : Int) =>
Let (IntKind.wrap .i64 (a3_first + t2) : Int) fun (t35 : Int) =>
Let (IntKind.wrap .i64 (t35 + 1) : Int) fun (t36 : Int) =>
idxS a0_data.a a0_data.len t36 2 fun (p37 : Addr) =>
ldA (.int .i64) sL1.2 p37 fun (t38 : Int) =>
ldA (.int .i64) sL1.2 (Addr.add p37 1) fun (t39 : Int) =>
callV Try.prog a4_cmp [.agg #[.int .i64 t33, .int .i64 t34], .agg #[.int .i64 t38, .int .i64 t39]] [.at (.int .i64)] sL1.2 fun (s : Int × Unit) (h41 : Hp) =>
J2 (decide (s.1 < 0), ()) h41) (
J2 (false, ()) sL1.2))
def F_slices_siftDownCmpFunc_split_Far (a0_data : Sl) (a1_lo : Int) (a2_hi : Int) (a3_first : Int) (a4_cmp : Value) (h : Hp) (K : Hp → Prop) : Prop :=
∃ n, Lp (L1_slices_siftDownCmpFunc_split_Far a0_data a2_hi a3_first a4_cmp K) n ((a1_lo, ()), h)

theorem F_slices_siftDownCmpFunc_split_Far_ok (a0_data : Sl) (a1_lo : Int) (a2_hi : Int) (a3_first : Int) (a4_cmp : Value) (h : Hp) (K : Hp → Prop) (hF : F_slices_siftDownCmpFunc_split_Far a0_data a1_lo a2_hi a3_first a4_cmp h K) : C_slices_siftDownCmpFunc_split_Far a0_data a1_lo a2_hi a3_first a4_cmp h K := by
  have e : bodyVC Try.prog Try.f35 (.seq .no (.block (.loop [(10, .at (.int .i64))] (.block (.seq .no (.seq (.seq .no (.cond .no .no)) (.join [(11, .at (.int .i64))] (.join [(40, .at .bool)] .no (.cond .no .no)) (.seq (.seq .no (.cond .no .no)) (.seq .no .no))))))))) (Option.getD Try.f35.body .skip) [.slice a0_data.a a0_data.len a0_data.cap, .int .i64 a1_lo, .int .i64 a2_hi, .int .i64 a3_first, a4_cmp] h [] (fun s h => K h) = F_slices_siftDownCmpFunc_split_Far a0_data a1_lo a2_hi a3_first a4_cmp h K := by kernel_rfl
  exact fun_sound mixed Try.func35 rfl (e.mpr hF)

def F_slices_nextPowerOfTwo (a0_length : Int) (h : Hp) (K : Int → Hp → Prop) : Prop :=
Let (IntKind.wrap .u64 (a0_length) : Int) fun (t1 : Int) =>
C_math_bits_Len t1 h fun (t2 : Int) (h3 : Hp) =>
((0 : Int) ≤ t2) ∧ (
Let (IntKind.wrap .u64 (1 * 2 ^ min (Int.toNat t2) (IntKind.bits .u64)) : Int) fun (t4 : Int) =>
K t4 h3)

theorem F_slices_nextPowerOfTwo_ok (a0_length : Int) (h : Hp) (K : Int → Hp → Prop) (hF : F_slices_nextPowerOfTwo a0_length h K) : C_slices_nextPowerOfTwo a0_length h K := by
  have e : bodyVC Try.prog Try.f36 (.seq .no (.seq .no .no)) (Option.getD Try.f36.body .skip) [.int .i64 a0_length] h [.at (.int .u64)] (fun s h => K s.1 h) = F_slices_nextPowerOfTwo a0_length h K := by kernel_rfl
  exact fun_sound mixed Try.func36 rfl (e.mpr hF)

def F_slices_xorshift_Next (a0_r : Option Addr) (h : Hp) (K : Int → Hp → Prop) : Prop :=
someA a0_r fun (p1 : Addr) =>
ldA (.int .u64) h p1 fun (t2 : Int) =>
someA a0_r fun (p3 : Addr) =>
ldA (.int .u64) h p3 fun (t4 : Int) =>
((0 : Int) ≤ 13) ∧ (
Let (IntKind.wrap .u64 (t4 * 2 ^ min (Int.toNat 13) (IntKind.bits .u64)) : Int) fun (t5 : Int) =>
Let (ibXor .u64 t2 t5 : Int) fun (t6 : Int) =>
someA a0_r fun (p7 : Addr) =>
((1 : Nat) = 1) ∧ (
stC h p7 (
Let (hset h p7 (.int .u64 t6)) fun (h8 : Hp) =>
someA a0_r fun (p9 : Addr) =>
ldA (.int .u64) h8 p9 fun (t10 : Int) =>
someA a0_r fun (p11 : Addr) =>
ldA (.int .u64) h8 p11 fun (t12 : Int) =>
((0 : Int) ≤ 7) ∧ (
Let (Int.fdiv t12 (2 ^ min (Int.toNat 7) (IntKind.bits .u64)) : Int) fun (t13 : Int) =>
Let (ibXor .u64 t10 t13 : Int) fun (t14 : Int) =>
someA a0_r fun (p15 : Addr) =>
((1 : Nat) = 1) ∧ (
stC h8 p15 (
Let (hset h8 p15 (.int .u64 t14)) fun (h16 : Hp) =>
someA a0_r fun (p17 : Addr) =>
ldA (.int .u64) h16 p17 fun (t18 : Int) =>
someA a0_r fun (p19 : Addr) =>
ldA (.int .u64) h16 p19 fun (t20 : Int) =>
((0 : Int) ≤ 17) ∧ (
Let (IntKind.wrap .u64 (t20 * 2 ^ min (Int.toNat 17) (IntKind.bits .u64)) : Int) fun (t21 : Int) =>
Let (ibXor .u64 t18 t21 : Int) fun (t22 : Int) =>
someA a0_r fun (p23 : Addr) =>
((1 : Nat) = 1) ∧ (
stC h16 p23 (
Let (hset h16 p23 (.int .u64 t22)) fun (h24 : Hp) =>
someA a0_r fun (p25 : Addr) =>
ldA (.int .u64) h24 p25 fun (t26 : Int) =>
K t26 h24)))))))))

theorem F_slices_xorshift_Next_ok (a0_r : Option Addr) (h : Hp) (K : Int → Hp → Prop) (hF : F_slices_xorshift_Next a0_r h K) : C_slices_xorshift_Next a0_r h K := by
  have e : bodyVC Try.prog Try.f37 (.seq .no (.seq .no (.seq .no (.seq .no (.seq .no .no))))) (Option.getD Try.f37.body .skip) [.pointer a0_r] h [.at (.int .u64)] (fun s h => K s.1 h) = F_slices_xorshift_Next a0_r h K := by kernel_rfl
  exact fun_sound mixed Try.func37 rfl (e.mpr hF)

def F_slices_medianAdjacentCmpFunc_split_Far (a0_data : Sl) (a1_a : Int) (a2_swaps : Option Addr) (a3_cmp : Value) (h : Hp) (K : Int → Hp → Prop) : Prop :=
Let (IntKind.wrap .i64 (a1_a - 1) : Int) fun (t1 : Int) =>
Let (IntKind.wrap .i64 (a1_a + 1) : Int) fun (t2 : Int) =>
C_slices_medianCmpFunc_split_Far a0_data t1 a1_a t2 a2_swaps a3_cmp h fun (t3 : Int) (h4 : Hp) =>
K t3 h4

theorem F_slices_medianAdjacentCmpFunc_split_Far_ok (a0_data : Sl) (a1_a : Int) (a2_swaps : Option Addr) (a3_cmp : Value) (h : Hp) (K : Int → Hp → Prop) (hF : F_slices_medianAdjacentCmpFunc_split_Far a0_data a1_a a2_swaps a3_cmp h K) : C_slices_medianAdjacentCmpFunc_split_Far a0_data a1_a a2_swaps a3_cmp h K := by
  have e : bodyVC Try.prog Try.f38 (.seq .no (.seq .no .no)) (Option.getD Try.f38.body .skip) [.slice a0_data.a a0_data.len a0_data.cap, .int .i64 a1_a, .pointer a2_swaps, a3_cmp] h [.at (.int .i64)] (fun s h => K s.1 h) = F_slices_medianAdjacentCmpFunc_split_Far a0_data a1_a a2_swaps a3_cmp h K := by kernel_rfl
  exact fun_sound mixed Try.func38 rfl (e.mpr hF)

def F_slices_medianCmpFunc_split_Far (a0_data : Sl) (a1_a : Int) (a2_b : Int) (a3_c : Int) (a4_swaps : Option Addr) (a5_cmp : Value) (h : Hp) (K : Int → Hp → Prop) : Prop :=
C_slices_order2CmpFunc_split_Far a0_data a1_a a2_b a4_swaps a5_cmp h fun (t1 : Int) (t2 : Int) (h3 : Hp) =>
C_slices_order2CmpFunc_split_Far a0_data t2 a3_c a4_swaps a5_cmp h3 fun (t4 : Int) (t5 : Int) (h6 : Hp) =>
C_slices_order2CmpFunc_split_Far a0_data t1 t4 a4_swaps a5_cmp h6 fun (t7 : Int) (t8 : Int) (h9 : Hp) =>
K t8 h9

theorem F_slices_medianCmpFunc_split_Far_ok (a0_data : Sl) (a1_a : Int) (a2_b : Int) (a3_c : Int) (a4_swaps : Option Addr) (a5_cmp : Value) (h : Hp) (K : Int → Hp → Prop) (hF : F_slices_medianCmpFunc_split_Far a0_data a1_a a2_b a3_c a4_swaps a5_cmp h K) : C_slices_medianCmpFunc_split_Far a0_data a1_a a2_b a3_c a4_swaps a5_cmp h K := by
  have e : bodyVC Try.prog Try.f39 (.seq .no (.seq .no (.seq .no (.seq .no (.seq .no .no))))) (Option.getD Try.f39.body .skip) [.slice a0_data.a a0_data.len a0_data.cap, .int .i64 a1_a, .int .i64 a2_b, .int .i64 a3_c, .pointer a4_swaps, a5_cmp] h [.at (.int .i64)] (fun s h => K s.1 h) = F_slices_medianCmpFunc_split_Far a0_data a1_a a2_b a3_c a4_swaps a5_cmp h K := by kernel_rfl
  exact fun_sound mixed Try.func39 rfl (e.mpr hF)

def F_slices_order2CmpFunc_split_Far (a0_data : Sl) (a1_a : Int) (a2_b : Int) (a3_swaps : Option Addr) (a4_cmp : Value) (h : Hp) (K : Int → Int → Hp → Prop) : Prop :=
idxS a0_data.a a0_data.len a2_b 2 fun (p1 : Addr) =>
ldA (.int .i64) h p1 fun (t2 : Int) =>
ldA (.int .i64) h (Addr.add p1 1) fun (t3 : Int) =>
idxS a0_data.a a0_data.len a1_a 2 fun (p4 : Addr) =>
ldA (.int .i64) h p4 fun (t5 : Int) =>
ldA (.int .i64) h (Addr.add p4 1) fun (t6 : Int) =>
callV Try.prog a4_cmp [.agg #[.int .i64 t2, .int .i64 t3], .agg #[.int .i64 t5, .int .i64 t6]] [.at (.int .i64)] h fun (s : Int × Unit) (h8 : Hp) =>
cnd (decide (s.1 < 0)) (
someA a3_swaps fun (p9 : Addr) =>
ldA (.int .i64) h8 p9 fun (t10 : Int) =>
Let (IntKind.wrap .i64 (t10 + 1) : Int) fun (t11 : Int) =>
someA a3_swaps fun (p12 : Addr) =>
((1 : Nat) = 1) ∧ (
stC h8 p12 (
Let (hset h8 p12 (.int .i64 t11)) fun (h13 : Hp) =>
K a2_b a1_a h13))) (
K a1_a a2_b h8)

theorem F_slices_order2CmpFunc_split_Far_ok (a0_data : Sl) (a1_a : Int) (a2_b : Int) (a3_swaps : Option Addr) (a4_cmp : Value) (h : Hp) (K : Int → Int → Hp → Prop) (hF : F_slices_order2CmpFunc_split_Far a0_data a1_a a2_b a3_swaps a4_cmp h K) : C_slices_order2CmpFunc_split_Far a0_data a1_a a2_b a3_swaps a4_cmp h K := by
  have e : bodyVC Try.prog Try.f40 (.seq .no (.seq (.seq .no (.cond (.seq .no (.seq .no .no)) .no)) (.seq .no .no))) (Option.getD Try.f40.body .skip) [.slice a0_data.a a0_data.len a0_data.cap, .int .i64 a1_a, .int .i64 a2_b, .pointer a3_swaps, a4_cmp] h [.at (.int .i64), .at (.int .i64)] (fun s h => K s.1 s.2.1 h) = F_slices_order2CmpFunc_split_Far a0_data a1_a a2_b a3_swaps a4_cmp h K := by kernel_rfl
  exact fun_sound mixed Try.func40 rfl (e.mpr hF)

end Go.Proofs.YtpcbppicjoolfaaF
