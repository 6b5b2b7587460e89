/- The formulas of the seat's functions and the proofs that they are enough, printed by gen.py of this session. No condition. -/
import Derived.Test.YtkldaoachbbhnaaProg
import Derived.Test.YtkldaoachbbhnaaK7
namespace Go.Proofs.YtkldaoachbbhnaaF
open Go Go.Proofs.YtkldaoachbbhnaaK Go.Proofs
set_option linter.unusedVariables false
set_option maxRecDepth 100000
theorem mixed : Try.prog.follows .mixedOrders = true := by kernel_rfl
def C_gosem_cut  (h : Hp) (K : Hp → Prop) : Prop :=
  ExtT Try.prog 1 [] [] h fun s h => K h
def C_gosem_cut_init  (h : Hp) (K : Hp → Prop) : Prop :=
  CallT Try.prog 2 [] [] h fun s h => K h
def C_law25_PartDivides (a0_x : Sl) (a1_x : Sl) (a2_x : Int) (a3_x : Int) (a4_x : Int) (a5_p : Int) (a6_l : Sl) (h : Hp) (K : Bool → Hp → Prop) : Prop :=
  CallT Try.prog 3 [.agg #[.slice a0_x.a a0_x.len a0_x.cap, .slice a1_x.a a1_x.len a1_x.cap, .int .i64 a2_x, .int .i64 a3_x, .int .i64 a4_x], .int .i64 a5_p, .slice a6_l.a a6_l.len a6_l.cap] [.at .bool] h fun s h => K s.1 h
def C_law25_PartPromotes (a0_x : Sl) (a1_x : Sl) (a2_x : Int) (a3_x : Int) (a4_x : Int) (h : Hp) (K : Bool → Hp → Prop) : Prop :=
  CallT Try.prog 4 [.agg #[.slice a0_x.a a0_x.len a0_x.cap, .slice a1_x.a a1_x.len a1_x.cap, .int .i64 a2_x, .int .i64 a3_x, .int .i64 a4_x]] [.at .bool] h fun s h => K s.1 h
def C_law25_PartAll (a0_x : Sl) (a1_x : Sl) (a2_x : Int) (a3_x : Int) (a4_x : Int) (h : Hp) (K : Bool → Hp → Prop) : Prop :=
  CallT Try.prog 5 [.agg #[.slice a0_x.a a0_x.len a0_x.cap, .slice a1_x.a a1_x.len a1_x.cap, .int .i64 a2_x, .int .i64 a3_x, .int .i64 a4_x]] [.at .bool] h fun s h => K s.1 h
def C_law25_may (a0_d : Sl) (a1_more : Sl) (h : Hp) (K : Bool → Hp → Prop) : Prop :=
  CallT Try.prog 6 [.slice a0_d.a a0_d.len a0_d.cap, .slice a1_more.a a1_more.len a1_more.cap] [.at .bool] h fun s h => K s.1 h
def C_law25_lives  (h : Hp) (K : Bool → Hp → Prop) : Prop :=
  CallT Try.prog 7 [] [.at .bool] h fun s h => K s.1 h
def C_part_Divide (a0_d : Sl) (a1_a : Int) (a2_b : Int) (a3_policy : Int) (h : Hp) (K : Sl → Sl → Hp → Prop) : Prop :=
  CallT Try.prog 8 [.slice a0_d.a a0_d.len a0_d.cap, .int .i64 a1_a, .int .i64 a2_b, .int .i64 a3_policy] [.at .sl, .at .sl] h fun s h => K s.1 s.2.1 h
def C_ref25_Divide (a0_d : Sl) (a1_a : Int) (a2_b : Int) (a3_policy : Int) (h : Hp) (K : Sl → Sl → Hp → Prop) : Prop :=
  CallT Try.prog 9 [.slice a0_d.a a0_d.len a0_d.cap, .int .i64 a1_a, .int .i64 a2_b, .int .i64 a3_policy] [.at .sl, .at .sl] h fun s h => K s.1 s.2.1 h
def C_ref07_Ints (a0_a : Sl) (a1_b : Sl) (h : Hp) (K : Bool → Hp → Prop) : Prop :=
  CallT Try.prog 10 [.slice a0_a.a a0_a.len a0_a.cap, .slice a1_b.a a1_b.len a1_b.cap] [.at .bool] h fun s h => K s.1 h
def C_part_Radius (a0_d : Sl) (a1_more : Sl) (a2_p : Int) (a3_l : Sl) (h : Hp) (K : Int → Hp → Prop) : Prop :=
  CallT Try.prog 11 [.slice a0_d.a a0_d.len a0_d.cap, .slice a1_more.a a1_more.len a1_more.cap, .int .i64 a2_p, .slice a3_l.a a3_l.len a3_l.cap] [.at (.int .i64)] h fun s h => K s.1 h
def C_ref25_Radius (a0_d : Sl) (a1_more : Sl) (a2_p : Int) (a3_l : Sl) (h : Hp) (K : Int → Hp → Prop) : Prop :=
  CallT Try.prog 12 [.slice a0_d.a a0_d.len a0_d.cap, .slice a1_more.a a1_more.len a1_more.cap, .int .i64 a2_p, .slice a3_l.a a3_l.len a3_l.cap] [.at (.int .i64)] h fun s h => K s.1 h
def C_part_Promote (a0_d : Sl) (a1_more : Sl) (a2_policy : Int) (h : Hp) (K : Int → Int → Bool → Hp → Prop) : Prop :=
  CallT Try.prog 13 [.slice a0_d.a a0_d.len a0_d.cap, .slice a1_more.a a1_more.len a1_more.cap, .int .i64 a2_policy] [.at (.int .i64), .at (.int .i64), .at .bool] h fun s h => K s.1 s.2.1 s.2.2.1 h
def C_ref25_Promote (a0_d : Sl) (a1_more : Sl) (a2_policy : Int) (h : Hp) (K : Int → Int → Bool → Hp → Prop) : Prop :=
  CallT Try.prog 14 [.slice a0_d.a a0_d.len a0_d.cap, .slice a1_more.a a1_more.len a1_more.cap, .int .i64 a2_policy] [.at (.int .i64), .at (.int .i64), .at .bool] h fun s h => K s.1 s.2.1 s.2.2.1 h
def C_law25_line (a0_l : Sl) (h : Hp) (K : Sl → Hp → Prop) : Prop :=
  CallT Try.prog 15 [.slice a0_l.a a0_l.len a0_l.cap] [.at .sl] h fun s h => K s.1 h
def C_part_plane (a0_d : Sl) (a1_a : Int) (a2_b : Int) (h : Hp) (K : Sl → Sl → Hp → Prop) : Prop :=
  CallT Try.prog 16 [.slice a0_d.a a0_d.len a0_d.cap, .int .i64 a1_a, .int .i64 a2_b] [.at .sl, .at .sl] h fun s h => K s.1 s.2.1 h
def C_part_even (a0_d : Sl) (a1_a : Int) (a2_b : Int) (h : Hp) (K : Sl → Sl → Hp → Prop) : Prop :=
  CallT Try.prog 17 [.slice a0_d.a a0_d.len a0_d.cap, .int .i64 a1_a, .int .i64 a2_b] [.at .sl, .at .sl] h fun s h => K s.1 s.2.1 h
def C_ref25_At (a0_d : Sl) (a1_i : Int) (a2_k : Int) (h : Hp) (K : Int → Hp → Prop) : Prop :=
  CallT Try.prog 18 [.slice a0_d.a a0_d.len a0_d.cap, .int .i64 a1_i, .int .i64 a2_k] [.at (.int .i64)] h fun s h => K s.1 h
def C_part_at (a0_d : Sl) (a1_i : Int) (a2_k : Int) (h : Hp) (K : Int → Hp → Prop) : Prop :=
  CallT Try.prog 19 [.slice a0_d.a a0_d.len a0_d.cap, .int .i64 a1_i, .int .i64 a2_k] [.at (.int .i64)] h fun s h => K s.1 h
def C_part_nearest (a0_d : Sl) (a1_p : Int) (a2_left : Sl) (h : Hp) (K : Int → Sl → Hp → Prop) : Prop :=
  CallT Try.prog 20 [.slice a0_d.a a0_d.len a0_d.cap, .int .i64 a1_p, .slice a2_left.a a2_left.len a2_left.cap] [.at (.int .i64), .at .sl] h fun s h => K s.1 s.2.1 h
def C_slices_Sort_int_int (a0_x : Sl) (h : Hp) (K : Hp → Prop) : Prop :=
  CallT Try.prog 21 [.slice a0_x.a a0_x.len a0_x.cap] [] h fun s h => K h
def C_slices_Concat_int_int (a0_slices : Sl) (h : Hp) (K : Sl → Hp → Prop) : Prop :=
  CallT Try.prog 22 [.slice a0_slices.a a0_slices.len a0_slices.cap] [.at .sl] h fun s h => K s.1 h
def C_slices_pdqsortOrdered_int (a0_data : Sl) (a1_a : Int) (a2_b : Int) (a3_limit : Int) (h : Hp) (K : Hp → Prop) : Prop :=
  CallT Try.prog 23 [.slice a0_data.a a0_data.len a0_data.cap, .int .i64 a1_a, .int .i64 a2_b, .int .i64 a3_limit] [] h fun s h => K h
def C_math_bits_Len (a0_x : Int) (h : Hp) (K : Int → Hp → Prop) : Prop :=
  CallT Try.prog 24 [.int .u64 a0_x] [.at (.int .i64)] h fun s h => K s.1 h
def C_slices_Grow_int_int (a0_s : Sl) (a1_n : Int) (h : Hp) (K : Sl → Hp → Prop) : Prop :=
  CallT Try.prog 25 [.slice a0_s.a a0_s.len a0_s.cap, .int .i64 a1_n] [.at .sl] h fun s h => K s.1 h
def C_slices_insertionSortOrdered_int (a0_data : Sl) (a1_a : Int) (a2_b : Int) (h : Hp) (K : Hp → Prop) : Prop :=
  CallT Try.prog 26 [.slice a0_data.a a0_data.len a0_data.cap, .int .i64 a1_a, .int .i64 a2_b] [] h fun s h => K h
def C_slices_heapSortOrdered_int (a0_data : Sl) (a1_a : Int) (a2_b : Int) (h : Hp) (K : Hp → Prop) : Prop :=
  CallT Try.prog 27 [.slice a0_data.a a0_data.len a0_data.cap, .int .i64 a1_a, .int .i64 a2_b] [] h fun s h => K h
def C_slices_breakPatternsOrdered_int (a0_data : Sl) (a1_a : Int) (a2_b : Int) (h : Hp) (K : Hp → Prop) : Prop :=
  CallT Try.prog 28 [.slice a0_data.a a0_data.len a0_data.cap, .int .i64 a1_a, .int .i64 a2_b] [] h fun s h => K h
def C_slices_choosePivotOrdered_int (a0_data : Sl) (a1_a : Int) (a2_b : Int) (h : Hp) (K : Int → Int → Hp → Prop) : Prop :=
  CallT Try.prog 29 [.slice a0_data.a a0_data.len a0_data.cap, .int .i64 a1_a, .int .i64 a2_b] [.at (.int .i64), .at (.int .i64)] h fun s h => K s.1 s.2.1 h
def C_slices_reverseRangeOrdered_int (a0_data : Sl) (a1_a : Int) (a2_b : Int) (h : Hp) (K : Hp → Prop) : Prop :=
  CallT Try.prog 30 [.slice a0_data.a a0_data.len a0_data.cap, .int .i64 a1_a, .int .i64 a2_b] [] h fun s h => K h
def C_slices_partialInsertionSortOrdered_int (a0_data : Sl) (a1_a : Int) (a2_b : Int) (h : Hp) (K : Bool → Hp → Prop) : Prop :=
  CallT Try.prog 31 [.slice a0_data.a a0_data.len a0_data.cap, .int .i64 a1_a, .int .i64 a2_b] [.at .bool] h fun s h => K s.1 h
def C_cmp_Less_int (a0_x : Int) (a1_y : Int) (h : Hp) (K : Bool → Hp → Prop) : Prop :=
  CallT Try.prog 32 [.int .i64 a0_x, .int .i64 a1_y] [.at .bool] h fun s h => K s.1 h
def C_slices_partitionEqualOrdered_int (a0_data : Sl) (a1_a : Int) (a2_b : Int) (a3_pivot : Int) (h : Hp) (K : Int → Hp → Prop) : Prop :=
  CallT Try.prog 33 [.slice a0_data.a a0_data.len a0_data.cap, .int .i64 a1_a, .int .i64 a2_b, .int .i64 a3_pivot] [.at (.int .i64)] h fun s h => K s.1 h
def C_slices_partitionOrdered_int (a0_data : Sl) (a1_a : Int) (a2_b : Int) (a3_pivot : Int) (h : Hp) (K : Int → Bool → Hp → Prop) : Prop :=
  CallT Try.prog 34 [.slice a0_data.a a0_data.len a0_data.cap, .int .i64 a1_a, .int .i64 a2_b, .int .i64 a3_pivot] [.at (.int .i64), .at .bool] h fun s h => K s.1 s.2.1 h
def C_math_bits_Len32 (a0_x : Int) (h : Hp) (K : Int → Hp → Prop) : Prop :=
  CallT Try.prog 35 [.int .u32 a0_x] [.at (.int .i64)] h fun s h => K s.1 h
def C_math_bits_Len64 (a0_x : Int) (h : Hp) (K : Int → Hp → Prop) : Prop :=
  CallT Try.prog 36 [.int .u64 a0_x] [.at (.int .i64)] h fun s h => K s.1 h
def C_slices_siftDownOrdered_int (a0_data : Sl) (a1_lo : Int) (a2_hi : Int) (a3_first : Int) (h : Hp) (K : Hp → Prop) : Prop :=
  CallT Try.prog 37 [.slice a0_data.a a0_data.len a0_data.cap, .int .i64 a1_lo, .int .i64 a2_hi, .int .i64 a3_first] [] h fun s h => K h
def C_slices_nextPowerOfTwo (a0_length : Int) (h : Hp) (K : Int → Hp → Prop) : Prop :=
  CallT Try.prog 38 [.int .i64 a0_length] [.at (.int .u64)] h fun s h => K s.1 h
def C_slices_xorshift_Next (a0_r : Option Addr) (h : Hp) (K : Int → Hp → Prop) : Prop :=
  CallT Try.prog 39 [.pointer a0_r] [.at (.int .u64)] h fun s h => K s.1 h
def C_slices_medianAdjacentOrdered_int (a0_data : Sl) (a1_a : Int) (a2_swaps : Option Addr) (h : Hp) (K : Int → Hp → Prop) : Prop :=
  CallT Try.prog 40 [.slice a0_data.a a0_data.len a0_data.cap, .int .i64 a1_a, .pointer a2_swaps] [.at (.int .i64)] h fun s h => K s.1 h
def C_slices_medianOrdered_int (a0_data : Sl) (a1_a : Int) (a2_b : Int) (a3_c : Int) (a4_swaps : Option Addr) (h : Hp) (K : Int → Hp → Prop) : Prop :=
  CallT Try.prog 41 [.slice a0_data.a a0_data.len a0_data.cap, .int .i64 a1_a, .int .i64 a2_b, .int .i64 a3_c, .pointer a4_swaps] [.at (.int .i64)] h fun s h => K s.1 h
def C_cmp_isNaN_int (a0_x : Int) (h : Hp) (K : Bool → Hp → Prop) : Prop :=
  CallT Try.prog 42 [.int .i64 a0_x] [.at .bool] h fun s h => K s.1 h
def C_slices_order2Ordered_int (a0_data : Sl) (a1_a : Int) (a2_b : Int) (a3_swaps : Option Addr) (h : Hp) (K : Int → Int → Hp → Prop) : Prop :=
  CallT Try.prog 43 [.slice a0_data.a a0_data.len a0_data.cap, .int .i64 a1_a, .int .i64 a2_b, .pointer a3_swaps] [.at (.int .i64), .at (.int .i64)] h fun s h => K s.1 s.2.1 h
abbrev T_ : TypeId := 0
abbrev T_func : TypeId := 1
abbrev T_int64 : TypeId := 2
abbrev T_int : TypeId := 3
abbrev T_bool : TypeId := 4
abbrev T_uint8 : TypeId := 5
abbrev T_abi_BoundsErrorCode : TypeId := 6
abbrev T_struct_x_int64_y_int_signed_bool_code_abi_BoundsErrorCode : TypeId := 7
abbrev T_runtime_boundsError : TypeId := 8
abbrev T_string : TypeId := 9
abbrev T_runtime_errorString : TypeId := 10
abbrev T_runtime_plainError : TypeId := 11
abbrev T_uintptr : TypeId := 12
abbrev T_struct_msg_string_addr_uintptr : TypeId := 13
abbrev T_runtime_errorAddressString : TypeId := 14
abbrev T_Pruntime_TypeAssertionError : TypeId := 15
abbrev T_Pruntime_PanicNilError : TypeId := 16
abbrev T_Pabi_Type : TypeId := 17
abbrev T_struct_typ_Pabi_Type : TypeId := 18
abbrev T_maps_unhashableTypeError : TypeId := 19
abbrev T_interface : TypeId := 20
abbrev T_int32 : TypeId := 21
abbrev T_SSint : TypeId := 22
abbrev T_Sint : TypeId := 23
abbrev T_struct_D_SSint_More_Sint_A_int_B_int_Policy_int : TypeId := 24
abbrev T_waywiserlaw25_Ask : TypeId := 25
abbrev T_func_SSint_Sint_bool : TypeId := 26
abbrev T_func_bool : TypeId := 27
abbrev T_Sint_Sint : TypeId := 28
abbrev T_func_SSint_int_int_int_Sint_Sint : TypeId := 29
abbrev T_func_Sint_Sint_bool : TypeId := 30
abbrev T_func_SSint_Sint_int_Sint_int : TypeId := 31
abbrev T_func_waywiserlaw25_Ask_int_Sint_bool : TypeId := 32
abbrev T_int_int_bool : TypeId := 33
abbrev T_func_SSint_Sint_int_int_int_bool : TypeId := 34
abbrev T_func_waywiserlaw25_Ask_bool : TypeId := 35
abbrev T_func_Sint_SSint : TypeId := 36
abbrev T_func_SSint_int_int_Sint_Sint : TypeId := 37
abbrev T_func_SSint_int_int_int : TypeId := 38
abbrev T_int_Sint : TypeId := 39
abbrev T_func_SSint_int_Sint_int_Sint : TypeId := 40
abbrev T_func_Sint : TypeId := 41
abbrev T_func_Sint_Sint : TypeId := 42
abbrev T_func_Sint_int_int_int : TypeId := 43
abbrev T_func_uint_int : TypeId := 44
abbrev T_uint : TypeId := 45
abbrev T_func_Sint_int_Sint : TypeId := 46
abbrev T_func_Sint_int_int : TypeId := 47
abbrev T_slices_sortedHint : TypeId := 48
abbrev T_int_slices_sortedHint : TypeId := 49
abbrev T_func_Sint_int_int_int_slices_sortedHint : TypeId := 50
abbrev T_func_Sint_int_int_bool : TypeId := 51
abbrev T_func_int_int_bool : TypeId := 52
abbrev T_func_Sint_int_int_int_int : TypeId := 53
abbrev T_int_bool : TypeId := 54
abbrev T_func_Sint_int_int_int_int_bool : TypeId := 55
abbrev T_func_uint32_int : TypeId := 56
abbrev T_uint32 : TypeId := 57
abbrev T_func_uint64_int : TypeId := 58
abbrev T_uint64 : TypeId := 59
abbrev T_slices_xorshift : TypeId := 60
abbrev T_func_int_uint : TypeId := 61
abbrev T_func_uint64 : TypeId := 62
abbrev T_func_Sint_int_Pint_int : TypeId := 63
abbrev T_Pint : TypeId := 64
abbrev T_func_Sint_int_int_int_Pint_int : TypeId := 65
abbrev T_func_int_bool : TypeId := 66
abbrev T_Pslices_xorshift : TypeId := 67
abbrev T_int_int : TypeId := 68
abbrev T_func_Sint_int_int_Pint_int_int : TypeId := 69
abbrev T_func_string : TypeId := 70
abbrev T_runtime_TypeAssertionError : TypeId := 72
abbrev T_0_Pruntime_PanicNilError : TypeId := 73
abbrev T_struct_0_Pruntime_PanicNilError : TypeId := 74
abbrev T_runtime_PanicNilError : TypeId := 75
abbrev T_func_int : TypeId := 76
abbrev T_abi_TFlag : TypeId := 77
abbrev T_abi_Kind : TypeId := 78
abbrev T_func_unsafe_Pointer_unsafe_Pointer_bool : TypeId := 79
abbrev T_Puint8 : TypeId := 80
abbrev T_abi_NameOff : TypeId := 81
abbrev T_abi_TypeOff : TypeId := 82
abbrev T_abi_Type : TypeId := 84
abbrev T_unsafe_Pointer : TypeId := 85
def F_gosem_cut_init  (h : Hp) (K : Hp → Prop) : Prop :=
C_gosem_cut  h fun  (h1 : Hp) =>
K h1

theorem F_gosem_cut_init_ok  (h : Hp) (K : Hp → Prop) (hF : F_gosem_cut_init  h K) : C_gosem_cut_init  h K := by
  have e : bodyVC Try.prog Try.f2 .no (Option.getD Try.f2.body .skip) [] h [] (fun s h => K h) = F_gosem_cut_init  h K := by kernel_rfl
  exact fun_sound mixed Try.func2 rfl (e.mpr hF)

def F_law25_PartDivides (a0_x : Sl) (a1_x : Sl) (a2_x : Int) (a3_x : Int) (a4_x : Int) (a5_p : Int) (a6_l : Sl) (h : Hp) (K : Bool → Hp → Prop) : Prop :=
Let (Array.push h (Obj.cells #[.slice a0_x.a a0_x.len a0_x.cap, .slice a1_x.a a1_x.len a1_x.cap, .int .i64 a2_x, .int .i64 a3_x, .int .i64 a4_x] 25)) fun (h1 : Hp) =>
Let (Addr.mk (Array.size h) 0 none) fun (p2 : Addr) =>
ldA .sl h1 p2 fun (t3 : Sl) =>
ldA .sl h1 (Addr.add p2 1) fun (t4 : Sl) =>
C_law25_may t3 t4 h1 fun (t5 : Bool) (h6 : Hp) =>
cnd (!t5) (
C_law25_lives  h6 fun (t7 : Bool) (h8 : Hp) =>
K t7 h8) (
ldA .sl h6 p2 fun (t9 : Sl) =>
ldA (.int .i64) h6 (Addr.add p2 2) fun (t10 : Int) =>
ldA (.int .i64) h6 (Addr.add p2 3) fun (t11 : Int) =>
ldA (.int .i64) h6 (Addr.add p2 4) fun (t12 : Int) =>
C_part_Divide t9 t10 t11 t12 h6 fun (t13 : Sl) (t14 : Sl) (h15 : Hp) =>
ldA .sl h15 p2 fun (t16 : Sl) =>
ldA (.int .i64) h15 (Addr.add p2 2) fun (t17 : Int) =>
ldA (.int .i64) h15 (Addr.add p2 3) fun (t18 : Int) =>
ldA (.int .i64) h15 (Addr.add p2 4) fun (t19 : Int) =>
C_ref25_Divide t16 t17 t18 t19 h15 fun (t20 : Sl) (t21 : Sl) (h22 : Hp) =>
C_ref07_Ints t13 t20 h22 fun (t23 : Bool) (h24 : Hp) =>
cnd t23 (
C_ref07_Ints t14 t21 h24 fun (t25 : Bool) (h26 : Hp) =>
cnd t25 (
ldA .sl h26 p2 fun (t27 : Sl) =>
ldA .sl h26 (Addr.add p2 1) fun (t28 : Sl) =>
C_part_Radius t27 t28 a5_p a6_l h26 fun (t29 : Int) (h30 : Hp) =>
Ext h26 h30 ∧ (
ldA .sl h26 p2 fun (t31 : Sl) =>
ldA .sl h26 (Addr.add p2 1) fun (t32 : Sl) =>
C_ref25_Radius t31 t32 a5_p a6_l h30 fun (t33 : Int) (h34 : Hp) =>
cnd (t29 == t33) (
C_law25_lives  h34 fun (t35 : Bool) (h36 : Hp) =>
K t35 h36) (
K false h34))) (
K false h26)) (
K false h24))

theorem F_law25_PartDivides_ok (a0_x : Sl) (a1_x : Sl) (a2_x : Int) (a3_x : Int) (a4_x : Int) (a5_p : Int) (a6_l : Sl) (h : Hp) (K : Bool → Hp → Prop) (hF : F_law25_PartDivides a0_x a1_x a2_x a3_x a4_x a5_p a6_l h K) : C_law25_PartDivides a0_x a1_x a2_x a3_x a4_x a5_p a6_l h K := by
  have e : bodyVC Try.prog Try.f3 (.seq .no (.seq (.seq .no (.cond (.seq .no .no) .no)) (.seq .no (.seq .no (.seq .no .no))))) (Option.getD Try.f3.body .skip) [.agg #[.slice a0_x.a a0_x.len a0_x.cap, .slice a1_x.a a1_x.len a1_x.cap, .int .i64 a2_x, .int .i64 a3_x, .int .i64 a4_x], .int .i64 a5_p, .slice a6_l.a a6_l.len a6_l.cap] h [.at .bool] (fun s h => K s.1 h) = F_law25_PartDivides a0_x a1_x a2_x a3_x a4_x a5_p a6_l h K := by kernel_rfl
  exact fun_sound mixed Try.func3 rfl (e.mpr hF)

def J1_law25_PartPromotes (K : Bool → Hp → Prop) (p2 : Addr) (sJ1 : Bool × Unit) (hJ1 : Hp) : Prop :=
cnd sJ1.1 (
C_law25_lives  hJ1 fun (t3 : Bool) (h4 : Hp) =>
K t3 h4) (
ldA .sl hJ1 p2 fun (t5 : Sl) =>
ldA .sl hJ1 (Addr.add p2 1) fun (t6 : Sl) =>
ldA (.int .i64) hJ1 (Addr.add p2 4) fun (t7 : Int) =>
C_part_Promote t5 t6 t7 hJ1 fun (t8 : Int) (t9 : Int) (t10 : Bool) (h11 : Hp) =>
ldA .sl h11 p2 fun (t12 : Sl) =>
ldA .sl h11 (Addr.add p2 1) fun (t13 : Sl) =>
ldA (.int .i64) h11 (Addr.add p2 4) fun (t14 : Int) =>
C_ref25_Promote t12 t13 t14 h11 fun (t15 : Int) (t16 : Int) (t17 : Bool) (h18 : Hp) =>
cnd (t8 == t15) (
cnd (t9 == t16) (
cnd (t10 == t17) (
C_law25_lives  h18 fun (t19 : Bool) (h20 : Hp) =>
K t19 h20) (
K false h18)) (
K false h18)) (
K false h18))
def F_law25_PartPromotes (a0_x : Sl) (a1_x : Sl) (a2_x : Int) (a3_x : Int) (a4_x : Int) (h : Hp) (K : Bool → Hp → Prop) : Prop :=
Let (Array.push h (Obj.cells #[.slice a0_x.a a0_x.len a0_x.cap, .slice a1_x.a a1_x.len a1_x.cap, .int .i64 a2_x, .int .i64 a3_x, .int .i64 a4_x] 25)) fun (h1 : Hp) =>
Let (Addr.mk (Array.size h) 0 none) fun (p2 : Addr) =>
Jn (J1_law25_PartPromotes K p2) fun (J1 : Bool × Unit → Hp → Prop) =>
ldA .sl h1 p2 fun (t21 : Sl) =>
ldA .sl h1 (Addr.add p2 1) fun (t22 : Sl) =>
C_law25_may t21 t22 h1 fun (t23 : Bool) (h24 : Hp) =>
cnd (!t23) (
J1 (true, ()) h24) (
ldA .sl h24 p2 fun (t25 : Sl) =>
J1 (decide ((t25.len : Int) > 12), ()) h24)

theorem F_law25_PartPromotes_ok (a0_x : Sl) (a1_x : Sl) (a2_x : Int) (a3_x : Int) (a4_x : Int) (h : Hp) (K : Bool → Hp → Prop) (hF : F_law25_PartPromotes a0_x a1_x a2_x a3_x a4_x h K) : C_law25_PartPromotes a0_x a1_x a2_x a3_x a4_x h K := by
  have e : bodyVC Try.prog Try.f4 (.seq .no (.seq (.join [(20, .at .bool)] .no (.cond (.seq .no .no) .no)) (.seq .no (.seq .no (.seq .no .no))))) (Option.getD Try.f4.body .skip) [.agg #[.slice a0_x.a a0_x.len a0_x.cap, .slice a1_x.a a1_x.len a1_x.cap, .int .i64 a2_x, .int .i64 a3_x, .int .i64 a4_x]] h [.at .bool] (fun s h => K s.1 h) = F_law25_PartPromotes a0_x a1_x a2_x a3_x a4_x h K := by kernel_rfl
  exact fun_sound mixed Try.func4 rfl (e.mpr hF)

def J3_law25_PartAll (K : Bool → Hp → Prop) (t13 : Sl) (t14 : Sl) (sJ3 : Int × Int × Unit) (hJ3 : Hp) : Prop :=
cnd (sJ3.1 == (t13.len : Int)) (
cnd (sJ3.2.1 == (t14.len : Int)) (
C_law25_lives  hJ3 fun (t18 : Bool) (h19 : Hp) =>
K t18 h19) (
K false hJ3)) (
K false hJ3)
def J5_law25_PartAll (K : Bool → Hp → Prop) (sL1 : (Int × Int × Int × Unit) × Hp) (R1 : (Int × Int × Int × Unit) × Hp → Prop) (sJ5 : Bool × Unit) (hJ5 : Hp) : Prop :=
cnd sJ5.1 (
Let (IntKind.wrap .i64 (sL1.1.2.1 + 1) : Int) fun (t23 : Int) =>
Let (IntKind.wrap .i64 (sL1.1.2.2.1 + 1) : Int) fun (t24 : Int) =>
R1 ((sL1.1.1, t23, t24, ()), hJ5)) (
K false hJ5)
def J4_law25_PartAll (K : Bool → Hp → Prop) (t14 : Sl) (sL1 : (Int × Int × Int × Unit) × Hp) (R1 : (Int × Int × Int × Unit) × Hp → Prop) (sJ4 : Bool × Unit) (hJ4 : Hp) : Prop :=
cnd sJ4.1 (
Let (IntKind.wrap .i64 (sL1.1.1 + 1) : Int) fun (t21 : Int) =>
Let (IntKind.wrap .i64 (sL1.1.2.2.1 + 1) : Int) fun (t22 : Int) =>
R1 ((t21, sL1.1.2.1, t22, ()), hJ4)) (
Jn (J5_law25_PartAll K sL1 R1) fun (J5 : Bool × Unit → Hp → Prop) =>
cnd (decide (sL1.1.2.1 < (t14.len : Int))) (
idxS t14.a t14.len sL1.1.2.1 1 fun (p25 : Addr) =>
ldA (.int .i64) hJ4 p25 fun (t26 : Int) =>
J5 ((t26 == sL1.1.2.2.1), ()) hJ4) (
J5 (false, ()) hJ4))
def L1_law25_PartAll (K : Bool → Hp → Prop) (p2 : Addr) (t13 : Sl) (t14 : Sl) (J3 : Int × Int × Unit → Hp → Prop) (sL1 : (Int × Int × Int × Unit) × Hp) (R1 : (Int × Int × Int × Unit) × Hp → Prop) : Prop :=
ldA .sl sL1.2 p2 fun (t20 : Sl) =>
cnd (decide (sL1.1.2.2.1 < (t20.len : Int))) (
Jn (J4_law25_PartAll K t14 sL1 R1) fun (J4 : Bool × Unit → Hp → Prop) =>
cnd (decide (sL1.1.1 < (t13.len : Int))) (
idxS t13.a t13.len sL1.1.1 1 fun (p27 : Addr) =>
ldA (.int .i64) sL1.2 p27 fun (t28 : Int) =>
J4 ((t28 == sL1.1.2.2.1), ()) sL1.2) (
J4 (false, ()) sL1.2)) (
J3 (sL1.1.1, sL1.1.2.1, ()) sL1.2)
def J2_law25_PartAll (K : Bool → Hp → Prop) (p2 : Addr) (t13 : Sl) (t14 : Sl) (sJ2 : Unit) (hJ2 : Hp) : Prop :=
Jn (J3_law25_PartAll K t13 t14) fun (J3 : Int × Int × Unit → Hp → Prop) =>
∃ n, Lp (L1_law25_PartAll K p2 t13 t14 J3) n ((0, 0, 0, ()), hJ2)
def J1_law25_PartAll (K : Bool → Hp → Prop) (p2 : Addr) (t13 : Sl) (t14 : Sl) (sJ1 : Bool × Unit) (hJ1 : Hp) : Prop :=
cnd sJ1.1 (
C_law25_lives  hJ1 fun (t16 : Bool) (h17 : Hp) =>
K t16 h17) (
Jn (J2_law25_PartAll K p2 t13 t14) fun (J2 : Unit → Hp → Prop) =>
ldA (.int .i64) hJ1 (Addr.add p2 4) fun (t29 : Int) =>
cnd (t29 != 1) (
Let (IntKind.wrap .i64 ((t13.len : Int) - (t14.len : Int)) : Int) fun (t30 : Int) =>
cnd (decide (t30 > 1)) (
K false hJ1) (
Let (IntKind.wrap .i64 ((t14.len : Int) - (t13.len : Int)) : Int) fun (t31 : Int) =>
cnd (decide (t31 > 1)) (
K false hJ1) (
cnd ((t13.len : Int) == 0) (
K false hJ1) (
cnd ((t14.len : Int) == 0) (
K false hJ1) (
J2 (()) hJ1))))) (
cnd ((t13.len : Int) == 0) (
K false hJ1) (
cnd ((t14.len : Int) == 0) (
K false hJ1) (
J2 (()) hJ1))))
def F_law25_PartAll (a0_x : Sl) (a1_x : Sl) (a2_x : Int) (a3_x : Int) (a4_x : Int) (h : Hp) (K : Bool → Hp → Prop) : Prop :=
Let (Array.push h (Obj.cells #[.slice a0_x.a a0_x.len a0_x.cap, .slice a1_x.a a1_x.len a1_x.cap, .int .i64 a2_x, .int .i64 a3_x, .int .i64 a4_x] 25)) fun (h1 : Hp) =>
Let (Addr.mk (Array.size h) 0 none) fun (p2 : Addr) =>
ldA .sl h1 p2 fun (t3 : Sl) =>
ldA .sl h1 (Addr.add p2 1) fun (t4 : Sl) =>
C_law25_may t3 t4 h1 fun (t5 : Bool) (h6 : Hp) =>
cnd (!t5) (
C_law25_lives  h6 fun (t7 : Bool) (h8 : Hp) =>
K t7 h8) (
ldA .sl h6 p2 fun (t9 : Sl) =>
ldA (.int .i64) h6 (Addr.add p2 2) fun (t10 : Int) =>
ldA (.int .i64) h6 (Addr.add p2 3) fun (t11 : Int) =>
ldA (.int .i64) h6 (Addr.add p2 4) fun (t12 : Int) =>
C_part_Divide t9 t10 t11 t12 h6 fun (t13 : Sl) (t14 : Sl) (h15 : Hp) =>
Jn (J1_law25_PartAll K p2 t13 t14) fun (J1 : Bool × Unit → Hp → Prop) =>
cnd ((t13.len : Int) == 0) (
J1 (((t14.len : Int) == 0), ()) h15) (
J1 (false, ()) h15))

theorem F_law25_PartAll_ok (a0_x : Sl) (a1_x : Sl) (a2_x : Int) (a3_x : Int) (a4_x : Int) (h : Hp) (K : Bool → Hp → Prop) (hF : F_law25_PartAll a0_x a1_x a2_x a3_x a4_x h K) : C_law25_PartAll a0_x a1_x a2_x a3_x a4_x h K := by
  have e : bodyVC Try.prog Try.f5 (.seq .no (.seq (.seq .no (.cond (.seq .no .no) .no)) (.seq .no (.seq (.join [(34, .at .bool)] .no (.cond (.seq .no .no) .no)) (.join [] (.seq .no (.cond (.seq .no .no) .no)) (.seq .no (.join [(5, .at (.int .i64)), (6, .at (.int .i64))] (.seq .no (.block (.loop [(5, .at (.int .i64)), (6, .at (.int .i64)), (7, .at (.int .i64))] (.seq (.seq .no (.cond .no .no)) (.seq (.block (.join [(83, .at .bool)] .no (.cond .no (.join [(97, .at .bool)] .no (.cond .no (.seq .no .no)))))) .no))))) (.seq .no .no)))))))) (Option.getD Try.f5.body .skip) [.agg #[.slice a0_x.a a0_x.len a0_x.cap, .slice a1_x.a a1_x.len a1_x.cap, .int .i64 a2_x, .int .i64 a3_x, .int .i64 a4_x]] h [.at .bool] (fun s h => K s.1 h) = F_law25_PartAll a0_x a1_x a2_x a3_x a4_x h K := by kernel_rfl
  exact fun_sound mixed Try.func5 rfl (e.mpr hF)

def L1_law25_may (a1_more : Sl) (K : Bool → Hp → Prop) (sL1 : (Int × Unit) × Hp) (R1 : (Int × Unit) × Hp → Prop) : Prop :=
cnd (decide (sL1.1.1 < (a1_more.len : Int))) (
idxS a1_more.a a1_more.len sL1.1.1 1 fun (p1 : Addr) =>
ldA (.int .i64) sL1.2 p1 fun (t2 : Int) =>
cnd (decide (t2 < 0)) (
K false sL1.2) (
idxS a1_more.a a1_more.len sL1.1.1 1 fun (p3 : Addr) =>
ldA (.int .i64) sL1.2 p3 fun (t4 : Int) =>
cnd (decide (t4 > 1125899906842624)) (
K false sL1.2) (
Let (IntKind.wrap .i64 (sL1.1.1 + 1) : Int) fun (t5 : Int) =>
R1 ((t5, ()), sL1.2)))) (
K true sL1.2)
def J1_law25_may (a1_more : Sl) (K : Bool → Hp → Prop) (sJ1 : Unit) (hJ1 : Hp) : Prop :=
∃ n, Lp (L1_law25_may a1_more K) n ((0, ()), hJ1)
def L3_law25_may (a0_d : Sl) (K : Bool → Hp → Prop) (sL2 : (Int × Unit) × Hp) (R2 : (Int × Unit) × Hp → Prop) (sL3 : (Int × Unit) × Hp) (R3 : (Int × Unit) × Hp → Prop) : Prop :=
idxS a0_d.a a0_d.len sL2.1.1 1 fun (p6 : Addr) =>
ldA .sl sL3.2 p6 fun (t7 : Sl) =>
cnd (decide (sL3.1.1 < (t7.len : Int))) (
idxS a0_d.a a0_d.len sL2.1.1 1 fun (p8 : Addr) =>
ldA .sl sL3.2 p8 fun (t9 : Sl) =>
idxS t9.a t9.len sL3.1.1 1 fun (p10 : Addr) =>
ldA (.int .i64) sL3.2 p10 fun (t11 : Int) =>
cnd (decide (t11 < 0)) (
K false sL3.2) (
idxS a0_d.a a0_d.len sL2.1.1 1 fun (p12 : Addr) =>
ldA .sl sL3.2 p12 fun (t13 : Sl) =>
idxS t13.a t13.len sL3.1.1 1 fun (p14 : Addr) =>
ldA (.int .i64) sL3.2 p14 fun (t15 : Int) =>
cnd (decide (t15 > 1125899906842624)) (
K false sL3.2) (
Let (IntKind.wrap .i64 (sL3.1.1 + 1) : Int) fun (t16 : Int) =>
R3 ((t16, ()), sL3.2)))) (
Let (IntKind.wrap .i64 (sL2.1.1 + 1) : Int) fun (t17 : Int) =>
R2 ((t17, ()), sL3.2))
def L2_law25_may (a0_d : Sl) (K : Bool → Hp → Prop) (J1 : Unit → Hp → Prop) (sL2 : (Int × Unit) × Hp) (R2 : (Int × Unit) × Hp → Prop) : Prop :=
cnd (decide (sL2.1.1 < (a0_d.len : Int))) (
∃ n, Lp (L3_law25_may a0_d K sL2 R2) n ((0, ()), sL2.2)) (
J1 (()) sL2.2)
def F_law25_may (a0_d : Sl) (a1_more : Sl) (h : Hp) (K : Bool → Hp → Prop) : Prop :=
cnd (decide ((a0_d.len : Int) > 30)) (
K false h) (
Jn (J1_law25_may a1_more K) fun (J1 : Unit → Hp → Prop) =>
∃ n, Lp (L2_law25_may a0_d K J1) n ((0, ()), h))

theorem F_law25_may_ok (a0_d : Sl) (a1_more : Sl) (h : Hp) (K : Bool → Hp → Prop) (hF : F_law25_may a0_d a1_more h K) : C_law25_may a0_d a1_more h K := by
  have e : bodyVC Try.prog Try.f6 (.seq .no (.seq (.seq .no (.cond (.seq .no .no) .no)) (.join [] (.seq .no (.block (.loop [(5, .at (.int .i64))] (.seq (.seq .no (.cond .no .no)) (.seq (.block (.seq .no (.block (.loop [(6, .at (.int .i64))] (.seq (.seq .no (.cond .no .no)) (.seq (.block (.seq .no (.cond (.seq .no .no) .no))) .no)))))) .no))))) (.seq (.seq .no (.block (.loop [(7, .at (.int .i64))] (.seq (.seq .no (.cond .no .no)) (.seq (.block (.seq .no (.cond (.seq .no .no) .no))) .no))))) (.seq .no .no))))) (Option.getD Try.f6.body .skip) [.slice a0_d.a a0_d.len a0_d.cap, .slice a1_more.a a1_more.len a1_more.cap] h [.at .bool] (fun s h => K s.1 h) = F_law25_may a0_d a1_more h K := by kernel_rfl
  exact fun_sound mixed Try.func6 rfl (e.mpr hF)

def F_law25_lives  (h : Hp) (K : Bool → Hp → Prop) : Prop :=
Let (Array.push h (Obj.cells #[.int .i64 0, .int .i64 1, .int .i64 8, .int .i64 9] 3)) fun (h1 : Hp) =>
Let (Addr.mk (Array.size h) 0 none) fun (p2 : Addr) =>
C_law25_line (Sl.mk (some p2) 4 4) h1 fun (t3 : Sl) (h4 : Hp) =>
C_part_Promote t3 (Sl.mk none 0 0) 1 h4 fun (t5 : Int) (t6 : Int) (t7 : Bool) (h8 : Hp) =>
cnd (t5 == 0) (
cnd (t6 == 2) (
K t7 h8) (
K false h8)) (
K false h8)

theorem F_law25_lives_ok  (h : Hp) (K : Bool → Hp → Prop) (hF : F_law25_lives  h K) : C_law25_lives  h K := by
  have e : bodyVC Try.prog Try.f7 (.seq .no (.seq .no (.seq .no .no))) (Option.getD Try.f7.body .skip) [] h [.at .bool] (fun s h => K s.1 h) = F_law25_lives  h K := by kernel_rfl
  exact fun_sound mixed Try.func7 rfl (e.mpr hF)

def J1_part_Divide (a0_d : Sl) (a1_a : Int) (a2_b : Int) (a3_policy : Int) (K : Sl → Sl → Hp → Prop) (sJ1 : Unit) (hJ1 : Hp) : Prop :=
cnd (a3_policy == 1) (
C_part_plane a0_d a1_a a2_b hJ1 fun (t1 : Sl) (t2 : Sl) (h3 : Hp) =>
K t1 t2 h3) (
C_part_even a0_d a1_a a2_b hJ1 fun (t4 : Sl) (t5 : Sl) (h6 : Hp) =>
K t4 t5 h6)
def F_part_Divide (a0_d : Sl) (a1_a : Int) (a2_b : Int) (a3_policy : Int) (h : Hp) (K : Sl → Sl → Hp → Prop) : Prop :=
Jn (J1_part_Divide a0_d a1_a a2_b a3_policy K) fun (J1 : Unit → Hp → Prop) =>
cnd (decide (a1_a < 0)) (
K (Sl.mk none 0 0) (Sl.mk none 0 0) h) (
cnd (decide (a2_b < 0)) (
K (Sl.mk none 0 0) (Sl.mk none 0 0) h) (
cnd (decide (a1_a ≥ (a0_d.len : Int))) (
K (Sl.mk none 0 0) (Sl.mk none 0 0) h) (
cnd (decide (a2_b ≥ (a0_d.len : Int))) (
K (Sl.mk none 0 0) (Sl.mk none 0 0) h) (
cnd (a1_a == a2_b) (
K (Sl.mk none 0 0) (Sl.mk none 0 0) h) (
J1 (()) h)))))

theorem F_part_Divide_ok (a0_d : Sl) (a1_a : Int) (a2_b : Int) (a3_policy : Int) (h : Hp) (K : Sl → Sl → Hp → Prop) (hF : F_part_Divide a0_d a1_a a2_b a3_policy h K) : C_part_Divide a0_d a1_a a2_b a3_policy h K := by
  have e : bodyVC Try.prog Try.f8 (.seq .no (.join [] (.seq .no (.cond (.seq .no .no) .no)) (.seq (.seq .no (.cond (.seq .no .no) .no)) (.seq .no .no)))) (Option.getD Try.f8.body .skip) [.slice a0_d.a a0_d.len a0_d.cap, .int .i64 a1_a, .int .i64 a2_b, .int .i64 a3_policy] h [.at .sl, .at .sl] (fun s h => K s.1 s.2.1 h) = F_part_Divide a0_d a1_a a2_b a3_policy h K := by kernel_rfl
  exact fun_sound mixed Try.func8 rfl (e.mpr hF)

def L1_ref25_Divide (a0_d : Sl) (K : Sl → Sl → Hp → Prop) (t1 : Sl) (sL1 : (Sl × Sl × Int × Unit) × Hp) (R1 : (Sl × Sl × Int × Unit) × Hp → Prop) : Prop :=
cnd (decide (sL1.1.2.2.1 < (a0_d.len : Int))) (
idxS t1.a t1.len sL1.1.2.2.1 1 fun (p7 : Addr) =>
ldA (.int .i64) sL1.2 p7 fun (t8 : Int) =>
cnd (t8 == 1) (
Let (Array.push sL1.2 (Obj.cells #[.int .i64 sL1.1.2.2.1] 3)) fun (h9 : Hp) =>
Let (Addr.mk (Array.size sL1.2) 0 none) fun (p10 : Addr) =>
appS 3 1 8 [.int .i64 0] sL1.1.1.a sL1.1.1.len sL1.1.1.cap (.slice (some p10) 1 1) h9 fun (t11 : Sl) (h12 : Hp) =>
Let (IntKind.wrap .i64 (sL1.1.2.2.1 + 1) : Int) fun (t13 : Int) =>
R1 ((t11, (Sl.mk sL1.1.2.1.a sL1.1.2.1.len sL1.1.2.1.cap), t13, ()), h12)) (
Let (Array.push sL1.2 (Obj.cells #[.int .i64 sL1.1.2.2.1] 3)) fun (h14 : Hp) =>
Let (Addr.mk (Array.size sL1.2) 0 none) fun (p15 : Addr) =>
appS 3 1 8 [.int .i64 0] sL1.1.2.1.a sL1.1.2.1.len sL1.1.2.1.cap (.slice (some p15) 1 1) h14 fun (t16 : Sl) (h17 : Hp) =>
Let (IntKind.wrap .i64 (sL1.1.2.2.1 + 1) : Int) fun (t18 : Int) =>
R1 (((Sl.mk sL1.1.1.a sL1.1.1.len sL1.1.1.cap), t16, t18, ()), h17))) (
K (Sl.mk sL1.1.1.a sL1.1.1.len sL1.1.1.cap) (Sl.mk sL1.1.2.1.a sL1.1.2.1.len sL1.1.2.1.cap) sL1.2)
def J2_ref25_Divide (a0_d : Sl) (K : Sl → Sl → Hp → Prop) (t1 : Sl) (sJ2 : Unit) (hJ2 : Hp) : Prop :=
∃ n, Lp (L1_ref25_Divide a0_d K t1) n (((Sl.mk none 0 0), (Sl.mk none 0 0), 0, ()), hJ2)
def J4_ref25_Divide (t1 : Sl) (sL2 : (Int × Unit) × Hp) (R2 : (Int × Unit) × Hp → Prop) (sJ3 : Int × Int × Unit) (sJ4 : Int × Unit) (hJ4 : Hp) : Prop :=
cnd (decide (sJ4.1 ≥ 0)) (
idxS t1.a t1.len sJ4.1 1 fun (p32 : Addr) =>
((1 : Nat) = 1) ∧ (
stC hJ4 p32 (
Let (hset hJ4 p32 (.int .i64 sJ3.2.1)) fun (h33 : Hp) =>
Let (IntKind.wrap .i64 (sL2.1.1 + 1) : Int) fun (t34 : Int) =>
R2 ((t34, ()), h33)))) (
Let (IntKind.wrap .i64 (sL2.1.1 + 1) : Int) fun (t35 : Int) =>
R2 ((t35, ()), hJ4))
def L3_ref25_Divide (a0_d : Sl) (t1 : Sl) (sJ3 : Int × Int × Unit) (J4 : Int × Unit → Hp → Prop) (sL3 : (Int × Int × Unit) × Hp) (R3 : (Int × Int × Unit) × Hp → Prop) : Prop :=
cnd (decide (sL3.1.2.1 < (a0_d.len : Int))) (
idxS t1.a t1.len sL3.1.2.1 1 fun (p36 : Addr) =>
ldA (.int .i64) sL3.2 p36 fun (t37 : Int) =>
cnd (t37 == 0) (
cnd (decide (sL3.1.1 < 0)) (
Let (IntKind.wrap .i64 (sL3.1.2.1 + 1) : Int) fun (t38 : Int) =>
R3 ((sL3.1.2.1, t38, ()), sL3.2)) (
C_ref25_At a0_d sJ3.1 sL3.1.2.1 sL3.2 fun (t39 : Int) (h40 : Hp) =>
C_ref25_At a0_d sJ3.1 sL3.1.1 h40 fun (t41 : Int) (h42 : Hp) =>
cnd (decide (t39 < t41)) (
Let (IntKind.wrap .i64 (sL3.1.2.1 + 1) : Int) fun (t43 : Int) =>
R3 ((sL3.1.2.1, t43, ()), h42)) (
Let (IntKind.wrap .i64 (sL3.1.2.1 + 1) : Int) fun (t44 : Int) =>
R3 ((sL3.1.1, t44, ()), h42)))) (
Let (IntKind.wrap .i64 (sL3.1.2.1 + 1) : Int) fun (t45 : Int) =>
R3 ((sL3.1.1, t45, ()), sL3.2))) (
J4 (sL3.1.1, ()) sL3.2)
def J3_ref25_Divide (a0_d : Sl) (t1 : Sl) (sL2 : (Int × Unit) × Hp) (R2 : (Int × Unit) × Hp → Prop) (sJ3 : Int × Int × Unit) (hJ3 : Hp) : Prop :=
Jn (J4_ref25_Divide t1 sL2 R2 sJ3) fun (J4 : Int × Unit → Hp → Prop) =>
∃ n, Lp (L3_ref25_Divide a0_d t1 sJ3 J4) n (((-1), 0, ()), hJ3)
def L2_ref25_Divide (a0_d : Sl) (a1_a : Int) (a2_b : Int) (a3_policy : Int) (t1 : Sl) (J2 : Unit → Hp → Prop) (sL2 : (Int × Unit) × Hp) (R2 : (Int × Unit) × Hp → Prop) : Prop :=
cnd (decide (sL2.1.1 < (a0_d.len : Int))) (
cnd (a3_policy == 1) (
idxS t1.a t1.len sL2.1.1 1 fun (p19 : Addr) =>
ldA (.int .i64) sL2.2 p19 fun (t20 : Int) =>
cnd (t20 == 0) (
idxS t1.a t1.len sL2.1.1 1 fun (p21 : Addr) =>
((1 : Nat) = 1) ∧ (
stC sL2.2 p21 (
Let (hset sL2.2 p21 (.int .i64 1)) fun (h22 : Hp) =>
C_ref25_At a0_d a2_b sL2.1.1 h22 fun (t23 : Int) (h24 : Hp) =>
C_ref25_At a0_d a1_a sL2.1.1 h24 fun (t25 : Int) (h26 : Hp) =>
cnd (decide (t23 < t25)) (
idxS t1.a t1.len sL2.1.1 1 fun (p27 : Addr) =>
((1 : Nat) = 1) ∧ (
stC h26 p27 (
Let (hset h26 p27 (.int .i64 2)) fun (h28 : Hp) =>
Let (IntKind.wrap .i64 (sL2.1.1 + 1) : Int) fun (t29 : Int) =>
R2 ((t29, ()), h28)))) (
Let (IntKind.wrap .i64 (sL2.1.1 + 1) : Int) fun (t30 : Int) =>
R2 ((t30, ()), h26))))) (
Let (IntKind.wrap .i64 (sL2.1.1 + 1) : Int) fun (t31 : Int) =>
R2 ((t31, ()), sL2.2))) (
Jn (J3_ref25_Divide a0_d t1 sL2 R2) fun (J3 : Int × Int × Unit → Hp → Prop) =>
(2 ≠ (0 : Int)) ∧ (
Let (Int.tmod sL2.1.1 2 : Int) fun (t46 : Int) =>
cnd (t46 == 1) (
J3 (a2_b, 2, ()) sL2.2) (
J3 (a1_a, 1, ()) sL2.2)))) (
J2 (()) sL2.2)
def J1_ref25_Divide (a0_d : Sl) (a1_a : Int) (a2_b : Int) (a3_policy : Int) (K : Sl → Sl → Hp → Prop) (sJ1 : Unit) (hJ1 : Hp) : Prop :=
mkS 3 1 8 [.int .i64 0] (a0_d.len : Int) (a0_d.len : Int) hJ1 fun (t1 : Sl) (h2 : Hp) =>
idxS t1.a t1.len a1_a 1 fun (p3 : Addr) =>
((1 : Nat) = 1) ∧ (
stC h2 p3 (
Let (hset h2 p3 (.int .i64 1)) fun (h4 : Hp) =>
idxS t1.a t1.len a2_b 1 fun (p5 : Addr) =>
((1 : Nat) = 1) ∧ (
stC h4 p5 (
Let (hset h4 p5 (.int .i64 2)) fun (h6 : Hp) =>
Jn (J2_ref25_Divide a0_d K t1) fun (J2 : Unit → Hp → Prop) =>
∃ n, Lp (L2_ref25_Divide a0_d a1_a a2_b a3_policy t1 J2) n ((0, ()), h6)))))
def F_ref25_Divide (a0_d : Sl) (a1_a : Int) (a2_b : Int) (a3_policy : Int) (h : Hp) (K : Sl → Sl → Hp → Prop) : Prop :=
Jn (J1_ref25_Divide a0_d a1_a a2_b a3_policy K) fun (J1 : Unit → Hp → Prop) =>
cnd (decide (a1_a < 0)) (
K (Sl.mk none 0 0) (Sl.mk none 0 0) h) (
cnd (decide (a2_b < 0)) (
K (Sl.mk none 0 0) (Sl.mk none 0 0) h) (
cnd (decide (a1_a ≥ (a0_d.len : Int))) (
K (Sl.mk none 0 0) (Sl.mk none 0 0) h) (
cnd (decide (a2_b ≥ (a0_d.len : Int))) (
K (Sl.mk none 0 0) (Sl.mk none 0 0) h) (
cnd (a1_a == a2_b) (
K (Sl.mk none 0 0) (Sl.mk none 0 0) h) (
J1 (()) h)))))

theorem F_ref25_Divide_ok (a0_d : Sl) (a1_a : Int) (a2_b : Int) (a3_policy : Int) (h : Hp) (K : Sl → Sl → Hp → Prop) (hF : F_ref25_Divide a0_d a1_a a2_b a3_policy h K) : C_ref25_Divide a0_d a1_a a2_b a3_policy h K := by
  have e : bodyVC Try.prog Try.f9 (.seq .no (.seq .no (.join [] (.seq .no (.cond (.seq .no .no) .no)) (.seq .no (.seq .no (.seq .no (.join [] (.seq .no (.block (.loop [(12, .at (.int .i64))] (.seq (.seq .no (.cond .no .no)) (.seq (.block (.seq (.seq .no (.cond (.seq (.seq .no (.cond (.seq .no (.seq .no (.cond .no .no))) .no)) .no) .no)) (.seq .no (.join [(13, .at (.int .i64)), (14, .at (.int .i64))] (.seq .no (.cond (.seq .no .no) .no)) (.seq .no (.join [(15, .at (.int .i64))] (.seq .no (.block (.loop [(15, .at (.int .i64)), (16, .at (.int .i64))] (.seq (.seq .no (.cond .no .no)) (.seq (.block (.seq .no (.cond .no .no))) .no))))) (.seq .no (.cond .no .no)))))))) .no))))) (.seq .no (.seq (.seq .no (.block (.loop [(17, .at .sl), (18, .at .sl), (19, .at (.int .i64))] (.seq (.seq .no (.cond .no .no)) (.seq (.block (.seq .no (.cond .no .no))) .no))))) (.seq .no .no)))))))))) (Option.getD Try.f9.body .skip) [.slice a0_d.a a0_d.len a0_d.cap, .int .i64 a1_a, .int .i64 a2_b, .int .i64 a3_policy] h [.at .sl, .at .sl] (fun s h => K s.1 s.2.1 h) = F_ref25_Divide a0_d a1_a a2_b a3_policy h K := by kernel_rfl
  exact fun_sound mixed Try.func9 rfl (e.mpr hF)

def L1_ref07_Ints (a0_a : Sl) (a1_b : Sl) (K : Bool → Hp → Prop) (sL1 : (Int × Unit) × Hp) (R1 : (Int × Unit) × Hp → Prop) : Prop :=
cnd (decide (sL1.1.1 < (a0_a.len : Int))) (
idxS a0_a.a a0_a.len sL1.1.1 1 fun (p1 : Addr) =>
ldA (.int .i64) sL1.2 p1 fun (t2 : Int) =>
idxS a1_b.a a1_b.len sL1.1.1 1 fun (p3 : Addr) =>
ldA (.int .i64) sL1.2 p3 fun (t4 : Int) =>
cnd (t2 != t4) (
K false sL1.2) (
Let (IntKind.wrap .i64 (sL1.1.1 + 1) : Int) fun (t5 : Int) =>
R1 ((t5, ()), sL1.2))) (
K true sL1.2)
def F_ref07_Ints (a0_a : Sl) (a1_b : Sl) (h : Hp) (K : Bool → Hp → Prop) : Prop :=
cnd ((a0_a.len : Int) != (a1_b.len : Int)) (
K false h) (
∃ n, Lp (L1_ref07_Ints a0_a a1_b K) n ((0, ()), h))

theorem F_ref07_Ints_ok (a0_a : Sl) (a1_b : Sl) (h : Hp) (K : Bool → Hp → Prop) (hF : F_ref07_Ints a0_a a1_b h K) : C_ref07_Ints a0_a a1_b h K := by
  have e : bodyVC Try.prog Try.f10 (.seq .no (.seq (.seq .no (.cond (.seq .no .no) .no)) (.seq (.seq .no (.block (.loop [(5, .at (.int .i64))] (.seq (.seq .no (.cond .no .no)) (.seq (.block (.seq .no (.cond (.seq .no .no) .no))) .no))))) (.seq .no .no)))) (Option.getD Try.f10.body .skip) [.slice a0_a.a a0_a.len a0_a.cap, .slice a1_b.a a1_b.len a1_b.cap] h [.at .bool] (fun s h => K s.1 h) = F_ref07_Ints a0_a a1_b h K := by kernel_rfl
  exact fun_sound mixed Try.func10 rfl (e.mpr hF)

def J1_part_Radius (a1_more : Sl) (sL1 : (Int × Int × Unit) × Hp) (R1 : (Int × Int × Unit) × Hp → Prop) (t2 : Int) (t3 : Int) (sJ1 : Bool × Unit) (hJ1 : Hp) : Prop :=
cnd sJ1.1 (
idxS a1_more.a a1_more.len t2 1 fun (p5 : Addr) =>
ldA (.int .i64) hJ1 p5 fun (t6 : Int) =>
Let (IntKind.wrap .i64 (t3 + t6) : Int) fun (t7 : Int) =>
Let (if t7 > sL1.1.1 then t7 else sL1.1.1 : Int) fun (t8 : Int) =>
Let (IntKind.wrap .i64 (sL1.1.2.1 + 1) : Int) fun (t9 : Int) =>
R1 ((t8, t9, ()), hJ1)) (
Let (if t3 > sL1.1.1 then t3 else sL1.1.1 : Int) fun (t10 : Int) =>
Let (IntKind.wrap .i64 (sL1.1.2.1 + 1) : Int) fun (t11 : Int) =>
R1 ((t10, t11, ()), hJ1))
def L1_part_Radius (a0_d : Sl) (a1_more : Sl) (a2_p : Int) (a3_l : Sl) (K : Int → Hp → Prop) (sL1 : (Int × Int × Unit) × Hp) (R1 : (Int × Int × Unit) × Hp → Prop) : Prop :=
cnd (decide (sL1.1.2.1 < (a3_l.len : Int))) (
idxS a3_l.a a3_l.len sL1.1.2.1 1 fun (p1 : Addr) =>
ldA (.int .i64) sL1.2 p1 fun (t2 : Int) =>
C_part_at a0_d a2_p t2 sL1.2 fun (t3 : Int) (h4 : Hp) =>
Jn (J1_part_Radius a1_more sL1 R1 t2 t3) fun (J1 : Bool × Unit → Hp → Prop) =>
cnd (decide (t2 ≥ 0)) (
J1 (decide (t2 < (a1_more.len : Int)), ()) h4) (
J1 (false, ()) h4)) (
K sL1.1.1 sL1.2)
def F_part_Radius (a0_d : Sl) (a1_more : Sl) (a2_p : Int) (a3_l : Sl) (h : Hp) (K : Int → Hp → Prop) : Prop :=
∃ n, Lp (L1_part_Radius a0_d a1_more a2_p a3_l K) n ((0, 0, ()), h)

theorem F_part_Radius_ok (a0_d : Sl) (a1_more : Sl) (a2_p : Int) (a3_l : Sl) (h : Hp) (K : Int → Hp → Prop) (hF : F_part_Radius a0_d a1_more a2_p a3_l h K) : C_part_Radius a0_d a1_more a2_p a3_l h K := by
  have e : bodyVC Try.prog Try.f11 (.seq .no (.seq .no (.seq (.seq .no (.block (.loop [(9, .at (.int .i64)), (15, .at (.int .i64))] (.seq .no (.seq (.cond .no .no) (.seq (.block (.seq .no (.seq .no (.seq (.join [(30, .at .bool)] .no (.cond .no .no)) .no)))) .no)))))) (.seq .no .no)))) (Option.getD Try.f11.body .skip) [.slice a0_d.a a0_d.len a0_d.cap, .slice a1_more.a a1_more.len a1_more.cap, .int .i64 a2_p, .slice a3_l.a a3_l.len a3_l.cap] h [.at (.int .i64)] (fun s h => K s.1 h) = F_part_Radius a0_d a1_more a2_p a3_l h K := by kernel_rfl
  exact fun_sound mixed Try.func11 rfl (e.mpr hF)

def J1_ref25_Radius (a1_more : Sl) (a3_l : Sl) (sL1 : (Int × Int × Unit) × Hp) (R1 : (Int × Int × Unit) × Hp → Prop) (t3 : Int) (sJ1 : Bool × Unit) (hJ1 : Hp) : Prop :=
cnd sJ1.1 (
idxS a3_l.a a3_l.len sL1.1.2.1 1 fun (p5 : Addr) =>
ldA (.int .i64) hJ1 p5 fun (t6 : Int) =>
idxS a1_more.a a1_more.len t6 1 fun (p7 : Addr) =>
ldA (.int .i64) hJ1 p7 fun (t8 : Int) =>
Let (IntKind.wrap .i64 (t3 + t8) : Int) fun (t9 : Int) =>
Let (if t9 > sL1.1.1 then t9 else sL1.1.1 : Int) fun (t10 : Int) =>
Let (IntKind.wrap .i64 (sL1.1.2.1 + 1) : Int) fun (t11 : Int) =>
R1 ((t10, t11, ()), hJ1)) (
Let (if t3 > sL1.1.1 then t3 else sL1.1.1 : Int) fun (t12 : Int) =>
Let (IntKind.wrap .i64 (sL1.1.2.1 + 1) : Int) fun (t13 : Int) =>
R1 ((t12, t13, ()), hJ1))
def L1_ref25_Radius (a0_d : Sl) (a1_more : Sl) (a2_p : Int) (a3_l : Sl) (K : Int → Hp → Prop) (sL1 : (Int × Int × Unit) × Hp) (R1 : (Int × Int × Unit) × Hp → Prop) : Prop :=
cnd (decide (sL1.1.2.1 < (a3_l.len : Int))) (
idxS a3_l.a a3_l.len sL1.1.2.1 1 fun (p1 : Addr) =>
ldA (.int .i64) sL1.2 p1 fun (t2 : Int) =>
C_ref25_At a0_d a2_p t2 sL1.2 fun (t3 : Int) (h4 : Hp) =>
Jn (J1_ref25_Radius a1_more a3_l sL1 R1 t3) fun (J1 : Bool × Unit → Hp → Prop) =>
idxS a3_l.a a3_l.len sL1.1.2.1 1 fun (p14 : Addr) =>
ldA (.int .i64) h4 p14 fun (t15 : Int) =>
cnd (decide (t15 ≥ 0)) (
idxS a3_l.a a3_l.len sL1.1.2.1 1 fun (p16 : Addr) =>
ldA (.int .i64) h4 p16 fun (t17 : Int) =>
J1 (decide (t17 < (a1_more.len : Int)), ()) h4) (
J1 (false, ()) h4)) (
K sL1.1.1 sL1.2)
def F_ref25_Radius (a0_d : Sl) (a1_more : Sl) (a2_p : Int) (a3_l : Sl) (h : Hp) (K : Int → Hp → Prop) : Prop :=
∃ n, Lp (L1_ref25_Radius a0_d a1_more a2_p a3_l K) n ((0, 0, ()), h)

theorem F_ref25_Radius_ok (a0_d : Sl) (a1_more : Sl) (a2_p : Int) (a3_l : Sl) (h : Hp) (K : Int → Hp → Prop) (hF : F_ref25_Radius a0_d a1_more a2_p a3_l h K) : C_ref25_Radius a0_d a1_more a2_p a3_l h K := by
  have e : bodyVC Try.prog Try.f12 (.seq .no (.seq .no (.seq (.seq .no (.block (.loop [(9, .at (.int .i64)), (10, .at (.int .i64))] (.seq (.seq .no (.cond .no .no)) (.seq (.block (.seq .no (.seq (.join [(38, .at .bool)] .no (.cond .no .no)) .no))) .no))))) (.seq .no .no)))) (Option.getD Try.f12.body .skip) [.slice a0_d.a a0_d.len a0_d.cap, .slice a1_more.a a1_more.len a1_more.cap, .int .i64 a2_p, .slice a3_l.a a3_l.len a3_l.cap] h [.at (.int .i64)] (fun s h => K s.1 h) = F_ref25_Radius a0_d a1_more a2_p a3_l h K := by kernel_rfl
  exact fun_sound mixed Try.func12 rfl (e.mpr hF)

def J1_part_Promote (K : Int → Int → Bool → Hp → Prop) (sL2 : (Int × Int × Int × Int × Unit) × Hp) (R2 : (Int × Int × Int × Int × Unit) × Hp → Prop) (sJ1 : Int × Int × Int × Unit) (hJ1 : Hp) : Prop :=
cnd (sJ1.2.2.1 == 0) (
K sJ1.1 sJ1.2.1 true hJ1) (
Let (IntKind.wrap .i64 (sL2.1.2.2.2.1 + 1) : Int) fun (t10 : Int) =>
R2 ((sJ1.1, sJ1.2.1, sJ1.2.2.1, t10, ()), hJ1))
def L2_part_Promote (a0_d : Sl) (a1_more : Sl) (a2_policy : Int) (K : Int → Int → Bool → Hp → Prop) (sL1 : (Int × Int × Int × Int × Unit) × Hp) (R1 : (Int × Int × Int × Int × Unit) × Hp → Prop) (sL2 : (Int × Int × Int × Int × Unit) × Hp) (R2 : (Int × Int × Int × Int × Unit) × Hp → Prop) : Prop :=
cnd (decide (sL2.1.2.2.2.1 < (a0_d.len : Int))) (
C_part_Divide a0_d sL1.1.2.2.2.1 sL2.1.2.2.2.1 a2_policy sL2.2 fun (t2 : Sl) (t3 : Sl) (h4 : Hp) =>
C_part_Radius a0_d a1_more sL1.1.2.2.2.1 t2 h4 fun (t5 : Int) (h6 : Hp) =>
C_part_Radius a0_d a1_more sL2.1.2.2.2.1 t3 h6 fun (t7 : Int) (h8 : Hp) =>
Let (if t7 > t5 then t7 else t5 : Int) fun (t9 : Int) =>
Jn (J1_part_Promote K sL2 R2) fun (J1 : Int × Int × Int × Unit → Hp → Prop) =>
cnd (decide (sL2.1.2.2.1 < 0)) (
J1 (sL1.1.2.2.2.1, sL2.1.2.2.2.1, t9, ()) h8) (
cnd (decide (t9 < sL2.1.2.2.1)) (
J1 (sL1.1.2.2.2.1, sL2.1.2.2.2.1, t9, ()) h8) (
J1 (sL2.1.1, sL2.1.2.1, sL2.1.2.2.1, ()) h8))) (
Let (IntKind.wrap .i64 (sL1.1.2.2.2.1 + 1) : Int) fun (t11 : Int) =>
R1 ((sL2.1.1, sL2.1.2.1, sL2.1.2.2.1, t11, ()), sL2.2))
def L1_part_Promote (a0_d : Sl) (a1_more : Sl) (a2_policy : Int) (K : Int → Int → Bool → Hp → Prop) (sL1 : (Int × Int × Int × Int × Unit) × Hp) (R1 : (Int × Int × Int × Int × Unit) × Hp → Prop) : Prop :=
cnd (decide (sL1.1.2.2.2.1 < (a0_d.len : Int))) (
Let (IntKind.wrap .i64 (sL1.1.2.2.2.1 + 1) : Int) fun (t1 : Int) =>
∃ n, Lp (L2_part_Promote a0_d a1_more a2_policy K sL1 R1) n ((sL1.1.1, sL1.1.2.1, sL1.1.2.2.1, t1, ()), sL1.2)) (
K sL1.1.1 sL1.1.2.1 true sL1.2)
def F_part_Promote (a0_d : Sl) (a1_more : Sl) (a2_policy : Int) (h : Hp) (K : Int → Int → Bool → Hp → Prop) : Prop :=
cnd (decide ((a0_d.len : Int) < 2)) (
K 0 1 false h) (
∃ n, Lp (L1_part_Promote a0_d a1_more a2_policy K) n ((0, 1, (-1), 0, ()), h))

theorem F_part_Promote_ok (a0_d : Sl) (a1_more : Sl) (a2_policy : Int) (h : Hp) (K : Int → Int → Bool → Hp → Prop) (hF : F_part_Promote a0_d a1_more a2_policy h K) : C_part_Promote a0_d a1_more a2_policy h K := by
  have e : bodyVC Try.prog Try.f13 (.seq .no (.scope (.seq (.seq .no (.cond (.seq .no .no) .no)) (.seq .no (.seq .no (.seq (.seq .no (.block (.loop [(9, .at (.int .i64)), (10, .at (.int .i64)), (11, .at (.int .i64)), (22, .at (.int .i64))] (.seq .no (.seq (.cond .no .no) (.seq (.block (.seq .no (.seq .no (.block (.loop [(9, .at (.int .i64)), (10, .at (.int .i64)), (11, .at (.int .i64)), (13, .at (.int .i64))] (.seq (.seq .no (.cond .no .no)) (.seq (.block (.seq .no (.seq .no (.join [(9, .at (.int .i64)), (10, .at (.int .i64)), (11, .at (.int .i64))] (.seq .no (.cond .no .no)) (.seq .no (.cond .no .no)))))) .no))))))) .no)))))) (.seq .no .no))))))) (Option.getD Try.f13.body .skip) [.slice a0_d.a a0_d.len a0_d.cap, .slice a1_more.a a1_more.len a1_more.cap, .int .i64 a2_policy] h [.at (.int .i64), .at (.int .i64), .at .bool] (fun s h => K s.1 s.2.1 s.2.2.1 h) = F_part_Promote a0_d a1_more a2_policy h K := by kernel_rfl
  exact fun_sound mixed Try.func13 rfl (e.mpr hF)

def J1_ref25_Promote (sL1 : (Int × Int × Int × Int × Unit) × Hp) (sL2 : (Int × Int × Int × Int × Unit) × Hp) (R2 : (Int × Int × Int × Int × Unit) × Hp → Prop) (t9 : Int) (sJ1 : Bool × Unit) (hJ1 : Hp) : Prop :=
cnd sJ1.1 (
Let (IntKind.wrap .i64 (sL2.1.2.2.2.1 + 1) : Int) fun (t10 : Int) =>
R2 ((sL1.1.2.2.2.1, sL2.1.2.2.2.1, t9, t10, ()), hJ1)) (
Let (IntKind.wrap .i64 (sL2.1.2.2.2.1 + 1) : Int) fun (t11 : Int) =>
R2 ((sL2.1.1, sL2.1.2.1, sL2.1.2.2.1, t11, ()), hJ1))
def L2_ref25_Promote (a0_d : Sl) (a1_more : Sl) (a2_policy : Int) (sL1 : (Int × Int × Int × Int × Unit) × Hp) (R1 : (Int × Int × Int × Int × Unit) × Hp → Prop) (sL2 : (Int × Int × Int × Int × Unit) × Hp) (R2 : (Int × Int × Int × Int × Unit) × Hp → Prop) : Prop :=
cnd (decide (sL2.1.2.2.2.1 < (a0_d.len : Int))) (
C_ref25_Divide a0_d sL1.1.2.2.2.1 sL2.1.2.2.2.1 a2_policy sL2.2 fun (t2 : Sl) (t3 : Sl) (h4 : Hp) =>
C_ref25_Radius a0_d a1_more sL1.1.2.2.2.1 t2 h4 fun (t5 : Int) (h6 : Hp) =>
C_ref25_Radius a0_d a1_more sL2.1.2.2.2.1 t3 h6 fun (t7 : Int) (h8 : Hp) =>
Let (if t7 > t5 then t7 else t5 : Int) fun (t9 : Int) =>
Jn (J1_ref25_Promote sL1 sL2 R2 t9) fun (J1 : Bool × Unit → Hp → Prop) =>
cnd (decide (sL2.1.2.2.1 < 0)) (
J1 (true, ()) h8) (
J1 (decide (t9 < sL2.1.2.2.1), ()) h8)) (
Let (IntKind.wrap .i64 (sL1.1.2.2.2.1 + 1) : Int) fun (t12 : Int) =>
R1 ((sL2.1.1, sL2.1.2.1, sL2.1.2.2.1, t12, ()), sL2.2))
def L1_ref25_Promote (a0_d : Sl) (a1_more : Sl) (a2_policy : Int) (K : Int → Int → Bool → Hp → Prop) (sL1 : (Int × Int × Int × Int × Unit) × Hp) (R1 : (Int × Int × Int × Int × Unit) × Hp → Prop) : Prop :=
cnd (decide (sL1.1.2.2.2.1 < (a0_d.len : Int))) (
Let (IntKind.wrap .i64 (sL1.1.2.2.2.1 + 1) : Int) fun (t1 : Int) =>
∃ n, Lp (L2_ref25_Promote a0_d a1_more a2_policy sL1 R1) n ((sL1.1.1, sL1.1.2.1, sL1.1.2.2.1, t1, ()), sL1.2)) (
K sL1.1.1 sL1.1.2.1 (decide (sL1.1.2.2.1 ≥ 0)) sL1.2)
def F_ref25_Promote (a0_d : Sl) (a1_more : Sl) (a2_policy : Int) (h : Hp) (K : Int → Int → Bool → Hp → Prop) : Prop :=
∃ n, Lp (L1_ref25_Promote a0_d a1_more a2_policy K) n ((0, 1, (-1), 0, ()), h)

theorem F_ref25_Promote_ok (a0_d : Sl) (a1_more : Sl) (a2_policy : Int) (h : Hp) (K : Int → Int → Bool → Hp → Prop) (hF : F_ref25_Promote a0_d a1_more a2_policy h K) : C_ref25_Promote a0_d a1_more a2_policy h K := by
  have e : bodyVC Try.prog Try.f14 (.seq .no (.seq .no (.seq (.seq .no (.block (.loop [(9, .at (.int .i64)), (10, .at (.int .i64)), (11, .at (.int .i64)), (12, .at (.int .i64))] (.seq (.seq .no (.cond .no .no)) (.seq (.block (.seq .no (.block (.loop [(9, .at (.int .i64)), (10, .at (.int .i64)), (11, .at (.int .i64)), (13, .at (.int .i64))] (.seq (.seq .no (.cond .no .no)) (.seq (.block (.seq .no (.seq .no (.join [(56, .at .bool)] .no (.cond (.seq .no (.seq .no .no)) .no))))) .no)))))) .no))))) (.seq .no .no)))) (Option.getD Try.f14.body .skip) [.slice a0_d.a a0_d.len a0_d.cap, .slice a1_more.a a1_more.len a1_more.cap, .int .i64 a2_policy] h [.at (.int .i64), .at (.int .i64), .at .bool] (fun s h => K s.1 s.2.1 s.2.2.1 h) = F_ref25_Promote a0_d a1_more a2_policy h K := by kernel_rfl
  exact fun_sound mixed Try.func14 rfl (e.mpr hF)

def L2_law25_line (a0_l : Sl) (sL1 : (Sl × Int × Unit) × Hp) (R1 : (Sl × Int × Unit) × Hp → Prop) (sL2 : (Sl × Int × Unit) × Hp) (R2 : (Sl × Int × Unit) × Hp → Prop) : Prop :=
cnd (decide (sL2.1.2.1 < (a0_l.len : Int))) (
idxS a0_l.a a0_l.len sL1.1.2.1 1 fun (p1 : Addr) =>
ldA (.int .i64) sL2.2 p1 fun (t2 : Int) =>
idxS a0_l.a a0_l.len sL2.1.2.1 1 fun (p3 : Addr) =>
ldA (.int .i64) sL2.2 p3 fun (t4 : Int) =>
Let (IntKind.wrap .i64 (t2 - t4) : Int) fun (t5 : Int) =>
idxS a0_l.a a0_l.len sL2.1.2.1 1 fun (p6 : Addr) =>
ldA (.int .i64) sL2.2 p6 fun (t7 : Int) =>
idxS a0_l.a a0_l.len sL1.1.2.1 1 fun (p8 : Addr) =>
ldA (.int .i64) sL2.2 p8 fun (t9 : Int) =>
Let (IntKind.wrap .i64 (t7 - t9) : Int) fun (t10 : Int) =>
Let (if t10 > t5 then t10 else t5 : Int) fun (t11 : Int) =>
Let (Array.push sL2.2 (Obj.cells #[.int .i64 t11] 3)) fun (h12 : Hp) =>
Let (Addr.mk (Array.size sL2.2) 0 none) fun (p13 : Addr) =>
appS 3 1 8 [.int .i64 0] sL2.1.1.a sL2.1.1.len sL2.1.1.cap (.slice (some p13) 1 1) h12 fun (t14 : Sl) (h15 : Hp) =>
Let (IntKind.wrap .i64 (sL2.1.2.1 + 1) : Int) fun (t16 : Int) =>
R2 ((t14, t16, ()), h15)) (
Let (Array.push sL2.2 (Obj.cells #[.slice sL2.1.1.a sL2.1.1.len sL2.1.1.cap] 23)) fun (h17 : Hp) =>
Let (Addr.mk (Array.size sL2.2) 0 none) fun (p18 : Addr) =>
appS 23 1 24 [.slice none 0 0] sL1.1.1.a sL1.1.1.len sL1.1.1.cap (.slice (some p18) 1 1) h17 fun (t19 : Sl) (h20 : Hp) =>
Let (IntKind.wrap .i64 (sL1.1.2.1 + 1) : Int) fun (t21 : Int) =>
R1 ((t19, t21, ()), h20))
def L1_law25_line (a0_l : Sl) (K : Sl → Hp → Prop) (sL1 : (Sl × Int × Unit) × Hp) (R1 : (Sl × Int × Unit) × Hp → Prop) : Prop :=
cnd (decide (sL1.1.2.1 < (a0_l.len : Int))) (
∃ n, Lp (L2_law25_line a0_l sL1 R1) n (((Sl.mk none 0 0), 0, ()), sL1.2)) (
K (Sl.mk sL1.1.1.a sL1.1.1.len sL1.1.1.cap) sL1.2)
def F_law25_line (a0_l : Sl) (h : Hp) (K : Sl → Hp → Prop) : Prop :=
∃ n, Lp (L1_law25_line a0_l K) n (((Sl.mk none 0 0), 0, ()), h)

theorem F_law25_line_ok (a0_l : Sl) (h : Hp) (K : Sl → Hp → Prop) (hF : F_law25_line a0_l h K) : C_law25_line a0_l h K := by
  have e : bodyVC Try.prog Try.f15 (.seq .no (.seq .no (.seq (.seq .no (.block (.loop [(3, .at .sl), (4, .at (.int .i64))] (.seq (.seq .no (.cond .no .no)) (.seq (.block (.seq .no (.seq (.seq .no (.block (.loop [(5, .at .sl), (6, .at (.int .i64))] (.seq (.seq .no (.cond .no .no)) (.seq (.block .no) .no))))) .no))) .no))))) (.seq .no .no)))) (Option.getD Try.f15.body .skip) [.slice a0_l.a a0_l.len a0_l.cap] h [.at .sl] (fun s h => K s.1 h) = F_law25_line a0_l h K := by kernel_rfl
  exact fun_sound mixed Try.func15 rfl (e.mpr hF)

def J1_part_plane (sL1 : (Sl × Sl × Int × Unit) × Hp) (R1 : (Sl × Sl × Int × Unit) × Hp → Prop) (sJ1 : Bool × Unit) (hJ1 : Hp) : Prop :=
cnd sJ1.1 (
Let (Array.push hJ1 (Obj.cells #[.int .i64 sL1.1.2.2.1] 3)) fun (h1 : Hp) =>
Let (Addr.mk (Array.size hJ1) 0 none) fun (p2 : Addr) =>
appS 3 1 8 [.int .i64 0] sL1.1.1.a sL1.1.1.len sL1.1.1.cap (.slice (some p2) 1 1) h1 fun (t3 : Sl) (h4 : Hp) =>
Let (IntKind.wrap .i64 (sL1.1.2.2.1 + 1) : Int) fun (t5 : Int) =>
R1 ((t3, (Sl.mk sL1.1.2.1.a sL1.1.2.1.len sL1.1.2.1.cap), t5, ()), h4)) (
Let (Array.push hJ1 (Obj.cells #[.int .i64 sL1.1.2.2.1] 3)) fun (h6 : Hp) =>
Let (Addr.mk (Array.size hJ1) 0 none) fun (p7 : Addr) =>
appS 3 1 8 [.int .i64 0] sL1.1.2.1.a sL1.1.2.1.len sL1.1.2.1.cap (.slice (some p7) 1 1) h6 fun (t8 : Sl) (h9 : Hp) =>
Let (IntKind.wrap .i64 (sL1.1.2.2.1 + 1) : Int) fun (t10 : Int) =>
R1 (((Sl.mk sL1.1.1.a sL1.1.1.len sL1.1.1.cap), t8, t10, ()), h9))
def L1_part_plane (a0_d : Sl) (a1_a : Int) (a2_b : Int) (K : Sl → Sl → Hp → Prop) (sL1 : (Sl × Sl × Int × Unit) × Hp) (R1 : (Sl × Sl × Int × Unit) × Hp → Prop) : Prop :=
cnd (decide (sL1.1.2.2.1 < (a0_d.len : Int))) (
Jn (J1_part_plane sL1 R1) fun (J1 : Bool × Unit → Hp → Prop) =>
cnd (sL1.1.2.2.1 == a1_a) (
J1 (true, ()) sL1.2) (
cnd (sL1.1.2.2.1 != a2_b) (
C_part_at a0_d a1_a sL1.1.2.2.1 sL1.2 fun (t11 : Int) (h12 : Hp) =>
C_part_at a0_d a2_b sL1.1.2.2.1 h12 fun (t13 : Int) (h14 : Hp) =>
J1 (decide (t11 ≤ t13), ()) h14) (
J1 (false, ()) sL1.2))) (
K (Sl.mk sL1.1.1.a sL1.1.1.len sL1.1.1.cap) (Sl.mk sL1.1.2.1.a sL1.1.2.1.len sL1.1.2.1.cap) sL1.2)
def F_part_plane (a0_d : Sl) (a1_a : Int) (a2_b : Int) (h : Hp) (K : Sl → Sl → Hp → Prop) : Prop :=
∃ n, Lp (L1_part_plane a0_d a1_a a2_b K) n (((Sl.mk none 0 0), (Sl.mk none 0 0), 0, ()), h)

theorem F_part_plane_ok (a0_d : Sl) (a1_a : Int) (a2_b : Int) (h : Hp) (K : Sl → Sl → Hp → Prop) (hF : F_part_plane a0_d a1_a a2_b h K) : C_part_plane a0_d a1_a a2_b h K := by
  have e : bodyVC Try.prog Try.f16 (.seq .no (.seq .no (.seq (.seq .no (.block (.loop [(8, .at .sl), (9, .at .sl), (13, .at (.int .i64))] (.seq .no (.seq (.cond .no .no) (.seq (.block (.seq .no (.join [(34, .at .bool)] .no (.cond .no .no)))) .no)))))) (.seq .no .no)))) (Option.getD Try.f16.body .skip) [.slice a0_d.a a0_d.len a0_d.cap, .int .i64 a1_a, .int .i64 a2_b] h [.at .sl, .at .sl] (fun s h => K s.1 s.2.1 h) = F_part_plane a0_d a1_a a2_b h K := by kernel_rfl
  exact fun_sound mixed Try.func16 rfl (e.mpr hF)

def J2_part_even (K : Sl → Sl → Hp → Prop) (sJ2 : Sl × Sl × Unit) (hJ2 : Hp) : Prop :=
C_slices_Sort_int_int (Sl.mk sJ2.1.a sJ2.1.len sJ2.1.cap) hJ2 fun  (h5 : Hp) =>
C_slices_Sort_int_int (Sl.mk sJ2.2.1.a sJ2.2.1.len sJ2.2.1.cap) h5 fun  (h6 : Hp) =>
K (Sl.mk sJ2.1.a sJ2.1.len sJ2.1.cap) (Sl.mk sJ2.2.1.a sJ2.2.1.len sJ2.2.1.cap) h6
def L1_part_even (a0_d : Sl) (a1_a : Int) (a2_b : Int) (J2 : Sl × Sl × Unit → Hp → Prop) (sL1 : (Sl × Sl × Sl × Int × Unit) × Hp) (R1 : (Sl × Sl × Sl × Int × Unit) × Hp → Prop) : Prop :=
cnd (decide ((sL1.1.2.2.1.len : Int) > 0)) (
(2 ≠ (0 : Int)) ∧ (
Let (Int.tmod sL1.1.2.2.2.1 2 : Int) fun (t7 : Int) =>
cnd (t7 == 0) (
C_part_nearest a0_d a1_a (Sl.mk sL1.1.2.2.1.a sL1.1.2.2.1.len sL1.1.2.2.1.cap) sL1.2 fun (t8 : Int) (t9 : Sl) (h10 : Hp) =>
Let (Array.push h10 (Obj.cells #[.int .i64 t8] 3)) fun (h11 : Hp) =>
Let (Addr.mk (Array.size h10) 0 none) fun (p12 : Addr) =>
appS 3 1 8 [.int .i64 0] sL1.1.1.a sL1.1.1.len sL1.1.1.cap (.slice (some p12) 1 1) h11 fun (t13 : Sl) (h14 : Hp) =>
Let (IntKind.wrap .i64 (sL1.1.2.2.2.1 + 1) : Int) fun (t15 : Int) =>
R1 ((t13, (Sl.mk sL1.1.2.1.a sL1.1.2.1.len sL1.1.2.1.cap), t9, t15, ()), h14)) (
C_part_nearest a0_d a2_b (Sl.mk sL1.1.2.2.1.a sL1.1.2.2.1.len sL1.1.2.2.1.cap) sL1.2 fun (t16 : Int) (t17 : Sl) (h18 : Hp) =>
Let (Array.push h18 (Obj.cells #[.int .i64 t16] 3)) fun (h19 : Hp) =>
Let (Addr.mk (Array.size h18) 0 none) fun (p20 : Addr) =>
appS 3 1 8 [.int .i64 0] sL1.1.2.1.a sL1.1.2.1.len sL1.1.2.1.cap (.slice (some p20) 1 1) h19 fun (t21 : Sl) (h22 : Hp) =>
Let (IntKind.wrap .i64 (sL1.1.2.2.2.1 + 1) : Int) fun (t23 : Int) =>
R1 (((Sl.mk sL1.1.1.a sL1.1.1.len sL1.1.1.cap), t21, t17, t23, ()), h22)))) (
J2 ((Sl.mk sL1.1.1.a sL1.1.1.len sL1.1.1.cap), (Sl.mk sL1.1.2.1.a sL1.1.2.1.len sL1.1.2.1.cap), ()) sL1.2)
def J1_part_even (a0_d : Sl) (a1_a : Int) (a2_b : Int) (K : Sl → Sl → Hp → Prop) (p2 : Addr) (p4 : Addr) (sJ1 : Sl × Unit) (hJ1 : Hp) : Prop :=
Jn (J2_part_even K) fun (J2 : Sl × Sl × Unit → Hp → Prop) =>
∃ n, Lp (L1_part_even a0_d a1_a a2_b J2) n (((Sl.mk (some p2) 1 1), (Sl.mk (some p4) 1 1), (Sl.mk sJ1.1.a sJ1.1.len sJ1.1.cap), 0, ()), hJ1)
def J3_part_even (sL2 : (Sl × Int × Unit) × Hp) (R2 : (Sl × Int × Unit) × Hp → Prop) (sJ3 : Bool × Unit) (hJ3 : Hp) : Prop :=
cnd sJ3.1 (
Let (Array.push hJ3 (Obj.cells #[.int .i64 sL2.1.2.1] 3)) fun (h24 : Hp) =>
Let (Addr.mk (Array.size hJ3) 0 none) fun (p25 : Addr) =>
appS 3 1 8 [.int .i64 0] sL2.1.1.a sL2.1.1.len sL2.1.1.cap (.slice (some p25) 1 1) h24 fun (t26 : Sl) (h27 : Hp) =>
Let (IntKind.wrap .i64 (sL2.1.2.1 + 1) : Int) fun (t28 : Int) =>
R2 ((t26, t28, ()), h27)) (
Let (IntKind.wrap .i64 (sL2.1.2.1 + 1) : Int) fun (t29 : Int) =>
R2 (((Sl.mk sL2.1.1.a sL2.1.1.len sL2.1.1.cap), t29, ()), hJ3))
def L2_part_even (a0_d : Sl) (a1_a : Int) (a2_b : Int) (J1 : Sl × Unit → Hp → Prop) (sL2 : (Sl × Int × Unit) × Hp) (R2 : (Sl × Int × Unit) × Hp → Prop) : Prop :=
cnd (decide (sL2.1.2.1 < (a0_d.len : Int))) (
Jn (J3_part_even sL2 R2) fun (J3 : Bool × Unit → Hp → Prop) =>
cnd (sL2.1.2.1 != a1_a) (
J3 ((sL2.1.2.1 != a2_b), ()) sL2.2) (
J3 (false, ()) sL2.2)) (
J1 ((Sl.mk sL2.1.1.a sL2.1.1.len sL2.1.1.cap), ()) sL2.2)
def F_part_even (a0_d : Sl) (a1_a : Int) (a2_b : Int) (h : Hp) (K : Sl → Sl → Hp → Prop) : Prop :=
Let (Array.push h (Obj.cells #[.int .i64 a1_a] 3)) fun (h1 : Hp) =>
Let (Addr.mk (Array.size h) 0 none) fun (p2 : Addr) =>
Let (Array.push h1 (Obj.cells #[.int .i64 a2_b] 3)) fun (h3 : Hp) =>
Let (Addr.mk (Array.size h1) 0 none) fun (p4 : Addr) =>
Jn (J1_part_even a0_d a1_a a2_b K p2 p4) fun (J1 : Sl × Unit → Hp → Prop) =>
∃ n, Lp (L2_part_even a0_d a1_a a2_b J1) n (((Sl.mk none 0 0), 0, ()), h3)

theorem F_part_even_ok (a0_d : Sl) (a1_a : Int) (a2_b : Int) (h : Hp) (K : Sl → Sl → Hp → Prop) (hF : F_part_even a0_d a1_a a2_b h K) : C_part_even a0_d a1_a a2_b h K := by
  have e : bodyVC Try.prog Try.f17 (.seq .no (.seq .no (.seq .no (.join [(10, .at .sl)] (.seq .no (.block (.loop [(10, .at .sl), (20, .at (.int .i64))] (.seq .no (.seq (.cond .no .no) (.seq (.block (.seq .no (.join [(30, .at .bool)] .no (.cond .no .no)))) .no)))))) (.join [(8, .at .sl), (9, .at .sl)] (.seq .no (.block (.loop [(8, .at .sl), (9, .at .sl), (10, .at .sl), (12, .at (.int .i64))] (.seq (.seq .no (.cond .no .no)) (.seq (.block (.seq .no (.seq .no (.cond (.seq .no .no) (.seq .no .no))))) .no))))) (.seq .no (.seq .no (.seq .no .no)))))))) (Option.getD Try.f17.body .skip) [.slice a0_d.a a0_d.len a0_d.cap, .int .i64 a1_a, .int .i64 a2_b] h [.at .sl, .at .sl] (fun s h => K s.1 s.2.1 h) = F_part_even a0_d a1_a a2_b h K := by kernel_rfl
  exact fun_sound mixed Try.func17 rfl (e.mpr hF)

def J1_ref25_At (a0_d : Sl) (a1_i : Int) (a2_k : Int) (K : Int → Hp → Prop) (sJ1 : Unit) (hJ1 : Hp) : Prop :=
idxS a0_d.a a0_d.len a1_i 1 fun (p1 : Addr) =>
ldA .sl hJ1 p1 fun (t2 : Sl) =>
idxS t2.a t2.len a2_k 1 fun (p3 : Addr) =>
ldA (.int .i64) hJ1 p3 fun (t4 : Int) =>
K t4 hJ1
def F_ref25_At (a0_d : Sl) (a1_i : Int) (a2_k : Int) (h : Hp) (K : Int → Hp → Prop) : Prop :=
Jn (J1_ref25_At a0_d a1_i a2_k K) fun (J1 : Unit → Hp → Prop) =>
cnd (decide (a1_i < 0)) (
K 0 h) (
cnd (decide (a2_k < 0)) (
K 0 h) (
cnd (decide (a1_i ≥ (a0_d.len : Int))) (
K 0 h) (
idxS a0_d.a a0_d.len a1_i 1 fun (p5 : Addr) =>
ldA .sl h p5 fun (t6 : Sl) =>
cnd (decide (a2_k ≥ (t6.len : Int))) (
K 0 h) (
J1 (()) h))))

theorem F_ref25_At_ok (a0_d : Sl) (a1_i : Int) (a2_k : Int) (h : Hp) (K : Int → Hp → Prop) (hF : F_ref25_At a0_d a1_i a2_k h K) : C_ref25_At a0_d a1_i a2_k h K := by
  have e : bodyVC Try.prog Try.f18 (.seq .no (.join [] (.seq .no (.cond (.seq .no .no) .no)) (.seq .no .no))) (Option.getD Try.f18.body .skip) [.slice a0_d.a a0_d.len a0_d.cap, .int .i64 a1_i, .int .i64 a2_k] h [.at (.int .i64)] (fun s h => K s.1 h) = F_ref25_At a0_d a1_i a2_k h K := by kernel_rfl
  exact fun_sound mixed Try.func18 rfl (e.mpr hF)

def J1_part_at (a0_d : Sl) (a1_i : Int) (a2_k : Int) (K : Int → Hp → Prop) (sJ1 : Unit) (hJ1 : Hp) : Prop :=
idxS a0_d.a a0_d.len a1_i 1 fun (p1 : Addr) =>
ldA .sl hJ1 p1 fun (t2 : Sl) =>
idxS t2.a t2.len a2_k 1 fun (p3 : Addr) =>
ldA (.int .i64) hJ1 p3 fun (t4 : Int) =>
K t4 hJ1
def F_part_at (a0_d : Sl) (a1_i : Int) (a2_k : Int) (h : Hp) (K : Int → Hp → Prop) : Prop :=
Jn (J1_part_at a0_d a1_i a2_k K) fun (J1 : Unit → Hp → Prop) =>
cnd (decide (a1_i < 0)) (
K 0 h) (
cnd (decide (a2_k < 0)) (
K 0 h) (
cnd (decide (a1_i ≥ (a0_d.len : Int))) (
K 0 h) (
idxS a0_d.a a0_d.len a1_i 1 fun (p5 : Addr) =>
ldA .sl h p5 fun (t6 : Sl) =>
cnd (decide (a2_k ≥ (t6.len : Int))) (
K 0 h) (
J1 (()) h))))

theorem F_part_at_ok (a0_d : Sl) (a1_i : Int) (a2_k : Int) (h : Hp) (K : Int → Hp → Prop) (hF : F_part_at a0_d a1_i a2_k h K) : C_part_at a0_d a1_i a2_k h K := by
  have e : bodyVC Try.prog Try.f19 (.seq .no (.join [] (.seq .no (.cond (.seq .no .no) .no)) (.seq .no .no))) (Option.getD Try.f19.body .skip) [.slice a0_d.a a0_d.len a0_d.cap, .int .i64 a1_i, .int .i64 a2_k] h [.at (.int .i64)] (fun s h => K s.1 h) = F_part_at a0_d a1_i a2_k h K := by kernel_rfl
  exact fun_sound mixed Try.func19 rfl (e.mpr hF)

def J1_part_nearest (a2_left : Sl) (K : Int → Sl → Hp → Prop) (sJ1 : Int × Unit) (hJ1 : Hp) : Prop :=
idxS a2_left.a a2_left.len sJ1.1 1 fun (p1 : Addr) =>
ldA (.int .i64) hJ1 p1 fun (t2 : Int) =>
slcS a2_left.a a2_left.len a2_left.cap none (some sJ1.1) 1 fun (t3 : Option Addr) (l4 c5 : Nat) =>
Let (IntKind.wrap .i64 (sJ1.1 + 1) : Int) fun (t6 : Int) =>
slcS a2_left.a a2_left.len a2_left.cap (some t6) none 1 fun (t7 : Option Addr) (l8 c9 : Nat) =>
Let (Array.push hJ1 (Obj.cells #[.slice t3 l4 c5, .slice t7 l8 c9] 23)) fun (h10 : Hp) =>
Let (Addr.mk (Array.size hJ1) 0 none) fun (p11 : Addr) =>
Ext hJ1 h10 ∧ (
C_slices_Concat_int_int (Sl.mk (some p11) 2 2) h10 fun (t12 : Sl) (h13 : Hp) =>
Ext h10 h13 ∧ (
K t2 t12 h13))
def L1_part_nearest (a0_d : Sl) (a1_p : Int) (a2_left : Sl) (J1 : Int × Unit → Hp → Prop) (sL1 : (Int × Int × Unit) × Hp) (R1 : (Int × Int × Unit) × Hp → Prop) : Prop :=
cnd (decide (sL1.1.2.1 < (a2_left.len : Int))) (
idxS a2_left.a a2_left.len sL1.1.2.1 1 fun (p14 : Addr) =>
ldA (.int .i64) sL1.2 p14 fun (t15 : Int) =>
C_part_at a0_d a1_p t15 sL1.2 fun (t16 : Int) (h17 : Hp) =>
Ext sL1.2 h17 ∧ (
idxS a2_left.a a2_left.len sL1.1.1 1 fun (p18 : Addr) =>
ldA (.int .i64) sL1.2 p18 fun (t19 : Int) =>
C_part_at a0_d a1_p t19 h17 fun (t20 : Int) (h21 : Hp) =>
cnd (decide (t16 < t20)) (
Let (IntKind.wrap .i64 (sL1.1.2.1 + 1) : Int) fun (t22 : Int) =>
R1 ((sL1.1.2.1, t22, ()), h21)) (
Let (IntKind.wrap .i64 (sL1.1.2.1 + 1) : Int) fun (t23 : Int) =>
R1 ((sL1.1.1, t23, ()), h21)))) (
J1 (sL1.1.1, ()) sL1.2)
def F_part_nearest (a0_d : Sl) (a1_p : Int) (a2_left : Sl) (h : Hp) (K : Int → Sl → Hp → Prop) : Prop :=
Jn (J1_part_nearest a2_left K) fun (J1 : Int × Unit → Hp → Prop) =>
∃ n, Lp (L1_part_nearest a0_d a1_p a2_left J1) n ((0, 0, ()), h)

theorem F_part_nearest_ok (a0_d : Sl) (a1_p : Int) (a2_left : Sl) (h : Hp) (K : Int → Sl → Hp → Prop) (hF : F_part_nearest a0_d a1_p a2_left h K) : C_part_nearest a0_d a1_p a2_left h K := by
  have e : bodyVC Try.prog Try.f20 (.seq .no (.seq .no (.join [(8, .at (.int .i64))] (.seq .no (.block (.loop [(8, .at (.int .i64)), (13, .at (.int .i64))] (.seq .no (.seq (.cond .no .no) (.seq (.block (.seq .no (.seq .no (.cond .no .no)))) .no)))))) (.seq .no .no)))) (Option.getD Try.f20.body .skip) [.slice a0_d.a a0_d.len a0_d.cap, .int .i64 a1_p, .slice a2_left.a a2_left.len a2_left.cap] h [.at (.int .i64), .at .sl] (fun s h => K s.1 s.2.1 h) = F_part_nearest a0_d a1_p a2_left h K := by kernel_rfl
  exact fun_sound mixed Try.func20 rfl (e.mpr hF)

def F_slices_Sort_int_int (a0_x : Sl) (h : Hp) (K : Hp → Prop) : Prop :=
Let (IntKind.wrap .u64 ((a0_x.len : Int)) : Int) fun (t1 : Int) =>
C_math_bits_Len t1 h fun (t2 : Int) (h3 : Hp) =>
C_slices_pdqsortOrdered_int a0_x 0 (a0_x.len : Int) t2 h3 fun  (h4 : Hp) =>
K h4

theorem F_slices_Sort_int_int_ok (a0_x : Sl) (h : Hp) (K : Hp → Prop) (hF : F_slices_Sort_int_int a0_x h K) : C_slices_Sort_int_int a0_x h K := by
  have e : bodyVC Try.prog Try.f21 (.seq .no .no) (Option.getD Try.f21.body .skip) [.slice a0_x.a a0_x.len a0_x.cap] h [] (fun s h => K h) = F_slices_Sort_int_int a0_x h K := by kernel_rfl
  exact fun_sound mixed Try.func21 rfl (e.mpr hF)

def L1_slices_Concat_int_int (a0_slices : Sl) (K : Sl → Hp → Prop) (sL1 : (Sl × Int × Unit) × Hp) (R1 : (Sl × Int × Unit) × Hp → Prop) : Prop :=
cnd (decide (sL1.1.2.1 < (a0_slices.len : Int))) (
idxS a0_slices.a a0_slices.len sL1.1.2.1 1 fun (p3 : Addr) =>
ldA .sl sL1.2 p3 fun (t4 : Sl) =>
appS 3 1 8 [.int .i64 0] sL1.1.1.a sL1.1.1.len sL1.1.1.cap (.slice t4.a t4.len t4.cap) sL1.2 fun (t5 : Sl) (h6 : Hp) =>
Let (IntKind.wrap .i64 (sL1.1.2.1 + 1) : Int) fun (t7 : Int) =>
R1 ((t5, t7, ()), h6)) (
K (Sl.mk sL1.1.1.a sL1.1.1.len sL1.1.1.cap) sL1.2)
def J1_slices_Concat_int_int (a0_slices : Sl) (K : Sl → Hp → Prop) (sJ1 : Int × Unit) (hJ1 : Hp) : Prop :=
C_slices_Grow_int_int (Sl.mk none 0 0) sJ1.1 hJ1 fun (t1 : Sl) (h2 : Hp) =>
∃ n, Lp (L1_slices_Concat_int_int a0_slices K) n ((t1, 0, ()), h2)
def L2_slices_Concat_int_int (a0_slices : Sl) (J1 : Int × Unit → Hp → Prop) (sL2 : (Int × Int × Unit) × Hp) (R2 : (Int × Int × Unit) × Hp → Prop) : Prop :=
cnd (decide (sL2.1.2.1 < (a0_slices.len : Int))) (
idxS a0_slices.a a0_slices.len sL2.1.2.1 1 fun (p8 : Addr) =>
ldA .sl sL2.2 p8 fun (t9 : Sl) =>
Let (IntKind.wrap .i64 (sL2.1.1 + (t9.len : Int)) : Int) fun (t10 : Int) =>
cnd (decide (t10 < 0)) (
False) (
Let (IntKind.wrap .i64 (sL2.1.2.1 + 1) : Int) fun (t11 : Int) =>
R2 ((t10, t11, ()), sL2.2))) (
J1 (sL2.1.1, ()) sL2.2)
def F_slices_Concat_int_int (a0_slices : Sl) (h : Hp) (K : Sl → Hp → Prop) : Prop :=
Jn (J1_slices_Concat_int_int a0_slices K) fun (J1 : Int × Unit → Hp → Prop) =>
∃ n, Lp (L2_slices_Concat_int_int a0_slices J1) n ((0, 0, ()), h)

theorem F_slices_Concat_int_int_ok (a0_slices : Sl) (h : Hp) (K : Sl → Hp → Prop) (hF : F_slices_Concat_int_int a0_slices h K) : C_slices_Concat_int_int a0_slices h K := by
  have e : bodyVC Try.prog Try.f22 (.seq .no (.seq .no (.join [(3, .at (.int .i64))] (.seq .no (.block (.loop [(3, .at (.int .i64)), (11, .at (.int .i64))] (.seq .no (.seq (.cond .no .no) (.seq (.block (.seq .no (.seq .no (.seq .no (.cond .no .no))))) .no)))))) (.seq .no (.seq (.seq .no (.block (.loop [(6, .at .sl), (27, .at (.int .i64))] (.seq .no (.seq (.cond .no .no) (.seq (.block (.seq .no .no)) .no)))))) (.seq .no .no)))))) (Option.getD Try.f22.body .skip) [.slice a0_slices.a a0_slices.len a0_slices.cap] h [.at .sl] (fun s h => K s.1 h) = F_slices_Concat_int_int a0_slices h K := by kernel_rfl
  exact fun_sound mixed Try.func22 rfl (e.mpr hF)

def J4_slices_pdqsortOrdered_int (a0_data : Sl) (sL1 : (Int × Int × Int × Bool × Bool × Unit) × Hp) (R1 : (Int × Int × Int × Bool × Bool × Unit) × Hp → Prop) (t1 : Int) (sJ1 : Int × Unit) (sJ2 : Int × Int × Unit) (sJ4 : Bool × Unit) (hJ4 : Hp) : Prop :=
cnd sJ4.1 (
C_slices_partitionEqualOrdered_int a0_data sL1.1.1 sL1.1.2.1 sJ2.1 hJ4 fun (t7 : Int) (h8 : Hp) =>
R1 ((t7, sL1.1.2.1, sJ1.1, sL1.1.2.2.2.1, sL1.1.2.2.2.2.1, ()), h8)) (
C_slices_partitionOrdered_int a0_data sL1.1.1 sL1.1.2.1 sJ2.1 hJ4 fun (t9 : Int) (t10 : Bool) (h11 : Hp) =>
Let (IntKind.wrap .i64 (t9 - sL1.1.1) : Int) fun (t12 : Int) =>
Let (IntKind.wrap .i64 (sL1.1.2.1 - t9) : Int) fun (t13 : Int) =>
(8 ≠ (0 : Int)) ∧ (
Let (IntKind.wrap .i64 (Int.tdiv t1 8) : Int) fun (t14 : Int) =>
cnd (decide (t12 < t13)) (
C_slices_pdqsortOrdered_int a0_data sL1.1.1 t9 sJ1.1 h11 fun  (h15 : Hp) =>
Let (IntKind.wrap .i64 (t9 + 1) : Int) fun (t16 : Int) =>
R1 ((t16, sL1.1.2.1, sJ1.1, decide (t12 ≥ t14), t10, ()), h15)) (
Let (IntKind.wrap .i64 (t9 + 1) : Int) fun (t17 : Int) =>
C_slices_pdqsortOrdered_int a0_data t17 sL1.1.2.1 sJ1.1 h11 fun  (h18 : Hp) =>
R1 ((sL1.1.1, t9, sJ1.1, decide (t13 ≥ t14), t10, ()), h18))))
def J3_slices_pdqsortOrdered_int (a0_data : Sl) (sL1 : (Int × Int × Int × Bool × Bool × Unit) × Hp) (R1 : (Int × Int × Int × Bool × Bool × Unit) × Hp → Prop) (t1 : Int) (sJ1 : Int × Unit) (sJ2 : Int × Int × Unit) (sJ3 : Unit) (hJ3 : Hp) : Prop :=
Jn (J4_slices_pdqsortOrdered_int a0_data sL1 R1 t1 sJ1 sJ2) fun (J4 : Bool × Unit → Hp → Prop) =>
cnd (decide (sL1.1.1 > 0)) (
Let (IntKind.wrap .i64 (sL1.1.1 - 1) : Int) fun (t19 : Int) =>
idxS a0_data.a a0_data.len t19 1 fun (p20 : Addr) =>
ldA (.int .i64) hJ3 p20 fun (t21 : Int) =>
idxS a0_data.a a0_data.len sJ2.1 1 fun (p22 : Addr) =>
ldA (.int .i64) hJ3 p22 fun (t23 : Int) =>
C_cmp_Less_int t21 t23 hJ3 fun (t24 : Bool) (h25 : Hp) =>
J4 (!t24, ()) h25) (
J4 (false, ()) hJ3)
def J5_slices_pdqsortOrdered_int (a0_data : Sl) (K : Hp → Prop) (sL1 : (Int × Int × Int × Bool × Bool × Unit) × Hp) (J3 : Unit → Hp → Prop) (sJ5 : Bool × Unit) (hJ5 : Hp) : Prop :=
cnd sJ5.1 (
C_slices_partialInsertionSortOrdered_int a0_data sL1.1.1 sL1.1.2.1 hJ5 fun (t26 : Bool) (h27 : Hp) =>
cnd t26 (
K h27) (
J3 (()) h27)) (
J3 (()) hJ5)
def J2_slices_pdqsortOrdered_int (a0_data : Sl) (K : Hp → Prop) (sL1 : (Int × Int × Int × Bool × Bool × Unit) × Hp) (R1 : (Int × Int × Int × Bool × Bool × Unit) × Hp → Prop) (t1 : Int) (sJ1 : Int × Unit) (sJ2 : Int × Int × Unit) (hJ2 : Hp) : Prop :=
Jn (J3_slices_pdqsortOrdered_int a0_data sL1 R1 t1 sJ1 sJ2) fun (J3 : Unit → Hp → Prop) =>
Jn (J5_slices_pdqsortOrdered_int a0_data K sL1 J3) fun (J5 : Bool × Unit → Hp → Prop) =>
cnd sL1.1.2.2.2.1 (
cnd sL1.1.2.2.2.2.1 (
J5 ((sJ2.2.1 == 1), ()) hJ2) (
J5 (false, ()) hJ2)) (
J5 (false, ()) hJ2)
def J1_slices_pdqsortOrdered_int (a0_data : Sl) (K : Hp → Prop) (sL1 : (Int × Int × Int × Bool × Bool × Unit) × Hp) (R1 : (Int × Int × Int × Bool × Bool × Unit) × Hp → Prop) (t1 : Int) (sJ1 : Int × Unit) (hJ1 : Hp) : Prop :=
C_slices_choosePivotOrdered_int a0_data sL1.1.1 sL1.1.2.1 hJ1 fun (t4 : Int) (t5 : Int) (h6 : Hp) =>
Jn (J2_slices_pdqsortOrdered_int a0_data K sL1 R1 t1 sJ1) fun (J2 : Int × Int × Unit → Hp → Prop) =>
cnd (t5 == 2) (
C_slices_reverseRangeOrdered_int a0_data sL1.1.1 sL1.1.2.1 h6 fun  (h28 : Hp) =>
Let (IntKind.wrap .i64 (sL1.1.2.1 - 1) : Int) fun (t29 : Int) =>
Let (IntKind.wrap .i64 (t4 - sL1.1.1) : Int) fun (t30 : Int) =>
Let (IntKind.wrap .i64 (t29 - t30) : Int) fun (t31 : Int) =>
J2 (t31, 1, ()) h28) (
J2 (t4, t5, ()) h6)
def L1_slices_pdqsortOrdered_int (a0_data : Sl) (K : Hp → Prop) (sL1 : (Int × Int × Int × Bool × Bool × Unit) × Hp) (R1 : (Int × Int × Int × Bool × Bool × Unit) × Hp → Prop) : Prop :=
Let (IntKind.wrap .i64 (sL1.1.2.1 - sL1.1.1) : Int) fun (t1 : Int) =>
cnd (decide (t1 ≤ 12)) (
C_slices_insertionSortOrdered_int a0_data sL1.1.1 sL1.1.2.1 sL1.2 fun  (h2 : Hp) =>
K h2) (
cnd (sL1.1.2.2.1 == 0) (
C_slices_heapSortOrdered_int a0_data sL1.1.1 sL1.1.2.1 sL1.2 fun  (h3 : Hp) =>
K h3) (
Jn (J1_slices_pdqsortOrdered_int a0_data K sL1 R1 t1) fun (J1 : Int × Unit → Hp → Prop) =>
cnd (!sL1.1.2.2.2.1) (
C_slices_breakPatternsOrdered_int a0_data sL1.1.1 sL1.1.2.1 sL1.2 fun  (h32 : Hp) =>
Let (IntKind.wrap .i64 (sL1.1.2.2.1 - 1) : Int) fun (t33 : Int) =>
J1 (t33, ()) h32) (
J1 (sL1.1.2.2.1, ()) sL1.2)))
def F_slices_pdqsortOrdered_int (a0_data : Sl) (a1_a : Int) (a2_b : Int) (a3_limit : Int) (h : Hp) (K : Hp → Prop) : Prop :=
∃ n, Lp (L1_slices_pdqsortOrdered_int a0_data K) n ((a1_a, a2_b, a3_limit, true, true, ()), h)

theorem F_slices_pdqsortOrdered_int_ok (a0_data : Sl) (a1_a : Int) (a2_b : Int) (a3_limit : Int) (h : Hp) (K : Hp → Prop) (hF : F_slices_pdqsortOrdered_int a0_data a1_a a2_b a3_limit h K) : C_slices_pdqsortOrdered_int a0_data a1_a a2_b a3_limit h K := by
  have e : bodyVC Try.prog Try.f23 (.seq .no (.seq .no (.block (.loop [(1, .at (.int .i64)), (2, .at (.int .i64)), (3, .at (.int .i64)), (8, .at .bool), (9, .at .bool)] (.block (.seq .no (.seq (.seq .no (.cond (.seq .no .no) .no)) (.seq (.seq .no (.cond (.seq .no .no) .no)) (.join [(3, .at (.int .i64))] (.seq .no (.cond (.seq .no .no) .no)) (.seq .no (.join [(11, .at (.int .i64)), (12, .at (.int .i64))] (.seq .no (.cond (.seq .no (.seq .no .no)) .no)) (.join [] (.join [(68, .at .bool)] .no (.cond (.seq .no (.cond .no .no)) .no)) (.seq (.join [(87, .at .bool)] .no (.cond (.seq .no (.seq .no .no)) .no)) (.seq .no (.seq .no (.seq .no (.seq .no (.seq .no (.cond (.seq .no (.seq .no .no)) (.seq .no (.seq .no .no))))))))))))))))))))) (Option.getD Try.f23.body .skip) [.slice a0_data.a a0_data.len a0_data.cap, .int .i64 a1_a, .int .i64 a2_b, .int .i64 a3_limit] h [] (fun s h => K h) = F_slices_pdqsortOrdered_int a0_data a1_a a2_b a3_limit h K := by kernel_rfl
  exact fun_sound mixed Try.func23 rfl (e.mpr hF)

def F_math_bits_Len (a0_x : Int) (h : Hp) (K : Int → Hp → Prop) : Prop :=
C_math_bits_Len64 a0_x h fun (t1 : Int) (h2 : Hp) =>
K t1 h2

theorem F_math_bits_Len_ok (a0_x : Int) (h : Hp) (K : Int → Hp → Prop) (hF : F_math_bits_Len a0_x h K) : C_math_bits_Len a0_x h K := by
  have e : bodyVC Try.prog Try.f24 (.seq .no (.seq (.cond (.seq .no .no) .no) (.seq .no .no))) (Option.getD Try.f24.body .skip) [.int .u64 a0_x] h [.at (.int .i64)] (fun s h => K s.1 h) = F_math_bits_Len a0_x h K := by kernel_rfl
  exact fun_sound mixed Try.func24 rfl (e.mpr hF)

def J1_slices_Grow_int_int (a0_s : Sl) (a1_n : Int) (K : Sl → Hp → Prop) (sJ1 : Unit) (hJ1 : Hp) : Prop :=
Let (IntKind.wrap .i64 ((a0_s.cap : Int) - (a0_s.len : Int)) : Int) fun (t1 : Int) =>
Let (IntKind.wrap .i64 (a1_n - t1) : Int) fun (t2 : Int) =>
cnd (decide (t2 > 0)) (
slcS a0_s.a a0_s.len a0_s.cap none (some (a0_s.cap : Int)) 1 fun (t3 : Option Addr) (l4 c5 : Nat) =>
appZ 3 1 8 [.int .i64 0] t3 l4 c5 t2 hJ1 fun (t6 : Sl) (h7 : Hp) =>
slcS t6.a t6.len t6.cap none (some (a0_s.len : Int)) 1 fun (t8 : Option Addr) (l9 c10 : Nat) =>
K (Sl.mk t8 l9 c10) h7) (
K a0_s hJ1)
def F_slices_Grow_int_int (a0_s : Sl) (a1_n : Int) (h : Hp) (K : Sl → Hp → Prop) : Prop :=
Jn (J1_slices_Grow_int_int a0_s a1_n K) fun (J1 : Unit → Hp → Prop) =>
cnd (decide (a1_n < 0)) (
False) (
J1 (()) h)

theorem F_slices_Grow_int_int_ok (a0_s : Sl) (a1_n : Int) (h : Hp) (K : Sl → Hp → Prop) (hF : F_slices_Grow_int_int a0_s a1_n h K) : C_slices_Grow_int_int a0_s a1_n h K := by
  have e : bodyVC Try.prog Try.f25 (.seq .no (.join [] (.seq .no (.cond .no .no)) (.seq (.seq .no (.seq .no (.cond .no .no))) (.seq .no .no)))) (Option.getD Try.f25.body .skip) [.slice a0_s.a a0_s.len a0_s.cap, .int .i64 a1_n] h [.at .sl] (fun s h => K s.1 h) = F_slices_Grow_int_int a0_s a1_n h K := by kernel_rfl
  exact fun_sound mixed Try.func25 rfl (e.mpr hF)

def J1_slices_insertionSortOrdered_int (a0_data : Sl) (sL2 : (Int × Unit) × Hp) (R2 : (Int × Unit) × Hp → Prop) (sJ1 : Unit) (hJ1 : Hp) : Prop :=
Let (IntKind.wrap .i64 (sL2.1.1 - 1) : Int) fun (t2 : Int) =>
Let (IntKind.wrap .i64 (sL2.1.1 - 1) : Int) fun (t3 : Int) =>
idxS a0_data.a a0_data.len t3 1 fun (p4 : Addr) =>
ldA (.int .i64) hJ1 p4 fun (t5 : Int) =>
idxS a0_data.a a0_data.len sL2.1.1 1 fun (p6 : Addr) =>
ldA (.int .i64) hJ1 p6 fun (t7 : Int) =>
idxS a0_data.a a0_data.len sL2.1.1 1 fun (p8 : Addr) =>
((1 : Nat) = 1) ∧ (
stC hJ1 p8 (
Let (hset hJ1 p8 (.int .i64 t5)) fun (h9 : Hp) =>
idxS a0_data.a a0_data.len t2 1 fun (p10 : Addr) =>
((1 : Nat) = 1) ∧ (
stC h9 p10 (
Let (hset h9 p10 (.int .i64 t7)) fun (h11 : Hp) =>
Let (IntKind.wrap .i64 (sL2.1.1 - 1) : Int) fun (t12 : Int) =>
R2 ((t12, ()), h11)))))
def L2_slices_insertionSortOrdered_int (a0_data : Sl) (a1_a : Int) (sL1 : (Int × Unit) × Hp) (R1 : (Int × Unit) × Hp → Prop) (sL2 : (Int × Unit) × Hp) (R2 : (Int × Unit) × Hp → Prop) : Prop :=
Jn (J1_slices_insertionSortOrdered_int a0_data sL2 R2) fun (J1 : Unit → Hp → Prop) =>
cnd (decide (sL2.1.1 > a1_a)) (
idxS a0_data.a a0_data.len sL2.1.1 1 fun (p13 : Addr) =>
ldA (.int .i64) sL2.2 p13 fun (t14 : Int) =>
Let (IntKind.wrap .i64 (sL2.1.1 - 1) : Int) fun (t15 : Int) =>
idxS a0_data.a a0_data.len t15 1 fun (p16 : Addr) =>
ldA (.int .i64) sL2.2 p16 fun (t17 : Int) =>
C_cmp_Less_int t14 t17 sL2.2 fun (t18 : Bool) (h19 : Hp) =>
cnd t18 (
J1 (()) h19) (
Let (IntKind.wrap .i64 (sL1.1.1 + 1) : Int) fun (t20 : Int) =>
R1 ((t20, ()), h19))) (
Let (IntKind.wrap .i64 (sL1.1.1 + 1) : Int) fun (t21 : Int) =>
R1 ((t21, ()), sL2.2))
def L1_slices_insertionSortOrdered_int (a0_data : Sl) (a1_a : Int) (a2_b : Int) (K : Hp → Prop) (sL1 : (Int × Unit) × Hp) (R1 : (Int × Unit) × Hp → Prop) : Prop :=
cnd (decide (sL1.1.1 < a2_b)) (
∃ n, Lp (L2_slices_insertionSortOrdered_int a0_data a1_a sL1 R1) n ((sL1.1.1, ()), sL1.2)) (
K sL1.2)
def F_slices_insertionSortOrdered_int (a0_data : Sl) (a1_a : Int) (a2_b : Int) (h : Hp) (K : Hp → Prop) : Prop :=
Let (IntKind.wrap .i64 (a1_a + 1) : Int) fun (t1 : Int) =>
∃ n, Lp (L1_slices_insertionSortOrdered_int a0_data a1_a a2_b K) n ((t1, ()), h)

theorem F_slices_insertionSortOrdered_int_ok (a0_data : Sl) (a1_a : Int) (a2_b : Int) (h : Hp) (K : Hp → Prop) (hF : F_slices_insertionSortOrdered_int a0_data a1_a a2_b h K) : C_slices_insertionSortOrdered_int a0_data a1_a a2_b h K := by
  have e : bodyVC Try.prog Try.f26 (.seq .no (.block (.loop [(6, .at (.int .i64))] (.seq (.seq .no (.cond .no .no)) (.seq (.block (.seq .no (.block (.loop [(7, .at (.int .i64))] (.join [] (.seq .no (.cond .no .no)) (.seq (.block .no) .no)))))) .no))))) (Option.getD Try.f26.body .skip) [.slice a0_data.a a0_data.len a0_data.cap, .int .i64 a1_a, .int .i64 a2_b] h [] (fun s h => K h) = F_slices_insertionSortOrdered_int a0_data a1_a a2_b h K := by kernel_rfl
  exact fun_sound mixed Try.func26 rfl (e.mpr hF)

def L1_slices_heapSortOrdered_int (a0_data : Sl) (a1_a : Int) (K : Hp → Prop) (sL1 : (Int × Unit) × Hp) (R1 : (Int × Unit) × Hp → Prop) : Prop :=
cnd (decide (sL1.1.1 ≥ 0)) (
Let (IntKind.wrap .i64 (a1_a + sL1.1.1) : Int) fun (t3 : Int) =>
Let (IntKind.wrap .i64 (a1_a + sL1.1.1) : Int) fun (t4 : Int) =>
idxS a0_data.a a0_data.len t4 1 fun (p5 : Addr) =>
ldA (.int .i64) sL1.2 p5 fun (t6 : Int) =>
idxS a0_data.a a0_data.len a1_a 1 fun (p7 : Addr) =>
ldA (.int .i64) sL1.2 p7 fun (t8 : Int) =>
idxS a0_data.a a0_data.len a1_a 1 fun (p9 : Addr) =>
((1 : Nat) = 1) ∧ (
stC sL1.2 p9 (
Let (hset sL1.2 p9 (.int .i64 t6)) fun (h10 : Hp) =>
idxS a0_data.a a0_data.len t3 1 fun (p11 : Addr) =>
((1 : Nat) = 1) ∧ (
stC h10 p11 (
Let (hset h10 p11 (.int .i64 t8)) fun (h12 : Hp) =>
C_slices_siftDownOrdered_int a0_data 0 sL1.1.1 a1_a h12 fun  (h13 : Hp) =>
Let (IntKind.wrap .i64 (sL1.1.1 - 1) : Int) fun (t14 : Int) =>
R1 ((t14, ()), h13)))))) (
K sL1.2)
def J1_slices_heapSortOrdered_int (a0_data : Sl) (a1_a : Int) (K : Hp → Prop) (t1 : Int) (sJ1 : Unit) (hJ1 : Hp) : Prop :=
Let (IntKind.wrap .i64 (t1 - 1) : Int) fun (t2 : Int) =>
∃ n, Lp (L1_slices_heapSortOrdered_int a0_data a1_a K) n ((t2, ()), hJ1)
def L2_slices_heapSortOrdered_int (a0_data : Sl) (a1_a : Int) (t1 : Int) (J1 : Unit → Hp → Prop) (sL2 : (Int × Unit) × Hp) (R2 : (Int × Unit) × Hp → Prop) : Prop :=
cnd (decide (sL2.1.1 ≥ 0)) (
C_slices_siftDownOrdered_int a0_data sL2.1.1 t1 a1_a sL2.2 fun  (h17 : Hp) =>
Let (IntKind.wrap .i64 (sL2.1.1 - 1) : Int) fun (t18 : Int) =>
R2 ((t18, ()), h17)) (
J1 (()) sL2.2)
def F_slices_heapSortOrdered_int (a0_data : Sl) (a1_a : Int) (a2_b : Int) (h : Hp) (K : Hp → Prop) : Prop :=
Let (IntKind.wrap .i64 (a2_b - a1_a) : Int) fun (t1 : Int) =>
Jn (J1_slices_heapSortOrdered_int a0_data a1_a K t1) fun (J1 : Unit → Hp → Prop) =>
Let (IntKind.wrap .i64 (t1 - 1) : Int) fun (t15 : Int) =>
(2 ≠ (0 : Int)) ∧ (
Let (IntKind.wrap .i64 (Int.tdiv t15 2) : Int) fun (t16 : Int) =>
∃ n, Lp (L2_slices_heapSortOrdered_int a0_data a1_a t1 J1) n ((t16, ()), h))

theorem F_slices_heapSortOrdered_int_ok (a0_data : Sl) (a1_a : Int) (a2_b : Int) (h : Hp) (K : Hp → Prop) (hF : F_slices_heapSortOrdered_int a0_data a1_a a2_b h K) : C_slices_heapSortOrdered_int a0_data a1_a a2_b h K := by
  have e : bodyVC Try.prog Try.f27 (.seq .no (.seq .no (.seq .no (.join [] (.seq .no (.block (.loop [(9, .at (.int .i64))] (.seq (.seq .no (.cond .no .no)) (.seq (.block .no) .no))))) (.seq .no (.block (.loop [(10, .at (.int .i64))] (.seq (.seq .no (.cond .no .no)) (.seq (.block (.seq .no .no)) .no))))))))) (Option.getD Try.f27.body .skip) [.slice a0_data.a a0_data.len a0_data.cap, .int .i64 a1_a, .int .i64 a2_b] h [] (fun s h => K h) = F_slices_heapSortOrdered_int a0_data a1_a a2_b h K := by kernel_rfl
  exact fun_sound mixed Try.func27 rfl (e.mpr hF)

def J1_slices_breakPatternsOrdered_int (a0_data : Sl) (a1_a : Int) (sL1 : (Int × Unit) × Hp) (R1 : (Int × Unit) × Hp → Prop) (sJ1 : Int × Unit) (hJ1 : Hp) : Prop :=
Let (IntKind.wrap .i64 (a1_a + sJ1.1) : Int) fun (t21 : Int) =>
Let (IntKind.wrap .i64 (a1_a + sJ1.1) : Int) fun (t22 : Int) =>
idxS a0_data.a a0_data.len t22 1 fun (p23 : Addr) =>
ldA (.int .i64) hJ1 p23 fun (t24 : Int) =>
idxS a0_data.a a0_data.len sL1.1.1 1 fun (p25 : Addr) =>
ldA (.int .i64) hJ1 p25 fun (t26 : Int) =>
idxS a0_data.a a0_data.len sL1.1.1 1 fun (p27 : Addr) =>
((1 : Nat) = 1) ∧ (
stC hJ1 p27 (
Let (hset hJ1 p27 (.int .i64 t24)) fun (h28 : Hp) =>
idxS a0_data.a a0_data.len t21 1 fun (p29 : Addr) =>
((1 : Nat) = 1) ∧ (
stC h28 p29 (
Let (hset h28 p29 (.int .i64 t26)) fun (h30 : Hp) =>
Let (IntKind.wrap .i64 (sL1.1.1 + 1) : Int) fun (t31 : Int) =>
R1 ((t31, ()), h30)))))
def L1_slices_breakPatternsOrdered_int (a0_data : Sl) (a1_a : Int) (K : Hp → Prop) (t1 : Int) (p4 : Addr) (t6 : Int) (sL1 : (Int × Unit) × Hp) (R1 : (Int × Unit) × Hp → Prop) : Prop :=
(4 ≠ (0 : Int)) ∧ (
Let (IntKind.wrap .i64 (Int.tdiv t1 4) : Int) fun (t12 : Int) =>
Let (IntKind.wrap .i64 (t12 * 2) : Int) fun (t13 : Int) =>
Let (IntKind.wrap .i64 (a1_a + t13) : Int) fun (t14 : Int) =>
Let (IntKind.wrap .i64 (t14 + 1) : Int) fun (t15 : Int) =>
cnd (decide (sL1.1.1 ≤ t15)) (
C_slices_xorshift_Next (some p4) sL1.2 fun (t16 : Int) (h17 : Hp) =>
Let (IntKind.wrap .u64 (t6 - 1) : Int) fun (t18 : Int) =>
Let (ibAnd .u64 t16 t18 : Int) fun (t19 : Int) =>
Let (IntKind.wrap .i64 (t19) : Int) fun (t20 : Int) =>
Jn (J1_slices_breakPatternsOrdered_int a0_data a1_a sL1 R1) fun (J1 : Int × Unit → Hp → Prop) =>
cnd (decide (t20 ≥ t1)) (
Let (IntKind.wrap .i64 (t20 - t1) : Int) fun (t32 : Int) =>
J1 (t32, ()) h17) (
J1 (t20, ()) h17)) (
K sL1.2))
def F_slices_breakPatternsOrdered_int (a0_data : Sl) (a1_a : Int) (a2_b : Int) (h : Hp) (K : Hp → Prop) : Prop :=
Let (IntKind.wrap .i64 (a2_b - a1_a) : Int) fun (t1 : Int) =>
cnd (decide (t1 ≥ 8)) (
Let (IntKind.wrap .u64 (t1) : Int) fun (t2 : Int) =>
Let (Array.push h (Obj.cells #[.int .u64 0] 60)) fun (h3 : Hp) =>
Let (Addr.mk (Array.size h) 0 none) fun (p4 : Addr) =>
((1 : Nat) = 1) ∧ (
stC h3 p4 (
Let (hset h3 p4 (.int .u64 t2)) fun (h5 : Hp) =>
C_slices_nextPowerOfTwo t1 h5 fun (t6 : Int) (h7 : Hp) =>
(4 ≠ (0 : Int)) ∧ (
Let (IntKind.wrap .i64 (Int.tdiv t1 4) : Int) fun (t8 : Int) =>
Let (IntKind.wrap .i64 (t8 * 2) : Int) fun (t9 : Int) =>
Let (IntKind.wrap .i64 (a1_a + t9) : Int) fun (t10 : Int) =>
Let (IntKind.wrap .i64 (t10 - 1) : Int) fun (t11 : Int) =>
∃ n, Lp (L1_slices_breakPatternsOrdered_int a0_data a1_a K t1 p4 t6) n ((t11, ()), h7))))) (
K h)

theorem F_slices_breakPatternsOrdered_int_ok (a0_data : Sl) (a1_a : Int) (a2_b : Int) (h : Hp) (K : Hp → Prop) (hF : F_slices_breakPatternsOrdered_int a0_data a1_a a2_b h K) : C_slices_breakPatternsOrdered_int a0_data a1_a a2_b h K := by
  have e : bodyVC Try.prog Try.f28 (.seq .no (.seq .no (.cond (.seq .no (.seq .no (.seq .no (.block (.loop [(9, .at (.int .i64))] (.seq (.seq .no (.cond .no .no)) (.seq (.block (.seq .no (.join [(10, .at (.int .i64))] (.seq .no (.cond .no .no)) .no))) .no))))))) .no))) (Option.getD Try.f28.body .skip) [.slice a0_data.a a0_data.len a0_data.cap, .int .i64 a1_a, .int .i64 a2_b] h [] (fun s h => K h) = F_slices_breakPatternsOrdered_int a0_data a1_a a2_b h K := by kernel_rfl
  exact fun_sound mixed Try.func28 rfl (e.mpr hF)

def J1_slices_choosePivotOrdered_int (K : Int → Int → Hp → Prop) (p3 : Addr) (sJ1 : Int × Unit) (hJ1 : Hp) : Prop :=
ldA (.int .i64) hJ1 p3 fun (t13 : Int) =>
cnd (t13 == 0) (
K sJ1.1 1 hJ1) (
cnd (t13 == 12) (
K sJ1.1 2 hJ1) (
K sJ1.1 0 hJ1))
def F_slices_choosePivotOrdered_int (a0_data : Sl) (a1_a : Int) (a2_b : Int) (h : Hp) (K : Int → Int → Hp → Prop) : Prop :=
Let (IntKind.wrap .i64 (a2_b - a1_a) : Int) fun (t1 : Int) =>
Let (Array.push h (Obj.cells #[.int .i64 0] 3)) fun (h2 : Hp) =>
Let (Addr.mk (Array.size h) 0 none) fun (p3 : Addr) =>
(4 ≠ (0 : Int)) ∧ (
Let (IntKind.wrap .i64 (Int.tdiv t1 4) : Int) fun (t4 : Int) =>
Let (IntKind.wrap .i64 (t4 * 1) : Int) fun (t5 : Int) =>
Let (IntKind.wrap .i64 (a1_a + t5) : Int) fun (t6 : Int) =>
(4 ≠ (0 : Int)) ∧ (
Let (IntKind.wrap .i64 (Int.tdiv t1 4) : Int) fun (t7 : Int) =>
Let (IntKind.wrap .i64 (t7 * 2) : Int) fun (t8 : Int) =>
Let (IntKind.wrap .i64 (a1_a + t8) : Int) fun (t9 : Int) =>
(4 ≠ (0 : Int)) ∧ (
Let (IntKind.wrap .i64 (Int.tdiv t1 4) : Int) fun (t10 : Int) =>
Let (IntKind.wrap .i64 (t10 * 3) : Int) fun (t11 : Int) =>
Let (IntKind.wrap .i64 (a1_a + t11) : Int) fun (t12 : Int) =>
Jn (J1_slices_choosePivotOrdered_int K p3) fun (J1 : Int × Unit → Hp → Prop) =>
cnd (decide (t1 ≥ 8)) (
cnd (decide (t1 ≥ 50)) (
C_slices_medianAdjacentOrdered_int a0_data t6 (some p3) h2 fun (t14 : Int) (h15 : Hp) =>
C_slices_medianAdjacentOrdered_int a0_data t9 (some p3) h15 fun (t16 : Int) (h17 : Hp) =>
C_slices_medianAdjacentOrdered_int a0_data t12 (some p3) h17 fun (t18 : Int) (h19 : Hp) =>
C_slices_medianOrdered_int a0_data t14 t16 t18 (some p3) h19 fun (t20 : Int) (h21 : Hp) =>
J1 (t20, ()) h21) (
C_slices_medianOrdered_int a0_data t6 t9 t12 (some p3) h2 fun (t22 : Int) (h23 : Hp) =>
J1 (t22, ()) h23)) (
J1 (t9, ()) h2))))

theorem F_slices_choosePivotOrdered_int_ok (a0_data : Sl) (a1_a : Int) (a2_b : Int) (h : Hp) (K : Int → Int → Hp → Prop) (hF : F_slices_choosePivotOrdered_int a0_data a1_a a2_b h K) : C_slices_choosePivotOrdered_int a0_data a1_a a2_b h K := by
  have e : bodyVC Try.prog Try.f29 (.seq .no (.seq .no (.seq .no (.seq .no (.seq .no (.seq .no (.join [(11, .at (.int .i64))] (.seq .no (.cond (.seq (.seq .no (.cond (.seq .no (.seq .no .no)) .no)) .no) .no)) (.seq .no (.block (.seq .no (.cond (.seq .no .no) (.seq .no (.cond (.seq .no .no) (.seq .no .no)))))))))))))) (Option.getD Try.f29.body .skip) [.slice a0_data.a a0_data.len a0_data.cap, .int .i64 a1_a, .int .i64 a2_b] h [.at (.int .i64), .at (.int .i64)] (fun s h => K s.1 s.2.1 h) = F_slices_choosePivotOrdered_int a0_data a1_a a2_b h K := by kernel_rfl
  exact fun_sound mixed Try.func29 rfl (e.mpr hF)

def L1_slices_reverseRangeOrdered_int (a0_data : Sl) (K : Hp → Prop) (sL1 : (Int × Int × Unit) × Hp) (R1 : (Int × Int × Unit) × Hp → Prop) : Prop :=
cnd (decide (sL1.1.1 < sL1.1.2.1)) (
idxS a0_data.a a0_data.len sL1.1.2.1 1 fun (p2 : Addr) =>
ldA (.int .i64) sL1.2 p2 fun (t3 : Int) =>
idxS a0_data.a a0_data.len sL1.1.1 1 fun (p4 : Addr) =>
ldA (.int .i64) sL1.2 p4 fun (t5 : Int) =>
idxS a0_data.a a0_data.len sL1.1.1 1 fun (p6 : Addr) =>
((1 : Nat) = 1) ∧ (
stC sL1.2 p6 (
Let (hset sL1.2 p6 (.int .i64 t3)) fun (h7 : Hp) =>
idxS a0_data.a a0_data.len sL1.1.2.1 1 fun (p8 : Addr) =>
((1 : Nat) = 1) ∧ (
stC h7 p8 (
Let (hset h7 p8 (.int .i64 t5)) fun (h9 : Hp) =>
Let (IntKind.wrap .i64 (sL1.1.1 + 1) : Int) fun (t10 : Int) =>
Let (IntKind.wrap .i64 (sL1.1.2.1 - 1) : Int) fun (t11 : Int) =>
R1 ((t10, t11, ()), h9)))))) (
K sL1.2)
def F_slices_reverseRangeOrdered_int (a0_data : Sl) (a1_a : Int) (a2_b : Int) (h : Hp) (K : Hp → Prop) : Prop :=
Let (IntKind.wrap .i64 (a2_b - 1) : Int) fun (t1 : Int) =>
∃ n, Lp (L1_slices_reverseRangeOrdered_int a0_data K) n ((a1_a, t1, ()), h)

theorem F_slices_reverseRangeOrdered_int_ok (a0_data : Sl) (a1_a : Int) (a2_b : Int) (h : Hp) (K : Hp → Prop) (hF : F_slices_reverseRangeOrdered_int a0_data a1_a a2_b h K) : C_slices_reverseRangeOrdered_int a0_data a1_a a2_b h K := by
  have e : bodyVC Try.prog Try.f30 (.seq .no (.seq .no (.block (.loop [(6, .at (.int .i64)), (7, .at (.int .i64))] (.seq (.seq .no (.cond .no .no)) (.block (.seq .no (.seq .no .no)))))))) (Option.getD Try.f30.body .skip) [.slice a0_data.a a0_data.len a0_data.cap, .int .i64 a1_a, .int .i64 a2_b] h [] (fun s h => K h) = F_slices_reverseRangeOrdered_int a0_data a1_a a2_b h K := by kernel_rfl
  exact fun_sound mixed Try.func30 rfl (e.mpr hF)

def L2_slices_partialInsertionSortOrdered_int (a0_data : Sl) (a2_b : Int) (sL1 : (Int × Int × Unit) × Hp) (R1 : (Int × Int × Unit) × Hp → Prop) (sJ1 : Int × Unit) (sL2 : (Int × Unit) × Hp) (R2 : (Int × Unit) × Hp → Prop) : Prop :=
cnd (decide (sL2.1.1 < a2_b)) (
idxS a0_data.a a0_data.len sL2.1.1 1 fun (p15 : Addr) =>
ldA (.int .i64) sL2.2 p15 fun (t16 : Int) =>
Let (IntKind.wrap .i64 (sL2.1.1 - 1) : Int) fun (t17 : Int) =>
idxS a0_data.a a0_data.len t17 1 fun (p18 : Addr) =>
ldA (.int .i64) sL2.2 p18 fun (t19 : Int) =>
C_cmp_Less_int t16 t19 sL2.2 fun (t20 : Bool) (h21 : Hp) =>
cnd (!t20) (
Let (IntKind.wrap .i64 (sL1.1.2.1 + 1) : Int) fun (t22 : Int) =>
R1 ((sJ1.1, t22, ()), h21)) (
Let (IntKind.wrap .i64 (sL2.1.1 - 1) : Int) fun (t23 : Int) =>
Let (IntKind.wrap .i64 (sL2.1.1 - 1) : Int) fun (t24 : Int) =>
idxS a0_data.a a0_data.len t24 1 fun (p25 : Addr) =>
ldA (.int .i64) h21 p25 fun (t26 : Int) =>
idxS a0_data.a a0_data.len sL2.1.1 1 fun (p27 : Addr) =>
ldA (.int .i64) h21 p27 fun (t28 : Int) =>
idxS a0_data.a a0_data.len sL2.1.1 1 fun (p29 : Addr) =>
((1 : Nat) = 1) ∧ (
stC h21 p29 (
Let (hset h21 p29 (.int .i64 t26)) fun (h30 : Hp) =>
idxS a0_data.a a0_data.len t23 1 fun (p31 : Addr) =>
((1 : Nat) = 1) ∧ (
stC h30 p31 (
Let (hset h30 p31 (.int .i64 t28)) fun (h32 : Hp) =>
Let (IntKind.wrap .i64 (sL2.1.1 + 1) : Int) fun (t33 : Int) =>
R2 ((t33, ()), h32))))))) (
Let (IntKind.wrap .i64 (sL1.1.2.1 + 1) : Int) fun (t34 : Int) =>
R1 ((sJ1.1, t34, ()), sL2.2))
def J2_slices_partialInsertionSortOrdered_int (a0_data : Sl) (a2_b : Int) (sL1 : (Int × Int × Unit) × Hp) (R1 : (Int × Int × Unit) × Hp → Prop) (sJ1 : Int × Unit) (sJ2 : Unit) (hJ2 : Hp) : Prop :=
Let (IntKind.wrap .i64 (a2_b - sJ1.1) : Int) fun (t13 : Int) =>
cnd (decide (t13 ≥ 2)) (
Let (IntKind.wrap .i64 (sJ1.1 + 1) : Int) fun (t14 : Int) =>
∃ n, Lp (L2_slices_partialInsertionSortOrdered_int a0_data a2_b sL1 R1 sJ1) n ((t14, ()), hJ2)) (
Let (IntKind.wrap .i64 (sL1.1.2.1 + 1) : Int) fun (t35 : Int) =>
R1 ((sJ1.1, t35, ()), hJ2))
def L3_slices_partialInsertionSortOrdered_int (a0_data : Sl) (J2 : Unit → Hp → Prop) (sL3 : (Int × Unit) × Hp) (R3 : (Int × Unit) × Hp → Prop) : Prop :=
cnd (decide (sL3.1.1 ≥ 1)) (
idxS a0_data.a a0_data.len sL3.1.1 1 fun (p38 : Addr) =>
ldA (.int .i64) sL3.2 p38 fun (t39 : Int) =>
Let (IntKind.wrap .i64 (sL3.1.1 - 1) : Int) fun (t40 : Int) =>
idxS a0_data.a a0_data.len t40 1 fun (p41 : Addr) =>
ldA (.int .i64) sL3.2 p41 fun (t42 : Int) =>
C_cmp_Less_int t39 t42 sL3.2 fun (t43 : Bool) (h44 : Hp) =>
cnd (!t43) (
J2 (()) h44) (
Let (IntKind.wrap .i64 (sL3.1.1 - 1) : Int) fun (t45 : Int) =>
Let (IntKind.wrap .i64 (sL3.1.1 - 1) : Int) fun (t46 : Int) =>
idxS a0_data.a a0_data.len t46 1 fun (p47 : Addr) =>
ldA (.int .i64) h44 p47 fun (t48 : Int) =>
idxS a0_data.a a0_data.len sL3.1.1 1 fun (p49 : Addr) =>
ldA (.int .i64) h44 p49 fun (t50 : Int) =>
idxS a0_data.a a0_data.len sL3.1.1 1 fun (p51 : Addr) =>
((1 : Nat) = 1) ∧ (
stC h44 p51 (
Let (hset h44 p51 (.int .i64 t48)) fun (h52 : Hp) =>
idxS a0_data.a a0_data.len t45 1 fun (p53 : Addr) =>
((1 : Nat) = 1) ∧ (
stC h52 p53 (
Let (hset h52 p53 (.int .i64 t50)) fun (h54 : Hp) =>
Let (IntKind.wrap .i64 (sL3.1.1 - 1) : Int) fun (t55 : Int) =>
R3 ((t55, ()), h54))))))) (
J2 (()) sL3.2)
def J1_slices_partialInsertionSortOrdered_int (a0_data : Sl) (a1_a : Int) (a2_b : Int) (K : Bool → Hp → Prop) (sL1 : (Int × Int × Unit) × Hp) (R1 : (Int × Int × Unit) × Hp → Prop) (sJ1 : Int × Unit) (hJ1 : Hp) : Prop :=
cnd (sJ1.1 == a2_b) (
K true hJ1) (
Let (IntKind.wrap .i64 (a2_b - a1_a) : Int) fun (t2 : Int) =>
cnd (decide (t2 < 50)) (
K false hJ1) (
Let (IntKind.wrap .i64 (sJ1.1 - 1) : Int) fun (t3 : Int) =>
Let (IntKind.wrap .i64 (sJ1.1 - 1) : Int) fun (t4 : Int) =>
idxS a0_data.a a0_data.len t4 1 fun (p5 : Addr) =>
ldA (.int .i64) hJ1 p5 fun (t6 : Int) =>
idxS a0_data.a a0_data.len sJ1.1 1 fun (p7 : Addr) =>
ldA (.int .i64) hJ1 p7 fun (t8 : Int) =>
idxS a0_data.a a0_data.len sJ1.1 1 fun (p9 : Addr) =>
((1 : Nat) = 1) ∧ (
stC hJ1 p9 (
Let (hset hJ1 p9 (.int .i64 t6)) fun (h10 : Hp) =>
idxS a0_data.a a0_data.len t3 1 fun (p11 : Addr) =>
((1 : Nat) = 1) ∧ (
stC h10 p11 (
Let (hset h10 p11 (.int .i64 t8)) fun (h12 : Hp) =>
Jn (J2_slices_partialInsertionSortOrdered_int a0_data a2_b sL1 R1 sJ1) fun (J2 : Unit → Hp → Prop) =>
Let (IntKind.wrap .i64 (sJ1.1 - a1_a) : Int) fun (t36 : Int) =>
cnd (decide (t36 ≥ 2)) (
Let (IntKind.wrap .i64 (sJ1.1 - 1) : Int) fun (t37 : Int) =>
∃ n, Lp (L3_slices_partialInsertionSortOrdered_int a0_data J2) n ((t37, ()), h12)) (
J2 (()) h12)))))))
def L4_slices_partialInsertionSortOrdered_int (a0_data : Sl) (a2_b : Int) (J1 : Int × Unit → Hp → Prop) (sL4 : (Int × Unit) × Hp) (R4 : (Int × Unit) × Hp → Prop) : Prop :=
cnd (decide (sL4.1.1 < a2_b)) (
idxS a0_data.a a0_data.len sL4.1.1 1 fun (p56 : Addr) =>
ldA (.int .i64) sL4.2 p56 fun (t57 : Int) =>
Let (IntKind.wrap .i64 (sL4.1.1 - 1) : Int) fun (t58 : Int) =>
idxS a0_data.a a0_data.len t58 1 fun (p59 : Addr) =>
ldA (.int .i64) sL4.2 p59 fun (t60 : Int) =>
C_cmp_Less_int t57 t60 sL4.2 fun (t61 : Bool) (h62 : Hp) =>
cnd (!t61) (
Let (IntKind.wrap .i64 (sL4.1.1 + 1) : Int) fun (t63 : Int) =>
R4 ((t63, ()), h62)) (
J1 (sL4.1.1, ()) h62)) (
J1 (sL4.1.1, ()) sL4.2)
def L1_slices_partialInsertionSortOrdered_int (a0_data : Sl) (a1_a : Int) (a2_b : Int) (K : Bool → Hp → Prop) (sL1 : (Int × Int × Unit) × Hp) (R1 : (Int × Int × Unit) × Hp → Prop) : Prop :=
cnd (decide (sL1.1.2.1 < 5)) (
Jn (J1_slices_partialInsertionSortOrdered_int a0_data a1_a a2_b K sL1 R1) fun (J1 : Int × Unit → Hp → Prop) =>
∃ n, Lp (L4_slices_partialInsertionSortOrdered_int a0_data a2_b J1) n ((sL1.1.1, ()), sL1.2)) (
K false sL1.2)
def F_slices_partialInsertionSortOrdered_int (a0_data : Sl) (a1_a : Int) (a2_b : Int) (h : Hp) (K : Bool → Hp → Prop) : Prop :=
Let (IntKind.wrap .i64 (a1_a + 1) : Int) fun (t1 : Int) =>
∃ n, Lp (L1_slices_partialInsertionSortOrdered_int a0_data a1_a a2_b K) n ((t1, 0, ()), h)

theorem F_slices_partialInsertionSortOrdered_int_ok (a0_data : Sl) (a1_a : Int) (a2_b : Int) (h : Hp) (K : Bool → Hp → Prop) (hF : F_slices_partialInsertionSortOrdered_int a0_data a1_a a2_b h K) : C_slices_partialInsertionSortOrdered_int a0_data a1_a a2_b h K := by
  have e : bodyVC Try.prog Try.f31 (.seq .no (.seq .no (.seq (.seq .no (.block (.loop [(7, .at (.int .i64)), (8, .at (.int .i64))] (.seq (.seq .no (.cond .no .no)) (.seq (.block (.join [(7, .at (.int .i64))] (.block (.loop [(7, .at (.int .i64))] (.seq (.seq .no (.cond .no .no)) (.block .no)))) (.seq (.seq .no (.cond (.seq .no .no) .no)) (.seq (.seq .no (.cond (.seq .no .no) .no)) (.seq .no (.join [] (.seq .no (.cond (.seq .no (.block (.loop [(9, .at (.int .i64))] (.seq (.seq .no (.cond .no .no)) (.seq (.block (.seq (.seq .no (.cond .no .no)) .no)) .no))))) .no)) (.seq .no (.cond (.seq .no (.block (.loop [(10, .at (.int .i64))] (.seq (.seq .no (.cond .no .no)) (.seq (.block (.seq (.seq .no (.cond .no .no)) .no)) .no))))) .no)))))))) .no))))) (.seq .no .no)))) (Option.getD Try.f31.body .skip) [.slice a0_data.a a0_data.len a0_data.cap, .int .i64 a1_a, .int .i64 a2_b] h [.at .bool] (fun s h => K s.1 h) = F_slices_partialInsertionSortOrdered_int a0_data a1_a a2_b h K := by kernel_rfl
  exact fun_sound mixed Try.func31 rfl (e.mpr hF)

def F_cmp_Less_int (a0_x : Int) (a1_y : Int) (h : Hp) (K : Bool → Hp → Prop) : Prop :=
C_cmp_isNaN_int a0_x h fun (t1 : Bool) (h2 : Hp) =>
cnd t1 (
C_cmp_isNaN_int a1_y h2 fun (t3 : Bool) (h4 : Hp) =>
cnd (!t3) (
K true h4) (
K (decide (a0_x < a1_y)) h4)) (
K (decide (a0_x < a1_y)) h2)

theorem F_cmp_Less_int_ok (a0_x : Int) (a1_y : Int) (h : Hp) (K : Bool → Hp → Prop) (hF : F_cmp_Less_int a0_x a1_y h K) : C_cmp_Less_int a0_x a1_y h K := by
  have e : bodyVC Try.prog Try.f32 (.seq .no (.seq .no .no)) (Option.getD Try.f32.body .skip) [.int .i64 a0_x, .int .i64 a1_y] h [.at .bool] (fun s h => K s.1 h) = F_cmp_Less_int a0_x a1_y h K := by kernel_rfl
  exact fun_sound mixed Try.func32 rfl (e.mpr hF)

def J2_slices_partitionEqualOrdered_int (a0_data : Sl) (K : Int → Hp → Prop) (R1 : (Int × Int × Unit) × Hp → Prop) (sJ1 : Int × Unit) (sJ2 : Int × Unit) (hJ2 : Hp) : Prop :=
cnd (decide (sJ1.1 > sJ2.1)) (
K sJ1.1 hJ2) (
idxS a0_data.a a0_data.len sJ2.1 1 fun (p11 : Addr) =>
ldA (.int .i64) hJ2 p11 fun (t12 : Int) =>
idxS a0_data.a a0_data.len sJ1.1 1 fun (p13 : Addr) =>
ldA (.int .i64) hJ2 p13 fun (t14 : Int) =>
idxS a0_data.a a0_data.len sJ1.1 1 fun (p15 : Addr) =>
((1 : Nat) = 1) ∧ (
stC hJ2 p15 (
Let (hset hJ2 p15 (.int .i64 t12)) fun (h16 : Hp) =>
idxS a0_data.a a0_data.len sJ2.1 1 fun (p17 : Addr) =>
((1 : Nat) = 1) ∧ (
stC h16 p17 (
Let (hset h16 p17 (.int .i64 t14)) fun (h18 : Hp) =>
Let (IntKind.wrap .i64 (sJ1.1 + 1) : Int) fun (t19 : Int) =>
Let (IntKind.wrap .i64 (sJ2.1 - 1) : Int) fun (t20 : Int) =>
R1 ((t19, t20, ()), h18))))))
def L2_slices_partitionEqualOrdered_int (a0_data : Sl) (a1_a : Int) (sJ1 : Int × Unit) (J2 : Int × Unit → Hp → Prop) (sL2 : (Int × Unit) × Hp) (R2 : (Int × Unit) × Hp → Prop) : Prop :=
cnd (decide (sJ1.1 ≤ sL2.1.1)) (
idxS a0_data.a a0_data.len a1_a 1 fun (p21 : Addr) =>
ldA (.int .i64) sL2.2 p21 fun (t22 : Int) =>
idxS a0_data.a a0_data.len sL2.1.1 1 fun (p23 : Addr) =>
ldA (.int .i64) sL2.2 p23 fun (t24 : Int) =>
C_cmp_Less_int t22 t24 sL2.2 fun (t25 : Bool) (h26 : Hp) =>
cnd t25 (
Let (IntKind.wrap .i64 (sL2.1.1 - 1) : Int) fun (t27 : Int) =>
R2 ((t27, ()), h26)) (
J2 (sL2.1.1, ()) h26)) (
J2 (sL2.1.1, ()) sL2.2)
def J1_slices_partitionEqualOrdered_int (a0_data : Sl) (a1_a : Int) (K : Int → Hp → Prop) (sL1 : (Int × Int × Unit) × Hp) (R1 : (Int × Int × Unit) × Hp → Prop) (sJ1 : Int × Unit) (hJ1 : Hp) : Prop :=
Jn (J2_slices_partitionEqualOrdered_int a0_data K R1 sJ1) fun (J2 : Int × Unit → Hp → Prop) =>
∃ n, Lp (L2_slices_partitionEqualOrdered_int a0_data a1_a sJ1 J2) n ((sL1.1.2.1, ()), hJ1)
def L3_slices_partitionEqualOrdered_int (a0_data : Sl) (a1_a : Int) (sL1 : (Int × Int × Unit) × Hp) (J1 : Int × Unit → Hp → Prop) (sL3 : (Int × Unit) × Hp) (R3 : (Int × Unit) × Hp → Prop) : Prop :=
cnd (decide (sL3.1.1 ≤ sL1.1.2.1)) (
idxS a0_data.a a0_data.len a1_a 1 fun (p28 : Addr) =>
ldA (.int .i64) sL3.2 p28 fun (t29 : Int) =>
idxS a0_data.a a0_data.len sL3.1.1 1 fun (p30 : Addr) =>
ldA (.int .i64) sL3.2 p30 fun (t31 : Int) =>
C_cmp_Less_int t29 t31 sL3.2 fun (t32 : Bool) (h33 : Hp) =>
cnd (!t32) (
Let (IntKind.wrap .i64 (sL3.1.1 + 1) : Int) fun (t34 : Int) =>
R3 ((t34, ()), h33)) (
J1 (sL3.1.1, ()) h33)) (
J1 (sL3.1.1, ()) sL3.2)
def L1_slices_partitionEqualOrdered_int (a0_data : Sl) (a1_a : Int) (K : Int → Hp → Prop) (sL1 : (Int × Int × Unit) × Hp) (R1 : (Int × Int × Unit) × Hp → Prop) : Prop :=
Jn (J1_slices_partitionEqualOrdered_int a0_data a1_a K sL1 R1) fun (J1 : Int × Unit → Hp → Prop) =>
∃ n, Lp (L3_slices_partitionEqualOrdered_int a0_data a1_a sL1 J1) n ((sL1.1.1, ()), sL1.2)
def F_slices_partitionEqualOrdered_int (a0_data : Sl) (a1_a : Int) (a2_b : Int) (a3_pivot : Int) (h : Hp) (K : Int → Hp → Prop) : Prop :=
idxS a0_data.a a0_data.len a3_pivot 1 fun (p1 : Addr) =>
ldA (.int .i64) h p1 fun (t2 : Int) =>
idxS a0_data.a a0_data.len a1_a 1 fun (p3 : Addr) =>
ldA (.int .i64) h p3 fun (t4 : Int) =>
idxS a0_data.a a0_data.len a1_a 1 fun (p5 : Addr) =>
((1 : Nat) = 1) ∧ (
stC h p5 (
Let (hset h p5 (.int .i64 t2)) fun (h6 : Hp) =>
idxS a0_data.a a0_data.len a3_pivot 1 fun (p7 : Addr) =>
((1 : Nat) = 1) ∧ (
stC h6 p7 (
Let (hset h6 p7 (.int .i64 t4)) fun (h8 : Hp) =>
Let (IntKind.wrap .i64 (a1_a + 1) : Int) fun (t9 : Int) =>
Let (IntKind.wrap .i64 (a2_b - 1) : Int) fun (t10 : Int) =>
∃ n, Lp (L1_slices_partitionEqualOrdered_int a0_data a1_a K) n ((t9, t10, ()), h8)))))

theorem F_slices_partitionEqualOrdered_int_ok (a0_data : Sl) (a1_a : Int) (a2_b : Int) (a3_pivot : Int) (h : Hp) (K : Int → Hp → Prop) (hF : F_slices_partitionEqualOrdered_int a0_data a1_a a2_b a3_pivot h K) : C_slices_partitionEqualOrdered_int a0_data a1_a a2_b a3_pivot h K := by
  have e : bodyVC Try.prog Try.f33 (.seq .no (.seq .no (.seq .no (.seq (.block (.loop [(9, .at (.int .i64)), (10, .at (.int .i64))] (.block (.join [(9, .at (.int .i64))] (.block (.loop [(9, .at (.int .i64))] (.seq (.seq .no (.cond .no .no)) (.block .no)))) (.join [(10, .at (.int .i64))] (.block (.loop [(10, .at (.int .i64))] (.seq (.seq .no (.cond .no .no)) (.block .no)))) (.seq (.seq .no (.cond .no .no)) (.seq .no (.seq .no .no)))))))) (.seq .no .no))))) (Option.getD Try.f33.body .skip) [.slice a0_data.a a0_data.len a0_data.cap, .int .i64 a1_a, .int .i64 a2_b, .int .i64 a3_pivot] h [.at (.int .i64)] (fun s h => K s.1 h) = F_slices_partitionEqualOrdered_int a0_data a1_a a2_b a3_pivot h K := by kernel_rfl
  exact fun_sound mixed Try.func33 rfl (e.mpr hF)

def J3_slices_partitionOrdered_int (a0_data : Sl) (a1_a : Int) (K : Int → Bool → Hp → Prop) (sJ3 : Int × Unit) (hJ3 : Hp) : Prop :=
idxS a0_data.a a0_data.len a1_a 1 fun (p29 : Addr) =>
ldA (.int .i64) hJ3 p29 fun (t30 : Int) =>
idxS a0_data.a a0_data.len sJ3.1 1 fun (p31 : Addr) =>
ldA (.int .i64) hJ3 p31 fun (t32 : Int) =>
idxS a0_data.a a0_data.len sJ3.1 1 fun (p33 : Addr) =>
((1 : Nat) = 1) ∧ (
stC hJ3 p33 (
Let (hset hJ3 p33 (.int .i64 t30)) fun (h34 : Hp) =>
idxS a0_data.a a0_data.len a1_a 1 fun (p35 : Addr) =>
((1 : Nat) = 1) ∧ (
stC h34 p35 (
Let (hset h34 p35 (.int .i64 t32)) fun (h36 : Hp) =>
K sJ3.1 false h36))))
def J5_slices_partitionOrdered_int (a0_data : Sl) (J3 : Int × Unit → Hp → Prop) (R1 : (Int × Int × Unit) × Hp → Prop) (sJ4 : Int × Unit) (sJ5 : Int × Unit) (hJ5 : Hp) : Prop :=
cnd (decide (sJ4.1 > sJ5.1)) (
J3 (sJ5.1, ()) hJ5) (
idxS a0_data.a a0_data.len sJ5.1 1 fun (p37 : Addr) =>
ldA (.int .i64) hJ5 p37 fun (t38 : Int) =>
idxS a0_data.a a0_data.len sJ4.1 1 fun (p39 : Addr) =>
ldA (.int .i64) hJ5 p39 fun (t40 : Int) =>
idxS a0_data.a a0_data.len sJ4.1 1 fun (p41 : Addr) =>
((1 : Nat) = 1) ∧ (
stC hJ5 p41 (
Let (hset hJ5 p41 (.int .i64 t38)) fun (h42 : Hp) =>
idxS a0_data.a a0_data.len sJ5.1 1 fun (p43 : Addr) =>
((1 : Nat) = 1) ∧ (
stC h42 p43 (
Let (hset h42 p43 (.int .i64 t40)) fun (h44 : Hp) =>
Let (IntKind.wrap .i64 (sJ4.1 + 1) : Int) fun (t45 : Int) =>
Let (IntKind.wrap .i64 (sJ5.1 - 1) : Int) fun (t46 : Int) =>
R1 ((t45, t46, ()), h44))))))
def L2_slices_partitionOrdered_int (a0_data : Sl) (a1_a : Int) (sJ4 : Int × Unit) (J5 : Int × Unit → Hp → Prop) (sL2 : (Int × Unit) × Hp) (R2 : (Int × Unit) × Hp → Prop) : Prop :=
cnd (decide (sJ4.1 ≤ sL2.1.1)) (
idxS a0_data.a a0_data.len sL2.1.1 1 fun (p47 : Addr) =>
ldA (.int .i64) sL2.2 p47 fun (t48 : Int) =>
idxS a0_data.a a0_data.len a1_a 1 fun (p49 : Addr) =>
ldA (.int .i64) sL2.2 p49 fun (t50 : Int) =>
C_cmp_Less_int t48 t50 sL2.2 fun (t51 : Bool) (h52 : Hp) =>
cnd (!t51) (
Let (IntKind.wrap .i64 (sL2.1.1 - 1) : Int) fun (t53 : Int) =>
R2 ((t53, ()), h52)) (
J5 (sL2.1.1, ()) h52)) (
J5 (sL2.1.1, ()) sL2.2)
def J4_slices_partitionOrdered_int (a0_data : Sl) (a1_a : Int) (J3 : Int × Unit → Hp → Prop) (sL1 : (Int × Int × Unit) × Hp) (R1 : (Int × Int × Unit) × Hp → Prop) (sJ4 : Int × Unit) (hJ4 : Hp) : Prop :=
Jn (J5_slices_partitionOrdered_int a0_data J3 R1 sJ4) fun (J5 : Int × Unit → Hp → Prop) =>
∃ n, Lp (L2_slices_partitionOrdered_int a0_data a1_a sJ4 J5) n ((sL1.1.2.1, ()), hJ4)
def L3_slices_partitionOrdered_int (a0_data : Sl) (a1_a : Int) (sL1 : (Int × Int × Unit) × Hp) (J4 : Int × Unit → Hp → Prop) (sL3 : (Int × Unit) × Hp) (R3 : (Int × Unit) × Hp → Prop) : Prop :=
cnd (decide (sL3.1.1 ≤ sL1.1.2.1)) (
idxS a0_data.a a0_data.len sL3.1.1 1 fun (p54 : Addr) =>
ldA (.int .i64) sL3.2 p54 fun (t55 : Int) =>
idxS a0_data.a a0_data.len a1_a 1 fun (p56 : Addr) =>
ldA (.int .i64) sL3.2 p56 fun (t57 : Int) =>
C_cmp_Less_int t55 t57 sL3.2 fun (t58 : Bool) (h59 : Hp) =>
cnd t58 (
Let (IntKind.wrap .i64 (sL3.1.1 + 1) : Int) fun (t60 : Int) =>
R3 ((t60, ()), h59)) (
J4 (sL3.1.1, ()) h59)) (
J4 (sL3.1.1, ()) sL3.2)
def L1_slices_partitionOrdered_int (a0_data : Sl) (a1_a : Int) (J3 : Int × Unit → Hp → Prop) (sL1 : (Int × Int × Unit) × Hp) (R1 : (Int × Int × Unit) × Hp → Prop) : Prop :=
Jn (J4_slices_partitionOrdered_int a0_data a1_a J3 sL1 R1) fun (J4 : Int × Unit → Hp → Prop) =>
∃ n, Lp (L3_slices_partitionOrdered_int a0_data a1_a sL1 J4) n ((sL1.1.1, ()), sL1.2)
def J2_slices_partitionOrdered_int (a0_data : Sl) (a1_a : Int) (K : Int → Bool → Hp → Prop) (sJ1 : Int × Unit) (sJ2 : Int × Unit) (hJ2 : Hp) : Prop :=
cnd (decide (sJ1.1 > sJ2.1)) (
idxS a0_data.a a0_data.len a1_a 1 fun (p11 : Addr) =>
ldA (.int .i64) hJ2 p11 fun (t12 : Int) =>
idxS a0_data.a a0_data.len sJ2.1 1 fun (p13 : Addr) =>
ldA (.int .i64) hJ2 p13 fun (t14 : Int) =>
idxS a0_data.a a0_data.len sJ2.1 1 fun (p15 : Addr) =>
((1 : Nat) = 1) ∧ (
stC hJ2 p15 (
Let (hset hJ2 p15 (.int .i64 t12)) fun (h16 : Hp) =>
idxS a0_data.a a0_data.len a1_a 1 fun (p17 : Addr) =>
((1 : Nat) = 1) ∧ (
stC h16 p17 (
Let (hset h16 p17 (.int .i64 t14)) fun (h18 : Hp) =>
K sJ2.1 true h18))))) (
idxS a0_data.a a0_data.len sJ2.1 1 fun (p19 : Addr) =>
ldA (.int .i64) hJ2 p19 fun (t20 : Int) =>
idxS a0_data.a a0_data.len sJ1.1 1 fun (p21 : Addr) =>
ldA (.int .i64) hJ2 p21 fun (t22 : Int) =>
idxS a0_data.a a0_data.len sJ1.1 1 fun (p23 : Addr) =>
((1 : Nat) = 1) ∧ (
stC hJ2 p23 (
Let (hset hJ2 p23 (.int .i64 t20)) fun (h24 : Hp) =>
idxS a0_data.a a0_data.len sJ2.1 1 fun (p25 : Addr) =>
((1 : Nat) = 1) ∧ (
stC h24 p25 (
Let (hset h24 p25 (.int .i64 t22)) fun (h26 : Hp) =>
Let (IntKind.wrap .i64 (sJ1.1 + 1) : Int) fun (t27 : Int) =>
Let (IntKind.wrap .i64 (sJ2.1 - 1) : Int) fun (t28 : Int) =>
Jn (J3_slices_partitionOrdered_int a0_data a1_a K) fun (J3 : Int × Unit → Hp → Prop) =>
∃ n, Lp (L1_slices_partitionOrdered_int a0_data a1_a J3) n ((t27, t28, ()), h26))))))
def L4_slices_partitionOrdered_int (a0_data : Sl) (a1_a : Int) (sJ1 : Int × Unit) (J2 : Int × Unit → Hp → Prop) (sL4 : (Int × Unit) × Hp) (R4 : (Int × Unit) × Hp → Prop) : Prop :=
cnd (decide (sJ1.1 ≤ sL4.1.1)) (
idxS a0_data.a a0_data.len sL4.1.1 1 fun (p61 : Addr) =>
ldA (.int .i64) sL4.2 p61 fun (t62 : Int) =>
idxS a0_data.a a0_data.len a1_a 1 fun (p63 : Addr) =>
ldA (.int .i64) sL4.2 p63 fun (t64 : Int) =>
C_cmp_Less_int t62 t64 sL4.2 fun (t65 : Bool) (h66 : Hp) =>
cnd (!t65) (
Let (IntKind.wrap .i64 (sL4.1.1 - 1) : Int) fun (t67 : Int) =>
R4 ((t67, ()), h66)) (
J2 (sL4.1.1, ()) h66)) (
J2 (sL4.1.1, ()) sL4.2)
def J1_slices_partitionOrdered_int (a0_data : Sl) (a1_a : Int) (K : Int → Bool → Hp → Prop) (t10 : Int) (sJ1 : Int × Unit) (hJ1 : Hp) : Prop :=
Jn (J2_slices_partitionOrdered_int a0_data a1_a K sJ1) fun (J2 : Int × Unit → Hp → Prop) =>
∃ n, Lp (L4_slices_partitionOrdered_int a0_data a1_a sJ1 J2) n ((t10, ()), hJ1)
def L5_slices_partitionOrdered_int (a0_data : Sl) (a1_a : Int) (t10 : Int) (J1 : Int × Unit → Hp → Prop) (sL5 : (Int × Unit) × Hp) (R5 : (Int × Unit) × Hp → Prop) : Prop :=
cnd (decide (sL5.1.1 ≤ t10)) (
idxS a0_data.a a0_data.len sL5.1.1 1 fun (p68 : Addr) =>
ldA (.int .i64) sL5.2 p68 fun (t69 : Int) =>
idxS a0_data.a a0_data.len a1_a 1 fun (p70 : Addr) =>
ldA (.int .i64) sL5.2 p70 fun (t71 : Int) =>
C_cmp_Less_int t69 t71 sL5.2 fun (t72 : Bool) (h73 : Hp) =>
cnd t72 (
Let (IntKind.wrap .i64 (sL5.1.1 + 1) : Int) fun (t74 : Int) =>
R5 ((t74, ()), h73)) (
J1 (sL5.1.1, ()) h73)) (
J1 (sL5.1.1, ()) sL5.2)
def F_slices_partitionOrdered_int (a0_data : Sl) (a1_a : Int) (a2_b : Int) (a3_pivot : Int) (h : Hp) (K : Int → Bool → Hp → Prop) : Prop :=
idxS a0_data.a a0_data.len a3_pivot 1 fun (p1 : Addr) =>
ldA (.int .i64) h p1 fun (t2 : Int) =>
idxS a0_data.a a0_data.len a1_a 1 fun (p3 : Addr) =>
ldA (.int .i64) h p3 fun (t4 : Int) =>
idxS a0_data.a a0_data.len a1_a 1 fun (p5 : Addr) =>
((1 : Nat) = 1) ∧ (
stC h p5 (
Let (hset h p5 (.int .i64 t2)) fun (h6 : Hp) =>
idxS a0_data.a a0_data.len a3_pivot 1 fun (p7 : Addr) =>
((1 : Nat) = 1) ∧ (
stC h6 p7 (
Let (hset h6 p7 (.int .i64 t4)) fun (h8 : Hp) =>
Let (IntKind.wrap .i64 (a1_a + 1) : Int) fun (t9 : Int) =>
Let (IntKind.wrap .i64 (a2_b - 1) : Int) fun (t10 : Int) =>
Jn (J1_slices_partitionOrdered_int a0_data a1_a K t10) fun (J1 : Int × Unit → Hp → Prop) =>
∃ n, Lp (L5_slices_partitionOrdered_int a0_data a1_a t10 J1) n ((t9, ()), h8)))))

theorem F_slices_partitionOrdered_int_ok (a0_data : Sl) (a1_a : Int) (a2_b : Int) (a3_pivot : Int) (h : Hp) (K : Int → Bool → Hp → Prop) (hF : F_slices_partitionOrdered_int a0_data a1_a a2_b a3_pivot h K) : C_slices_partitionOrdered_int a0_data a1_a a2_b a3_pivot h K := by
  have e : bodyVC Try.prog Try.f34 (.seq .no (.seq .no (.seq .no (.join [(10, .at (.int .i64))] (.block (.loop [(10, .at (.int .i64))] (.seq (.seq .no (.cond .no .no)) (.block .no)))) (.join [(11, .at (.int .i64))] (.block (.loop [(11, .at (.int .i64))] (.seq (.seq .no (.cond .no .no)) (.block .no)))) (.seq (.seq .no (.cond (.seq .no (.seq .no .no)) .no)) (.seq .no (.seq .no (.seq .no (.join [(11, .at (.int .i64))] (.block (.loop [(10, .at (.int .i64)), (11, .at (.int .i64))] (.block (.join [(10, .at (.int .i64))] (.block (.loop [(10, .at (.int .i64))] (.seq (.seq .no (.cond .no .no)) (.block .no)))) (.join [(11, .at (.int .i64))] (.block (.loop [(11, .at (.int .i64))] (.seq (.seq .no (.cond .no .no)) (.block .no)))) (.seq (.seq .no (.cond .no .no)) (.seq .no (.seq .no .no)))))))) (.seq .no (.seq .no .no)))))))))))) (Option.getD Try.f34.body .skip) [.slice a0_data.a a0_data.len a0_data.cap, .int .i64 a1_a, .int .i64 a2_b, .int .i64 a3_pivot] h [.at (.int .i64), .at .bool] (fun s h => K s.1 s.2.1 h) = F_slices_partitionOrdered_int a0_data a1_a a2_b a3_pivot h K := by kernel_rfl
  exact fun_sound mixed Try.func34 rfl (e.mpr hF)

def J2_math_bits_Len32 (K : Int → Hp → Prop) (sJ2 : Int × Int × Unit) (hJ2 : Hp) : Prop :=
Let (IntKind.wrap .u8 (sJ2.1) : Int) fun (t1 : Int) =>
idxStr (ByteArray.mk #[0, 1, 2, 2, 3, 3, 3, 3, 4, 4, 4, 4, 4, 4, 4, 4, 5, 5, 5, 5, 5, 5, 5, 5, 5, 5, 5, 5, 5, 5, 5, 5, 6, 6, 6, 6, 6, 6, 6, 6, 6, 6, 6, 6, 6, 6, 6, 6, 6, 6, 6, 6, 6, 6, 6, 6, 6, 6, 6, 6, 6, 6, 6, 6, 7, 7, 7, 7, 7, 7, 7, 7, 7, 7, 7, 7, 7, 7, 7, 7, 7, 7, 7, 7, 7, 7, 7, 7, 7, 7, 7, 7, 7, 7, 7, 7, 7, 7, 7, 7, 7, 7, 7, 7, 7, 7, 7, 7, 7, 7, 7, 7, 7, 7, 7, 7, 7, 7, 7, 7, 7, 7, 7, 7, 7, 7, 7, 7, 8, 8, 8, 8, 8, 8, 8, 8, 8, 8, 8, 8, 8, 8, 8, 8, 8, 8, 8, 8, 8, 8, 8, 8, 8, 8, 8, 8, 8, 8, 8, 8, 8, 8, 8, 8, 8, 8, 8, 8, 8, 8, 8, 8, 8, 8, 8, 8, 8, 8, 8, 8, 8, 8, 8, 8, 8, 8, 8, 8, 8, 8, 8, 8, 8, 8, 8, 8, 8, 8, 8, 8, 8, 8, 8, 8, 8, 8, 8, 8, 8, 8, 8, 8, 8, 8, 8, 8, 8, 8, 8, 8, 8, 8, 8, 8, 8, 8, 8, 8, 8, 8, 8, 8, 8, 8, 8, 8, 8, 8, 8, 8, 8, 8, 8, 8, 8, 8, 8, 8, 8, 8, 8, 8, 8, 8, 8, 8]) t1 fun (t2 : Int) =>
Let (IntKind.wrap .i64 (t2) : Int) fun (t3 : Int) =>
Let (IntKind.wrap .i64 (sJ2.2.1 + t3) : Int) fun (t4 : Int) =>
K t4 hJ2
def J1_math_bits_Len32 (K : Int → Hp → Prop) (sJ1 : Int × Int × Unit) (hJ1 : Hp) : Prop :=
Jn (J2_math_bits_Len32 K) fun (J2 : Int × Int × Unit → Hp → Prop) =>
cnd (decide (sJ1.1 ≥ 256)) (
Let (Int.fdiv sJ1.1 (2 ^ min (Int.toNat 8) (IntKind.bits .u32)) : Int) fun (t5 : Int) =>
Let (IntKind.wrap .i64 (sJ1.2.1 + 8) : Int) fun (t6 : Int) =>
J2 (t5, t6, ()) hJ1) (
J2 (sJ1.1, sJ1.2.1, ()) hJ1)
def F_math_bits_Len32 (a0_x : Int) (h : Hp) (K : Int → Hp → Prop) : Prop :=
Jn (J1_math_bits_Len32 K) fun (J1 : Int × Int × Unit → Hp → Prop) =>
cnd (decide (a0_x ≥ 65536)) (
Let (Int.fdiv a0_x (2 ^ min (Int.toNat 16) (IntKind.bits .u32)) : Int) fun (t7 : Int) =>
J1 (t7, 16, ()) h) (
J1 (a0_x, 0, ()) h)

theorem F_math_bits_Len32_ok (a0_x : Int) (h : Hp) (K : Int → Hp → Prop) (hF : F_math_bits_Len32 a0_x h K) : C_math_bits_Len32 a0_x h K := by
  have e : bodyVC Try.prog Try.f35 (.seq .no (.join [(0, .at (.int .u32)), (2, .at (.int .i64))] (.seq .no (.cond (.seq .no .no) .no)) (.join [(0, .at (.int .u32)), (2, .at (.int .i64))] (.seq .no (.cond (.seq .no .no) .no)) (.seq .no .no)))) (Option.getD Try.f35.body .skip) [.int .u32 a0_x] h [.at (.int .i64)] (fun s h => K s.1 h) = F_math_bits_Len32 a0_x h K := by kernel_rfl
  exact fun_sound mixed Try.func35 rfl (e.mpr hF)

def J3_math_bits_Len64 (K : Int → Hp → Prop) (sJ3 : Int × Int × Unit) (hJ3 : Hp) : Prop :=
Let (IntKind.wrap .u8 (sJ3.1) : Int) fun (t1 : Int) =>
idxStr (ByteArray.mk #[0, 1, 2, 2, 3, 3, 3, 3, 4, 4, 4, 4, 4, 4, 4, 4, 5, 5, 5, 5, 5, 5, 5, 5, 5, 5, 5, 5, 5, 5, 5, 5, 6, 6, 6, 6, 6, 6, 6, 6, 6, 6, 6, 6, 6, 6, 6, 6, 6, 6, 6, 6, 6, 6, 6, 6, 6, 6, 6, 6, 6, 6, 6, 6, 7, 7, 7, 7, 7, 7, 7, 7, 7, 7, 7, 7, 7, 7, 7, 7, 7, 7, 7, 7, 7, 7, 7, 7, 7, 7, 7, 7, 7, 7, 7, 7, 7, 7, 7, 7, 7, 7, 7, 7, 7, 7, 7, 7, 7, 7, 7, 7, 7, 7, 7, 7, 7, 7, 7, 7, 7, 7, 7, 7, 7, 7, 7, 7, 8, 8, 8, 8, 8, 8, 8, 8, 8, 8, 8, 8, 8, 8, 8, 8, 8, 8, 8, 8, 8, 8, 8, 8, 8, 8, 8, 8, 8, 8, 8, 8, 8, 8, 8, 8, 8, 8, 8, 8, 8, 8, 8, 8, 8, 8, 8, 8, 8, 8, 8, 8, 8, 8, 8, 8, 8, 8, 8, 8, 8, 8, 8, 8, 8, 8, 8, 8, 8, 8, 8, 8, 8, 8, 8, 8, 8, 8, 8, 8, 8, 8, 8, 8, 8, 8, 8, 8, 8, 8, 8, 8, 8, 8, 8, 8, 8, 8, 8, 8, 8, 8, 8, 8, 8, 8, 8, 8, 8, 8, 8, 8, 8, 8, 8, 8, 8, 8, 8, 8, 8, 8, 8, 8, 8, 8, 8, 8]) t1 fun (t2 : Int) =>
Let (IntKind.wrap .i64 (t2) : Int) fun (t3 : Int) =>
Let (IntKind.wrap .i64 (sJ3.2.1 + t3) : Int) fun (t4 : Int) =>
K t4 hJ3
def J2_math_bits_Len64 (K : Int → Hp → Prop) (sJ2 : Int × Int × Unit) (hJ2 : Hp) : Prop :=
Jn (J3_math_bits_Len64 K) fun (J3 : Int × Int × Unit → Hp → Prop) =>
cnd (decide (sJ2.1 ≥ 256)) (
((0 : Int) ≤ 8) ∧ (
Let (Int.fdiv sJ2.1 (2 ^ min (Int.toNat 8) (IntKind.bits .u64)) : Int) fun (t5 : Int) =>
Let (IntKind.wrap .i64 (sJ2.2.1 + 8) : Int) fun (t6 : Int) =>
J3 (t5, t6, ()) hJ2)) (
J3 (sJ2.1, sJ2.2.1, ()) hJ2)
def J1_math_bits_Len64 (K : Int → Hp → Prop) (sJ1 : Int × Int × Unit) (hJ1 : Hp) : Prop :=
Jn (J2_math_bits_Len64 K) fun (J2 : Int × Int × Unit → Hp → Prop) =>
cnd (decide (sJ1.1 ≥ 65536)) (
((0 : Int) ≤ 16) ∧ (
Let (Int.fdiv sJ1.1 (2 ^ min (Int.toNat 16) (IntKind.bits .u64)) : Int) fun (t7 : Int) =>
Let (IntKind.wrap .i64 (sJ1.2.1 + 16) : Int) fun (t8 : Int) =>
J2 (t7, t8, ()) hJ1)) (
J2 (sJ1.1, sJ1.2.1, ()) hJ1)
def F_math_bits_Len64 (a0_x : Int) (h : Hp) (K : Int → Hp → Prop) : Prop :=
Jn (J1_math_bits_Len64 K) fun (J1 : Int × Int × Unit → Hp → Prop) =>
cnd (decide (a0_x ≥ 4294967296)) (
((0 : Int) ≤ 32) ∧ (
Let (Int.fdiv a0_x (2 ^ min (Int.toNat 32) (IntKind.bits .u64)) : Int) fun (t9 : Int) =>
J1 (t9, 32, ()) h)) (
J1 (a0_x, 0, ()) h)

theorem F_math_bits_Len64_ok (a0_x : Int) (h : Hp) (K : Int → Hp → Prop) (hF : F_math_bits_Len64 a0_x h K) : C_math_bits_Len64 a0_x h K := by
  have e : bodyVC Try.prog Try.f36 (.seq .no (.join [(0, .at (.int .u64)), (2, .at (.int .i64))] (.seq .no (.cond (.seq .no .no) .no)) (.join [(0, .at (.int .u64)), (2, .at (.int .i64))] (.seq .no (.cond (.seq .no .no) .no)) (.join [(0, .at (.int .u64)), (2, .at (.int .i64))] (.seq .no (.cond (.seq .no .no) .no)) (.seq .no .no))))) (Option.getD Try.f36.body .skip) [.int .u64 a0_x] h [.at (.int .i64)] (fun s h => K s.1 h) = F_math_bits_Len64 a0_x h K := by kernel_rfl
  exact fun_sound mixed Try.func36 rfl (e.mpr hF)

def J1_slices_siftDownOrdered_int (a0_data : Sl) (a3_first : Int) (K : Hp → Prop) (sL1 : (Int × Unit) × Hp) (R1 : (Int × Unit) × Hp → Prop) (sJ1 : Int × Unit) (hJ1 : Hp) : Prop :=
Let (IntKind.wrap .i64 (a3_first + sL1.1.1) : Int) fun (t3 : Int) =>
idxS a0_data.a a0_data.len t3 1 fun (p4 : Addr) =>
ldA (.int .i64) hJ1 p4 fun (t5 : Int) =>
Let (IntKind.wrap .i64 (a3_first + sJ1.1) : Int) fun (t6 : Int) =>
idxS a0_data.a a0_data.len t6 1 fun (p7 : Addr) =>
ldA (.int .i64) hJ1 p7 fun (t8 : Int) =>
C_cmp_Less_int t5 t8 hJ1 fun (t9 : Bool) (h10 : Hp) =>
cnd (!t9) (
K h10) (
Let (IntKind.wrap .i64 (a3_first + sL1.1.1) : Int) fun (t11 : Int) =>
Let (IntKind.wrap .i64 (a3_first + sJ1.1) : Int) fun (t12 : Int) =>
Let (IntKind.wrap .i64 (a3_first + sJ1.1) : Int) fun (t13 : Int) =>
idxS a0_data.a a0_data.len t13 1 fun (p14 : Addr) =>
ldA (.int .i64) h10 p14 fun (t15 : Int) =>
Let (IntKind.wrap .i64 (a3_first + sL1.1.1) : Int) fun (t16 : Int) =>
idxS a0_data.a a0_data.len t16 1 fun (p17 : Addr) =>
ldA (.int .i64) h10 p17 fun (t18 : Int) =>
idxS a0_data.a a0_data.len t11 1 fun (p19 : Addr) =>
((1 : Nat) = 1) ∧ (
stC h10 p19 (
Let (hset h10 p19 (.int .i64 t15)) fun (h20 : Hp) =>
idxS a0_data.a a0_data.len t12 1 fun (p21 : Addr) =>
((1 : Nat) = 1) ∧ (
stC h20 p21 (
Let (hset h20 p21 (.int .i64 t18)) fun (h22 : Hp) =>
R1 ((sJ1.1, ()), h22))))))
def J2_slices_siftDownOrdered_int (t2 : Int) (J1 : Int × Unit → Hp → Prop) (sJ2 : Bool × Unit) (hJ2 : Hp) : Prop :=
cnd sJ2.1 (
Let (IntKind.wrap .i64 (t2 + 1) : Int) fun (t23 : Int) =>
J1 (t23, ()) hJ2) (
J1 (t2, ()) hJ2)
def L1_slices_siftDownOrdered_int (a0_data : Sl) (a2_hi : Int) (a3_first : Int) (K : Hp → Prop) (sL1 : (Int × Unit) × Hp) (R1 : (Int × Unit) × Hp → Prop) : Prop :=
Let (IntKind.wrap .i64 ((2 : Int) * sL1.1.1) : Int) fun (t1 : Int) =>
Let (IntKind.wrap .i64 (t1 + 1) : Int) fun (t2 : Int) =>
cnd (decide (t2 ≥ a2_hi)) (
K sL1.2) (
Jn (J1_slices_siftDownOrdered_int a0_data a3_first K sL1 R1) fun (J1 : Int × Unit → Hp → Prop) =>
Jn (J2_slices_siftDownOrdered_int t2 J1) fun (J2 : Bool × Unit → Hp → Prop) =>
Let (IntKind.wrap .i64 (t2 + 1) : Int) fun (t24 : Int) =>
cnd (decide (t24 < a2_hi)) (
Let (IntKind.wrap .i64 (a3_first + t2) : Int) fun (t25 : Int) =>
idxS a0_data.a a0_data.len t25 1 fun (p26 : Addr) =>
ldA (.int .i64) sL1.2 p26 fun (t27 : Int) =>
Let (IntKind.wrap .i64 (a3_first + t2) : Int) fun (t28 : Int) =>
Let (IntKind.wrap .i64 (t28 + 1) : Int) fun (t29 : Int) =>
idxS a0_data.a a0_data.len t29 1 fun (p30 : Addr) =>
ldA (.int .i64) sL1.2 p30 fun (t31 : Int) =>
C_cmp_Less_int t27 t31 sL1.2 fun (t32 : Bool) (h33 : Hp) =>
J2 (t32, ()) h33) (
J2 (false, ()) sL1.2))
def F_slices_siftDownOrdered_int (a0_data : Sl) (a1_lo : Int) (a2_hi : Int) (a3_first : Int) (h : Hp) (K : Hp → Prop) : Prop :=
∃ n, Lp (L1_slices_siftDownOrdered_int a0_data a2_hi a3_first K) n ((a1_lo, ()), h)

theorem F_slices_siftDownOrdered_int_ok (a0_data : Sl) (a1_lo : Int) (a2_hi : Int) (a3_first : Int) (h : Hp) (K : Hp → Prop) (hF : F_slices_siftDownOrdered_int a0_data a1_lo a2_hi a3_first h K) : C_slices_siftDownOrdered_int a0_data a1_lo a2_hi a3_first h K := by
  have e : bodyVC Try.prog Try.f37 (.seq .no (.block (.loop [(8, .at (.int .i64))] (.block (.seq .no (.seq (.seq .no (.cond .no .no)) (.join [(9, .at (.int .i64))] (.join [(36, .at .bool)] .no (.cond .no .no)) (.seq (.seq .no (.cond .no .no)) (.seq .no .no))))))))) (Option.getD Try.f37.body .skip) [.slice a0_data.a a0_data.len a0_data.cap, .int .i64 a1_lo, .int .i64 a2_hi, .int .i64 a3_first] h [] (fun s h => K h) = F_slices_siftDownOrdered_int a0_data a1_lo a2_hi a3_first h K := by kernel_rfl
  exact fun_sound mixed Try.func37 rfl (e.mpr hF)

def F_slices_nextPowerOfTwo (a0_length : Int) (h : Hp) (K : Int → Hp → Prop) : Prop :=
Let (IntKind.wrap .u64 (a0_length) : Int) fun (t1 : Int) =>
C_math_bits_Len t1 h fun (t2 : Int) (h3 : Hp) =>
((0 : Int) ≤ t2) ∧ (
Let (IntKind.wrap .u64 (1 * 2 ^ min (Int.toNat t2) (IntKind.bits .u64)) : Int) fun (t4 : Int) =>
K t4 h3)

theorem F_slices_nextPowerOfTwo_ok (a0_length : Int) (h : Hp) (K : Int → Hp → Prop) (hF : F_slices_nextPowerOfTwo a0_length h K) : C_slices_nextPowerOfTwo a0_length h K := by
  have e : bodyVC Try.prog Try.f38 (.seq .no (.seq .no .no)) (Option.getD Try.f38.body .skip) [.int .i64 a0_length] h [.at (.int .u64)] (fun s h => K s.1 h) = F_slices_nextPowerOfTwo a0_length h K := by kernel_rfl
  exact fun_sound mixed Try.func38 rfl (e.mpr hF)

def F_slices_xorshift_Next (a0_r : Option Addr) (h : Hp) (K : Int → Hp → Prop) : Prop :=
someA a0_r fun (p1 : Addr) =>
ldA (.int .u64) h p1 fun (t2 : Int) =>
someA a0_r fun (p3 : Addr) =>
ldA (.int .u64) h p3 fun (t4 : Int) =>
((0 : Int) ≤ 13) ∧ (
Let (IntKind.wrap .u64 (t4 * 2 ^ min (Int.toNat 13) (IntKind.bits .u64)) : Int) fun (t5 : Int) =>
Let (ibXor .u64 t2 t5 : Int) fun (t6 : Int) =>
someA a0_r fun (p7 : Addr) =>
((1 : Nat) = 1) ∧ (
stC h p7 (
Let (hset h p7 (.int .u64 t6)) fun (h8 : Hp) =>
someA a0_r fun (p9 : Addr) =>
ldA (.int .u64) h8 p9 fun (t10 : Int) =>
someA a0_r fun (p11 : Addr) =>
ldA (.int .u64) h8 p11 fun (t12 : Int) =>
((0 : Int) ≤ 7) ∧ (
Let (Int.fdiv t12 (2 ^ min (Int.toNat 7) (IntKind.bits .u64)) : Int) fun (t13 : Int) =>
Let (ibXor .u64 t10 t13 : Int) fun (t14 : Int) =>
someA a0_r fun (p15 : Addr) =>
((1 : Nat) = 1) ∧ (
stC h8 p15 (
Let (hset h8 p15 (.int .u64 t14)) fun (h16 : Hp) =>
someA a0_r fun (p17 : Addr) =>
ldA (.int .u64) h16 p17 fun (t18 : Int) =>
someA a0_r fun (p19 : Addr) =>
ldA (.int .u64) h16 p19 fun (t20 : Int) =>
((0 : Int) ≤ 17) ∧ (
Let (IntKind.wrap .u64 (t20 * 2 ^ min (Int.toNat 17) (IntKind.bits .u64)) : Int) fun (t21 : Int) =>
Let (ibXor .u64 t18 t21 : Int) fun (t22 : Int) =>
someA a0_r fun (p23 : Addr) =>
((1 : Nat) = 1) ∧ (
stC h16 p23 (
Let (hset h16 p23 (.int .u64 t22)) fun (h24 : Hp) =>
someA a0_r fun (p25 : Addr) =>
ldA (.int .u64) h24 p25 fun (t26 : Int) =>
K t26 h24)))))))))

theorem F_slices_xorshift_Next_ok (a0_r : Option Addr) (h : Hp) (K : Int → Hp → Prop) (hF : F_slices_xorshift_Next a0_r h K) : C_slices_xorshift_Next a0_r h K := by
  have e : bodyVC Try.prog Try.f39 (.seq .no (.seq .no (.seq .no (.seq .no (.seq .no .no))))) (Option.getD Try.f39.body .skip) [.pointer a0_r] h [.at (.int .u64)] (fun s h => K s.1 h) = F_slices_xorshift_Next a0_r h K := by kernel_rfl
  exact fun_sound mixed Try.func39 rfl (e.mpr hF)

def F_slices_medianAdjacentOrdered_int (a0_data : Sl) (a1_a : Int) (a2_swaps : Option Addr) (h : Hp) (K : Int → Hp → Prop) : Prop :=
Let (IntKind.wrap .i64 (a1_a - 1) : Int) fun (t1 : Int) =>
Let (IntKind.wrap .i64 (a1_a + 1) : Int) fun (t2 : Int) =>
C_slices_medianOrdered_int a0_data t1 a1_a t2 a2_swaps h fun (t3 : Int) (h4 : Hp) =>
K t3 h4

theorem F_slices_medianAdjacentOrdered_int_ok (a0_data : Sl) (a1_a : Int) (a2_swaps : Option Addr) (h : Hp) (K : Int → Hp → Prop) (hF : F_slices_medianAdjacentOrdered_int a0_data a1_a a2_swaps h K) : C_slices_medianAdjacentOrdered_int a0_data a1_a a2_swaps h K := by
  have e : bodyVC Try.prog Try.f40 (.seq .no (.seq .no .no)) (Option.getD Try.f40.body .skip) [.slice a0_data.a a0_data.len a0_data.cap, .int .i64 a1_a, .pointer a2_swaps] h [.at (.int .i64)] (fun s h => K s.1 h) = F_slices_medianAdjacentOrdered_int a0_data a1_a a2_swaps h K := by kernel_rfl
  exact fun_sound mixed Try.func40 rfl (e.mpr hF)

def F_slices_medianOrdered_int (a0_data : Sl) (a1_a : Int) (a2_b : Int) (a3_c : Int) (a4_swaps : Option Addr) (h : Hp) (K : Int → Hp → Prop) : Prop :=
C_slices_order2Ordered_int a0_data a1_a a2_b a4_swaps h fun (t1 : Int) (t2 : Int) (h3 : Hp) =>
C_slices_order2Ordered_int a0_data t2 a3_c a4_swaps h3 fun (t4 : Int) (t5 : Int) (h6 : Hp) =>
C_slices_order2Ordered_int a0_data t1 t4 a4_swaps h6 fun (t7 : Int) (t8 : Int) (h9 : Hp) =>
K t8 h9

theorem F_slices_medianOrdered_int_ok (a0_data : Sl) (a1_a : Int) (a2_b : Int) (a3_c : Int) (a4_swaps : Option Addr) (h : Hp) (K : Int → Hp → Prop) (hF : F_slices_medianOrdered_int a0_data a1_a a2_b a3_c a4_swaps h K) : C_slices_medianOrdered_int a0_data a1_a a2_b a3_c a4_swaps h K := by
  have e : bodyVC Try.prog Try.f41 (.seq .no (.seq .no (.seq .no (.seq .no (.seq .no .no))))) (Option.getD Try.f41.body .skip) [.slice a0_data.a a0_data.len a0_data.cap, .int .i64 a1_a, .int .i64 a2_b, .int .i64 a3_c, .pointer a4_swaps] h [.at (.int .i64)] (fun s h => K s.1 h) = F_slices_medianOrdered_int a0_data a1_a a2_b a3_c a4_swaps h K := by kernel_rfl
  exact fun_sound mixed Try.func41 rfl (e.mpr hF)

def F_cmp_isNaN_int (a0_x : Int) (h : Hp) (K : Bool → Hp → Prop) : Prop :=
K (a0_x != a0_x) h

theorem F_cmp_isNaN_int_ok (a0_x : Int) (h : Hp) (K : Bool → Hp → Prop) (hF : F_cmp_isNaN_int a0_x h K) : C_cmp_isNaN_int a0_x h K := by
  have e : bodyVC Try.prog Try.f42 (.seq .no (.seq .no .no)) (Option.getD Try.f42.body .skip) [.int .i64 a0_x] h [.at .bool] (fun s h => K s.1 h) = F_cmp_isNaN_int a0_x h K := by kernel_rfl
  exact fun_sound mixed Try.func42 rfl (e.mpr hF)

def F_slices_order2Ordered_int (a0_data : Sl) (a1_a : Int) (a2_b : Int) (a3_swaps : Option Addr) (h : Hp) (K : Int → Int → Hp → Prop) : Prop :=
idxS a0_data.a a0_data.len a2_b 1 fun (p1 : Addr) =>
ldA (.int .i64) h p1 fun (t2 : Int) =>
idxS a0_data.a a0_data.len a1_a 1 fun (p3 : Addr) =>
ldA (.int .i64) h p3 fun (t4 : Int) =>
C_cmp_Less_int t2 t4 h fun (t5 : Bool) (h6 : Hp) =>
cnd t5 (
someA a3_swaps fun (p7 : Addr) =>
ldA (.int .i64) h6 p7 fun (t8 : Int) =>
Let (IntKind.wrap .i64 (t8 + 1) : Int) fun (t9 : Int) =>
someA a3_swaps fun (p10 : Addr) =>
((1 : Nat) = 1) ∧ (
stC h6 p10 (
Let (hset h6 p10 (.int .i64 t9)) fun (h11 : Hp) =>
K a2_b a1_a h11))) (
K a1_a a2_b h6)

theorem F_slices_order2Ordered_int_ok (a0_data : Sl) (a1_a : Int) (a2_b : Int) (a3_swaps : Option Addr) (h : Hp) (K : Int → Int → Hp → Prop) (hF : F_slices_order2Ordered_int a0_data a1_a a2_b a3_swaps h K) : C_slices_order2Ordered_int a0_data a1_a a2_b a3_swaps h K := by
  have e : bodyVC Try.prog Try.f43 (.seq .no (.seq (.seq .no (.cond (.seq .no (.seq .no .no)) .no)) (.seq .no .no))) (Option.getD Try.f43.body .skip) [.slice a0_data.a a0_data.len a0_data.cap, .int .i64 a1_a, .int .i64 a2_b, .pointer a3_swaps] h [.at (.int .i64), .at (.int .i64)] (fun s h => K s.1 s.2.1 h) = F_slices_order2Ordered_int a0_data a1_a a2_b a3_swaps h K := by kernel_rfl
  exact fun_sound mixed Try.func43 rfl (e.mpr hF)

end Go.Proofs.YtkldaoachbbhnaaF
