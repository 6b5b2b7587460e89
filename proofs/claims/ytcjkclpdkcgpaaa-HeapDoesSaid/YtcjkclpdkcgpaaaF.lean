/- The formulas of the seat's functions and the proofs that they are enough, printed by gen.py of this session. No condition. -/
import Derived.Test.YtcjkclpdkcgpaaaProg
import Derived.Test.YtcjkclpdkcgpaaaK7
namespace Go.Proofs.YtcjkclpdkcgpaaaF
open Go Go.Proofs.YtcjkclpdkcgpaaaK Go.Proofs
set_option linter.unusedVariables false
set_option maxRecDepth 100000
theorem mixed : Try.prog.follows .mixedOrders = true := by kernel_rfl
def C_gosem_cut_init  (h : Hp) (K : Hp → Prop) : Prop :=
  CallT Try.prog 2 [] [] h fun s h => K h
def C_law10_HeapAlike (a0_l : Sl) (h : Hp) (K : Bool → Hp → Prop) : Prop :=
  CallT Try.prog 3 [.slice a0_l.a a0_l.len a0_l.cap] [.at .bool] h fun s h => K s.1 h
def C_law10_HeapDoes (a0_l : Sl) (h : Hp) (K : Bool → Hp → Prop) : Prop :=
  CallT Try.prog 4 [.slice a0_l.a a0_l.len a0_l.cap] [.at .bool] h fun s h => K s.1 h
def C_law10_HeapNone (a0_n : Int) (h : Hp) (K : Bool → Hp → Prop) : Prop :=
  CallT Try.prog 5 [.int .i64 a0_n] [.at .bool] h fun s h => K s.1 h
def C_heap_New_law10_Pair (a0_order : Value) (h : Hp) (K : Option Addr → Hp → Prop) : Prop :=
  CallT Try.prog 6 [a0_order] [.at .ptr] h fun s h => K s.1 h
def C_law10_HeapAlike_1 (a0_a : Int) (a1_a : Int) (a2_b : Int) (a3_b : Int) (h : Hp) (K : Int → Hp → Prop) : Prop :=
  CallT Try.prog 7 [.agg #[.int .i64 a0_a, .int .i64 a1_a], .agg #[.int .i64 a2_b, .int .i64 a3_b]] [.at (.int .i64)] h fun s h => K s.1 h
def C_law10_order (a0_a : Int) (a1_b : Int) (h : Hp) (K : Int → Hp → Prop) : Prop :=
  CallT Try.prog 8 [.int .i64 a0_a, .int .i64 a1_b] [.at (.int .i64)] h fun s h => K s.1 h
def C_heap_Heap_law10_Pair_Push (a0_h : Option Addr) (a1_x : Int) (a2_x : Int) (h : Hp) (K : Hp → Prop) : Prop :=
  CallT Try.prog 9 [.pointer a0_h, .agg #[.int .i64 a1_x, .int .i64 a2_x]] [] h fun s h => K h
def C_heap_Heap_law10_Pair_Pop (a0_h : Option Addr) (h : Hp) (K : Int → Int → Bool → Hp → Prop) : Prop :=
  CallT Try.prog 10 [.pointer a0_h] [.agg [(.int .i64), (.int .i64)], .at .bool] h fun s h => K s.1.1 s.1.2.1 s.2.1 h
def C_law10_lives  (h : Hp) (K : Bool → Hp → Prop) : Prop :=
  CallT Try.prog 11 [] [.at .bool] h fun s h => K s.1 h
def C_heap_New_int (a0_order : Value) (h : Hp) (K : Option Addr → Hp → Prop) : Prop :=
  CallT Try.prog 12 [a0_order] [.at .ptr] h fun s h => K s.1 h
def C_heap_Heap_int_Pop (a0_h : Option Addr) (h : Hp) (K : Int → Bool → Hp → Prop) : Prop :=
  CallT Try.prog 13 [.pointer a0_h] [.at (.int .i64), .at .bool] h fun s h => K s.1 s.2.1 h
def C_heap_Heap_int_Push (a0_h : Option Addr) (a1_x : Int) (h : Hp) (K : Hp → Prop) : Prop :=
  CallT Try.prog 14 [.pointer a0_h, .int .i64 a1_x] [] h fun s h => K h
def C_ref10_Put (a0_l : Sl) (a1_n : Int) (h : Hp) (K : Sl → Hp → Prop) : Prop :=
  CallT Try.prog 15 [.slice a0_l.a a0_l.len a0_l.cap, .int .i64 a1_n] [.at .sl] h fun s h => K s.1 h
def C_heap_Heap_int_Top (a0_h : Option Addr) (h : Hp) (K : Int → Bool → Hp → Prop) : Prop :=
  CallT Try.prog 16 [.pointer a0_h] [.at (.int .i64), .at .bool] h fun s h => K s.1 s.2.1 h
def C_heap_Heap_int_Len (a0_h : Option Addr) (h : Hp) (K : Int → Hp → Prop) : Prop :=
  CallT Try.prog 17 [.pointer a0_h] [.at (.int .i64)] h fun s h => K s.1 h
def C_ref07_Ints (a0_a : Sl) (a1_b : Sl) (h : Hp) (K : Bool → Hp → Prop) : Prop :=
  CallT Try.prog 18 [.slice a0_a.a a0_a.len a0_a.cap, .slice a1_b.a a1_b.len a1_b.cap] [.at .bool] h fun s h => K s.1 h
def C_heap_Heap_int_All (a0_h : Option Addr) (h : Hp) (K : Sl → Hp → Prop) : Prop :=
  CallT Try.prog 19 [.pointer a0_h] [.at .sl] h fun s h => K s.1 h
def C_heap_Heap_law10_Pair_up (a0_h : Option Addr) (a1_i : Int) (h : Hp) (K : Hp → Prop) : Prop :=
  CallT Try.prog 20 [.pointer a0_h, .int .i64 a1_i] [] h fun s h => K h
def C_heap_Heap_law10_Pair_Top (a0_h : Option Addr) (h : Hp) (K : Int → Int → Bool → Hp → Prop) : Prop :=
  CallT Try.prog 21 [.pointer a0_h] [.agg [(.int .i64), (.int .i64)], .at .bool] h fun s h => K s.1.1 s.1.2.1 s.2.1 h
def C_heap_Heap_law10_Pair_swap (a0_h : Option Addr) (a1_i : Int) (a2_k : Int) (h : Hp) (K : Hp → Prop) : Prop :=
  CallT Try.prog 22 [.pointer a0_h, .int .i64 a1_i, .int .i64 a2_k] [] h fun s h => K h
def C_heap_Heap_law10_Pair_down (a0_h : Option Addr) (a1_i : Int) (h : Hp) (K : Hp → Prop) : Prop :=
  CallT Try.prog 23 [.pointer a0_h, .int .i64 a1_i] [] h fun s h => K h
def C_heap_Heap_int_swap (a0_h : Option Addr) (a1_i : Int) (a2_k : Int) (h : Hp) (K : Hp → Prop) : Prop :=
  CallT Try.prog 24 [.pointer a0_h, .int .i64 a1_i, .int .i64 a2_k] [] h fun s h => K h
def C_heap_Heap_int_down (a0_h : Option Addr) (a1_i : Int) (h : Hp) (K : Hp → Prop) : Prop :=
  CallT Try.prog 25 [.pointer a0_h, .int .i64 a1_i] [] h fun s h => K h
def C_heap_Heap_int_up (a0_h : Option Addr) (a1_i : Int) (h : Hp) (K : Hp → Prop) : Prop :=
  CallT Try.prog 26 [.pointer a0_h, .int .i64 a1_i] [] h fun s h => K h
def C_slices_Clone_int_int (a0_s : Sl) (h : Hp) (K : Sl → Hp → Prop) : Prop :=
  CallT Try.prog 27 [.slice a0_s.a a0_s.len a0_s.cap] [.at .sl] h fun s h => K s.1 h
def C_slices_SortFunc_int_int (a0_x : Sl) (a1_cmp : Value) (h : Hp) (K : Hp → Prop) : Prop :=
  CallT Try.prog 28 [.slice a0_x.a a0_x.len a0_x.cap, a1_cmp] [] h fun s h => K h
def C_heap_Heap_law10_Pair_first (a0_h : Option Addr) (a1_i : Int) (h : Hp) (K : Int → Hp → Prop) : Prop :=
  CallT Try.prog 29 [.pointer a0_h, .int .i64 a1_i] [.at (.int .i64)] h fun s h => K s.1 h
def C_heap_Heap_int_first (a0_h : Option Addr) (a1_i : Int) (h : Hp) (K : Int → Hp → Prop) : Prop :=
  CallT Try.prog 30 [.pointer a0_h, .int .i64 a1_i] [.at (.int .i64)] h fun s h => K s.1 h
def C_slices_pdqsortCmpFunc_int (a0_data : Sl) (a1_a : Int) (a2_b : Int) (a3_limit : Int) (a4_cmp : Value) (h : Hp) (K : Hp → Prop) : Prop :=
  CallT Try.prog 31 [.slice a0_data.a a0_data.len a0_data.cap, .int .i64 a1_a, .int .i64 a2_b, .int .i64 a3_limit, a4_cmp] [] h fun s h => K h
def C_math_bits_Len (a0_x : Int) (h : Hp) (K : Int → Hp → Prop) : Prop :=
  CallT Try.prog 32 [.int .u64 a0_x] [.at (.int .i64)] h fun s h => K s.1 h
def C_slices_insertionSortCmpFunc_int (a0_data : Sl) (a1_a : Int) (a2_b : Int) (a3_cmp : Value) (h : Hp) (K : Hp → Prop) : Prop :=
  CallT Try.prog 33 [.slice a0_data.a a0_data.len a0_data.cap, .int .i64 a1_a, .int .i64 a2_b, a3_cmp] [] h fun s h => K h
def C_slices_heapSortCmpFunc_int (a0_data : Sl) (a1_a : Int) (a2_b : Int) (a3_cmp : Value) (h : Hp) (K : Hp → Prop) : Prop :=
  CallT Try.prog 34 [.slice a0_data.a a0_data.len a0_data.cap, .int .i64 a1_a, .int .i64 a2_b, a3_cmp] [] h fun s h => K h
def C_slices_breakPatternsCmpFunc_int (a0_data : Sl) (a1_a : Int) (a2_b : Int) (a3_cmp : Value) (h : Hp) (K : Hp → Prop) : Prop :=
  CallT Try.prog 35 [.slice a0_data.a a0_data.len a0_data.cap, .int .i64 a1_a, .int .i64 a2_b, a3_cmp] [] h fun s h => K h
def C_slices_choosePivotCmpFunc_int (a0_data : Sl) (a1_a : Int) (a2_b : Int) (a3_cmp : Value) (h : Hp) (K : Int → Int → Hp → Prop) : Prop :=
  CallT Try.prog 36 [.slice a0_data.a a0_data.len a0_data.cap, .int .i64 a1_a, .int .i64 a2_b, a3_cmp] [.at (.int .i64), .at (.int .i64)] h fun s h => K s.1 s.2.1 h
def C_slices_reverseRangeCmpFunc_int (a0_data : Sl) (a1_a : Int) (a2_b : Int) (a3_cmp : Value) (h : Hp) (K : Hp → Prop) : Prop :=
  CallT Try.prog 37 [.slice a0_data.a a0_data.len a0_data.cap, .int .i64 a1_a, .int .i64 a2_b, a3_cmp] [] h fun s h => K h
def C_slices_partialInsertionSortCmpFunc_int (a0_data : Sl) (a1_a : Int) (a2_b : Int) (a3_cmp : Value) (h : Hp) (K : Bool → Hp → Prop) : Prop :=
  CallT Try.prog 38 [.slice a0_data.a a0_data.len a0_data.cap, .int .i64 a1_a, .int .i64 a2_b, a3_cmp] [.at .bool] h fun s h => K s.1 h
def C_slices_partitionEqualCmpFunc_int (a0_data : Sl) (a1_a : Int) (a2_b : Int) (a3_pivot : Int) (a4_cmp : Value) (h : Hp) (K : Int → Hp → Prop) : Prop :=
  CallT Try.prog 39 [.slice a0_data.a a0_data.len a0_data.cap, .int .i64 a1_a, .int .i64 a2_b, .int .i64 a3_pivot, a4_cmp] [.at (.int .i64)] h fun s h => K s.1 h
def C_slices_partitionCmpFunc_int (a0_data : Sl) (a1_a : Int) (a2_b : Int) (a3_pivot : Int) (a4_cmp : Value) (h : Hp) (K : Int → Bool → Hp → Prop) : Prop :=
  CallT Try.prog 40 [.slice a0_data.a a0_data.len a0_data.cap, .int .i64 a1_a, .int .i64 a2_b, .int .i64 a3_pivot, a4_cmp] [.at (.int .i64), .at .bool] h fun s h => K s.1 s.2.1 h
def C_math_bits_Len32 (a0_x : Int) (h : Hp) (K : Int → Hp → Prop) : Prop :=
  CallT Try.prog 41 [.int .u32 a0_x] [.at (.int .i64)] h fun s h => K s.1 h
def C_math_bits_Len64 (a0_x : Int) (h : Hp) (K : Int → Hp → Prop) : Prop :=
  CallT Try.prog 42 [.int .u64 a0_x] [.at (.int .i64)] h fun s h => K s.1 h
def C_slices_siftDownCmpFunc_int (a0_data : Sl) (a1_lo : Int) (a2_hi : Int) (a3_first : Int) (a4_cmp : Value) (h : Hp) (K : Hp → Prop) : Prop :=
  CallT Try.prog 43 [.slice a0_data.a a0_data.len a0_data.cap, .int .i64 a1_lo, .int .i64 a2_hi, .int .i64 a3_first, a4_cmp] [] h fun s h => K h
def C_slices_nextPowerOfTwo (a0_length : Int) (h : Hp) (K : Int → Hp → Prop) : Prop :=
  CallT Try.prog 44 [.int .i64 a0_length] [.at (.int .u64)] h fun s h => K s.1 h
def C_slices_xorshift_Next (a0_r : Option Addr) (h : Hp) (K : Int → Hp → Prop) : Prop :=
  CallT Try.prog 45 [.pointer a0_r] [.at (.int .u64)] h fun s h => K s.1 h
def C_slices_medianAdjacentCmpFunc_int (a0_data : Sl) (a1_a : Int) (a2_swaps : Option Addr) (a3_cmp : Value) (h : Hp) (K : Int → Hp → Prop) : Prop :=
  CallT Try.prog 46 [.slice a0_data.a a0_data.len a0_data.cap, .int .i64 a1_a, .pointer a2_swaps, a3_cmp] [.at (.int .i64)] h fun s h => K s.1 h
def C_slices_medianCmpFunc_int (a0_data : Sl) (a1_a : Int) (a2_b : Int) (a3_c : Int) (a4_swaps : Option Addr) (a5_cmp : Value) (h : Hp) (K : Int → Hp → Prop) : Prop :=
  CallT Try.prog 47 [.slice a0_data.a a0_data.len a0_data.cap, .int .i64 a1_a, .int .i64 a2_b, .int .i64 a3_c, .pointer a4_swaps, a5_cmp] [.at (.int .i64)] h fun s h => K s.1 h
def C_slices_order2CmpFunc_int (a0_data : Sl) (a1_a : Int) (a2_b : Int) (a3_swaps : Option Addr) (a4_cmp : Value) (h : Hp) (K : Int → Int → Hp → Prop) : Prop :=
  CallT Try.prog 48 [.slice a0_data.a a0_data.len a0_data.cap, .int .i64 a1_a, .int .i64 a2_b, .pointer a3_swaps, a4_cmp] [.at (.int .i64), .at (.int .i64)] h fun s h => K s.1 s.2.1 h
def J2_law10_HeapAlike (K : Bool → Hp → Prop) (t1 : Option Addr) (sJ2 : Int × Unit) (hJ2 : Hp) : Prop :=
C_heap_Heap_law10_Pair_Pop t1 hJ2 fun (t3 : Int) (t4 : Int) (t5 : Bool) (h6 : Hp) =>
Let (Array.push h6 (Obj.cells #[.int .i64 0, .int .i64 0] 26)) fun (h7 : Hp) =>
Let (Addr.mk (Array.size h6) 0 none) fun (p8 : Addr) =>
stC h7 p8 (
Let (hset h7 p8 (.int .i64 t3)) fun (h9 : Hp) =>
stC h9 (Addr.add p8 1) (
Let (hset h9 (Addr.add p8 1) (.int .i64 t4)) fun (h10 : Hp) =>
cnd (!t5) (
cnd (sJ2.1 == 0) (
C_law10_lives  h10 fun (t11 : Bool) (h12 : Hp) =>
K t11 h12) (
K false h10)) (
K false h10)))
def J3_law10_HeapAlike (sL1 : (Int × Int × Int × Unit) × Hp) (R1 : (Int × Int × Int × Unit) × Hp → Prop) (p18 : Addr) (sJ3 : Unit) (hJ3 : Hp) : Prop :=
ldA (.int .i64) hJ3 p18 fun (t21 : Int) =>
ldA (.int .i64) hJ3 (Addr.add p18 1) fun (t22 : Int) =>
Let (IntKind.wrap .i64 (sL1.1.1 - t22) : Int) fun (t23 : Int) =>
Let (IntKind.wrap .i64 (sL1.1.2.2.1 + 1) : Int) fun (t24 : Int) =>
R1 ((t23, t21, t24, ()), hJ3)
def L1_law10_HeapAlike (a0_l : Sl) (K : Bool → Hp → Prop) (t1 : Option Addr) (J2 : Int × Unit → Hp → Prop) (sL1 : (Int × Int × Int × Unit) × Hp) (R1 : (Int × Int × Int × Unit) × Hp → Prop) : Prop :=
cnd (decide (sL1.1.2.2.1 < (a0_l.len : Int))) (
C_heap_Heap_law10_Pair_Pop t1 sL1.2 fun (t13 : Int) (t14 : Int) (t15 : Bool) (h16 : Hp) =>
Let (Array.push h16 (Obj.cells #[.int .i64 0, .int .i64 0] 26)) fun (h17 : Hp) =>
Let (Addr.mk (Array.size h16) 0 none) fun (p18 : Addr) =>
stC h17 p18 (
Let (hset h17 p18 (.int .i64 t13)) fun (h19 : Hp) =>
stC h19 (Addr.add p18 1) (
Let (hset h19 (Addr.add p18 1) (.int .i64 t14)) fun (h20 : Hp) =>
Jn (J3_law10_HeapAlike sL1 R1 p18) fun (J3 : Unit → Hp → Prop) =>
cnd (!t15) (
K false h20) (
cnd (decide (sL1.1.2.2.1 > 0)) (
ldA (.int .i64) h20 p18 fun (t25 : Int) =>
cnd (decide (t25 < sL1.1.2.1)) (
K false h20) (
J3 (()) h20)) (
J3 (()) h20))))) (
J2 (sL1.1.1, ()) sL1.2)
def J1_law10_HeapAlike (a0_l : Sl) (K : Bool → Hp → Prop) (t1 : Option Addr) (sJ1 : Int × Unit) (hJ1 : Hp) : Prop :=
Jn (J2_law10_HeapAlike K t1) fun (J2 : Int × Unit → Hp → Prop) =>
∃ n, Lp (L1_law10_HeapAlike a0_l K t1 J2) n ((sJ1.1, 0, 0, ()), hJ1)
def L2_law10_HeapAlike (a0_l : Sl) (t1 : Option Addr) (J1 : Int × Unit → Hp → Prop) (sL2 : (Int × Int × Unit) × Hp) (R2 : (Int × Int × Unit) × Hp → Prop) : Prop :=
cnd (decide (sL2.1.2.1 < (a0_l.len : Int))) (
idxS a0_l.a a0_l.len sL2.1.2.1 2 fun (p26 : Addr) =>
ldA (.int .i64) sL2.2 p26 fun (t27 : Int) =>
ldA (.int .i64) sL2.2 (Addr.add p26 1) fun (t28 : Int) =>
C_heap_Heap_law10_Pair_Push t1 t27 t28 sL2.2 fun  (h29 : Hp) =>
idxS a0_l.a a0_l.len sL2.1.2.1 2 fun (p30 : Addr) =>
ldA (.int .i64) h29 (Addr.add p30 1) fun (t31 : Int) =>
Let (IntKind.wrap .i64 (sL2.1.1 + t31) : Int) fun (t32 : Int) =>
Let (IntKind.wrap .i64 (sL2.1.2.1 + 1) : Int) fun (t33 : Int) =>
R2 ((t32, t33, ()), h29)) (
J1 (sL2.1.1, ()) sL2.2)
def F_law10_HeapAlike (a0_l : Sl) (h : Hp) (K : Bool → Hp → Prop) : Prop :=
C_heap_New_law10_Pair (.func (.func 7) #[] #[]) h fun (t1 : Option Addr) (h2 : Hp) =>
Jn (J1_law10_HeapAlike a0_l K t1) fun (J1 : Int × Unit → Hp → Prop) =>
∃ n, Lp (L2_law10_HeapAlike a0_l t1 J1) n ((0, 0, ()), h2)

theorem F_law10_HeapAlike_ok (a0_l : Sl) (h : Hp) (K : Bool → Hp → Prop) (hF : F_law10_HeapAlike a0_l h K) : C_law10_HeapAlike a0_l h K := by
  have e : bodyVC Try.prog Try.f3 (.seq .no (.seq .no (.seq .no (.join [(4, .at (.int .i64))] (.seq .no (.block (.loop [(4, .at (.int .i64)), (5, .at (.int .i64))] (.seq (.seq .no (.cond .no .no)) (.seq (.block (.seq .no .no)) .no))))) (.seq .no (.join [(4, .at (.int .i64))] (.seq .no (.block (.loop [(4, .at (.int .i64)), (6, .at (.int .i64)), (7, .at (.int .i64))] (.seq (.seq .no (.cond .no .no)) (.seq (.block (.seq .no (.join [] (.seq .no (.cond (.seq .no .no) .no)) (.seq .no .no)))) .no))))) (.seq .no (.seq .no .no)))))))) (Option.getD Try.f3.body .skip) [.slice a0_l.a a0_l.len a0_l.cap] h [.at .bool] (fun s h => K s.1 h) = F_law10_HeapAlike a0_l h K := by kernel_rfl
  exact fun_sound mixed Try.func3 rfl (e.mpr hF)

def J1_law10_HeapDoes (K : Bool → Hp → Prop) (t1 : Option Addr) (sL1 : (Sl × Int × Unit) × Hp) (R1 : (Sl × Int × Unit) × Hp → Prop) (sJ1 : Sl × Unit) (hJ1 : Hp) : Prop :=
C_heap_Heap_int_Top t1 hJ1 fun (t3 : Int) (t4 : Bool) (h5 : Hp) =>
C_heap_Heap_int_Len t1 h5 fun (t6 : Int) (h7 : Hp) =>
cnd (t6 != (sJ1.1.len : Int)) (
K false h7) (
cnd (!(t4 == (decide ((sJ1.1.len : Int) > 0)))) (
K false h7) (
cnd t4 (
idxS sJ1.1.a sJ1.1.len 0 1 fun (p8 : Addr) =>
ldA (.int .i64) h7 p8 fun (t9 : Int) =>
cnd (t3 != t9) (
K false h7) (
cnd (!t4) (
cnd (t3 != 0) (
K false h7) (
C_heap_Heap_int_All t1 h7 fun (t10 : Sl) (h11 : Hp) =>
C_ref07_Ints t10 (Sl.mk sJ1.1.a sJ1.1.len sJ1.1.cap) h11 fun (t12 : Bool) (h13 : Hp) =>
cnd (!t12) (
K false h13) (
Let (IntKind.wrap .i64 (sL1.1.2.1 + 1) : Int) fun (t14 : Int) =>
R1 (((Sl.mk sJ1.1.a sJ1.1.len sJ1.1.cap), t14, ()), h13)))) (
C_heap_Heap_int_All t1 h7 fun (t15 : Sl) (h16 : Hp) =>
C_ref07_Ints t15 (Sl.mk sJ1.1.a sJ1.1.len sJ1.1.cap) h16 fun (t17 : Bool) (h18 : Hp) =>
cnd (!t17) (
K false h18) (
Let (IntKind.wrap .i64 (sL1.1.2.1 + 1) : Int) fun (t19 : Int) =>
R1 (((Sl.mk sJ1.1.a sJ1.1.len sJ1.1.cap), t19, ()), h18))))) (
cnd (!t4) (
cnd (t3 != 0) (
K false h7) (
C_heap_Heap_int_All t1 h7 fun (t20 : Sl) (h21 : Hp) =>
C_ref07_Ints t20 (Sl.mk sJ1.1.a sJ1.1.len sJ1.1.cap) h21 fun (t22 : Bool) (h23 : Hp) =>
cnd (!t22) (
K false h23) (
Let (IntKind.wrap .i64 (sL1.1.2.1 + 1) : Int) fun (t24 : Int) =>
R1 (((Sl.mk sJ1.1.a sJ1.1.len sJ1.1.cap), t24, ()), h23)))) (
C_heap_Heap_int_All t1 h7 fun (t25 : Sl) (h26 : Hp) =>
C_ref07_Ints t25 (Sl.mk sJ1.1.a sJ1.1.len sJ1.1.cap) h26 fun (t27 : Bool) (h28 : Hp) =>
cnd (!t27) (
K false h28) (
Let (IntKind.wrap .i64 (sL1.1.2.1 + 1) : Int) fun (t29 : Int) =>
R1 (((Sl.mk sJ1.1.a sJ1.1.len sJ1.1.cap), t29, ()), h28))))))
def J2_law10_HeapDoes (sL1 : (Sl × Int × Unit) × Hp) (J1 : Sl × Unit → Hp → Prop) (t33 : Bool) (sJ2 : Unit) (hJ2 : Hp) : Prop :=
cnd t33 (
slcS sL1.1.1.a sL1.1.1.len sL1.1.1.cap (some 1) none 1 fun (t35 : Option Addr) (l36 c37 : Nat) =>
J1 ((Sl.mk t35 l36 c37), ()) hJ2) (
J1 ((Sl.mk sL1.1.1.a sL1.1.1.len sL1.1.1.cap), ()) hJ2)
def L1_law10_HeapDoes (a0_l : Sl) (K : Bool → Hp → Prop) (t1 : Option Addr) (sL1 : (Sl × Int × Unit) × Hp) (R1 : (Sl × Int × Unit) × Hp → Prop) : Prop :=
cnd (decide (sL1.1.2.1 < (a0_l.len : Int))) (
Jn (J1_law10_HeapDoes K t1 sL1 R1) fun (J1 : Sl × Unit → Hp → Prop) =>
idxS a0_l.a a0_l.len sL1.1.2.1 2 fun (p30 : Addr) =>
ldA .bool sL1.2 p30 fun (t31 : Bool) =>
cnd t31 (
C_heap_Heap_int_Pop t1 sL1.2 fun (t32 : Int) (t33 : Bool) (h34 : Hp) =>
Jn (J2_law10_HeapDoes sL1 J1 t33) fun (J2 : Unit → Hp → Prop) =>
cnd (!(t33 == (decide ((sL1.1.1.len : Int) > 0)))) (
K false h34) (
cnd t33 (
idxS sL1.1.1.a sL1.1.1.len 0 1 fun (p38 : Addr) =>
ldA (.int .i64) h34 p38 fun (t39 : Int) =>
cnd (t32 != t39) (
K false h34) (
cnd (!t33) (
cnd (t32 != 0) (
K false h34) (
J2 (()) h34)) (
J2 (()) h34))) (
cnd (!t33) (
cnd (t32 != 0) (
K false h34) (
J2 (()) h34)) (
J2 (()) h34)))) (
idxS a0_l.a a0_l.len sL1.1.2.1 2 fun (p40 : Addr) =>
ldA (.int .i64) sL1.2 (Addr.add p40 1) fun (t41 : Int) =>
C_heap_Heap_int_Push t1 t41 sL1.2 fun  (h42 : Hp) =>
idxS a0_l.a a0_l.len sL1.1.2.1 2 fun (p43 : Addr) =>
ldA (.int .i64) h42 (Addr.add p43 1) fun (t44 : Int) =>
C_ref10_Put (Sl.mk sL1.1.1.a sL1.1.1.len sL1.1.1.cap) t44 h42 fun (t45 : Sl) (h46 : Hp) =>
J1 (t45, ()) h46)) (
C_law10_lives  sL1.2 fun (t47 : Bool) (h48 : Hp) =>
K t47 h48)
def F_law10_HeapDoes (a0_l : Sl) (h : Hp) (K : Bool → Hp → Prop) : Prop :=
C_heap_New_int (.func (.func 8) #[] #[]) h fun (t1 : Option Addr) (h2 : Hp) =>
∃ n, Lp (L1_law10_HeapDoes a0_l K t1) n (((Sl.mk none 0 0), 0, ()), h2)

theorem F_law10_HeapDoes_ok (a0_l : Sl) (h : Hp) (K : Bool → Hp → Prop) (hF : F_law10_HeapDoes a0_l h K) : C_law10_HeapDoes a0_l h K := by
  have e : bodyVC Try.prog Try.f4 (.seq .no (.seq .no (.seq .no (.seq (.seq .no (.block (.loop [(4, .at .sl), (5, .at (.int .i64))] (.seq (.seq .no (.cond .no .no)) (.seq (.block (.join [(4, .at .sl)] (.seq .no (.cond (.seq .no (.join [] (.seq .no (.cond (.seq .no .no) .no)) (.seq .no (.cond .no .no)))) (.seq .no .no))) (.seq .no (.seq .no (.cond (.seq .no .no) .no))))) .no))))) (.seq .no .no))))) (Option.getD Try.f4.body .skip) [.slice a0_l.a a0_l.len a0_l.cap] h [.at .bool] (fun s h => K s.1 h) = F_law10_HeapDoes a0_l h K := by kernel_rfl
  exact fun_sound mixed Try.func4 rfl (e.mpr hF)

def F_law10_HeapNone (a0_n : Int) (h : Hp) (K : Bool → Hp → Prop) : Prop :=
C_heap_Heap_int_Push none a0_n h fun  (h1 : Hp) =>
C_heap_Heap_int_Pop none h1 fun (t2 : Int) (t3 : Bool) (h4 : Hp) =>
C_heap_Heap_int_Top none h4 fun (t5 : Int) (t6 : Bool) (h7 : Hp) =>
cnd (t2 == 0) (
cnd (!t3) (
cnd (t5 == 0) (
cnd (!t6) (
C_heap_Heap_int_Len none h7 fun (t8 : Int) (h9 : Hp) =>
cnd (t8 == 0) (
C_heap_Heap_int_All none h9 fun (t10 : Sl) (h11 : Hp) =>
cnd ((t10.len : Int) == 0) (
C_law10_lives  h11 fun (t12 : Bool) (h13 : Hp) =>
K t12 h13) (
K false h11)) (
K false h9)) (
K false h7)) (
K false h7)) (
K false h7)) (
K false h7)

theorem F_law10_HeapNone_ok (a0_n : Int) (h : Hp) (K : Bool → Hp → Prop) (hF : F_law10_HeapNone a0_n h K) : C_law10_HeapNone a0_n h K := by
  have e : bodyVC Try.prog Try.f5 (.seq .no (.seq .no (.seq .no (.seq .no (.seq .no (.seq .no .no)))))) (Option.getD Try.f5.body .skip) [.int .i64 a0_n] h [.at .bool] (fun s h => K s.1 h) = F_law10_HeapNone a0_n h K := by kernel_rfl
  exact fun_sound mixed Try.func5 rfl (e.mpr hF)

def F_heap_New_law10_Pair (a0_order : Value) (h : Hp) (K : Option Addr → Hp → Prop) : Prop :=
oneA a0_order fun (v1 : Value) =>
Let (Array.push h (Obj.cells #[v1, .slice none 0 0] 50)) fun (h2 : Hp) =>
Let (Addr.mk (Array.size h) 0 none) fun (p3 : Addr) =>
K (some p3) h2

theorem F_heap_New_law10_Pair_ok (a0_order : Value) (h : Hp) (K : Option Addr → Hp → Prop) (hF : F_heap_New_law10_Pair a0_order h K) : C_heap_New_law10_Pair a0_order h K := by
  have e : bodyVC Try.prog Try.f6 (.seq .no (.seq .no .no)) (Option.getD Try.f6.body .skip) [a0_order] h [.at .ptr] (fun s h => K s.1 h) = F_heap_New_law10_Pair a0_order h K := by kernel_rfl
  exact fun_sound mixed Try.func6 rfl (e.mpr hF)

def F_law10_HeapAlike_1 (a0_a : Int) (a1_a : Int) (a2_b : Int) (a3_b : Int) (h : Hp) (K : Int → Hp → Prop) : Prop :=
Let (Array.push h (Obj.cells #[.int .i64 a0_a, .int .i64 a1_a] 26)) fun (h1 : Hp) =>
Let (Addr.mk (Array.size h) 0 none) fun (p2 : Addr) =>
Let (Array.push h1 (Obj.cells #[.int .i64 a2_b, .int .i64 a3_b] 26)) fun (h3 : Hp) =>
Let (Addr.mk (Array.size h1) 0 none) fun (p4 : Addr) =>
ldA (.int .i64) h3 p2 fun (t5 : Int) =>
ldA (.int .i64) h3 p4 fun (t6 : Int) =>
C_law10_order t5 t6 h3 fun (t7 : Int) (h8 : Hp) =>
K t7 h8

theorem F_law10_HeapAlike_1_ok (a0_a : Int) (a1_a : Int) (a2_b : Int) (a3_b : Int) (h : Hp) (K : Int → Hp → Prop) (hF : F_law10_HeapAlike_1 a0_a a1_a a2_b a3_b h K) : C_law10_HeapAlike_1 a0_a a1_a a2_b a3_b h K := by
  have e : bodyVC Try.prog Try.f7 (.seq .no (.seq .no .no)) (Option.getD Try.f7.body .skip) [.agg #[.int .i64 a0_a, .int .i64 a1_a], .agg #[.int .i64 a2_b, .int .i64 a3_b]] h [.at (.int .i64)] (fun s h => K s.1 h) = F_law10_HeapAlike_1 a0_a a1_a a2_b a3_b h K := by kernel_rfl
  exact fun_sound mixed Try.func7 rfl (e.mpr hF)

def F_law10_order (a0_a : Int) (a1_b : Int) (h : Hp) (K : Int → Hp → Prop) : Prop :=
cnd (decide (a0_a < a1_b)) (
K (-1) h) (
cnd (decide (a0_a > a1_b)) (
K 1 h) (
K 0 h))

theorem F_law10_order_ok (a0_a : Int) (a1_b : Int) (h : Hp) (K : Int → Hp → Prop) (hF : F_law10_order a0_a a1_b h K) : C_law10_order a0_a a1_b h K := by
  have e : bodyVC Try.prog Try.f8 (.seq .no (.seq (.seq .no (.cond (.seq .no .no) .no)) (.seq (.seq .no (.cond (.seq .no .no) .no)) (.seq .no .no)))) (Option.getD Try.f8.body .skip) [.int .i64 a0_a, .int .i64 a1_b] h [.at (.int .i64)] (fun s h => K s.1 h) = F_law10_order a0_a a1_b h K := by kernel_rfl
  exact fun_sound mixed Try.func8 rfl (e.mpr hF)

def F_heap_Heap_law10_Pair_Push (a0_h : Option Addr) (a1_x : Int) (a2_x : Int) (h : Hp) (K : Hp → Prop) : Prop :=
Let (Array.push h (Obj.cells #[.int .i64 a1_x, .int .i64 a2_x] 26)) fun (h1 : Hp) =>
Let (Addr.mk (Array.size h) 0 none) fun (p2 : Addr) =>
cnd (Option.isNone a0_h) (
K h1) (
someA a0_h fun (p3 : Addr) =>
ldA .sl h1 (Addr.add p3 1) fun (t4 : Sl) =>
ldA (.int .i64) h1 p2 fun (t5 : Int) =>
ldA (.int .i64) h1 (Addr.add p2 1) fun (t6 : Int) =>
Let (Array.push h1 (Obj.cells #[.int .i64 t5, .int .i64 t6] 26)) fun (h7 : Hp) =>
Let (Addr.mk (Array.size h1) 0 none) fun (p8 : Addr) =>
Ext h1 h7 ∧ (
appS 26 2 16 [.int .i64 0, .int .i64 0] t4.a t4.len t4.cap (.slice (some p8) 1 1) h7 fun (t9 : Sl) (h10 : Hp) =>
someA a0_h fun (p11 : Addr) =>
((1 : Nat) = 1) ∧ (
stC h10 (Addr.add p11 1) (
Let (hset h10 (Addr.add p11 1) (.slice t9.a t9.len t9.cap)) fun (h12 : Hp) =>
someA a0_h fun (p13 : Addr) =>
ldA .sl h12 (Addr.add p13 1) fun (t14 : Sl) =>
Let (IntKind.wrap .i64 ((t14.len : Int) - 1) : Int) fun (t15 : Int) =>
C_heap_Heap_law10_Pair_up a0_h t15 h12 fun  (h16 : Hp) =>
K h16))))

theorem F_heap_Heap_law10_Pair_Push_ok (a0_h : Option Addr) (a1_x : Int) (a2_x : Int) (h : Hp) (K : Hp → Prop) (hF : F_heap_Heap_law10_Pair_Push a0_h a1_x a2_x h K) : C_heap_Heap_law10_Pair_Push a0_h a1_x a2_x h K := by
  have e : bodyVC Try.prog Try.f9 (.seq .no (.seq (.seq .no (.cond .no .no)) (.seq .no .no))) (Option.getD Try.f9.body .skip) [.pointer a0_h, .agg #[.int .i64 a1_x, .int .i64 a2_x]] h [] (fun s h => K h) = F_heap_Heap_law10_Pair_Push a0_h a1_x a2_x h K := by kernel_rfl
  exact fun_sound mixed Try.func9 rfl (e.mpr hF)

def F_heap_Heap_law10_Pair_Pop (a0_h : Option Addr) (h : Hp) (K : Int → Int → Bool → Hp → Prop) : Prop :=
Let (Array.push h (Obj.cells #[.int .i64 0, .int .i64 0] 26)) fun (h1 : Hp) =>
Let (Addr.mk (Array.size h) 0 none) fun (p2 : Addr) =>
C_heap_Heap_law10_Pair_Top a0_h h1 fun (t3 : Int) (t4 : Int) (t5 : Bool) (h6 : Hp) =>
Let (Array.push h6 (Obj.cells #[.int .i64 0, .int .i64 0] 26)) fun (h7 : Hp) =>
Let (Addr.mk (Array.size h6) 0 none) fun (p8 : Addr) =>
stC h7 p8 (
Let (hset h7 p8 (.int .i64 t3)) fun (h9 : Hp) =>
stC h9 (Addr.add p8 1) (
Let (hset h9 (Addr.add p8 1) (.int .i64 t4)) fun (h10 : Hp) =>
cnd (!t5) (
ldA (.int .i64) h10 p8 fun (t11 : Int) =>
ldA (.int .i64) h10 (Addr.add p8 1) fun (t12 : Int) =>
stC h10 p2 (
Let (hset h10 p2 (.int .i64 t11)) fun (h13 : Hp) =>
stC h13 (Addr.add p2 1) (
Let (hset h13 (Addr.add p2 1) (.int .i64 t12)) fun (h14 : Hp) =>
ldA (.int .i64) h14 p2 fun (r15 : Int) =>
ldA (.int .i64) h14 (Addr.add p2 1) fun (r16 : Int) =>
K r15 r16 false h14))) (
someA a0_h fun (p17 : Addr) =>
ldA .sl h10 (Addr.add p17 1) fun (t18 : Sl) =>
Let (IntKind.wrap .i64 ((t18.len : Int) - 1) : Int) fun (t19 : Int) =>
C_heap_Heap_law10_Pair_swap a0_h 0 t19 h10 fun  (h20 : Hp) =>
someA a0_h fun (p21 : Addr) =>
ldA .sl h20 (Addr.add p21 1) fun (t22 : Sl) =>
slcS t22.a t22.len t22.cap none (some t19) 2 fun (t23 : Option Addr) (l24 c25 : Nat) =>
someA a0_h fun (p26 : Addr) =>
((1 : Nat) = 1) ∧ (
stC h20 (Addr.add p26 1) (
Let (hset h20 (Addr.add p26 1) (.slice t23 l24 c25)) fun (h27 : Hp) =>
cnd (decide (t19 > 0)) (
C_heap_Heap_law10_Pair_down a0_h 0 h27 fun  (h28 : Hp) =>
ldA (.int .i64) h28 p8 fun (t29 : Int) =>
ldA (.int .i64) h28 (Addr.add p8 1) fun (t30 : Int) =>
stC h28 p2 (
Let (hset h28 p2 (.int .i64 t29)) fun (h31 : Hp) =>
stC h31 (Addr.add p2 1) (
Let (hset h31 (Addr.add p2 1) (.int .i64 t30)) fun (h32 : Hp) =>
ldA (.int .i64) h32 p2 fun (r33 : Int) =>
ldA (.int .i64) h32 (Addr.add p2 1) fun (r34 : Int) =>
K r33 r34 true h32))) (
ldA (.int .i64) h27 p8 fun (t35 : Int) =>
ldA (.int .i64) h27 (Addr.add p8 1) fun (t36 : Int) =>
stC h27 p2 (
Let (hset h27 p2 (.int .i64 t35)) fun (h37 : Hp) =>
stC h37 (Addr.add p2 1) (
Let (hset h37 (Addr.add p2 1) (.int .i64 t36)) fun (h38 : Hp) =>
ldA (.int .i64) h38 p2 fun (r39 : Int) =>
ldA (.int .i64) h38 (Addr.add p2 1) fun (r40 : Int) =>
K r39 r40 true h38))))))))

theorem F_heap_Heap_law10_Pair_Pop_ok (a0_h : Option Addr) (h : Hp) (K : Int → Int → Bool → Hp → Prop) (hF : F_heap_Heap_law10_Pair_Pop a0_h h K) : C_heap_Heap_law10_Pair_Pop a0_h h K := by
  have e : bodyVC Try.prog Try.f10 (.seq .no (.seq .no (.seq (.seq .no (.cond (.seq .no .no) .no)) (.seq .no (.seq .no (.seq .no (.seq (.seq .no (.cond .no .no)) (.seq .no .no)))))))) (Option.getD Try.f10.body .skip) [.pointer a0_h] h [.agg [(.int .i64), (.int .i64)], .at .bool] (fun s h => K s.1.1 s.1.2.1 s.2.1 h) = F_heap_Heap_law10_Pair_Pop a0_h h K := by kernel_rfl
  exact fun_sound mixed Try.func10 rfl (e.mpr hF)

def F_law10_lives  (h : Hp) (K : Bool → Hp → Prop) : Prop :=
C_heap_New_int (.func (.func 8) #[] #[]) h fun (t1 : Option Addr) (h2 : Hp) =>
C_heap_Heap_int_Push t1 3 h2 fun  (h3 : Hp) =>
C_heap_Heap_int_Push t1 1 h3 fun  (h4 : Hp) =>
C_heap_Heap_int_Push t1 2 h4 fun  (h5 : Hp) =>
C_heap_Heap_int_Pop t1 h5 fun (t6 : Int) (t7 : Bool) (h8 : Hp) =>
cnd (t6 == 1) (
cnd t7 (
C_heap_Heap_int_Len t1 h8 fun (t9 : Int) (h10 : Hp) =>
K (t9 == 2) h10) (
K false h8)) (
K false h8)

theorem F_law10_lives_ok  (h : Hp) (K : Bool → Hp → Prop) (hF : F_law10_lives  h K) : C_law10_lives  h K := by
  have e : bodyVC Try.prog Try.f11 (.seq .no (.seq .no (.seq .no (.seq .no (.seq .no (.seq .no (.seq .no .no))))))) (Option.getD Try.f11.body .skip) [] h [.at .bool] (fun s h => K s.1 h) = F_law10_lives  h K := by kernel_rfl
  exact fun_sound mixed Try.func11 rfl (e.mpr hF)

def F_heap_New_int (a0_order : Value) (h : Hp) (K : Option Addr → Hp → Prop) : Prop :=
oneA a0_order fun (v1 : Value) =>
Let (Array.push h (Obj.cells #[v1, .slice none 0 0] 53)) fun (h2 : Hp) =>
Let (Addr.mk (Array.size h) 0 none) fun (p3 : Addr) =>
K (some p3) h2

theorem F_heap_New_int_ok (a0_order : Value) (h : Hp) (K : Option Addr → Hp → Prop) (hF : F_heap_New_int a0_order h K) : C_heap_New_int a0_order h K := by
  have e : bodyVC Try.prog Try.f12 (.seq .no (.seq .no .no)) (Option.getD Try.f12.body .skip) [a0_order] h [.at .ptr] (fun s h => K s.1 h) = F_heap_New_int a0_order h K := by kernel_rfl
  exact fun_sound mixed Try.func12 rfl (e.mpr hF)

def F_heap_Heap_int_Pop (a0_h : Option Addr) (h : Hp) (K : Int → Bool → Hp → Prop) : Prop :=
C_heap_Heap_int_Top a0_h h fun (t1 : Int) (t2 : Bool) (h3 : Hp) =>
cnd (!t2) (
K t1 false h3) (
someA a0_h fun (p4 : Addr) =>
ldA .sl h3 (Addr.add p4 1) fun (t5 : Sl) =>
Let (IntKind.wrap .i64 ((t5.len : Int) - 1) : Int) fun (t6 : Int) =>
C_heap_Heap_int_swap a0_h 0 t6 h3 fun  (h7 : Hp) =>
someA a0_h fun (p8 : Addr) =>
ldA .sl h7 (Addr.add p8 1) fun (t9 : Sl) =>
slcS t9.a t9.len t9.cap none (some t6) 1 fun (t10 : Option Addr) (l11 c12 : Nat) =>
someA a0_h fun (p13 : Addr) =>
((1 : Nat) = 1) ∧ (
stC h7 (Addr.add p13 1) (
Let (hset h7 (Addr.add p13 1) (.slice t10 l11 c12)) fun (h14 : Hp) =>
cnd (decide (t6 > 0)) (
C_heap_Heap_int_down a0_h 0 h14 fun  (h15 : Hp) =>
K t1 true h15) (
K t1 true h14))))

theorem F_heap_Heap_int_Pop_ok (a0_h : Option Addr) (h : Hp) (K : Int → Bool → Hp → Prop) (hF : F_heap_Heap_int_Pop a0_h h K) : C_heap_Heap_int_Pop a0_h h K := by
  have e : bodyVC Try.prog Try.f13 (.seq .no (.seq .no (.seq (.seq .no (.cond (.seq .no .no) .no)) (.seq .no (.seq .no (.seq .no (.seq (.seq .no (.cond .no .no)) (.seq .no .no)))))))) (Option.getD Try.f13.body .skip) [.pointer a0_h] h [.at (.int .i64), .at .bool] (fun s h => K s.1 s.2.1 h) = F_heap_Heap_int_Pop a0_h h K := by kernel_rfl
  exact fun_sound mixed Try.func13 rfl (e.mpr hF)

def F_heap_Heap_int_Push (a0_h : Option Addr) (a1_x : Int) (h : Hp) (K : Hp → Prop) : Prop :=
cnd (Option.isNone a0_h) (
K h) (
someA a0_h fun (p1 : Addr) =>
ldA .sl h (Addr.add p1 1) fun (t2 : Sl) =>
Let (Array.push h (Obj.cells #[.int .i64 a1_x] 3)) fun (h3 : Hp) =>
Let (Addr.mk (Array.size h) 0 none) fun (p4 : Addr) =>
appS 3 1 8 [.int .i64 0] t2.a t2.len t2.cap (.slice (some p4) 1 1) h3 fun (t5 : Sl) (h6 : Hp) =>
someA a0_h fun (p7 : Addr) =>
((1 : Nat) = 1) ∧ (
stC h6 (Addr.add p7 1) (
Let (hset h6 (Addr.add p7 1) (.slice t5.a t5.len t5.cap)) fun (h8 : Hp) =>
someA a0_h fun (p9 : Addr) =>
ldA .sl h8 (Addr.add p9 1) fun (t10 : Sl) =>
Let (IntKind.wrap .i64 ((t10.len : Int) - 1) : Int) fun (t11 : Int) =>
C_heap_Heap_int_up a0_h t11 h8 fun  (h12 : Hp) =>
K h12)))

theorem F_heap_Heap_int_Push_ok (a0_h : Option Addr) (a1_x : Int) (h : Hp) (K : Hp → Prop) (hF : F_heap_Heap_int_Push a0_h a1_x h K) : C_heap_Heap_int_Push a0_h a1_x h K := by
  have e : bodyVC Try.prog Try.f14 (.seq (.seq .no (.cond .no .no)) (.seq .no .no)) (Option.getD Try.f14.body .skip) [.pointer a0_h, .int .i64 a1_x] h [] (fun s h => K h) = F_heap_Heap_int_Push a0_h a1_x h K := by kernel_rfl
  exact fun_sound mixed Try.func14 rfl (e.mpr hF)

def J1_ref10_Put (a1_n : Int) (K : Sl → Hp → Prop) (sJ1 : Sl × Bool × Unit) (hJ1 : Hp) : Prop :=
cnd (!sJ1.2.1) (
Let (Array.push hJ1 (Obj.cells #[.int .i64 a1_n] 3)) fun (h1 : Hp) =>
Let (Addr.mk (Array.size hJ1) 0 none) fun (p2 : Addr) =>
appS 3 1 8 [.int .i64 0] sJ1.1.a sJ1.1.len sJ1.1.cap (.slice (some p2) 1 1) h1 fun (t3 : Sl) (h4 : Hp) =>
K t3 h4) (
K (Sl.mk sJ1.1.a sJ1.1.len sJ1.1.cap) hJ1)
def J2_ref10_Put (a0_l : Sl) (sL1 : (Sl × Bool × Int × Unit) × Hp) (R1 : (Sl × Bool × Int × Unit) × Hp → Prop) (sJ2 : Sl × Bool × Unit) (hJ2 : Hp) : Prop :=
idxS a0_l.a a0_l.len sL1.1.2.2.1 1 fun (p5 : Addr) =>
ldA (.int .i64) hJ2 p5 fun (t6 : Int) =>
Let (Array.push hJ2 (Obj.cells #[.int .i64 t6] 3)) fun (h7 : Hp) =>
Let (Addr.mk (Array.size hJ2) 0 none) fun (p8 : Addr) =>
appS 3 1 8 [.int .i64 0] sJ2.1.a sJ2.1.len sJ2.1.cap (.slice (some p8) 1 1) h7 fun (t9 : Sl) (h10 : Hp) =>
Let (IntKind.wrap .i64 (sL1.1.2.2.1 + 1) : Int) fun (t11 : Int) =>
R1 ((t9, sJ2.2.1, t11, ()), h10)
def J3_ref10_Put (a1_n : Int) (sL1 : (Sl × Bool × Int × Unit) × Hp) (J2 : Sl × Bool × Unit → Hp → Prop) (sJ3 : Bool × Unit) (hJ3 : Hp) : Prop :=
cnd sJ3.1 (
Let (Array.push hJ3 (Obj.cells #[.int .i64 a1_n] 3)) fun (h12 : Hp) =>
Let (Addr.mk (Array.size hJ3) 0 none) fun (p13 : Addr) =>
appS 3 1 8 [.int .i64 0] sL1.1.1.a sL1.1.1.len sL1.1.1.cap (.slice (some p13) 1 1) h12 fun (t14 : Sl) (h15 : Hp) =>
J2 (t14, true, ()) h15) (
J2 ((Sl.mk sL1.1.1.a sL1.1.1.len sL1.1.1.cap), sL1.1.2.1, ()) hJ3)
def L1_ref10_Put (a0_l : Sl) (a1_n : Int) (J1 : Sl × Bool × Unit → Hp → Prop) (sL1 : (Sl × Bool × Int × Unit) × Hp) (R1 : (Sl × Bool × Int × Unit) × Hp → Prop) : Prop :=
cnd (decide (sL1.1.2.2.1 < (a0_l.len : Int))) (
Jn (J2_ref10_Put a0_l sL1 R1) fun (J2 : Sl × Bool × Unit → Hp → Prop) =>
Jn (J3_ref10_Put a1_n sL1 J2) fun (J3 : Bool × Unit → Hp → Prop) =>
cnd (!sL1.1.2.1) (
idxS a0_l.a a0_l.len sL1.1.2.2.1 1 fun (p16 : Addr) =>
ldA (.int .i64) sL1.2 p16 fun (t17 : Int) =>
J3 (decide (a1_n < t17), ()) sL1.2) (
J3 (false, ()) sL1.2)) (
J1 ((Sl.mk sL1.1.1.a sL1.1.1.len sL1.1.1.cap), sL1.1.2.1, ()) sL1.2)
def F_ref10_Put (a0_l : Sl) (a1_n : Int) (h : Hp) (K : Sl → Hp → Prop) : Prop :=
Jn (J1_ref10_Put a1_n K) fun (J1 : Sl × Bool × Unit → Hp → Prop) =>
∃ n, Lp (L1_ref10_Put a0_l a1_n J1) n (((Sl.mk none 0 0), false, 0, ()), h)

theorem F_ref10_Put_ok (a0_l : Sl) (a1_n : Int) (h : Hp) (K : Sl → Hp → Prop) (hF : F_ref10_Put a0_l a1_n h K) : C_ref10_Put a0_l a1_n h K := by
  have e : bodyVC Try.prog Try.f15 (.seq .no (.seq .no (.seq .no (.join [(5, .at .sl), (6, .at .bool)] (.seq .no (.block (.loop [(5, .at .sl), (6, .at .bool), (7, .at (.int .i64))] (.seq (.seq .no (.cond .no .no)) (.seq (.block (.join [(5, .at .sl), (6, .at .bool)] (.join [(23, .at .bool)] .no (.cond (.seq .no .no) .no)) .no)) .no))))) (.seq (.seq .no (.cond .no .no)) (.seq .no .no)))))) (Option.getD Try.f15.body .skip) [.slice a0_l.a a0_l.len a0_l.cap, .int .i64 a1_n] h [.at .sl] (fun s h => K s.1 h) = F_ref10_Put a0_l a1_n h K := by kernel_rfl
  exact fun_sound mixed Try.func15 rfl (e.mpr hF)

def J1_heap_Heap_int_Top (a0_h : Option Addr) (K : Int → Bool → Hp → Prop) (sJ1 : Bool × Unit) (hJ1 : Hp) : Prop :=
cnd sJ1.1 (
K 0 false hJ1) (
someA a0_h fun (p1 : Addr) =>
ldA .sl hJ1 (Addr.add p1 1) fun (t2 : Sl) =>
idxS t2.a t2.len 0 1 fun (p3 : Addr) =>
ldA (.int .i64) hJ1 p3 fun (t4 : Int) =>
K t4 true hJ1)
def F_heap_Heap_int_Top (a0_h : Option Addr) (h : Hp) (K : Int → Bool → Hp → Prop) : Prop :=
Jn (J1_heap_Heap_int_Top a0_h K) fun (J1 : Bool × Unit → Hp → Prop) =>
cnd (Option.isNone a0_h) (
J1 (true, ()) h) (
someA a0_h fun (p5 : Addr) =>
ldA .sl h (Addr.add p5 1) fun (t6 : Sl) =>
J1 (((t6.len : Int) == 0), ()) h)

theorem F_heap_Heap_int_Top_ok (a0_h : Option Addr) (h : Hp) (K : Int → Bool → Hp → Prop) (hF : F_heap_Heap_int_Top a0_h h K) : C_heap_Heap_int_Top a0_h h K := by
  have e : bodyVC Try.prog Try.f16 (.seq .no (.seq (.join [(14, .at .bool)] .no (.cond (.seq .no (.seq .no .no)) .no)) (.seq .no .no))) (Option.getD Try.f16.body .skip) [.pointer a0_h] h [.at (.int .i64), .at .bool] (fun s h => K s.1 s.2.1 h) = F_heap_Heap_int_Top a0_h h K := by kernel_rfl
  exact fun_sound mixed Try.func16 rfl (e.mpr hF)

def F_heap_Heap_int_Len (a0_h : Option Addr) (h : Hp) (K : Int → Hp → Prop) : Prop :=
cnd (Option.isNone a0_h) (
K 0 h) (
someA a0_h fun (p1 : Addr) =>
ldA .sl h (Addr.add p1 1) fun (t2 : Sl) =>
K (t2.len : Int) h)

theorem F_heap_Heap_int_Len_ok (a0_h : Option Addr) (h : Hp) (K : Int → Hp → Prop) (hF : F_heap_Heap_int_Len a0_h h K) : C_heap_Heap_int_Len a0_h h K := by
  have e : bodyVC Try.prog Try.f17 (.seq .no (.seq (.seq .no (.cond (.seq .no .no) .no)) (.seq .no .no))) (Option.getD Try.f17.body .skip) [.pointer a0_h] h [.at (.int .i64)] (fun s h => K s.1 h) = F_heap_Heap_int_Len a0_h h K := by kernel_rfl
  exact fun_sound mixed Try.func17 rfl (e.mpr hF)

def L1_ref07_Ints (a0_a : Sl) (a1_b : Sl) (K : Bool → Hp → Prop) (sL1 : (Int × Unit) × Hp) (R1 : (Int × Unit) × Hp → Prop) : Prop :=
cnd (decide (sL1.1.1 < (a0_a.len : Int))) (
idxS a0_a.a a0_a.len sL1.1.1 1 fun (p1 : Addr) =>
ldA (.int .i64) sL1.2 p1 fun (t2 : Int) =>
idxS a1_b.a a1_b.len sL1.1.1 1 fun (p3 : Addr) =>
ldA (.int .i64) sL1.2 p3 fun (t4 : Int) =>
cnd (t2 != t4) (
K false sL1.2) (
Let (IntKind.wrap .i64 (sL1.1.1 + 1) : Int) fun (t5 : Int) =>
R1 ((t5, ()), sL1.2))) (
K true sL1.2)
def F_ref07_Ints (a0_a : Sl) (a1_b : Sl) (h : Hp) (K : Bool → Hp → Prop) : Prop :=
cnd ((a0_a.len : Int) != (a1_b.len : Int)) (
K false h) (
∃ n, Lp (L1_ref07_Ints a0_a a1_b K) n ((0, ()), h))

theorem F_ref07_Ints_ok (a0_a : Sl) (a1_b : Sl) (h : Hp) (K : Bool → Hp → Prop) (hF : F_ref07_Ints a0_a a1_b h K) : C_ref07_Ints a0_a a1_b h K := by
  have e : bodyVC Try.prog Try.f18 (.seq .no (.seq (.seq .no (.cond (.seq .no .no) .no)) (.seq (.seq .no (.block (.loop [(5, .at (.int .i64))] (.seq (.seq .no (.cond .no .no)) (.seq (.block (.seq .no (.cond (.seq .no .no) .no))) .no))))) (.seq .no .no)))) (Option.getD Try.f18.body .skip) [.slice a0_a.a a0_a.len a0_a.cap, .slice a1_b.a a1_b.len a1_b.cap] h [.at .bool] (fun s h => K s.1 h) = F_ref07_Ints a0_a a1_b h K := by kernel_rfl
  exact fun_sound mixed Try.func18 rfl (e.mpr hF)

def F_heap_Heap_int_All (a0_h : Option Addr) (h : Hp) (K : Sl → Hp → Prop) : Prop :=
cnd (Option.isNone a0_h) (
K (Sl.mk none 0 0) h) (
someA a0_h fun (p1 : Addr) =>
ldA .sl h (Addr.add p1 1) fun (t2 : Sl) =>
C_slices_Clone_int_int t2 h fun (t3 : Sl) (h4 : Hp) =>
someA a0_h fun (p5 : Addr) =>
ldA .raw h4 p5 fun (t6 : Value) =>
C_slices_SortFunc_int_int t3 t6 h4 fun  (h7 : Hp) =>
K t3 h7)

theorem F_heap_Heap_int_All_ok (a0_h : Option Addr) (h : Hp) (K : Sl → Hp → Prop) (hF : F_heap_Heap_int_All a0_h h K) : C_heap_Heap_int_All a0_h h K := by
  have e : bodyVC Try.prog Try.f19 (.seq .no (.seq (.seq .no (.cond (.seq .no .no) .no)) (.seq .no (.seq .no (.seq .no .no))))) (Option.getD Try.f19.body .skip) [.pointer a0_h] h [.at .sl] (fun s h => K s.1 h) = F_heap_Heap_int_All a0_h h K := by kernel_rfl
  exact fun_sound mixed Try.func19 rfl (e.mpr hF)

def L1_heap_Heap_law10_Pair_up (a0_h : Option Addr) (K : Hp → Prop) (sL1 : (Int × Unit) × Hp) (R1 : (Int × Unit) × Hp → Prop) : Prop :=
cnd (decide (sL1.1.1 > 0)) (
Let (IntKind.wrap .i64 (sL1.1.1 - 1) : Int) fun (t1 : Int) =>
(2 ≠ (0 : Int)) ∧ (
Let (IntKind.wrap .i64 (Int.tdiv t1 2) : Int) fun (t2 : Int) =>
someA a0_h fun (p3 : Addr) =>
ldA .raw sL1.2 p3 fun (t4 : Value) =>
someA a0_h fun (p5 : Addr) =>
ldA .sl sL1.2 (Addr.add p5 1) fun (t6 : Sl) =>
idxS t6.a t6.len t2 2 fun (p7 : Addr) =>
ldA (.int .i64) sL1.2 p7 fun (t8 : Int) =>
ldA (.int .i64) sL1.2 (Addr.add p7 1) fun (t9 : Int) =>
someA a0_h fun (p10 : Addr) =>
ldA .sl sL1.2 (Addr.add p10 1) fun (t11 : Sl) =>
idxS t11.a t11.len sL1.1.1 2 fun (p12 : Addr) =>
ldA (.int .i64) sL1.2 p12 fun (t13 : Int) =>
ldA (.int .i64) sL1.2 (Addr.add p12 1) fun (t14 : Int) =>
callV Try.prog t4 [.agg #[.int .i64 t8, .int .i64 t9], .agg #[.int .i64 t13, .int .i64 t14]] [.at (.int .i64)] sL1.2 fun (s : Int × Unit) (h16 : Hp) =>
cnd (decide (s.1 ≤ 0)) (
K h16) (
C_heap_Heap_law10_Pair_swap a0_h sL1.1.1 t2 h16 fun  (h17 : Hp) =>
R1 ((t2, ()), h17)))) (
K sL1.2)
def F_heap_Heap_law10_Pair_up (a0_h : Option Addr) (a1_i : Int) (h : Hp) (K : Hp → Prop) : Prop :=
∃ n, Lp (L1_heap_Heap_law10_Pair_up a0_h K) n ((a1_i, ()), h)

theorem F_heap_Heap_law10_Pair_up_ok (a0_h : Option Addr) (a1_i : Int) (h : Hp) (K : Hp → Prop) (hF : F_heap_Heap_law10_Pair_up a0_h a1_i h K) : C_heap_Heap_law10_Pair_up a0_h a1_i h K := by
  have e : bodyVC Try.prog Try.f20 (.block (.loop [(1, .at (.int .i64))] (.seq (.seq .no (.cond .no .no)) (.block (.seq .no (.seq (.seq .no (.cond .no .no)) (.seq .no .no))))))) (Option.getD Try.f20.body .skip) [.pointer a0_h, .int .i64 a1_i] h [] (fun s h => K h) = F_heap_Heap_law10_Pair_up a0_h a1_i h K := by kernel_rfl
  exact fun_sound mixed Try.func20 rfl (e.mpr hF)

def J1_heap_Heap_law10_Pair_Top (a0_h : Option Addr) (K : Int → Int → Bool → Hp → Prop) (p2 : Addr) (sJ1 : Bool × Unit) (hJ1 : Hp) : Prop :=
cnd sJ1.1 (
Let (Array.push hJ1 (Obj.cells #[.int .i64 0, .int .i64 0] 26)) fun (h3 : Hp) =>
Let (Addr.mk (Array.size hJ1) 0 none) fun (p4 : Addr) =>
ldA (.int .i64) h3 p4 fun (t5 : Int) =>
ldA (.int .i64) h3 (Addr.add p4 1) fun (t6 : Int) =>
stC h3 p2 (
Let (hset h3 p2 (.int .i64 t5)) fun (h7 : Hp) =>
stC h7 (Addr.add p2 1) (
Let (hset h7 (Addr.add p2 1) (.int .i64 t6)) fun (h8 : Hp) =>
ldA (.int .i64) h8 p2 fun (r9 : Int) =>
ldA (.int .i64) h8 (Addr.add p2 1) fun (r10 : Int) =>
K r9 r10 false h8))) (
someA a0_h fun (p11 : Addr) =>
ldA .sl hJ1 (Addr.add p11 1) fun (t12 : Sl) =>
idxS t12.a t12.len 0 2 fun (p13 : Addr) =>
ldA (.int .i64) hJ1 p13 fun (t14 : Int) =>
ldA (.int .i64) hJ1 (Addr.add p13 1) fun (t15 : Int) =>
stC hJ1 p2 (
Let (hset hJ1 p2 (.int .i64 t14)) fun (h16 : Hp) =>
stC h16 (Addr.add p2 1) (
Let (hset h16 (Addr.add p2 1) (.int .i64 t15)) fun (h17 : Hp) =>
ldA (.int .i64) h17 p2 fun (r18 : Int) =>
ldA (.int .i64) h17 (Addr.add p2 1) fun (r19 : Int) =>
K r18 r19 true h17)))
def F_heap_Heap_law10_Pair_Top (a0_h : Option Addr) (h : Hp) (K : Int → Int → Bool → Hp → Prop) : Prop :=
Let (Array.push h (Obj.cells #[.int .i64 0, .int .i64 0] 26)) fun (h1 : Hp) =>
Let (Addr.mk (Array.size h) 0 none) fun (p2 : Addr) =>
Jn (J1_heap_Heap_law10_Pair_Top a0_h K p2) fun (J1 : Bool × Unit → Hp → Prop) =>
cnd (Option.isNone a0_h) (
J1 (true, ()) h1) (
someA a0_h fun (p20 : Addr) =>
ldA .sl h1 (Addr.add p20 1) fun (t21 : Sl) =>
J1 (((t21.len : Int) == 0), ()) h1)

theorem F_heap_Heap_law10_Pair_Top_ok (a0_h : Option Addr) (h : Hp) (K : Int → Int → Bool → Hp → Prop) (hF : F_heap_Heap_law10_Pair_Top a0_h h K) : C_heap_Heap_law10_Pair_Top a0_h h K := by
  have e : bodyVC Try.prog Try.f21 (.seq .no (.seq (.join [(14, .at .bool)] .no (.cond (.seq .no (.seq .no .no)) .no)) (.seq .no .no))) (Option.getD Try.f21.body .skip) [.pointer a0_h] h [.agg [(.int .i64), (.int .i64)], .at .bool] (fun s h => K s.1.1 s.1.2.1 s.2.1 h) = F_heap_Heap_law10_Pair_Top a0_h h K := by kernel_rfl
  exact fun_sound mixed Try.func21 rfl (e.mpr hF)

def F_heap_Heap_law10_Pair_swap (a0_h : Option Addr) (a1_i : Int) (a2_k : Int) (h : Hp) (K : Hp → Prop) : Prop :=
someA a0_h fun (p1 : Addr) =>
ldA .sl h (Addr.add p1 1) fun (t2 : Sl) =>
someA a0_h fun (p3 : Addr) =>
ldA .sl h (Addr.add p3 1) fun (t4 : Sl) =>
someA a0_h fun (p5 : Addr) =>
ldA .sl h (Addr.add p5 1) fun (t6 : Sl) =>
idxS t6.a t6.len a2_k 2 fun (p7 : Addr) =>
ldA (.int .i64) h p7 fun (t8 : Int) =>
ldA (.int .i64) h (Addr.add p7 1) fun (t9 : Int) =>
someA a0_h fun (p10 : Addr) =>
ldA .sl h (Addr.add p10 1) fun (t11 : Sl) =>
idxS t11.a t11.len a1_i 2 fun (p12 : Addr) =>
ldA (.int .i64) h p12 fun (t13 : Int) =>
ldA (.int .i64) h (Addr.add p12 1) fun (t14 : Int) =>
idxS t2.a t2.len a1_i 2 fun (p15 : Addr) =>
stC h p15 (
Let (hset h p15 (.int .i64 t8)) fun (h16 : Hp) =>
stC h16 (Addr.add p15 1) (
Let (hset h16 (Addr.add p15 1) (.int .i64 t9)) fun (h17 : Hp) =>
idxS t4.a t4.len a2_k 2 fun (p18 : Addr) =>
stC h17 p18 (
Let (hset h17 p18 (.int .i64 t13)) fun (h19 : Hp) =>
stC h19 (Addr.add p18 1) (
Let (hset h19 (Addr.add p18 1) (.int .i64 t14)) fun (h20 : Hp) =>
K h20))))

theorem F_heap_Heap_law10_Pair_swap_ok (a0_h : Option Addr) (a1_i : Int) (a2_k : Int) (h : Hp) (K : Hp → Prop) (hF : F_heap_Heap_law10_Pair_swap a0_h a1_i a2_k h K) : C_heap_Heap_law10_Pair_swap a0_h a1_i a2_k h K := by
  have e : bodyVC Try.prog Try.f22 .no (Option.getD Try.f22.body .skip) [.pointer a0_h, .int .i64 a1_i, .int .i64 a2_k] h [] (fun s h => K h) = F_heap_Heap_law10_Pair_swap a0_h a1_i a2_k h K := by kernel_rfl
  exact fun_sound mixed Try.func22 rfl (e.mpr hF)

def L1_heap_Heap_law10_Pair_down (a0_h : Option Addr) (K : Hp → Prop) (sL1 : (Int × Int × Unit) × Hp) (R1 : (Int × Int × Unit) × Hp → Prop) : Prop :=
cnd (sL1.1.2.1 != sL1.1.1) (
C_heap_Heap_law10_Pair_swap a0_h sL1.1.1 sL1.1.2.1 sL1.2 fun  (h3 : Hp) =>
C_heap_Heap_law10_Pair_first a0_h sL1.1.2.1 h3 fun (t4 : Int) (h5 : Hp) =>
R1 ((sL1.1.2.1, t4, ()), h5)) (
K sL1.2)
def F_heap_Heap_law10_Pair_down (a0_h : Option Addr) (a1_i : Int) (h : Hp) (K : Hp → Prop) : Prop :=
C_heap_Heap_law10_Pair_first a0_h a1_i h fun (t1 : Int) (h2 : Hp) =>
∃ n, Lp (L1_heap_Heap_law10_Pair_down a0_h K) n ((a1_i, t1, ()), h2)

theorem F_heap_Heap_law10_Pair_down_ok (a0_h : Option Addr) (a1_i : Int) (h : Hp) (K : Hp → Prop) (hF : F_heap_Heap_law10_Pair_down a0_h a1_i h K) : C_heap_Heap_law10_Pair_down a0_h a1_i h K := by
  have e : bodyVC Try.prog Try.f23 (.seq .no (.block (.loop [(1, .at (.int .i64)), (4, .at (.int .i64))] (.seq (.seq .no (.cond .no .no)) (.seq (.block (.seq .no .no)) .no))))) (Option.getD Try.f23.body .skip) [.pointer a0_h, .int .i64 a1_i] h [] (fun s h => K h) = F_heap_Heap_law10_Pair_down a0_h a1_i h K := by kernel_rfl
  exact fun_sound mixed Try.func23 rfl (e.mpr hF)

def F_heap_Heap_int_swap (a0_h : Option Addr) (a1_i : Int) (a2_k : Int) (h : Hp) (K : Hp → Prop) : Prop :=
someA a0_h fun (p1 : Addr) =>
ldA .sl h (Addr.add p1 1) fun (t2 : Sl) =>
someA a0_h fun (p3 : Addr) =>
ldA .sl h (Addr.add p3 1) fun (t4 : Sl) =>
someA a0_h fun (p5 : Addr) =>
ldA .sl h (Addr.add p5 1) fun (t6 : Sl) =>
idxS t6.a t6.len a2_k 1 fun (p7 : Addr) =>
ldA (.int .i64) h p7 fun (t8 : Int) =>
someA a0_h fun (p9 : Addr) =>
ldA .sl h (Addr.add p9 1) fun (t10 : Sl) =>
idxS t10.a t10.len a1_i 1 fun (p11 : Addr) =>
ldA (.int .i64) h p11 fun (t12 : Int) =>
idxS t2.a t2.len a1_i 1 fun (p13 : Addr) =>
((1 : Nat) = 1) ∧ (
stC h p13 (
Let (hset h p13 (.int .i64 t8)) fun (h14 : Hp) =>
idxS t4.a t4.len a2_k 1 fun (p15 : Addr) =>
((1 : Nat) = 1) ∧ (
stC h14 p15 (
Let (hset h14 p15 (.int .i64 t12)) fun (h16 : Hp) =>
K h16))))

theorem F_heap_Heap_int_swap_ok (a0_h : Option Addr) (a1_i : Int) (a2_k : Int) (h : Hp) (K : Hp → Prop) (hF : F_heap_Heap_int_swap a0_h a1_i a2_k h K) : C_heap_Heap_int_swap a0_h a1_i a2_k h K := by
  have e : bodyVC Try.prog Try.f24 .no (Option.getD Try.f24.body .skip) [.pointer a0_h, .int .i64 a1_i, .int .i64 a2_k] h [] (fun s h => K h) = F_heap_Heap_int_swap a0_h a1_i a2_k h K := by kernel_rfl
  exact fun_sound mixed Try.func24 rfl (e.mpr hF)

def L1_heap_Heap_int_down (a0_h : Option Addr) (K : Hp → Prop) (sL1 : (Int × Int × Unit) × Hp) (R1 : (Int × Int × Unit) × Hp → Prop) : Prop :=
cnd (sL1.1.2.1 != sL1.1.1) (
C_heap_Heap_int_swap a0_h sL1.1.1 sL1.1.2.1 sL1.2 fun  (h3 : Hp) =>
C_heap_Heap_int_first a0_h sL1.1.2.1 h3 fun (t4 : Int) (h5 : Hp) =>
R1 ((sL1.1.2.1, t4, ()), h5)) (
K sL1.2)
def F_heap_Heap_int_down (a0_h : Option Addr) (a1_i : Int) (h : Hp) (K : Hp → Prop) : Prop :=
C_heap_Heap_int_first a0_h a1_i h fun (t1 : Int) (h2 : Hp) =>
∃ n, Lp (L1_heap_Heap_int_down a0_h K) n ((a1_i, t1, ()), h2)

theorem F_heap_Heap_int_down_ok (a0_h : Option Addr) (a1_i : Int) (h : Hp) (K : Hp → Prop) (hF : F_heap_Heap_int_down a0_h a1_i h K) : C_heap_Heap_int_down a0_h a1_i h K := by
  have e : bodyVC Try.prog Try.f25 (.seq .no (.block (.loop [(1, .at (.int .i64)), (4, .at (.int .i64))] (.seq (.seq .no (.cond .no .no)) (.seq (.block (.seq .no .no)) .no))))) (Option.getD Try.f25.body .skip) [.pointer a0_h, .int .i64 a1_i] h [] (fun s h => K h) = F_heap_Heap_int_down a0_h a1_i h K := by kernel_rfl
  exact fun_sound mixed Try.func25 rfl (e.mpr hF)

def L1_heap_Heap_int_up (a0_h : Option Addr) (K : Hp → Prop) (sL1 : (Int × Unit) × Hp) (R1 : (Int × Unit) × Hp → Prop) : Prop :=
cnd (decide (sL1.1.1 > 0)) (
Let (IntKind.wrap .i64 (sL1.1.1 - 1) : Int) fun (t1 : Int) =>
(2 ≠ (0 : Int)) ∧ (
Let (IntKind.wrap .i64 (Int.tdiv t1 2) : Int) fun (t2 : Int) =>
someA a0_h fun (p3 : Addr) =>
ldA .raw sL1.2 p3 fun (t4 : Value) =>
someA a0_h fun (p5 : Addr) =>
ldA .sl sL1.2 (Addr.add p5 1) fun (t6 : Sl) =>
idxS t6.a t6.len t2 1 fun (p7 : Addr) =>
ldA (.int .i64) sL1.2 p7 fun (t8 : Int) =>
someA a0_h fun (p9 : Addr) =>
ldA .sl sL1.2 (Addr.add p9 1) fun (t10 : Sl) =>
idxS t10.a t10.len sL1.1.1 1 fun (p11 : Addr) =>
ldA (.int .i64) sL1.2 p11 fun (t12 : Int) =>
callV Try.prog t4 [.int .i64 t8, .int .i64 t12] [.at (.int .i64)] sL1.2 fun (s : Int × Unit) (h14 : Hp) =>
cnd (decide (s.1 ≤ 0)) (
K h14) (
C_heap_Heap_int_swap a0_h sL1.1.1 t2 h14 fun  (h15 : Hp) =>
R1 ((t2, ()), h15)))) (
K sL1.2)
def F_heap_Heap_int_up (a0_h : Option Addr) (a1_i : Int) (h : Hp) (K : Hp → Prop) : Prop :=
∃ n, Lp (L1_heap_Heap_int_up a0_h K) n ((a1_i, ()), h)

theorem F_heap_Heap_int_up_ok (a0_h : Option Addr) (a1_i : Int) (h : Hp) (K : Hp → Prop) (hF : F_heap_Heap_int_up a0_h a1_i h K) : C_heap_Heap_int_up a0_h a1_i h K := by
  have e : bodyVC Try.prog Try.f26 (.block (.loop [(1, .at (.int .i64))] (.seq (.seq .no (.cond .no .no)) (.block (.seq .no (.seq (.seq .no (.cond .no .no)) (.seq .no .no))))))) (Option.getD Try.f26.body .skip) [.pointer a0_h, .int .i64 a1_i] h [] (fun s h => K h) = F_heap_Heap_int_up a0_h a1_i h K := by kernel_rfl
  exact fun_sound mixed Try.func26 rfl (e.mpr hF)

def F_slices_Clone_int_int (a0_s : Sl) (h : Hp) (K : Sl → Hp → Prop) : Prop :=
cnd (Option.isNone a0_s.a) (
K (Sl.mk none 0 0) h) (
Let (Array.push h (Obj.cells #[] 3)) fun (h1 : Hp) =>
Let (Addr.mk (Array.size h) 0 none) fun (p2 : Addr) =>
appS 3 1 8 [.int .i64 0] (some p2) 0 0 (.slice a0_s.a a0_s.len a0_s.cap) h1 fun (t3 : Sl) (h4 : Hp) =>
K t3 h4)

theorem F_slices_Clone_int_int_ok (a0_s : Sl) (h : Hp) (K : Sl → Hp → Prop) (hF : F_slices_Clone_int_int a0_s h K) : C_slices_Clone_int_int a0_s h K := by
  have e : bodyVC Try.prog Try.f27 (.seq .no (.seq (.seq .no (.cond (.seq .no .no) .no)) (.seq .no .no))) (Option.getD Try.f27.body .skip) [.slice a0_s.a a0_s.len a0_s.cap] h [.at .sl] (fun s h => K s.1 h) = F_slices_Clone_int_int a0_s h K := by kernel_rfl
  exact fun_sound mixed Try.func27 rfl (e.mpr hF)

def F_slices_SortFunc_int_int (a0_x : Sl) (a1_cmp : Value) (h : Hp) (K : Hp → Prop) : Prop :=
Let (IntKind.wrap .u64 ((a0_x.len : Int)) : Int) fun (t1 : Int) =>
C_math_bits_Len t1 h fun (t2 : Int) (h3 : Hp) =>
C_slices_pdqsortCmpFunc_int a0_x 0 (a0_x.len : Int) t2 a1_cmp h3 fun  (h4 : Hp) =>
K h4

theorem F_slices_SortFunc_int_int_ok (a0_x : Sl) (a1_cmp : Value) (h : Hp) (K : Hp → Prop) (hF : F_slices_SortFunc_int_int a0_x a1_cmp h K) : C_slices_SortFunc_int_int a0_x a1_cmp h K := by
  have e : bodyVC Try.prog Try.f28 (.seq .no .no) (Option.getD Try.f28.body .skip) [.slice a0_x.a a0_x.len a0_x.cap, a1_cmp] h [] (fun s h => K h) = F_slices_SortFunc_int_int a0_x a1_cmp h K := by kernel_rfl
  exact fun_sound mixed Try.func28 rfl (e.mpr hF)

def J1_heap_Heap_law10_Pair_first (a0_h : Option Addr) (sL1 : (Int × Int × Unit) × Hp) (R1 : (Int × Int × Unit) × Hp → Prop) (sJ1 : Unit) (hJ1 : Hp) : Prop :=
someA a0_h fun (p3 : Addr) =>
ldA .raw hJ1 p3 fun (t4 : Value) =>
someA a0_h fun (p5 : Addr) =>
ldA .sl hJ1 (Addr.add p5 1) fun (t6 : Sl) =>
idxS t6.a t6.len sL1.1.2.1 2 fun (p7 : Addr) =>
ldA (.int .i64) hJ1 p7 fun (t8 : Int) =>
ldA (.int .i64) hJ1 (Addr.add p7 1) fun (t9 : Int) =>
someA a0_h fun (p10 : Addr) =>
ldA .sl hJ1 (Addr.add p10 1) fun (t11 : Sl) =>
idxS t11.a t11.len sL1.1.1 2 fun (p12 : Addr) =>
ldA (.int .i64) hJ1 p12 fun (t13 : Int) =>
ldA (.int .i64) hJ1 (Addr.add p12 1) fun (t14 : Int) =>
callV Try.prog t4 [.agg #[.int .i64 t8, .int .i64 t9], .agg #[.int .i64 t13, .int .i64 t14]] [.at (.int .i64)] hJ1 fun (s : Int × Unit) (h16 : Hp) =>
cnd (decide (s.1 < 0)) (
Let (IntKind.wrap .i64 (sL1.1.2.1 + 1) : Int) fun (t17 : Int) =>
R1 ((sL1.1.2.1, t17, ()), h16)) (
Let (IntKind.wrap .i64 (sL1.1.2.1 + 1) : Int) fun (t18 : Int) =>
R1 ((sL1.1.1, t18, ()), h16))
def L1_heap_Heap_law10_Pair_first (a0_h : Option Addr) (a1_i : Int) (K : Int → Hp → Prop) (sL1 : (Int × Int × Unit) × Hp) (R1 : (Int × Int × Unit) × Hp → Prop) : Prop :=
Jn (J1_heap_Heap_law10_Pair_first a0_h sL1 R1) fun (J1 : Unit → Hp → Prop) =>
Let (IntKind.wrap .i64 ((2 : Int) * a1_i) : Int) fun (t19 : Int) =>
Let (IntKind.wrap .i64 (t19 + 2) : Int) fun (t20 : Int) =>
cnd (decide (sL1.1.2.1 ≤ t20)) (
someA a0_h fun (p21 : Addr) =>
ldA .sl sL1.2 (Addr.add p21 1) fun (t22 : Sl) =>
cnd (decide (sL1.1.2.1 < (t22.len : Int))) (
J1 (()) sL1.2) (
K sL1.1.1 sL1.2)) (
K sL1.1.1 sL1.2)
def F_heap_Heap_law10_Pair_first (a0_h : Option Addr) (a1_i : Int) (h : Hp) (K : Int → Hp → Prop) : Prop :=
Let (IntKind.wrap .i64 ((2 : Int) * a1_i) : Int) fun (t1 : Int) =>
Let (IntKind.wrap .i64 (t1 + 1) : Int) fun (t2 : Int) =>
∃ n, Lp (L1_heap_Heap_law10_Pair_first a0_h a1_i K) n ((a1_i, t2, ()), h)

theorem F_heap_Heap_law10_Pair_first_ok (a0_h : Option Addr) (a1_i : Int) (h : Hp) (K : Int → Hp → Prop) (hF : F_heap_Heap_law10_Pair_first a0_h a1_i h K) : C_heap_Heap_law10_Pair_first a0_h a1_i h K := by
  have e : bodyVC Try.prog Try.f29 (.seq .no (.seq .no (.seq (.seq .no (.block (.loop [(5, .at (.int .i64)), (6, .at (.int .i64))] (.join [] (.seq .no (.cond .no .no)) (.seq (.block (.seq .no (.cond .no .no))) .no))))) (.seq .no .no)))) (Option.getD Try.f29.body .skip) [.pointer a0_h, .int .i64 a1_i] h [.at (.int .i64)] (fun s h => K s.1 h) = F_heap_Heap_law10_Pair_first a0_h a1_i h K := by kernel_rfl
  exact fun_sound mixed Try.func29 rfl (e.mpr hF)

def J1_heap_Heap_int_first (a0_h : Option Addr) (sL1 : (Int × Int × Unit) × Hp) (R1 : (Int × Int × Unit) × Hp → Prop) (sJ1 : Unit) (hJ1 : Hp) : Prop :=
someA a0_h fun (p3 : Addr) =>
ldA .raw hJ1 p3 fun (t4 : Value) =>
someA a0_h fun (p5 : Addr) =>
ldA .sl hJ1 (Addr.add p5 1) fun (t6 : Sl) =>
idxS t6.a t6.len sL1.1.2.1 1 fun (p7 : Addr) =>
ldA (.int .i64) hJ1 p7 fun (t8 : Int) =>
someA a0_h fun (p9 : Addr) =>
ldA .sl hJ1 (Addr.add p9 1) fun (t10 : Sl) =>
idxS t10.a t10.len sL1.1.1 1 fun (p11 : Addr) =>
ldA (.int .i64) hJ1 p11 fun (t12 : Int) =>
callV Try.prog t4 [.int .i64 t8, .int .i64 t12] [.at (.int .i64)] hJ1 fun (s : Int × Unit) (h14 : Hp) =>
cnd (decide (s.1 < 0)) (
Let (IntKind.wrap .i64 (sL1.1.2.1 + 1) : Int) fun (t15 : Int) =>
R1 ((sL1.1.2.1, t15, ()), h14)) (
Let (IntKind.wrap .i64 (sL1.1.2.1 + 1) : Int) fun (t16 : Int) =>
R1 ((sL1.1.1, t16, ()), h14))
def L1_heap_Heap_int_first (a0_h : Option Addr) (a1_i : Int) (K : Int → Hp → Prop) (sL1 : (Int × Int × Unit) × Hp) (R1 : (Int × Int × Unit) × Hp → Prop) : Prop :=
Jn (J1_heap_Heap_int_first a0_h sL1 R1) fun (J1 : Unit → Hp → Prop) =>
Let (IntKind.wrap .i64 ((2 : Int) * a1_i) : Int) fun (t17 : Int) =>
Let (IntKind.wrap .i64 (t17 + 2) : Int) fun (t18 : Int) =>
cnd (decide (sL1.1.2.1 ≤ t18)) (
someA a0_h fun (p19 : Addr) =>
ldA .sl sL1.2 (Addr.add p19 1) fun (t20 : Sl) =>
cnd (decide (sL1.1.2.1 < (t20.len : Int))) (
J1 (()) sL1.2) (
K sL1.1.1 sL1.2)) (
K sL1.1.1 sL1.2)
def F_heap_Heap_int_first (a0_h : Option Addr) (a1_i : Int) (h : Hp) (K : Int → Hp → Prop) : Prop :=
Let (IntKind.wrap .i64 ((2 : Int) * a1_i) : Int) fun (t1 : Int) =>
Let (IntKind.wrap .i64 (t1 + 1) : Int) fun (t2 : Int) =>
∃ n, Lp (L1_heap_Heap_int_first a0_h a1_i K) n ((a1_i, t2, ()), h)

theorem F_heap_Heap_int_first_ok (a0_h : Option Addr) (a1_i : Int) (h : Hp) (K : Int → Hp → Prop) (hF : F_heap_Heap_int_first a0_h a1_i h K) : C_heap_Heap_int_first a0_h a1_i h K := by
  have e : bodyVC Try.prog Try.f30 (.seq .no (.seq .no (.seq (.seq .no (.block (.loop [(5, .at (.int .i64)), (6, .at (.int .i64))] (.join [] (.seq .no (.cond .no .no)) (.seq (.block (.seq .no (.cond .no .no))) .no))))) (.seq .no .no)))) (Option.getD Try.f30.body .skip) [.pointer a0_h, .int .i64 a1_i] h [.at (.int .i64)] (fun s h => K s.1 h) = F_heap_Heap_int_first a0_h a1_i h K := by kernel_rfl
  exact fun_sound mixed Try.func30 rfl (e.mpr hF)

def J4_slices_pdqsortCmpFunc_int (a0_data : Sl) (a4_cmp : Value) (sL1 : (Int × Int × Int × Bool × Bool × Unit) × Hp) (R1 : (Int × Int × Int × Bool × Bool × Unit) × Hp → Prop) (t1 : Int) (sJ1 : Int × Unit) (sJ2 : Int × Int × Unit) (sJ4 : Bool × Unit) (hJ4 : Hp) : Prop :=
cnd sJ4.1 (
C_slices_partitionEqualCmpFunc_int a0_data sL1.1.1 sL1.1.2.1 sJ2.1 a4_cmp hJ4 fun (t7 : Int) (h8 : Hp) =>
R1 ((t7, sL1.1.2.1, sJ1.1, sL1.1.2.2.2.1, sL1.1.2.2.2.2.1, ()), h8)) (
C_slices_partitionCmpFunc_int a0_data sL1.1.1 sL1.1.2.1 sJ2.1 a4_cmp hJ4 fun (t9 : Int) (t10 : Bool) (h11 : Hp) =>
Let (IntKind.wrap .i64 (t9 - sL1.1.1) : Int) fun (t12 : Int) =>
Let (IntKind.wrap .i64 (sL1.1.2.1 - t9) : Int) fun (t13 : Int) =>
(8 ≠ (0 : Int)) ∧ (
Let (IntKind.wrap .i64 (Int.tdiv t1 8) : Int) fun (t14 : Int) =>
cnd (decide (t12 < t13)) (
C_slices_pdqsortCmpFunc_int a0_data sL1.1.1 t9 sJ1.1 a4_cmp h11 fun  (h15 : Hp) =>
Let (IntKind.wrap .i64 (t9 + 1) : Int) fun (t16 : Int) =>
R1 ((t16, sL1.1.2.1, sJ1.1, decide (t12 ≥ t14), t10, ()), h15)) (
Let (IntKind.wrap .i64 (t9 + 1) : Int) fun (t17 : Int) =>
C_slices_pdqsortCmpFunc_int a0_data t17 sL1.1.2.1 sJ1.1 a4_cmp h11 fun  (h18 : Hp) =>
R1 ((sL1.1.1, t9, sJ1.1, decide (t13 ≥ t14), t10, ()), h18))))
def J3_slices_pdqsortCmpFunc_int (a0_data : Sl) (a4_cmp : Value) (sL1 : (Int × Int × Int × Bool × Bool × Unit) × Hp) (R1 : (Int × Int × Int × Bool × Bool × Unit) × Hp → Prop) (t1 : Int) (sJ1 : Int × Unit) (sJ2 : Int × Int × Unit) (sJ3 : Unit) (hJ3 : Hp) : Prop :=
Jn (J4_slices_pdqsortCmpFunc_int a0_data a4_cmp sL1 R1 t1 sJ1 sJ2) fun (J4 : Bool × Unit → Hp → Prop) =>
cnd (decide (sL1.1.1 > 0)) (
Let (IntKind.wrap .i64 (sL1.1.1 - 1) : Int) fun (t19 : Int) =>
idxS a0_data.a a0_data.len t19 1 fun (p20 : Addr) =>
ldA (.int .i64) hJ3 p20 fun (t21 : Int) =>
idxS a0_data.a a0_data.len sJ2.1 1 fun (p22 : Addr) =>
ldA (.int .i64) hJ3 p22 fun (t23 : Int) =>
callV Try.prog a4_cmp [.int .i64 t21, .int .i64 t23] [.at (.int .i64)] hJ3 fun (s : Int × Unit) (h25 : Hp) =>
J4 (!(decide (s.1 < 0)), ()) h25) (
J4 (false, ()) hJ3)
def J5_slices_pdqsortCmpFunc_int (a0_data : Sl) (a4_cmp : Value) (K : Hp → Prop) (sL1 : (Int × Int × Int × Bool × Bool × Unit) × Hp) (J3 : Unit → Hp → Prop) (sJ5 : Bool × Unit) (hJ5 : Hp) : Prop :=
cnd sJ5.1 (
C_slices_partialInsertionSortCmpFunc_int a0_data sL1.1.1 sL1.1.2.1 a4_cmp hJ5 fun (t26 : Bool) (h27 : Hp) =>
cnd t26 (
K h27) (
J3 (()) h27)) (
J3 (()) hJ5)
def J2_slices_pdqsortCmpFunc_int (a0_data : Sl) (a4_cmp : Value) (K : Hp → Prop) (sL1 : (Int × Int × Int × Bool × Bool × Unit) × Hp) (R1 : (Int × Int × Int × Bool × Bool × Unit) × Hp → Prop) (t1 : Int) (sJ1 : Int × Unit) (sJ2 : Int × Int × Unit) (hJ2 : Hp) : Prop :=
Jn (J3_slices_pdqsortCmpFunc_int a0_data a4_cmp sL1 R1 t1 sJ1 sJ2) fun (J3 : Unit → Hp → Prop) =>
Jn (J5_slices_pdqsortCmpFunc_int a0_data a4_cmp K sL1 J3) fun (J5 : Bool × Unit → Hp → Prop) =>
cnd sL1.1.2.2.2.1 (
cnd sL1.1.2.2.2.2.1 (
J5 ((sJ2.2.1 == 1), ()) hJ2) (
J5 (false, ()) hJ2)) (
J5 (false, ()) hJ2)
def J1_slices_pdqsortCmpFunc_int (a0_data : Sl) (a4_cmp : Value) (K : Hp → Prop) (sL1 : (Int × Int × Int × Bool × Bool × Unit) × Hp) (R1 : (Int × Int × Int × Bool × Bool × Unit) × Hp → Prop) (t1 : Int) (sJ1 : Int × Unit) (hJ1 : Hp) : Prop :=
C_slices_choosePivotCmpFunc_int a0_data sL1.1.1 sL1.1.2.1 a4_cmp hJ1 fun (t4 : Int) (t5 : Int) (h6 : Hp) =>
Jn (J2_slices_pdqsortCmpFunc_int a0_data a4_cmp K sL1 R1 t1 sJ1) fun (J2 : Int × Int × Unit → Hp → Prop) =>
cnd (t5 == 2) (
C_slices_reverseRangeCmpFunc_int a0_data sL1.1.1 sL1.1.2.1 a4_cmp h6 fun  (h28 : Hp) =>
Let (IntKind.wrap .i64 (sL1.1.2.1 - 1) : Int) fun (t29 : Int) =>
Let (IntKind.wrap .i64 (t4 - sL1.1.1) : Int) fun (t30 : Int) =>
Let (IntKind.wrap .i64 (t29 - t30) : Int) fun (t31 : Int) =>
J2 (t31, 1, ()) h28) (
J2 (t4, t5, ()) h6)
def L1_slices_pdqsortCmpFunc_int (a0_data : Sl) (a4_cmp : Value) (K : Hp → Prop) (sL1 : (Int × Int × Int × Bool × Bool × Unit) × Hp) (R1 : (Int × Int × Int × Bool × Bool × Unit) × Hp → Prop) : Prop :=
Let (IntKind.wrap .i64 (sL1.1.2.1 - sL1.1.1) : Int) fun (t1 : Int) =>
cnd (decide (t1 ≤ 12)) (
C_slices_insertionSortCmpFunc_int a0_data sL1.1.1 sL1.1.2.1 a4_cmp sL1.2 fun  (h2 : Hp) =>
K h2) (
cnd (sL1.1.2.2.1 == 0) (
C_slices_heapSortCmpFunc_int a0_data sL1.1.1 sL1.1.2.1 a4_cmp sL1.2 fun  (h3 : Hp) =>
K h3) (
Jn (J1_slices_pdqsortCmpFunc_int a0_data a4_cmp K sL1 R1 t1) fun (J1 : Int × Unit → Hp → Prop) =>
cnd (!sL1.1.2.2.2.1) (
C_slices_breakPatternsCmpFunc_int a0_data sL1.1.1 sL1.1.2.1 a4_cmp sL1.2 fun  (h32 : Hp) =>
Let (IntKind.wrap .i64 (sL1.1.2.2.1 - 1) : Int) fun (t33 : Int) =>
J1 (t33, ()) h32) (
J1 (sL1.1.2.2.1, ()) sL1.2)))
def F_slices_pdqsortCmpFunc_int (a0_data : Sl) (a1_a : Int) (a2_b : Int) (a3_limit : Int) (a4_cmp : Value) (h : Hp) (K : Hp → Prop) : Prop :=
∃ n, Lp (L1_slices_pdqsortCmpFunc_int a0_data a4_cmp K) n ((a1_a, a2_b, a3_limit, true, true, ()), h)

theorem F_slices_pdqsortCmpFunc_int_ok (a0_data : Sl) (a1_a : Int) (a2_b : Int) (a3_limit : Int) (a4_cmp : Value) (h : Hp) (K : Hp → Prop) (hF : F_slices_pdqsortCmpFunc_int a0_data a1_a a2_b a3_limit a4_cmp h K) : C_slices_pdqsortCmpFunc_int a0_data a1_a a2_b a3_limit a4_cmp h K := by
  have e : bodyVC Try.prog Try.f31 (.seq .no (.seq .no (.block (.loop [(1, .at (.int .i64)), (2, .at (.int .i64)), (3, .at (.int .i64)), (10, .at .bool), (11, .at .bool)] (.block (.seq .no (.seq (.seq .no (.cond (.seq .no .no) .no)) (.seq (.seq .no (.cond (.seq .no .no) .no)) (.join [(3, .at (.int .i64))] (.seq .no (.cond (.seq .no .no) .no)) (.seq .no (.join [(13, .at (.int .i64)), (14, .at (.int .i64))] (.seq .no (.cond (.seq .no (.seq .no .no)) .no)) (.join [] (.join [(75, .at .bool)] .no (.cond (.seq .no (.cond .no .no)) .no)) (.seq (.join [(97, .at .bool)] .no (.cond (.seq .no (.seq .no .no)) .no)) (.seq .no (.seq .no (.seq .no (.seq .no (.seq .no (.cond (.seq .no (.seq .no .no)) (.seq .no (.seq .no .no))))))))))))))))))))) (Option.getD Try.f31.body .skip) [.slice a0_data.a a0_data.len a0_data.cap, .int .i64 a1_a, .int .i64 a2_b, .int .i64 a3_limit, a4_cmp] h [] (fun s h => K h) = F_slices_pdqsortCmpFunc_int a0_data a1_a a2_b a3_limit a4_cmp h K := by kernel_rfl
  exact fun_sound mixed Try.func31 rfl (e.mpr hF)

def F_math_bits_Len (a0_x : Int) (h : Hp) (K : Int → Hp → Prop) : Prop :=
C_math_bits_Len64 a0_x h fun (t1 : Int) (h2 : Hp) =>
K t1 h2

theorem F_math_bits_Len_ok (a0_x : Int) (h : Hp) (K : Int → Hp → Prop) (hF : F_math_bits_Len a0_x h K) : C_math_bits_Len a0_x h K := by
  have e : bodyVC Try.prog Try.f32 (.seq .no (.seq (.cond (.seq .no .no) .no) (.seq .no .no))) (Option.getD Try.f32.body .skip) [.int .u64 a0_x] h [.at (.int .i64)] (fun s h => K s.1 h) = F_math_bits_Len a0_x h K := by kernel_rfl
  exact fun_sound mixed Try.func32 rfl (e.mpr hF)

def J1_slices_insertionSortCmpFunc_int (a0_data : Sl) (sL2 : (Int × Unit) × Hp) (R2 : (Int × Unit) × Hp → Prop) (sJ1 : Unit) (hJ1 : Hp) : Prop :=
Let (IntKind.wrap .i64 (sL2.1.1 - 1) : Int) fun (t2 : Int) =>
Let (IntKind.wrap .i64 (sL2.1.1 - 1) : Int) fun (t3 : Int) =>
idxS a0_data.a a0_data.len t3 1 fun (p4 : Addr) =>
ldA (.int .i64) hJ1 p4 fun (t5 : Int) =>
idxS a0_data.a a0_data.len sL2.1.1 1 fun (p6 : Addr) =>
ldA (.int .i64) hJ1 p6 fun (t7 : Int) =>
idxS a0_data.a a0_data.len sL2.1.1 1 fun (p8 : Addr) =>
((1 : Nat) = 1) ∧ (
stC hJ1 p8 (
Let (hset hJ1 p8 (.int .i64 t5)) fun (h9 : Hp) =>
idxS a0_data.a a0_data.len t2 1 fun (p10 : Addr) =>
((1 : Nat) = 1) ∧ (
stC h9 p10 (
Let (hset h9 p10 (.int .i64 t7)) fun (h11 : Hp) =>
Let (IntKind.wrap .i64 (sL2.1.1 - 1) : Int) fun (t12 : Int) =>
R2 ((t12, ()), h11)))))
def L2_slices_insertionSortCmpFunc_int (a0_data : Sl) (a1_a : Int) (a3_cmp : Value) (sL1 : (Int × Unit) × Hp) (R1 : (Int × Unit) × Hp → Prop) (sL2 : (Int × Unit) × Hp) (R2 : (Int × Unit) × Hp → Prop) : Prop :=
Jn (J1_slices_insertionSortCmpFunc_int a0_data sL2 R2) fun (J1 : Unit → Hp → Prop) =>
cnd (decide (sL2.1.1 > a1_a)) (
idxS a0_data.a a0_data.len sL2.1.1 1 fun (p13 : Addr) =>
ldA (.int .i64) sL2.2 p13 fun (t14 : Int) =>
Let (IntKind.wrap .i64 (sL2.1.1 - 1) : Int) fun (t15 : Int) =>
idxS a0_data.a a0_data.len t15 1 fun (p16 : Addr) =>
ldA (.int .i64) sL2.2 p16 fun (t17 : Int) =>
callV Try.prog a3_cmp [.int .i64 t14, .int .i64 t17] [.at (.int .i64)] sL2.2 fun (s : Int × Unit) (h19 : Hp) =>
cnd (decide (s.1 < 0)) (
J1 (()) h19) (
Let (IntKind.wrap .i64 (sL1.1.1 + 1) : Int) fun (t20 : Int) =>
R1 ((t20, ()), h19))) (
Let (IntKind.wrap .i64 (sL1.1.1 + 1) : Int) fun (t21 : Int) =>
R1 ((t21, ()), sL2.2))
def L1_slices_insertionSortCmpFunc_int (a0_data : Sl) (a1_a : Int) (a2_b : Int) (a3_cmp : Value) (K : Hp → Prop) (sL1 : (Int × Unit) × Hp) (R1 : (Int × Unit) × Hp → Prop) : Prop :=
cnd (decide (sL1.1.1 < a2_b)) (
∃ n, Lp (L2_slices_insertionSortCmpFunc_int a0_data a1_a a3_cmp sL1 R1) n ((sL1.1.1, ()), sL1.2)) (
K sL1.2)
def F_slices_insertionSortCmpFunc_int (a0_data : Sl) (a1_a : Int) (a2_b : Int) (a3_cmp : Value) (h : Hp) (K : Hp → Prop) : Prop :=
Let (IntKind.wrap .i64 (a1_a + 1) : Int) fun (t1 : Int) =>
∃ n, Lp (L1_slices_insertionSortCmpFunc_int a0_data a1_a a2_b a3_cmp K) n ((t1, ()), h)

theorem F_slices_insertionSortCmpFunc_int_ok (a0_data : Sl) (a1_a : Int) (a2_b : Int) (a3_cmp : Value) (h : Hp) (K : Hp → Prop) (hF : F_slices_insertionSortCmpFunc_int a0_data a1_a a2_b a3_cmp h K) : C_slices_insertionSortCmpFunc_int a0_data a1_a a2_b a3_cmp h K := by
  have e : bodyVC Try.prog Try.f33 (.seq .no (.block (.loop [(8, .at (.int .i64))] (.seq (.seq .no (.cond .no .no)) (.seq (.block (.seq .no (.block (.loop [(9, .at (.int .i64))] (.join [] (.seq .no (.cond .no .no)) (.seq (.block .no) .no)))))) .no))))) (Option.getD Try.f33.body .skip) [.slice a0_data.a a0_data.len a0_data.cap, .int .i64 a1_a, .int .i64 a2_b, a3_cmp] h [] (fun s h => K h) = F_slices_insertionSortCmpFunc_int a0_data a1_a a2_b a3_cmp h K := by kernel_rfl
  exact fun_sound mixed Try.func33 rfl (e.mpr hF)

def L1_slices_heapSortCmpFunc_int (a0_data : Sl) (a1_a : Int) (a3_cmp : Value) (K : Hp → Prop) (sL1 : (Int × Unit) × Hp) (R1 : (Int × Unit) × Hp → Prop) : Prop :=
cnd (decide (sL1.1.1 ≥ 0)) (
Let (IntKind.wrap .i64 (a1_a + sL1.1.1) : Int) fun (t3 : Int) =>
Let (IntKind.wrap .i64 (a1_a + sL1.1.1) : Int) fun (t4 : Int) =>
idxS a0_data.a a0_data.len t4 1 fun (p5 : Addr) =>
ldA (.int .i64) sL1.2 p5 fun (t6 : Int) =>
idxS a0_data.a a0_data.len a1_a 1 fun (p7 : Addr) =>
ldA (.int .i64) sL1.2 p7 fun (t8 : Int) =>
idxS a0_data.a a0_data.len a1_a 1 fun (p9 : Addr) =>
((1 : Nat) = 1) ∧ (
stC sL1.2 p9 (
Let (hset sL1.2 p9 (.int .i64 t6)) fun (h10 : Hp) =>
idxS a0_data.a a0_data.len t3 1 fun (p11 : Addr) =>
((1 : Nat) = 1) ∧ (
stC h10 p11 (
Let (hset h10 p11 (.int .i64 t8)) fun (h12 : Hp) =>
C_slices_siftDownCmpFunc_int a0_data 0 sL1.1.1 a1_a a3_cmp h12 fun  (h13 : Hp) =>
Let (IntKind.wrap .i64 (sL1.1.1 - 1) : Int) fun (t14 : Int) =>
R1 ((t14, ()), h13)))))) (
K sL1.2)
def J1_slices_heapSortCmpFunc_int (a0_data : Sl) (a1_a : Int) (a3_cmp : Value) (K : Hp → Prop) (t1 : Int) (sJ1 : Unit) (hJ1 : Hp) : Prop :=
Let (IntKind.wrap .i64 (t1 - 1) : Int) fun (t2 : Int) =>
∃ n, Lp (L1_slices_heapSortCmpFunc_int a0_data a1_a a3_cmp K) n ((t2, ()), hJ1)
def L2_slices_heapSortCmpFunc_int (a0_data : Sl) (a1_a : Int) (a3_cmp : Value) (t1 : Int) (J1 : Unit → Hp → Prop) (sL2 : (Int × Unit) × Hp) (R2 : (Int × Unit) × Hp → Prop) : Prop :=
cnd (decide (sL2.1.1 ≥ 0)) (
C_slices_siftDownCmpFunc_int a0_data sL2.1.1 t1 a1_a a3_cmp sL2.2 fun  (h17 : Hp) =>
Let (IntKind.wrap .i64 (sL2.1.1 - 1) : Int) fun (t18 : Int) =>
R2 ((t18, ()), h17)) (
J1 (()) sL2.2)
def F_slices_heapSortCmpFunc_int (a0_data : Sl) (a1_a : Int) (a2_b : Int) (a3_cmp : Value) (h : Hp) (K : Hp → Prop) : Prop :=
Let (IntKind.wrap .i64 (a2_b - a1_a) : Int) fun (t1 : Int) =>
Jn (J1_slices_heapSortCmpFunc_int a0_data a1_a a3_cmp K t1) fun (J1 : Unit → Hp → Prop) =>
Let (IntKind.wrap .i64 (t1 - 1) : Int) fun (t15 : Int) =>
(2 ≠ (0 : Int)) ∧ (
Let (IntKind.wrap .i64 (Int.tdiv t15 2) : Int) fun (t16 : Int) =>
∃ n, Lp (L2_slices_heapSortCmpFunc_int a0_data a1_a a3_cmp t1 J1) n ((t16, ()), h))

theorem F_slices_heapSortCmpFunc_int_ok (a0_data : Sl) (a1_a : Int) (a2_b : Int) (a3_cmp : Value) (h : Hp) (K : Hp → Prop) (hF : F_slices_heapSortCmpFunc_int a0_data a1_a a2_b a3_cmp h K) : C_slices_heapSortCmpFunc_int a0_data a1_a a2_b a3_cmp h K := by
  have e : bodyVC Try.prog Try.f34 (.seq .no (.seq .no (.seq .no (.join [] (.seq .no (.block (.loop [(11, .at (.int .i64))] (.seq (.seq .no (.cond .no .no)) (.seq (.block .no) .no))))) (.seq .no (.block (.loop [(12, .at (.int .i64))] (.seq (.seq .no (.cond .no .no)) (.seq (.block (.seq .no .no)) .no))))))))) (Option.getD Try.f34.body .skip) [.slice a0_data.a a0_data.len a0_data.cap, .int .i64 a1_a, .int .i64 a2_b, a3_cmp] h [] (fun s h => K h) = F_slices_heapSortCmpFunc_int a0_data a1_a a2_b a3_cmp h K := by kernel_rfl
  exact fun_sound mixed Try.func34 rfl (e.mpr hF)

def J1_slices_breakPatternsCmpFunc_int (a0_data : Sl) (a1_a : Int) (sL1 : (Int × Unit) × Hp) (R1 : (Int × Unit) × Hp → Prop) (sJ1 : Int × Unit) (hJ1 : Hp) : Prop :=
Let (IntKind.wrap .i64 (a1_a + sJ1.1) : Int) fun (t21 : Int) =>
Let (IntKind.wrap .i64 (a1_a + sJ1.1) : Int) fun (t22 : Int) =>
idxS a0_data.a a0_data.len t22 1 fun (p23 : Addr) =>
ldA (.int .i64) hJ1 p23 fun (t24 : Int) =>
idxS a0_data.a a0_data.len sL1.1.1 1 fun (p25 : Addr) =>
ldA (.int .i64) hJ1 p25 fun (t26 : Int) =>
idxS a0_data.a a0_data.len sL1.1.1 1 fun (p27 : Addr) =>
((1 : Nat) = 1) ∧ (
stC hJ1 p27 (
Let (hset hJ1 p27 (.int .i64 t24)) fun (h28 : Hp) =>
idxS a0_data.a a0_data.len t21 1 fun (p29 : Addr) =>
((1 : Nat) = 1) ∧ (
stC h28 p29 (
Let (hset h28 p29 (.int .i64 t26)) fun (h30 : Hp) =>
Let (IntKind.wrap .i64 (sL1.1.1 + 1) : Int) fun (t31 : Int) =>
R1 ((t31, ()), h30)))))
def L1_slices_breakPatternsCmpFunc_int (a0_data : Sl) (a1_a : Int) (K : Hp → Prop) (t1 : Int) (p4 : Addr) (t6 : Int) (sL1 : (Int × Unit) × Hp) (R1 : (Int × Unit) × Hp → Prop) : Prop :=
(4 ≠ (0 : Int)) ∧ (
Let (IntKind.wrap .i64 (Int.tdiv t1 4) : Int) fun (t12 : Int) =>
Let (IntKind.wrap .i64 (t12 * 2) : Int) fun (t13 : Int) =>
Let (IntKind.wrap .i64 (a1_a + t13) : Int) fun (t14 : Int) =>
Let (IntKind.wrap .i64 (t14 + 1) : Int) fun (t15 : Int) =>
cnd (decide (sL1.1.1 ≤ t15)) (
C_slices_xorshift_Next (some p4) sL1.2 fun (t16 : Int) (h17 : Hp) =>
Let (IntKind.wrap .u64 (t6 - 1) : Int) fun (t18 : Int) =>
Let (ibAnd .u64 t16 t18 : Int) fun (t19 : Int) =>
Let (IntKind.wrap .i64 (t19) : Int) fun (t20 : Int) =>
Jn (J1_slices_breakPatternsCmpFunc_int a0_data a1_a sL1 R1) fun (J1 : Int × Unit → Hp → Prop) =>
cnd (decide (t20 ≥ t1)) (
Let (IntKind.wrap .i64 (t20 - t1) : Int) fun (t32 : Int) =>
J1 (t32, ()) h17) (
J1 (t20, ()) h17)) (
K sL1.2))
def F_slices_breakPatternsCmpFunc_int (a0_data : Sl) (a1_a : Int) (a2_b : Int) (a3_cmp : Value) (h : Hp) (K : Hp → Prop) : Prop :=
Let (IntKind.wrap .i64 (a2_b - a1_a) : Int) fun (t1 : Int) =>
cnd (decide (t1 ≥ 8)) (
Let (IntKind.wrap .u64 (t1) : Int) fun (t2 : Int) =>
Let (Array.push h (Obj.cells #[.int .u64 0] 71)) fun (h3 : Hp) =>
Let (Addr.mk (Array.size h) 0 none) fun (p4 : Addr) =>
((1 : Nat) = 1) ∧ (
stC h3 p4 (
Let (hset h3 p4 (.int .u64 t2)) fun (h5 : Hp) =>
C_slices_nextPowerOfTwo t1 h5 fun (t6 : Int) (h7 : Hp) =>
(4 ≠ (0 : Int)) ∧ (
Let (IntKind.wrap .i64 (Int.tdiv t1 4) : Int) fun (t8 : Int) =>
Let (IntKind.wrap .i64 (t8 * 2) : Int) fun (t9 : Int) =>
Let (IntKind.wrap .i64 (a1_a + t9) : Int) fun (t10 : Int) =>
Let (IntKind.wrap .i64 (t10 - 1) : Int) fun (t11 : Int) =>
∃ n, Lp (L1_slices_breakPatternsCmpFunc_int a0_data a1_a K t1 p4 t6) n ((t11, ()), h7))))) (
K h)

theorem F_slices_breakPatternsCmpFunc_int_ok (a0_data : Sl) (a1_a : Int) (a2_b : Int) (a3_cmp : Value) (h : Hp) (K : Hp → Prop) (hF : F_slices_breakPatternsCmpFunc_int a0_data a1_a a2_b a3_cmp h K) : C_slices_breakPatternsCmpFunc_int a0_data a1_a a2_b a3_cmp h K := by
  have e : bodyVC Try.prog Try.f35 (.seq .no (.seq .no (.cond (.seq .no (.seq .no (.seq .no (.block (.loop [(11, .at (.int .i64))] (.seq (.seq .no (.cond .no .no)) (.seq (.block (.seq .no (.join [(12, .at (.int .i64))] (.seq .no (.cond .no .no)) .no))) .no))))))) .no))) (Option.getD Try.f35.body .skip) [.slice a0_data.a a0_data.len a0_data.cap, .int .i64 a1_a, .int .i64 a2_b, a3_cmp] h [] (fun s h => K h) = F_slices_breakPatternsCmpFunc_int a0_data a1_a a2_b a3_cmp h K := by kernel_rfl
  exact fun_sound mixed Try.func35 rfl (e.mpr hF)

def J1_slices_choosePivotCmpFunc_int (K : Int → Int → Hp → Prop) (p3 : Addr) (sJ1 : Int × Unit) (hJ1 : Hp) : Prop :=
ldA (.int .i64) hJ1 p3 fun (t13 : Int) =>
cnd (t13 == 0) (
K sJ1.1 1 hJ1) (
cnd (t13 == 12) (
K sJ1.1 2 hJ1) (
K sJ1.1 0 hJ1))
def F_slices_choosePivotCmpFunc_int (a0_data : Sl) (a1_a : Int) (a2_b : Int) (a3_cmp : Value) (h : Hp) (K : Int → Int → Hp → Prop) : Prop :=
Let (IntKind.wrap .i64 (a2_b - a1_a) : Int) fun (t1 : Int) =>
Let (Array.push h (Obj.cells #[.int .i64 0] 3)) fun (h2 : Hp) =>
Let (Addr.mk (Array.size h) 0 none) fun (p3 : Addr) =>
(4 ≠ (0 : Int)) ∧ (
Let (IntKind.wrap .i64 (Int.tdiv t1 4) : Int) fun (t4 : Int) =>
Let (IntKind.wrap .i64 (t4 * 1) : Int) fun (t5 : Int) =>
Let (IntKind.wrap .i64 (a1_a + t5) : Int) fun (t6 : Int) =>
(4 ≠ (0 : Int)) ∧ (
Let (IntKind.wrap .i64 (Int.tdiv t1 4) : Int) fun (t7 : Int) =>
Let (IntKind.wrap .i64 (t7 * 2) : Int) fun (t8 : Int) =>
Let (IntKind.wrap .i64 (a1_a + t8) : Int) fun (t9 : Int) =>
(4 ≠ (0 : Int)) ∧ (
Let (IntKind.wrap .i64 (Int.tdiv t1 4) : Int) fun (t10 : Int) =>
Let (IntKind.wrap .i64 (t10 * 3) : Int) fun (t11 : Int) =>
Let (IntKind.wrap .i64 (a1_a + t11) : Int) fun (t12 : Int) =>
Jn (J1_slices_choosePivotCmpFunc_int K p3) fun (J1 : Int × Unit → Hp → Prop) =>
cnd (decide (t1 ≥ 8)) (
cnd (decide (t1 ≥ 50)) (
C_slices_medianAdjacentCmpFunc_int a0_data t6 (some p3) a3_cmp h2 fun (t14 : Int) (h15 : Hp) =>
C_slices_medianAdjacentCmpFunc_int a0_data t9 (some p3) a3_cmp h15 fun (t16 : Int) (h17 : Hp) =>
C_slices_medianAdjacentCmpFunc_int a0_data t12 (some p3) a3_cmp h17 fun (t18 : Int) (h19 : Hp) =>
C_slices_medianCmpFunc_int a0_data t14 t16 t18 (some p3) a3_cmp h19 fun (t20 : Int) (h21 : Hp) =>
J1 (t20, ()) h21) (
C_slices_medianCmpFunc_int a0_data t6 t9 t12 (some p3) a3_cmp h2 fun (t22 : Int) (h23 : Hp) =>
J1 (t22, ()) h23)) (
J1 (t9, ()) h2))))

theorem F_slices_choosePivotCmpFunc_int_ok (a0_data : Sl) (a1_a : Int) (a2_b : Int) (a3_cmp : Value) (h : Hp) (K : Int → Int → Hp → Prop) (hF : F_slices_choosePivotCmpFunc_int a0_data a1_a a2_b a3_cmp h K) : C_slices_choosePivotCmpFunc_int a0_data a1_a a2_b a3_cmp h K := by
  have e : bodyVC Try.prog Try.f36 (.seq .no (.seq .no (.seq .no (.seq .no (.seq .no (.seq .no (.join [(13, .at (.int .i64))] (.seq .no (.cond (.seq (.seq .no (.cond (.seq .no (.seq .no .no)) .no)) .no) .no)) (.seq .no (.block (.seq .no (.cond (.seq .no .no) (.seq .no (.cond (.seq .no .no) (.seq .no .no)))))))))))))) (Option.getD Try.f36.body .skip) [.slice a0_data.a a0_data.len a0_data.cap, .int .i64 a1_a, .int .i64 a2_b, a3_cmp] h [.at (.int .i64), .at (.int .i64)] (fun s h => K s.1 s.2.1 h) = F_slices_choosePivotCmpFunc_int a0_data a1_a a2_b a3_cmp h K := by kernel_rfl
  exact fun_sound mixed Try.func36 rfl (e.mpr hF)

def L1_slices_reverseRangeCmpFunc_int (a0_data : Sl) (K : Hp → Prop) (sL1 : (Int × Int × Unit) × Hp) (R1 : (Int × Int × Unit) × Hp → Prop) : Prop :=
cnd (decide (sL1.1.1 < sL1.1.2.1)) (
idxS a0_data.a a0_data.len sL1.1.2.1 1 fun (p2 : Addr) =>
ldA (.int .i64) sL1.2 p2 fun (t3 : Int) =>
idxS a0_data.a a0_data.len sL1.1.1 1 fun (p4 : Addr) =>
ldA (.int .i64) sL1.2 p4 fun (t5 : Int) =>
idxS a0_data.a a0_data.len sL1.1.1 1 fun (p6 : Addr) =>
((1 : Nat) = 1) ∧ (
stC sL1.2 p6 (
Let (hset sL1.2 p6 (.int .i64 t3)) fun (h7 : Hp) =>
idxS a0_data.a a0_data.len sL1.1.2.1 1 fun (p8 : Addr) =>
((1 : Nat) = 1) ∧ (
stC h7 p8 (
Let (hset h7 p8 (.int .i64 t5)) fun (h9 : Hp) =>
Let (IntKind.wrap .i64 (sL1.1.1 + 1) : Int) fun (t10 : Int) =>
Let (IntKind.wrap .i64 (sL1.1.2.1 - 1) : Int) fun (t11 : Int) =>
R1 ((t10, t11, ()), h9)))))) (
K sL1.2)
def F_slices_reverseRangeCmpFunc_int (a0_data : Sl) (a1_a : Int) (a2_b : Int) (a3_cmp : Value) (h : Hp) (K : Hp → Prop) : Prop :=
Let (IntKind.wrap .i64 (a2_b - 1) : Int) fun (t1 : Int) =>
∃ n, Lp (L1_slices_reverseRangeCmpFunc_int a0_data K) n ((a1_a, t1, ()), h)

theorem F_slices_reverseRangeCmpFunc_int_ok (a0_data : Sl) (a1_a : Int) (a2_b : Int) (a3_cmp : Value) (h : Hp) (K : Hp → Prop) (hF : F_slices_reverseRangeCmpFunc_int a0_data a1_a a2_b a3_cmp h K) : C_slices_reverseRangeCmpFunc_int a0_data a1_a a2_b a3_cmp h K := by
  have e : bodyVC Try.prog Try.f37 (.seq .no (.seq .no (.block (.loop [(8, .at (.int .i64)), (9, .at (.int .i64))] (.seq (.seq .no (.cond .no .no)) (.block (.seq .no (.seq .no .no)))))))) (Option.getD Try.f37.body .skip) [.slice a0_data.a a0_data.len a0_data.cap, .int .i64 a1_a, .int .i64 a2_b, a3_cmp] h [] (fun s h => K h) = F_slices_reverseRangeCmpFunc_int a0_data a1_a a2_b a3_cmp h K := by kernel_rfl
  exact fun_sound mixed Try.func37 rfl (e.mpr hF)

def L2_slices_partialInsertionSortCmpFunc_int (a0_data : Sl) (a2_b : Int) (a3_cmp : Value) (sL1 : (Int × Int × Unit) × Hp) (R1 : (Int × Int × Unit) × Hp → Prop) (sJ1 : Int × Unit) (sL2 : (Int × Unit) × Hp) (R2 : (Int × Unit) × Hp → Prop) : Prop :=
cnd (decide (sL2.1.1 < a2_b)) (
idxS a0_data.a a0_data.len sL2.1.1 1 fun (p15 : Addr) =>
ldA (.int .i64) sL2.2 p15 fun (t16 : Int) =>
Let (IntKind.wrap .i64 (sL2.1.1 - 1) : Int) fun (t17 : Int) =>
idxS a0_data.a a0_data.len t17 1 fun (p18 : Addr) =>
ldA (.int .i64) sL2.2 p18 fun (t19 : Int) =>
callV Try.prog a3_cmp [.int .i64 t16, .int .i64 t19] [.at (.int .i64)] sL2.2 fun (s : Int × Unit) (h21 : Hp) =>
cnd (!(decide (s.1 < 0))) (
Let (IntKind.wrap .i64 (sL1.1.2.1 + 1) : Int) fun (t22 : Int) =>
R1 ((sJ1.1, t22, ()), h21)) (
Let (IntKind.wrap .i64 (sL2.1.1 - 1) : Int) fun (t23 : Int) =>
Let (IntKind.wrap .i64 (sL2.1.1 - 1) : Int) fun (t24 : Int) =>
idxS a0_data.a a0_data.len t24 1 fun (p25 : Addr) =>
ldA (.int .i64) h21 p25 fun (t26 : Int) =>
idxS a0_data.a a0_data.len sL2.1.1 1 fun (p27 : Addr) =>
ldA (.int .i64) h21 p27 fun (t28 : Int) =>
idxS a0_data.a a0_data.len sL2.1.1 1 fun (p29 : Addr) =>
((1 : Nat) = 1) ∧ (
stC h21 p29 (
Let (hset h21 p29 (.int .i64 t26)) fun (h30 : Hp) =>
idxS a0_data.a a0_data.len t23 1 fun (p31 : Addr) =>
((1 : Nat) = 1) ∧ (
stC h30 p31 (
Let (hset h30 p31 (.int .i64 t28)) fun (h32 : Hp) =>
Let (IntKind.wrap .i64 (sL2.1.1 + 1) : Int) fun (t33 : Int) =>
R2 ((t33, ()), h32))))))) (
Let (IntKind.wrap .i64 (sL1.1.2.1 + 1) : Int) fun (t34 : Int) =>
R1 ((sJ1.1, t34, ()), sL2.2))
def J2_slices_partialInsertionSortCmpFunc_int (a0_data : Sl) (a2_b : Int) (a3_cmp : Value) (sL1 : (Int × Int × Unit) × Hp) (R1 : (Int × Int × Unit) × Hp → Prop) (sJ1 : Int × Unit) (sJ2 : Unit) (hJ2 : Hp) : Prop :=
Let (IntKind.wrap .i64 (a2_b - sJ1.1) : Int) fun (t13 : Int) =>
cnd (decide (t13 ≥ 2)) (
Let (IntKind.wrap .i64 (sJ1.1 + 1) : Int) fun (t14 : Int) =>
∃ n, Lp (L2_slices_partialInsertionSortCmpFunc_int a0_data a2_b a3_cmp sL1 R1 sJ1) n ((t14, ()), hJ2)) (
Let (IntKind.wrap .i64 (sL1.1.2.1 + 1) : Int) fun (t35 : Int) =>
R1 ((sJ1.1, t35, ()), hJ2))
def L3_slices_partialInsertionSortCmpFunc_int (a0_data : Sl) (a3_cmp : Value) (J2 : Unit → Hp → Prop) (sL3 : (Int × Unit) × Hp) (R3 : (Int × Unit) × Hp → Prop) : Prop :=
cnd (decide (sL3.1.1 ≥ 1)) (
idxS a0_data.a a0_data.len sL3.1.1 1 fun (p38 : Addr) =>
ldA (.int .i64) sL3.2 p38 fun (t39 : Int) =>
Let (IntKind.wrap .i64 (sL3.1.1 - 1) : Int) fun (t40 : Int) =>
idxS a0_data.a a0_data.len t40 1 fun (p41 : Addr) =>
ldA (.int .i64) sL3.2 p41 fun (t42 : Int) =>
callV Try.prog a3_cmp [.int .i64 t39, .int .i64 t42] [.at (.int .i64)] sL3.2 fun (s : Int × Unit) (h44 : Hp) =>
cnd (!(decide (s.1 < 0))) (
J2 (()) h44) (
Let (IntKind.wrap .i64 (sL3.1.1 - 1) : Int) fun (t45 : Int) =>
Let (IntKind.wrap .i64 (sL3.1.1 - 1) : Int) fun (t46 : Int) =>
idxS a0_data.a a0_data.len t46 1 fun (p47 : Addr) =>
ldA (.int .i64) h44 p47 fun (t48 : Int) =>
idxS a0_data.a a0_data.len sL3.1.1 1 fun (p49 : Addr) =>
ldA (.int .i64) h44 p49 fun (t50 : Int) =>
idxS a0_data.a a0_data.len sL3.1.1 1 fun (p51 : Addr) =>
((1 : Nat) = 1) ∧ (
stC h44 p51 (
Let (hset h44 p51 (.int .i64 t48)) fun (h52 : Hp) =>
idxS a0_data.a a0_data.len t45 1 fun (p53 : Addr) =>
((1 : Nat) = 1) ∧ (
stC h52 p53 (
Let (hset h52 p53 (.int .i64 t50)) fun (h54 : Hp) =>
Let (IntKind.wrap .i64 (sL3.1.1 - 1) : Int) fun (t55 : Int) =>
R3 ((t55, ()), h54))))))) (
J2 (()) sL3.2)
def J1_slices_partialInsertionSortCmpFunc_int (a0_data : Sl) (a1_a : Int) (a2_b : Int) (a3_cmp : Value) (K : Bool → Hp → Prop) (sL1 : (Int × Int × Unit) × Hp) (R1 : (Int × Int × Unit) × Hp → Prop) (sJ1 : Int × Unit) (hJ1 : Hp) : Prop :=
cnd (sJ1.1 == a2_b) (
K true hJ1) (
Let (IntKind.wrap .i64 (a2_b - a1_a) : Int) fun (t2 : Int) =>
cnd (decide (t2 < 50)) (
K false hJ1) (
Let (IntKind.wrap .i64 (sJ1.1 - 1) : Int) fun (t3 : Int) =>
Let (IntKind.wrap .i64 (sJ1.1 - 1) : Int) fun (t4 : Int) =>
idxS a0_data.a a0_data.len t4 1 fun (p5 : Addr) =>
ldA (.int .i64) hJ1 p5 fun (t6 : Int) =>
idxS a0_data.a a0_data.len sJ1.1 1 fun (p7 : Addr) =>
ldA (.int .i64) hJ1 p7 fun (t8 : Int) =>
idxS a0_data.a a0_data.len sJ1.1 1 fun (p9 : Addr) =>
((1 : Nat) = 1) ∧ (
stC hJ1 p9 (
Let (hset hJ1 p9 (.int .i64 t6)) fun (h10 : Hp) =>
idxS a0_data.a a0_data.len t3 1 fun (p11 : Addr) =>
((1 : Nat) = 1) ∧ (
stC h10 p11 (
Let (hset h10 p11 (.int .i64 t8)) fun (h12 : Hp) =>
Jn (J2_slices_partialInsertionSortCmpFunc_int a0_data a2_b a3_cmp sL1 R1 sJ1) fun (J2 : Unit → Hp → Prop) =>
Let (IntKind.wrap .i64 (sJ1.1 - a1_a) : Int) fun (t36 : Int) =>
cnd (decide (t36 ≥ 2)) (
Let (IntKind.wrap .i64 (sJ1.1 - 1) : Int) fun (t37 : Int) =>
∃ n, Lp (L3_slices_partialInsertionSortCmpFunc_int a0_data a3_cmp J2) n ((t37, ()), h12)) (
J2 (()) h12)))))))
def L4_slices_partialInsertionSortCmpFunc_int (a0_data : Sl) (a2_b : Int) (a3_cmp : Value) (J1 : Int × Unit → Hp → Prop) (sL4 : (Int × Unit) × Hp) (R4 : (Int × Unit) × Hp → Prop) : Prop :=
cnd (decide (sL4.1.1 < a2_b)) (
idxS a0_data.a a0_data.len sL4.1.1 1 fun (p56 : Addr) =>
ldA (.int .i64) sL4.2 p56 fun (t57 : Int) =>
Let (IntKind.wrap .i64 (sL4.1.1 - 1) : Int) fun (t58 : Int) =>
idxS a0_data.a a0_data.len t58 1 fun (p59 : Addr) =>
ldA (.int .i64) sL4.2 p59 fun (t60 : Int) =>
callV Try.prog a3_cmp [.int .i64 t57, .int .i64 t60] [.at (.int .i64)] sL4.2 fun (s : Int × Unit) (h62 : Hp) =>
cnd (!(decide (s.1 < 0))) (
Let (IntKind.wrap .i64 (sL4.1.1 + 1) : Int) fun (t63 : Int) =>
R4 ((t63, ()), h62)) (
J1 (sL4.1.1, ()) h62)) (
J1 (sL4.1.1, ()) sL4.2)
def L1_slices_partialInsertionSortCmpFunc_int (a0_data : Sl) (a1_a : Int) (a2_b : Int) (a3_cmp : Value) (K : Bool → Hp → Prop) (sL1 : (Int × Int × Unit) × Hp) (R1 : (Int × Int × Unit) × Hp → Prop) : Prop :=
cnd (decide (sL1.1.2.1 < 5)) (
Jn (J1_slices_partialInsertionSortCmpFunc_int a0_data a1_a a2_b a3_cmp K sL1 R1) fun (J1 : Int × Unit → Hp → Prop) =>
∃ n, Lp (L4_slices_partialInsertionSortCmpFunc_int a0_data a2_b a3_cmp J1) n ((sL1.1.1, ()), sL1.2)) (
K false sL1.2)
def F_slices_partialInsertionSortCmpFunc_int (a0_data : Sl) (a1_a : Int) (a2_b : Int) (a3_cmp : Value) (h : Hp) (K : Bool → Hp → Prop) : Prop :=
Let (IntKind.wrap .i64 (a1_a + 1) : Int) fun (t1 : Int) =>
∃ n, Lp (L1_slices_partialInsertionSortCmpFunc_int a0_data a1_a a2_b a3_cmp K) n ((t1, 0, ()), h)

theorem F_slices_partialInsertionSortCmpFunc_int_ok (a0_data : Sl) (a1_a : Int) (a2_b : Int) (a3_cmp : Value) (h : Hp) (K : Bool → Hp → Prop) (hF : F_slices_partialInsertionSortCmpFunc_int a0_data a1_a a2_b a3_cmp h K) : C_slices_partialInsertionSortCmpFunc_int a0_data a1_a a2_b a3_cmp h K := by
  have e : bodyVC Try.prog Try.f38 (.seq .no (.seq .no (.seq (.seq .no (.block (.loop [(9, .at (.int .i64)), (10, .at (.int .i64))] (.seq (.seq .no (.cond .no .no)) (.seq (.block (.join [(9, .at (.int .i64))] (.block (.loop [(9, .at (.int .i64))] (.seq (.seq .no (.cond .no .no)) (.block .no)))) (.seq (.seq .no (.cond (.seq .no .no) .no)) (.seq (.seq .no (.cond (.seq .no .no) .no)) (.seq .no (.join [] (.seq .no (.cond (.seq .no (.block (.loop [(11, .at (.int .i64))] (.seq (.seq .no (.cond .no .no)) (.seq (.block (.seq (.seq .no (.cond .no .no)) .no)) .no))))) .no)) (.seq .no (.cond (.seq .no (.block (.loop [(12, .at (.int .i64))] (.seq (.seq .no (.cond .no .no)) (.seq (.block (.seq (.seq .no (.cond .no .no)) .no)) .no))))) .no)))))))) .no))))) (.seq .no .no)))) (Option.getD Try.f38.body .skip) [.slice a0_data.a a0_data.len a0_data.cap, .int .i64 a1_a, .int .i64 a2_b, a3_cmp] h [.at .bool] (fun s h => K s.1 h) = F_slices_partialInsertionSortCmpFunc_int a0_data a1_a a2_b a3_cmp h K := by kernel_rfl
  exact fun_sound mixed Try.func38 rfl (e.mpr hF)

def J2_slices_partitionEqualCmpFunc_int (a0_data : Sl) (K : Int → Hp → Prop) (R1 : (Int × Int × Unit) × Hp → Prop) (sJ1 : Int × Unit) (sJ2 : Int × Unit) (hJ2 : Hp) : Prop :=
cnd (decide (sJ1.1 > sJ2.1)) (
K sJ1.1 hJ2) (
idxS a0_data.a a0_data.len sJ2.1 1 fun (p11 : Addr) =>
ldA (.int .i64) hJ2 p11 fun (t12 : Int) =>
idxS a0_data.a a0_data.len sJ1.1 1 fun (p13 : Addr) =>
ldA (.int .i64) hJ2 p13 fun (t14 : Int) =>
idxS a0_data.a a0_data.len sJ1.1 1 fun (p15 : Addr) =>
((1 : Nat) = 1) ∧ (
stC hJ2 p15 (
Let (hset hJ2 p15 (.int .i64 t12)) fun (h16 : Hp) =>
idxS a0_data.a a0_data.len sJ2.1 1 fun (p17 : Addr) =>
((1 : Nat) = 1) ∧ (
stC h16 p17 (
Let (hset h16 p17 (.int .i64 t14)) fun (h18 : Hp) =>
Let (IntKind.wrap .i64 (sJ1.1 + 1) : Int) fun (t19 : Int) =>
Let (IntKind.wrap .i64 (sJ2.1 - 1) : Int) fun (t20 : Int) =>
R1 ((t19, t20, ()), h18))))))
def L2_slices_partitionEqualCmpFunc_int (a0_data : Sl) (a1_a : Int) (a4_cmp : Value) (sJ1 : Int × Unit) (J2 : Int × Unit → Hp → Prop) (sL2 : (Int × Unit) × Hp) (R2 : (Int × Unit) × Hp → Prop) : Prop :=
cnd (decide (sJ1.1 ≤ sL2.1.1)) (
idxS a0_data.a a0_data.len a1_a 1 fun (p21 : Addr) =>
ldA (.int .i64) sL2.2 p21 fun (t22 : Int) =>
idxS a0_data.a a0_data.len sL2.1.1 1 fun (p23 : Addr) =>
ldA (.int .i64) sL2.2 p23 fun (t24 : Int) =>
callV Try.prog a4_cmp [.int .i64 t22, .int .i64 t24] [.at (.int .i64)] sL2.2 fun (s : Int × Unit) (h26 : Hp) =>
cnd (decide (s.1 < 0)) (
Let (IntKind.wrap .i64 (sL2.1.1 - 1) : Int) fun (t27 : Int) =>
R2 ((t27, ()), h26)) (
J2 (sL2.1.1, ()) h26)) (
J2 (sL2.1.1, ()) sL2.2)
def J1_slices_partitionEqualCmpFunc_int (a0_data : Sl) (a1_a : Int) (a4_cmp : Value) (K : Int → Hp → Prop) (sL1 : (Int × Int × Unit) × Hp) (R1 : (Int × Int × Unit) × Hp → Prop) (sJ1 : Int × Unit) (hJ1 : Hp) : Prop :=
Jn (J2_slices_partitionEqualCmpFunc_int a0_data K R1 sJ1) fun (J2 : Int × Unit → Hp → Prop) =>
∃ n, Lp (L2_slices_partitionEqualCmpFunc_int a0_data a1_a a4_cmp sJ1 J2) n ((sL1.1.2.1, ()), hJ1)
def L3_slices_partitionEqualCmpFunc_int (a0_data : Sl) (a1_a : Int) (a4_cmp : Value) (sL1 : (Int × Int × Unit) × Hp) (J1 : Int × Unit → Hp → Prop) (sL3 : (Int × Unit) × Hp) (R3 : (Int × Unit) × Hp → Prop) : Prop :=
cnd (decide (sL3.1.1 ≤ sL1.1.2.1)) (
idxS a0_data.a a0_data.len a1_a 1 fun (p28 : Addr) =>
ldA (.int .i64) sL3.2 p28 fun (t29 : Int) =>
idxS a0_data.a a0_data.len sL3.1.1 1 fun (p30 : Addr) =>
ldA (.int .i64) sL3.2 p30 fun (t31 : Int) =>
callV Try.prog a4_cmp [.int .i64 t29, .int .i64 t31] [.at (.int .i64)] sL3.2 fun (s : Int × Unit) (h33 : Hp) =>
cnd (!(decide (s.1 < 0))) (
Let (IntKind.wrap .i64 (sL3.1.1 + 1) : Int) fun (t34 : Int) =>
R3 ((t34, ()), h33)) (
J1 (sL3.1.1, ()) h33)) (
J1 (sL3.1.1, ()) sL3.2)
def L1_slices_partitionEqualCmpFunc_int (a0_data : Sl) (a1_a : Int) (a4_cmp : Value) (K : Int → Hp → Prop) (sL1 : (Int × Int × Unit) × Hp) (R1 : (Int × Int × Unit) × Hp → Prop) : Prop :=
Jn (J1_slices_partitionEqualCmpFunc_int a0_data a1_a a4_cmp K sL1 R1) fun (J1 : Int × Unit → Hp → Prop) =>
∃ n, Lp (L3_slices_partitionEqualCmpFunc_int a0_data a1_a a4_cmp sL1 J1) n ((sL1.1.1, ()), sL1.2)
def F_slices_partitionEqualCmpFunc_int (a0_data : Sl) (a1_a : Int) (a2_b : Int) (a3_pivot : Int) (a4_cmp : Value) (h : Hp) (K : Int → Hp → Prop) : Prop :=
idxS a0_data.a a0_data.len a3_pivot 1 fun (p1 : Addr) =>
ldA (.int .i64) h p1 fun (t2 : Int) =>
idxS a0_data.a a0_data.len a1_a 1 fun (p3 : Addr) =>
ldA (.int .i64) h p3 fun (t4 : Int) =>
idxS a0_data.a a0_data.len a1_a 1 fun (p5 : Addr) =>
((1 : Nat) = 1) ∧ (
stC h p5 (
Let (hset h p5 (.int .i64 t2)) fun (h6 : Hp) =>
idxS a0_data.a a0_data.len a3_pivot 1 fun (p7 : Addr) =>
((1 : Nat) = 1) ∧ (
stC h6 p7 (
Let (hset h6 p7 (.int .i64 t4)) fun (h8 : Hp) =>
Let (IntKind.wrap .i64 (a1_a + 1) : Int) fun (t9 : Int) =>
Let (IntKind.wrap .i64 (a2_b - 1) : Int) fun (t10 : Int) =>
∃ n, Lp (L1_slices_partitionEqualCmpFunc_int a0_data a1_a a4_cmp K) n ((t9, t10, ()), h8)))))

theorem F_slices_partitionEqualCmpFunc_int_ok (a0_data : Sl) (a1_a : Int) (a2_b : Int) (a3_pivot : Int) (a4_cmp : Value) (h : Hp) (K : Int → Hp → Prop) (hF : F_slices_partitionEqualCmpFunc_int a0_data a1_a a2_b a3_pivot a4_cmp h K) : C_slices_partitionEqualCmpFunc_int a0_data a1_a a2_b a3_pivot a4_cmp h K := by
  have e : bodyVC Try.prog Try.f39 (.seq .no (.seq .no (.seq .no (.seq (.block (.loop [(11, .at (.int .i64)), (12, .at (.int .i64))] (.block (.join [(11, .at (.int .i64))] (.block (.loop [(11, .at (.int .i64))] (.seq (.seq .no (.cond .no .no)) (.block .no)))) (.join [(12, .at (.int .i64))] (.block (.loop [(12, .at (.int .i64))] (.seq (.seq .no (.cond .no .no)) (.block .no)))) (.seq (.seq .no (.cond .no .no)) (.seq .no (.seq .no .no)))))))) (.seq .no .no))))) (Option.getD Try.f39.body .skip) [.slice a0_data.a a0_data.len a0_data.cap, .int .i64 a1_a, .int .i64 a2_b, .int .i64 a3_pivot, a4_cmp] h [.at (.int .i64)] (fun s h => K s.1 h) = F_slices_partitionEqualCmpFunc_int a0_data a1_a a2_b a3_pivot a4_cmp h K := by kernel_rfl
  exact fun_sound mixed Try.func39 rfl (e.mpr hF)

def J3_slices_partitionCmpFunc_int (a0_data : Sl) (a1_a : Int) (K : Int → Bool → Hp → Prop) (sJ3 : Int × Unit) (hJ3 : Hp) : Prop :=
idxS a0_data.a a0_data.len a1_a 1 fun (p29 : Addr) =>
ldA (.int .i64) hJ3 p29 fun (t30 : Int) =>
idxS a0_data.a a0_data.len sJ3.1 1 fun (p31 : Addr) =>
ldA (.int .i64) hJ3 p31 fun (t32 : Int) =>
idxS a0_data.a a0_data.len sJ3.1 1 fun (p33 : Addr) =>
((1 : Nat) = 1) ∧ (
stC hJ3 p33 (
Let (hset hJ3 p33 (.int .i64 t30)) fun (h34 : Hp) =>
idxS a0_data.a a0_data.len a1_a 1 fun (p35 : Addr) =>
((1 : Nat) = 1) ∧ (
stC h34 p35 (
Let (hset h34 p35 (.int .i64 t32)) fun (h36 : Hp) =>
K sJ3.1 false h36))))
def J5_slices_partitionCmpFunc_int (a0_data : Sl) (J3 : Int × Unit → Hp → Prop) (R1 : (Int × Int × Unit) × Hp → Prop) (sJ4 : Int × Unit) (sJ5 : Int × Unit) (hJ5 : Hp) : Prop :=
cnd (decide (sJ4.1 > sJ5.1)) (
J3 (sJ5.1, ()) hJ5) (
idxS a0_data.a a0_data.len sJ5.1 1 fun (p37 : Addr) =>
ldA (.int .i64) hJ5 p37 fun (t38 : Int) =>
idxS a0_data.a a0_data.len sJ4.1 1 fun (p39 : Addr) =>
ldA (.int .i64) hJ5 p39 fun (t40 : Int) =>
idxS a0_data.a a0_data.len sJ4.1 1 fun (p41 : Addr) =>
((1 : Nat) = 1) ∧ (
stC hJ5 p41 (
Let (hset hJ5 p41 (.int .i64 t38)) fun (h42 : Hp) =>
idxS a0_data.a a0_data.len sJ5.1 1 fun (p43 : Addr) =>
((1 : Nat) = 1) ∧ (
stC h42 p43 (
Let (hset h42 p43 (.int .i64 t40)) fun (h44 : Hp) =>
Let (IntKind.wrap .i64 (sJ4.1 + 1) : Int) fun (t45 : Int) =>
Let (IntKind.wrap .i64 (sJ5.1 - 1) : Int) fun (t46 : Int) =>
R1 ((t45, t46, ()), h44))))))
def L2_slices_partitionCmpFunc_int (a0_data : Sl) (a1_a : Int) (a4_cmp : Value) (sJ4 : Int × Unit) (J5 : Int × Unit → Hp → Prop) (sL2 : (Int × Unit) × Hp) (R2 : (Int × Unit) × Hp → Prop) : Prop :=
cnd (decide (sJ4.1 ≤ sL2.1.1)) (
idxS a0_data.a a0_data.len sL2.1.1 1 fun (p47 : Addr) =>
ldA (.int .i64) sL2.2 p47 fun (t48 : Int) =>
idxS a0_data.a a0_data.len a1_a 1 fun (p49 : Addr) =>
ldA (.int .i64) sL2.2 p49 fun (t50 : Int) =>
callV Try.prog a4_cmp [.int .i64 t48, .int .i64 t50] [.at (.int .i64)] sL2.2 fun (s : Int × Unit) (h52 : Hp) =>
cnd (!(decide (s.1 < 0))) (
Let (IntKind.wrap .i64 (sL2.1.1 - 1) : Int) fun (t53 : Int) =>
R2 ((t53, ()), h52)) (
J5 (sL2.1.1, ()) h52)) (
J5 (sL2.1.1, ()) sL2.2)
def J4_slices_partitionCmpFunc_int (a0_data : Sl) (a1_a : Int) (a4_cmp : Value) (J3 : Int × Unit → Hp → Prop) (sL1 : (Int × Int × Unit) × Hp) (R1 : (Int × Int × Unit) × Hp → Prop) (sJ4 : Int × Unit) (hJ4 : Hp) : Prop :=
Jn (J5_slices_partitionCmpFunc_int a0_data J3 R1 sJ4) fun (J5 : Int × Unit → Hp → Prop) =>
∃ n, Lp (L2_slices_partitionCmpFunc_int a0_data a1_a a4_cmp sJ4 J5) n ((sL1.1.2.1, ()), hJ4)
def L3_slices_partitionCmpFunc_int (a0_data : Sl) (a1_a : Int) (a4_cmp : Value) (sL1 : (Int × Int × Unit) × Hp) (J4 : Int × Unit → Hp → Prop) (sL3 : (Int × Unit) × Hp) (R3 : (Int × Unit) × Hp → Prop) : Prop :=
cnd (decide (sL3.1.1 ≤ sL1.1.2.1)) (
idxS a0_data.a a0_data.len sL3.1.1 1 fun (p54 : Addr) =>
ldA (.int .i64) sL3.2 p54 fun (t55 : Int) =>
idxS a0_data.a a0_data.len a1_a 1 fun (p56 : Addr) =>
ldA (.int .i64) sL3.2 p56 fun (t57 : Int) =>
callV Try.prog a4_cmp [.int .i64 t55, .int .i64 t57] [.at (.int .i64)] sL3.2 fun (s : Int × Unit) (h59 : Hp) =>
cnd (decide (s.1 < 0)) (
Let (IntKind.wrap .i64 (sL3.1.1 + 1) : Int) fun (t60 : Int) =>
R3 ((t60, ()), h59)) (
J4 (sL3.1.1, ()) h59)) (
J4 (sL3.1.1, ()) sL3.2)
def L1_slices_partitionCmpFunc_int (a0_data : Sl) (a1_a : Int) (a4_cmp : Value) (J3 : Int × Unit → Hp → Prop) (sL1 : (Int × Int × Unit) × Hp) (R1 : (Int × Int × Unit) × Hp → Prop) : Prop :=
Jn (J4_slices_partitionCmpFunc_int a0_data a1_a a4_cmp J3 sL1 R1) fun (J4 : Int × Unit → Hp → Prop) =>
∃ n, Lp (L3_slices_partitionCmpFunc_int a0_data a1_a a4_cmp sL1 J4) n ((sL1.1.1, ()), sL1.2)
def J2_slices_partitionCmpFunc_int (a0_data : Sl) (a1_a : Int) (a4_cmp : Value) (K : Int → Bool → Hp → Prop) (sJ1 : Int × Unit) (sJ2 : Int × Unit) (hJ2 : Hp) : Prop :=
cnd (decide (sJ1.1 > sJ2.1)) (
idxS a0_data.a a0_data.len a1_a 1 fun (p11 : Addr) =>
ldA (.int .i64) hJ2 p11 fun (t12 : Int) =>
idxS a0_data.a a0_data.len sJ2.1 1 fun (p13 : Addr) =>
ldA (.int .i64) hJ2 p13 fun (t14 : Int) =>
idxS a0_data.a a0_data.len sJ2.1 1 fun (p15 : Addr) =>
((1 : Nat) = 1) ∧ (
stC hJ2 p15 (
Let (hset hJ2 p15 (.int .i64 t12)) fun (h16 : Hp) =>
idxS a0_data.a a0_data.len a1_a 1 fun (p17 : Addr) =>
((1 : Nat) = 1) ∧ (
stC h16 p17 (
Let (hset h16 p17 (.int .i64 t14)) fun (h18 : Hp) =>
K sJ2.1 true h18))))) (
idxS a0_data.a a0_data.len sJ2.1 1 fun (p19 : Addr) =>
ldA (.int .i64) hJ2 p19 fun (t20 : Int) =>
idxS a0_data.a a0_data.len sJ1.1 1 fun (p21 : Addr) =>
ldA (.int .i64) hJ2 p21 fun (t22 : Int) =>
idxS a0_data.a a0_data.len sJ1.1 1 fun (p23 : Addr) =>
((1 : Nat) = 1) ∧ (
stC hJ2 p23 (
Let (hset hJ2 p23 (.int .i64 t20)) fun (h24 : Hp) =>
idxS a0_data.a a0_data.len sJ2.1 1 fun (p25 : Addr) =>
((1 : Nat) = 1) ∧ (
stC h24 p25 (
Let (hset h24 p25 (.int .i64 t22)) fun (h26 : Hp) =>
Let (IntKind.wrap .i64 (sJ1.1 + 1) : Int) fun (t27 : Int) =>
Let (IntKind.wrap .i64 (sJ2.1 - 1) : Int) fun (t28 : Int) =>
Jn (J3_slices_partitionCmpFunc_int a0_data a1_a K) fun (J3 : Int × Unit → Hp → Prop) =>
∃ n, Lp (L1_slices_partitionCmpFunc_int a0_data a1_a a4_cmp J3) n ((t27, t28, ()), h26))))))
def L4_slices_partitionCmpFunc_int (a0_data : Sl) (a1_a : Int) (a4_cmp : Value) (sJ1 : Int × Unit) (J2 : Int × Unit → Hp → Prop) (sL4 : (Int × Unit) × Hp) (R4 : (Int × Unit) × Hp → Prop) : Prop :=
cnd (decide (sJ1.1 ≤ sL4.1.1)) (
idxS a0_data.a a0_data.len sL4.1.1 1 fun (p61 : Addr) =>
ldA (.int .i64) sL4.2 p61 fun (t62 : Int) =>
idxS a0_data.a a0_data.len a1_a 1 fun (p63 : Addr) =>
ldA (.int .i64) sL4.2 p63 fun (t64 : Int) =>
callV Try.prog a4_cmp [.int .i64 t62, .int .i64 t64] [.at (.int .i64)] sL4.2 fun (s : Int × Unit) (h66 : Hp) =>
cnd (!(decide (s.1 < 0))) (
Let (IntKind.wrap .i64 (sL4.1.1 - 1) : Int) fun (t67 : Int) =>
R4 ((t67, ()), h66)) (
J2 (sL4.1.1, ()) h66)) (
J2 (sL4.1.1, ()) sL4.2)
def J1_slices_partitionCmpFunc_int (a0_data : Sl) (a1_a : Int) (a4_cmp : Value) (K : Int → Bool → Hp → Prop) (t10 : Int) (sJ1 : Int × Unit) (hJ1 : Hp) : Prop :=
Jn (J2_slices_partitionCmpFunc_int a0_data a1_a a4_cmp K sJ1) fun (J2 : Int × Unit → Hp → Prop) =>
∃ n, Lp (L4_slices_partitionCmpFunc_int a0_data a1_a a4_cmp sJ1 J2) n ((t10, ()), hJ1)
def L5_slices_partitionCmpFunc_int (a0_data : Sl) (a1_a : Int) (a4_cmp : Value) (t10 : Int) (J1 : Int × Unit → Hp → Prop) (sL5 : (Int × Unit) × Hp) (R5 : (Int × Unit) × Hp → Prop) : Prop :=
cnd (decide (sL5.1.1 ≤ t10)) (
idxS a0_data.a a0_data.len sL5.1.1 1 fun (p68 : Addr) =>
ldA (.int .i64) sL5.2 p68 fun (t69 : Int) =>
idxS a0_data.a a0_data.len a1_a 1 fun (p70 : Addr) =>
ldA (.int .i64) sL5.2 p70 fun (t71 : Int) =>
callV Try.prog a4_cmp [.int .i64 t69, .int .i64 t71] [.at (.int .i64)] sL5.2 fun (s : Int × Unit) (h73 : Hp) =>
cnd (decide (s.1 < 0)) (
Let (IntKind.wrap .i64 (sL5.1.1 + 1) : Int) fun (t74 : Int) =>
R5 ((t74, ()), h73)) (
J1 (sL5.1.1, ()) h73)) (
J1 (sL5.1.1, ()) sL5.2)
def F_slices_partitionCmpFunc_int (a0_data : Sl) (a1_a : Int) (a2_b : Int) (a3_pivot : Int) (a4_cmp : Value) (h : Hp) (K : Int → Bool → Hp → Prop) : Prop :=
idxS a0_data.a a0_data.len a3_pivot 1 fun (p1 : Addr) =>
ldA (.int .i64) h p1 fun (t2 : Int) =>
idxS a0_data.a a0_data.len a1_a 1 fun (p3 : Addr) =>
ldA (.int .i64) h p3 fun (t4 : Int) =>
idxS a0_data.a a0_data.len a1_a 1 fun (p5 : Addr) =>
((1 : Nat) = 1) ∧ (
stC h p5 (
Let (hset h p5 (.int .i64 t2)) fun (h6 : Hp) =>
idxS a0_data.a a0_data.len a3_pivot 1 fun (p7 : Addr) =>
((1 : Nat) = 1) ∧ (
stC h6 p7 (
Let (hset h6 p7 (.int .i64 t4)) fun (h8 : Hp) =>
Let (IntKind.wrap .i64 (a1_a + 1) : Int) fun (t9 : Int) =>
Let (IntKind.wrap .i64 (a2_b - 1) : Int) fun (t10 : Int) =>
Jn (J1_slices_partitionCmpFunc_int a0_data a1_a a4_cmp K t10) fun (J1 : Int × Unit → Hp → Prop) =>
∃ n, Lp (L5_slices_partitionCmpFunc_int a0_data a1_a a4_cmp t10 J1) n ((t9, ()), h8)))))

theorem F_slices_partitionCmpFunc_int_ok (a0_data : Sl) (a1_a : Int) (a2_b : Int) (a3_pivot : Int) (a4_cmp : Value) (h : Hp) (K : Int → Bool → Hp → Prop) (hF : F_slices_partitionCmpFunc_int a0_data a1_a a2_b a3_pivot a4_cmp h K) : C_slices_partitionCmpFunc_int a0_data a1_a a2_b a3_pivot a4_cmp h K := by
  have e : bodyVC Try.prog Try.f40 (.seq .no (.seq .no (.seq .no (.join [(12, .at (.int .i64))] (.block (.loop [(12, .at (.int .i64))] (.seq (.seq .no (.cond .no .no)) (.block .no)))) (.join [(13, .at (.int .i64))] (.block (.loop [(13, .at (.int .i64))] (.seq (.seq .no (.cond .no .no)) (.block .no)))) (.seq (.seq .no (.cond (.seq .no (.seq .no .no)) .no)) (.seq .no (.seq .no (.seq .no (.join [(13, .at (.int .i64))] (.block (.loop [(12, .at (.int .i64)), (13, .at (.int .i64))] (.block (.join [(12, .at (.int .i64))] (.block (.loop [(12, .at (.int .i64))] (.seq (.seq .no (.cond .no .no)) (.block .no)))) (.join [(13, .at (.int .i64))] (.block (.loop [(13, .at (.int .i64))] (.seq (.seq .no (.cond .no .no)) (.block .no)))) (.seq (.seq .no (.cond .no .no)) (.seq .no (.seq .no .no)))))))) (.seq .no (.seq .no .no)))))))))))) (Option.getD Try.f40.body .skip) [.slice a0_data.a a0_data.len a0_data.cap, .int .i64 a1_a, .int .i64 a2_b, .int .i64 a3_pivot, a4_cmp] h [.at (.int .i64), .at .bool] (fun s h => K s.1 s.2.1 h) = F_slices_partitionCmpFunc_int a0_data a1_a a2_b a3_pivot a4_cmp h K := by kernel_rfl
  exact fun_sound mixed Try.func40 rfl (e.mpr hF)

def J2_math_bits_Len32 (K : Int → Hp → Prop) (sJ2 : Int × Int × Unit) (hJ2 : Hp) : Prop :=
Let (IntKind.wrap .u8 (sJ2.1) : Int) fun (t1 : Int) =>
idxStr (ByteArray.mk #[0, 1, 2, 2, 3, 3, 3, 3, 4, 4, 4, 4, 4, 4, 4, 4, 5, 5, 5, 5, 5, 5, 5, 5, 5, 5, 5, 5, 5, 5, 5, 5, 6, 6, 6, 6, 6, 6, 6, 6, 6, 6, 6, 6, 6, 6, 6, 6, 6, 6, 6, 6, 6, 6, 6, 6, 6, 6, 6, 6, 6, 6, 6, 6, 7, 7, 7, 7, 7, 7, 7, 7, 7, 7, 7, 7, 7, 7, 7, 7, 7, 7, 7, 7, 7, 7, 7, 7, 7, 7, 7, 7, 7, 7, 7, 7, 7, 7, 7, 7, 7, 7, 7, 7, 7, 7, 7, 7, 7, 7, 7, 7, 7, 7, 7, 7, 7, 7, 7, 7, 7, 7, 7, 7, 7, 7, 7, 7, 8, 8, 8, 8, 8, 8, 8, 8, 8, 8, 8, 8, 8, 8, 8, 8, 8, 8, 8, 8, 8, 8, 8, 8, 8, 8, 8, 8, 8, 8, 8, 8, 8, 8, 8, 8, 8, 8, 8, 8, 8, 8, 8, 8, 8, 8, 8, 8, 8, 8, 8, 8, 8, 8, 8, 8, 8, 8, 8, 8, 8, 8, 8, 8, 8, 8, 8, 8, 8, 8, 8, 8, 8, 8, 8, 8, 8, 8, 8, 8, 8, 8, 8, 8, 8, 8, 8, 8, 8, 8, 8, 8, 8, 8, 8, 8, 8, 8, 8, 8, 8, 8, 8, 8, 8, 8, 8, 8, 8, 8, 8, 8, 8, 8, 8, 8, 8, 8, 8, 8, 8, 8, 8, 8, 8, 8, 8, 8]) t1 fun (t2 : Int) =>
Let (IntKind.wrap .i64 (t2) : Int) fun (t3 : Int) =>
Let (IntKind.wrap .i64 (sJ2.2.1 + t3) : Int) fun (t4 : Int) =>
K t4 hJ2
def J1_math_bits_Len32 (K : Int → Hp → Prop) (sJ1 : Int × Int × Unit) (hJ1 : Hp) : Prop :=
Jn (J2_math_bits_Len32 K) fun (J2 : Int × Int × Unit → Hp → Prop) =>
cnd (decide (sJ1.1 ≥ 256)) (
Let (Int.fdiv sJ1.1 (2 ^ min (Int.toNat 8) (IntKind.bits .u32)) : Int) fun (t5 : Int) =>
Let (IntKind.wrap .i64 (sJ1.2.1 + 8) : Int) fun (t6 : Int) =>
J2 (t5, t6, ()) hJ1) (
J2 (sJ1.1, sJ1.2.1, ()) hJ1)
def F_math_bits_Len32 (a0_x : Int) (h : Hp) (K : Int → Hp → Prop) : Prop :=
Jn (J1_math_bits_Len32 K) fun (J1 : Int × Int × Unit → Hp → Prop) =>
cnd (decide (a0_x ≥ 65536)) (
Let (Int.fdiv a0_x (2 ^ min (Int.toNat 16) (IntKind.bits .u32)) : Int) fun (t7 : Int) =>
J1 (t7, 16, ()) h) (
J1 (a0_x, 0, ()) h)

theorem F_math_bits_Len32_ok (a0_x : Int) (h : Hp) (K : Int → Hp → Prop) (hF : F_math_bits_Len32 a0_x h K) : C_math_bits_Len32 a0_x h K := by
  have e : bodyVC Try.prog Try.f41 (.seq .no (.join [(0, .at (.int .u32)), (2, .at (.int .i64))] (.seq .no (.cond (.seq .no .no) .no)) (.join [(0, .at (.int .u32)), (2, .at (.int .i64))] (.seq .no (.cond (.seq .no .no) .no)) (.seq .no .no)))) (Option.getD Try.f41.body .skip) [.int .u32 a0_x] h [.at (.int .i64)] (fun s h => K s.1 h) = F_math_bits_Len32 a0_x h K := by kernel_rfl
  exact fun_sound mixed Try.func41 rfl (e.mpr hF)

def J3_math_bits_Len64 (K : Int → Hp → Prop) (sJ3 : Int × Int × Unit) (hJ3 : Hp) : Prop :=
Let (IntKind.wrap .u8 (sJ3.1) : Int) fun (t1 : Int) =>
idxStr (ByteArray.mk #[0, 1, 2, 2, 3, 3, 3, 3, 4, 4, 4, 4, 4, 4, 4, 4, 5, 5, 5, 5, 5, 5, 5, 5, 5, 5, 5, 5, 5, 5, 5, 5, 6, 6, 6, 6, 6, 6, 6, 6, 6, 6, 6, 6, 6, 6, 6, 6, 6, 6, 6, 6, 6, 6, 6, 6, 6, 6, 6, 6, 6, 6, 6, 6, 7, 7, 7, 7, 7, 7, 7, 7, 7, 7, 7, 7, 7, 7, 7, 7, 7, 7, 7, 7, 7, 7, 7, 7, 7, 7, 7, 7, 7, 7, 7, 7, 7, 7, 7, 7, 7, 7, 7, 7, 7, 7, 7, 7, 7, 7, 7, 7, 7, 7, 7, 7, 7, 7, 7, 7, 7, 7, 7, 7, 7, 7, 7, 7, 8, 8, 8, 8, 8, 8, 8, 8, 8, 8, 8, 8, 8, 8, 8, 8, 8, 8, 8, 8, 8, 8, 8, 8, 8, 8, 8, 8, 8, 8, 8, 8, 8, 8, 8, 8, 8, 8, 8, 8, 8, 8, 8, 8, 8, 8, 8, 8, 8, 8, 8, 8, 8, 8, 8, 8, 8, 8, 8, 8, 8, 8, 8, 8, 8, 8, 8, 8, 8, 8, 8, 8, 8, 8, 8, 8, 8, 8, 8, 8, 8, 8, 8, 8, 8, 8, 8, 8, 8, 8, 8, 8, 8, 8, 8, 8, 8, 8, 8, 8, 8, 8, 8, 8, 8, 8, 8, 8, 8, 8, 8, 8, 8, 8, 8, 8, 8, 8, 8, 8, 8, 8, 8, 8, 8, 8, 8, 8]) t1 fun (t2 : Int) =>
Let (IntKind.wrap .i64 (t2) : Int) fun (t3 : Int) =>
Let (IntKind.wrap .i64 (sJ3.2.1 + t3) : Int) fun (t4 : Int) =>
K t4 hJ3
def J2_math_bits_Len64 (K : Int → Hp → Prop) (sJ2 : Int × Int × Unit) (hJ2 : Hp) : Prop :=
Jn (J3_math_bits_Len64 K) fun (J3 : Int × Int × Unit → Hp → Prop) =>
cnd (decide (sJ2.1 ≥ 256)) (
((0 : Int) ≤ 8) ∧ (
Let (Int.fdiv sJ2.1 (2 ^ min (Int.toNat 8) (IntKind.bits .u64)) : Int) fun (t5 : Int) =>
Let (IntKind.wrap .i64 (sJ2.2.1 + 8) : Int) fun (t6 : Int) =>
J3 (t5, t6, ()) hJ2)) (
J3 (sJ2.1, sJ2.2.1, ()) hJ2)
def J1_math_bits_Len64 (K : Int → Hp → Prop) (sJ1 : Int × Int × Unit) (hJ1 : Hp) : Prop :=
Jn (J2_math_bits_Len64 K) fun (J2 : Int × Int × Unit → Hp → Prop) =>
cnd (decide (sJ1.1 ≥ 65536)) (
((0 : Int) ≤ 16) ∧ (
Let (Int.fdiv sJ1.1 (2 ^ min (Int.toNat 16) (IntKind.bits .u64)) : Int) fun (t7 : Int) =>
Let (IntKind.wrap .i64 (sJ1.2.1 + 16) : Int) fun (t8 : Int) =>
J2 (t7, t8, ()) hJ1)) (
J2 (sJ1.1, sJ1.2.1, ()) hJ1)
def F_math_bits_Len64 (a0_x : Int) (h : Hp) (K : Int → Hp → Prop) : Prop :=
Jn (J1_math_bits_Len64 K) fun (J1 : Int × Int × Unit → Hp → Prop) =>
cnd (decide (a0_x ≥ 4294967296)) (
((0 : Int) ≤ 32) ∧ (
Let (Int.fdiv a0_x (2 ^ min (Int.toNat 32) (IntKind.bits .u64)) : Int) fun (t9 : Int) =>
J1 (t9, 32, ()) h)) (
J1 (a0_x, 0, ()) h)

theorem F_math_bits_Len64_ok (a0_x : Int) (h : Hp) (K : Int → Hp → Prop) (hF : F_math_bits_Len64 a0_x h K) : C_math_bits_Len64 a0_x h K := by
  have e : bodyVC Try.prog Try.f42 (.seq .no (.join [(0, .at (.int .u64)), (2, .at (.int .i64))] (.seq .no (.cond (.seq .no .no) .no)) (.join [(0, .at (.int .u64)), (2, .at (.int .i64))] (.seq .no (.cond (.seq .no .no) .no)) (.join [(0, .at (.int .u64)), (2, .at (.int .i64))] (.seq .no (.cond (.seq .no .no) .no)) (.seq .no .no))))) (Option.getD Try.f42.body .skip) [.int .u64 a0_x] h [.at (.int .i64)] (fun s h => K s.1 h) = F_math_bits_Len64 a0_x h K := by kernel_rfl
  exact fun_sound mixed Try.func42 rfl (e.mpr hF)

def J1_slices_siftDownCmpFunc_int (a0_data : Sl) (a3_first : Int) (a4_cmp : Value) (K : Hp → Prop) (sL1 : (Int × Unit) × Hp) (R1 : (Int × Unit) × Hp → Prop) (sJ1 : Int × Unit) (hJ1 : Hp) : Prop :=
Let (IntKind.wrap .i64 (a3_first + sL1.1.1) : Int) fun (t3 : Int) =>
idxS a0_data.a a0_data.len t3 1 fun (p4 : Addr) =>
ldA (.int .i64) hJ1 p4 fun (t5 : Int) =>
Let (IntKind.wrap .i64 (a3_first + sJ1.1) : Int) fun (t6 : Int) =>
idxS a0_data.a a0_data.len t6 1 fun (p7 : Addr) =>
ldA (.int .i64) hJ1 p7 fun (t8 : Int) =>
callV Try.prog a4_cmp [.int .i64 t5, .int .i64 t8] [.at (.int .i64)] hJ1 fun (s : Int × Unit) (h10 : Hp) =>
cnd (!(decide (s.1 < 0))) (
K h10) (
Let (IntKind.wrap .i64 (a3_first + sL1.1.1) : Int) fun (t11 : Int) =>
Let (IntKind.wrap .i64 (a3_first + sJ1.1) : Int) fun (t12 : Int) =>
Let (IntKind.wrap .i64 (a3_first + sJ1.1) : Int) fun (t13 : Int) =>
idxS a0_data.a a0_data.len t13 1 fun (p14 : Addr) =>
ldA (.int .i64) h10 p14 fun (t15 : Int) =>
Let (IntKind.wrap .i64 (a3_first + sL1.1.1) : Int) fun (t16 : Int) =>
idxS a0_data.a a0_data.len t16 1 fun (p17 : Addr) =>
ldA (.int .i64) h10 p17 fun (t18 : Int) =>
idxS a0_data.a a0_data.len t11 1 fun (p19 : Addr) =>
((1 : Nat) = 1) ∧ (
stC h10 p19 (
Let (hset h10 p19 (.int .i64 t15)) fun (h20 : Hp) =>
idxS a0_data.a a0_data.len t12 1 fun (p21 : Addr) =>
((1 : Nat) = 1) ∧ (
stC h20 p21 (
Let (hset h20 p21 (.int .i64 t18)) fun (h22 : Hp) =>
R1 ((sJ1.1, ()), h22))))))
def J2_slices_siftDownCmpFunc_int (t2 : Int) (J1 : Int × Unit → Hp → Prop) (sJ2 : Bool × Unit) (hJ2 : Hp) : Prop :=
cnd sJ2.1 (
Let (IntKind.wrap .i64 (t2 + 1) : Int) fun (t23 : Int) =>
J1 (t23, ()) hJ2) (
J1 (t2, ()) hJ2)
def L1_slices_siftDownCmpFunc_int (a0_data : Sl) (a2_hi : Int) (a3_first : Int) (a4_cmp : Value) (K : Hp → Prop) (sL1 : (Int × Unit) × Hp) (R1 : (Int × Unit) × Hp → Prop) : Prop :=
Let (IntKind.wrap .i64 ((2 : Int) * sL1.1.1) : Int) fun (t1 : Int) =>
Let (IntKind.wrap .i64 (t1 + 1) : Int) fun (t2 : Int) =>
cnd (decide (t2 ≥ a2_hi)) (
K sL1.2) (
Jn (J1_slices_siftDownCmpFunc_int a0_data a3_first a4_cmp K sL1 R1) fun (J1 : Int × Unit → Hp → Prop) =>
Jn (J2_slices_siftDownCmpFunc_int t2 J1) fun (J2 : Bool × Unit → Hp → Prop) =>
Let (IntKind.wrap .i64 (t2 + 1) : Int) fun (t24 : Int) =>
cnd (decide (t24 < a2_hi)) (
Let (IntKind.wrap .i64 (a3_first + t2) : Int) fun (t25 : Int) =>
idxS a0_data.a a0_data.len t25 1 fun (p26 : Addr) =>
ldA (.int .i64) sL1.2 p26 fun (t27 : Int) =>
Let (IntKind.wrap .i64 (a3_first + t2) : Int) fun (t28 : Int) =>
Let (IntKind.wrap .i64 (t28 + 1) : Int) fun (t29 : Int) =>
idxS a0_data.a a0_data.len t29 1 fun (p30 : Addr) =>
ldA (.int .i64) sL1.2 p30 fun (t31 : Int) =>
callV Try.prog a4_cmp [.int .i64 t27, .int .i64 t31] [.at (.int .i64)] sL1.2 fun (s : Int × Unit) (h33 : Hp) =>
J2 (decide (s.1 < 0), ()) h33) (
J2 (false, ()) sL1.2))
def F_slices_siftDownCmpFunc_int (a0_data : Sl) (a1_lo : Int) (a2_hi : Int) (a3_first : Int) (a4_cmp : Value) (h : Hp) (K : Hp → Prop) : Prop :=
∃ n, Lp (L1_slices_siftDownCmpFunc_int a0_data a2_hi a3_first a4_cmp K) n ((a1_lo, ()), h)

theorem F_slices_siftDownCmpFunc_int_ok (a0_data : Sl) (a1_lo : Int) (a2_hi : Int) (a3_first : Int) (a4_cmp : Value) (h : Hp) (K : Hp → Prop) (hF : F_slices_siftDownCmpFunc_int a0_data a1_lo a2_hi a3_first a4_cmp h K) : C_slices_siftDownCmpFunc_int a0_data a1_lo a2_hi a3_first a4_cmp h K := by
  have e : bodyVC Try.prog Try.f43 (.seq .no (.block (.loop [(10, .at (.int .i64))] (.block (.seq .no (.seq (.seq .no (.cond .no .no)) (.join [(11, .at (.int .i64))] (.join [(40, .at .bool)] .no (.cond .no .no)) (.seq (.seq .no (.cond .no .no)) (.seq .no .no))))))))) (Option.getD Try.f43.body .skip) [.slice a0_data.a a0_data.len a0_data.cap, .int .i64 a1_lo, .int .i64 a2_hi, .int .i64 a3_first, a4_cmp] h [] (fun s h => K h) = F_slices_siftDownCmpFunc_int a0_data a1_lo a2_hi a3_first a4_cmp h K := by kernel_rfl
  exact fun_sound mixed Try.func43 rfl (e.mpr hF)

def F_slices_nextPowerOfTwo (a0_length : Int) (h : Hp) (K : Int → Hp → Prop) : Prop :=
Let (IntKind.wrap .u64 (a0_length) : Int) fun (t1 : Int) =>
C_math_bits_Len t1 h fun (t2 : Int) (h3 : Hp) =>
((0 : Int) ≤ t2) ∧ (
Let (IntKind.wrap .u64 (1 * 2 ^ min (Int.toNat t2) (IntKind.bits .u64)) : Int) fun (t4 : Int) =>
K t4 h3)

theorem F_slices_nextPowerOfTwo_ok (a0_length : Int) (h : Hp) (K : Int → Hp → Prop) (hF : F_slices_nextPowerOfTwo a0_length h K) : C_slices_nextPowerOfTwo a0_length h K := by
  have e : bodyVC Try.prog Try.f44 (.seq .no (.seq .no .no)) (Option.getD Try.f44.body .skip) [.int .i64 a0_length] h [.at (.int .u64)] (fun s h => K s.1 h) = F_slices_nextPowerOfTwo a0_length h K := by kernel_rfl
  exact fun_sound mixed Try.func44 rfl (e.mpr hF)

def F_slices_xorshift_Next (a0_r : Option Addr) (h : Hp) (K : Int → Hp → Prop) : Prop :=
someA a0_r fun (p1 : Addr) =>
ldA (.int .u64) h p1 fun (t2 : Int) =>
someA a0_r fun (p3 : Addr) =>
ldA (.int .u64) h p3 fun (t4 : Int) =>
((0 : Int) ≤ 13) ∧ (
Let (IntKind.wrap .u64 (t4 * 2 ^ min (Int.toNat 13) (IntKind.bits .u64)) : Int) fun (t5 : Int) =>
Let (ibXor .u64 t2 t5 : Int) fun (t6 : Int) =>
someA a0_r fun (p7 : Addr) =>
((1 : Nat) = 1) ∧ (
stC h p7 (
Let (hset h p7 (.int .u64 t6)) fun (h8 : Hp) =>
someA a0_r fun (p9 : Addr) =>
ldA (.int .u64) h8 p9 fun (t10 : Int) =>
someA a0_r fun (p11 : Addr) =>
ldA (.int .u64) h8 p11 fun (t12 : Int) =>
((0 : Int) ≤ 7) ∧ (
Let (Int.fdiv t12 (2 ^ min (Int.toNat 7) (IntKind.bits .u64)) : Int) fun (t13 : Int) =>
Let (ibXor .u64 t10 t13 : Int) fun (t14 : Int) =>
someA a0_r fun (p15 : Addr) =>
((1 : Nat) = 1) ∧ (
stC h8 p15 (
Let (hset h8 p15 (.int .u64 t14)) fun (h16 : Hp) =>
someA a0_r fun (p17 : Addr) =>
ldA (.int .u64) h16 p17 fun (t18 : Int) =>
someA a0_r fun (p19 : Addr) =>
ldA (.int .u64) h16 p19 fun (t20 : Int) =>
((0 : Int) ≤ 17) ∧ (
Let (IntKind.wrap .u64 (t20 * 2 ^ min (Int.toNat 17) (IntKind.bits .u64)) : Int) fun (t21 : Int) =>
Let (ibXor .u64 t18 t21 : Int) fun (t22 : Int) =>
someA a0_r fun (p23 : Addr) =>
((1 : Nat) = 1) ∧ (
stC h16 p23 (
Let (hset h16 p23 (.int .u64 t22)) fun (h24 : Hp) =>
someA a0_r fun (p25 : Addr) =>
ldA (.int .u64) h24 p25 fun (t26 : Int) =>
K t26 h24)))))))))

theorem F_slices_xorshift_Next_ok (a0_r : Option Addr) (h : Hp) (K : Int → Hp → Prop) (hF : F_slices_xorshift_Next a0_r h K) : C_slices_xorshift_Next a0_r h K := by
  have e : bodyVC Try.prog Try.f45 (.seq .no (.seq .no (.seq .no (.seq .no (.seq .no .no))))) (Option.getD Try.f45.body .skip) [.pointer a0_r] h [.at (.int .u64)] (fun s h => K s.1 h) = F_slices_xorshift_Next a0_r h K := by kernel_rfl
  exact fun_sound mixed Try.func45 rfl (e.mpr hF)

def F_slices_medianAdjacentCmpFunc_int (a0_data : Sl) (a1_a : Int) (a2_swaps : Option Addr) (a3_cmp : Value) (h : Hp) (K : Int → Hp → Prop) : Prop :=
Let (IntKind.wrap .i64 (a1_a - 1) : Int) fun (t1 : Int) =>
Let (IntKind.wrap .i64 (a1_a + 1) : Int) fun (t2 : Int) =>
C_slices_medianCmpFunc_int a0_data t1 a1_a t2 a2_swaps a3_cmp h fun (t3 : Int) (h4 : Hp) =>
K t3 h4

theorem F_slices_medianAdjacentCmpFunc_int_ok (a0_data : Sl) (a1_a : Int) (a2_swaps : Option Addr) (a3_cmp : Value) (h : Hp) (K : Int → Hp → Prop) (hF : F_slices_medianAdjacentCmpFunc_int a0_data a1_a a2_swaps a3_cmp h K) : C_slices_medianAdjacentCmpFunc_int a0_data a1_a a2_swaps a3_cmp h K := by
  have e : bodyVC Try.prog Try.f46 (.seq .no (.seq .no .no)) (Option.getD Try.f46.body .skip) [.slice a0_data.a a0_data.len a0_data.cap, .int .i64 a1_a, .pointer a2_swaps, a3_cmp] h [.at (.int .i64)] (fun s h => K s.1 h) = F_slices_medianAdjacentCmpFunc_int a0_data a1_a a2_swaps a3_cmp h K := by kernel_rfl
  exact fun_sound mixed Try.func46 rfl (e.mpr hF)

def F_slices_medianCmpFunc_int (a0_data : Sl) (a1_a : Int) (a2_b : Int) (a3_c : Int) (a4_swaps : Option Addr) (a5_cmp : Value) (h : Hp) (K : Int → Hp → Prop) : Prop :=
C_slices_order2CmpFunc_int a0_data a1_a a2_b a4_swaps a5_cmp h fun (t1 : Int) (t2 : Int) (h3 : Hp) =>
C_slices_order2CmpFunc_int a0_data t2 a3_c a4_swaps a5_cmp h3 fun (t4 : Int) (t5 : Int) (h6 : Hp) =>
C_slices_order2CmpFunc_int a0_data t1 t4 a4_swaps a5_cmp h6 fun (t7 : Int) (t8 : Int) (h9 : Hp) =>
K t8 h9

theorem F_slices_medianCmpFunc_int_ok (a0_data : Sl) (a1_a : Int) (a2_b : Int) (a3_c : Int) (a4_swaps : Option Addr) (a5_cmp : Value) (h : Hp) (K : Int → Hp → Prop) (hF : F_slices_medianCmpFunc_int a0_data a1_a a2_b a3_c a4_swaps a5_cmp h K) : C_slices_medianCmpFunc_int a0_data a1_a a2_b a3_c a4_swaps a5_cmp h K := by
  have e : bodyVC Try.prog Try.f47 (.seq .no (.seq .no (.seq .no (.seq .no (.seq .no .no))))) (Option.getD Try.f47.body .skip) [.slice a0_data.a a0_data.len a0_data.cap, .int .i64 a1_a, .int .i64 a2_b, .int .i64 a3_c, .pointer a4_swaps, a5_cmp] h [.at (.int .i64)] (fun s h => K s.1 h) = F_slices_medianCmpFunc_int a0_data a1_a a2_b a3_c a4_swaps a5_cmp h K := by kernel_rfl
  exact fun_sound mixed Try.func47 rfl (e.mpr hF)

def F_slices_order2CmpFunc_int (a0_data : Sl) (a1_a : Int) (a2_b : Int) (a3_swaps : Option Addr) (a4_cmp : Value) (h : Hp) (K : Int → Int → Hp → Prop) : Prop :=
idxS a0_data.a a0_data.len a2_b 1 fun (p1 : Addr) =>
ldA (.int .i64) h p1 fun (t2 : Int) =>
idxS a0_data.a a0_data.len a1_a 1 fun (p3 : Addr) =>
ldA (.int .i64) h p3 fun (t4 : Int) =>
callV Try.prog a4_cmp [.int .i64 t2, .int .i64 t4] [.at (.int .i64)] h fun (s : Int × Unit) (h6 : Hp) =>
cnd (decide (s.1 < 0)) (
someA a3_swaps fun (p7 : Addr) =>
ldA (.int .i64) h6 p7 fun (t8 : Int) =>
Let (IntKind.wrap .i64 (t8 + 1) : Int) fun (t9 : Int) =>
someA a3_swaps fun (p10 : Addr) =>
((1 : Nat) = 1) ∧ (
stC h6 p10 (
Let (hset h6 p10 (.int .i64 t9)) fun (h11 : Hp) =>
K a2_b a1_a h11))) (
K a1_a a2_b h6)

theorem F_slices_order2CmpFunc_int_ok (a0_data : Sl) (a1_a : Int) (a2_b : Int) (a3_swaps : Option Addr) (a4_cmp : Value) (h : Hp) (K : Int → Int → Hp → Prop) (hF : F_slices_order2CmpFunc_int a0_data a1_a a2_b a3_swaps a4_cmp h K) : C_slices_order2CmpFunc_int a0_data a1_a a2_b a3_swaps a4_cmp h K := by
  have e : bodyVC Try.prog Try.f48 (.seq .no (.seq (.seq .no (.cond (.seq .no (.seq .no .no)) .no)) (.seq .no .no))) (Option.getD Try.f48.body .skip) [.slice a0_data.a a0_data.len a0_data.cap, .int .i64 a1_a, .int .i64 a2_b, .pointer a3_swaps, a4_cmp] h [.at (.int .i64), .at (.int .i64)] (fun s h => K s.1 s.2.1 h) = F_slices_order2CmpFunc_int a0_data a1_a a2_b a3_swaps a4_cmp h K := by kernel_rfl
  exact fun_sound mixed Try.func48 rfl (e.mpr hF)

end Go.Proofs.YtcjkclpdkcgpaaaF
