/- The formulas of the seat's functions and the proofs that they are enough, printed by gen.py of this session. No condition. -/
import Derived.Test.YtfopgddogcbodaaProg
import Derived.Test.YtfopgddogcbodaaK7
namespace Go.Proofs.YtfopgddogcbodaaF
open Go Go.Proofs.YtfopgddogcbodaaK Go.Proofs
set_option linter.unusedVariables false
set_option maxRecDepth 100000
theorem mixed : Try.prog.follows .mixedOrders = true := by kernel_rfl
def C_gosem_cut_init  (h : Hp) (K : Hp → Prop) : Prop :=
  CallT Try.prog 2 [] [] h fun s h => K h
def C_law12_BestKeeps (a0_k : Int) (a1_l : Sl) (h : Hp) (K : Bool → Hp → Prop) : Prop :=
  CallT Try.prog 3 [.int .i64 a0_k, .slice a1_l.a a1_l.len a1_l.cap] [.at .bool] h fun s h => K s.1 h
def C_law12_BestOrder (a0_k : Int) (a1_l : Sl) (a2_turn : Int) (h : Hp) (K : Bool → Hp → Prop) : Prop :=
  CallT Try.prog 4 [.int .i64 a0_k, .slice a1_l.a a1_l.len a1_l.cap, .int .i64 a2_turn] [.at .bool] h fun s h => K s.1 h
def C_law12_BestNone (a0_h : Int) (a1_h : Int) (h : Hp) (K : Bool → Hp → Prop) : Prop :=
  CallT Try.prog 5 [.agg #[.int .u64 a0_h, .int .i64 a1_h]] [.at .bool] h fun s h => K s.1 h
def C_best_New (a0_k : Int) (h : Hp) (K : Option Addr → Hp → Prop) : Prop :=
  CallT Try.prog 6 [.int .i64 a0_k] [.at .ptr] h fun s h => K s.1 h
def C_ref12_Keep (a0_l : Sl) (a1_k : Int) (h : Hp) (K : Sl → Hp → Prop) : Prop :=
  CallT Try.prog 7 [.slice a0_l.a a0_l.len a0_l.cap, .int .i64 a1_k] [.at .sl] h fun s h => K s.1 h
def C_ref11_Same (a0_a : Sl) (a1_b : Sl) (h : Hp) (K : Bool → Hp → Prop) : Prop :=
  CallT Try.prog 8 [.slice a0_a.a a0_a.len a0_a.cap, .slice a1_b.a a1_b.len a1_b.cap] [.at .bool] h fun s h => K s.1 h
def C_best_Best_Add (a0_b : Option Addr) (a1_h : Int) (a2_h : Int) (h : Hp) (K : Bool → Hp → Prop) : Prop :=
  CallT Try.prog 9 [.pointer a0_b, .agg #[.int .u64 a1_h, .int .i64 a2_h]] [.at .bool] h fun s h => K s.1 h
def C_best_Best_List (a0_b : Option Addr) (h : Hp) (K : Sl → Hp → Prop) : Prop :=
  CallT Try.prog 10 [.pointer a0_b] [.at .sl] h fun s h => K s.1 h
def C_best_Best_Len (a0_b : Option Addr) (h : Hp) (K : Int → Hp → Prop) : Prop :=
  CallT Try.prog 11 [.pointer a0_b] [.at (.int .i64)] h fun s h => K s.1 h
def C_best_Best_Bound (a0_b : Option Addr) (h : Hp) (K : Int → Hp → Prop) : Prop :=
  CallT Try.prog 12 [.pointer a0_b] [.at (.int .i64)] h fun s h => K s.1 h
def C_ref12_Bound (a0_l : Sl) (a1_k : Int) (h : Hp) (K : Int → Hp → Prop) : Prop :=
  CallT Try.prog 13 [.slice a0_l.a a0_l.len a0_l.cap, .int .i64 a1_k] [.at (.int .i64)] h fun s h => K s.1 h
def C_best_Best_Full (a0_b : Option Addr) (h : Hp) (K : Bool → Hp → Prop) : Prop :=
  CallT Try.prog 14 [.pointer a0_b] [.at .bool] h fun s h => K s.1 h
def C_law12_lives  (h : Hp) (K : Bool → Hp → Prop) : Prop :=
  CallT Try.prog 15 [] [.at .bool] h fun s h => K s.1 h
def C_best_New_1 (a0_a : Int) (a1_a : Int) (a2_b : Int) (a3_b : Int) (h : Hp) (K : Int → Hp → Prop) : Prop :=
  CallT Try.prog 16 [.agg #[.int .u64 a0_a, .int .i64 a1_a], .agg #[.int .u64 a2_b, .int .i64 a3_b]] [.at (.int .i64)] h fun s h => K s.1 h
def C_hits_Cmp (a0_a : Int) (a1_a : Int) (a2_b : Int) (a3_b : Int) (h : Hp) (K : Int → Hp → Prop) : Prop :=
  CallT Try.prog 17 [.agg #[.int .u64 a0_a, .int .i64 a1_a], .agg #[.int .u64 a2_b, .int .i64 a3_b]] [.at (.int .i64)] h fun s h => K s.1 h
def C_heap_New_api_Hit (a0_order : Value) (h : Hp) (K : Option Addr → Hp → Prop) : Prop :=
  CallT Try.prog 18 [a0_order] [.at .ptr] h fun s h => K s.1 h
def C_ref11_First (a0_l : Sl) (a1_k : Int) (h : Hp) (K : Sl → Hp → Prop) : Prop :=
  CallT Try.prog 19 [.slice a0_l.a a0_l.len a0_l.cap, .int .i64 a1_k] [.at .sl] h fun s h => K s.1 h
def C_ref11_Sort (a0_l : Sl) (h : Hp) (K : Sl → Hp → Prop) : Prop :=
  CallT Try.prog 20 [.slice a0_l.a a0_l.len a0_l.cap] [.at .sl] h fun s h => K s.1 h
def C_heap_Heap_api_Hit_Top (a0_h : Option Addr) (h : Hp) (K : Int → Int → Bool → Hp → Prop) : Prop :=
  CallT Try.prog 21 [.pointer a0_h] [.agg [(.int .u64), (.int .i64)], .at .bool] h fun s h => K s.1.1 s.1.2.1 s.2.1 h
def C_heap_Heap_api_Hit_Pop (a0_h : Option Addr) (h : Hp) (K : Int → Int → Bool → Hp → Prop) : Prop :=
  CallT Try.prog 22 [.pointer a0_h] [.agg [(.int .u64), (.int .i64)], .at .bool] h fun s h => K s.1.1 s.1.2.1 s.2.1 h
def C_heap_Heap_api_Hit_Push (a0_h : Option Addr) (a1_x : Int) (a2_x : Int) (h : Hp) (K : Hp → Prop) : Prop :=
  CallT Try.prog 23 [.pointer a0_h, .agg #[.int .u64 a1_x, .int .i64 a2_x]] [] h fun s h => K h
def C_hits_Sort (a0_l : Sl) (h : Hp) (K : Sl → Hp → Prop) : Prop :=
  CallT Try.prog 24 [.slice a0_l.a a0_l.len a0_l.cap] [.at .sl] h fun s h => K s.1 h
def C_heap_Heap_api_Hit_All (a0_h : Option Addr) (h : Hp) (K : Sl → Hp → Prop) : Prop :=
  CallT Try.prog 25 [.pointer a0_h] [.at .sl] h fun s h => K s.1 h
def C_heap_Heap_api_Hit_Len (a0_h : Option Addr) (h : Hp) (K : Int → Hp → Prop) : Prop :=
  CallT Try.prog 26 [.pointer a0_h] [.at (.int .i64)] h fun s h => K s.1 h
def C_cmp_Or_int (a0_vals : Sl) (h : Hp) (K : Int → Hp → Prop) : Prop :=
  CallT Try.prog 27 [.slice a0_vals.a a0_vals.len a0_vals.cap] [.at (.int .i64)] h fun s h => K s.1 h
def C_cmp_Compare_int (a0_x : Int) (a1_y : Int) (h : Hp) (K : Int → Hp → Prop) : Prop :=
  CallT Try.prog 28 [.int .i64 a0_x, .int .i64 a1_y] [.at (.int .i64)] h fun s h => K s.1 h
def C_cmp_Compare_uint64 (a0_x : Int) (a1_y : Int) (h : Hp) (K : Int → Hp → Prop) : Prop :=
  CallT Try.prog 29 [.int .u64 a0_x, .int .u64 a1_y] [.at (.int .i64)] h fun s h => K s.1 h
def C_ref11_Put (a0_l : Sl) (a1_h : Int) (a2_h : Int) (h : Hp) (K : Sl → Hp → Prop) : Prop :=
  CallT Try.prog 30 [.slice a0_l.a a0_l.len a0_l.cap, .agg #[.int .u64 a1_h, .int .i64 a2_h]] [.at .sl] h fun s h => K s.1 h
def C_heap_Heap_api_Hit_swap (a0_h : Option Addr) (a1_i : Int) (a2_k : Int) (h : Hp) (K : Hp → Prop) : Prop :=
  CallT Try.prog 31 [.pointer a0_h, .int .i64 a1_i, .int .i64 a2_k] [] h fun s h => K h
def C_heap_Heap_api_Hit_down (a0_h : Option Addr) (a1_i : Int) (h : Hp) (K : Hp → Prop) : Prop :=
  CallT Try.prog 32 [.pointer a0_h, .int .i64 a1_i] [] h fun s h => K h
def C_heap_Heap_api_Hit_up (a0_h : Option Addr) (a1_i : Int) (h : Hp) (K : Hp → Prop) : Prop :=
  CallT Try.prog 33 [.pointer a0_h, .int .i64 a1_i] [] h fun s h => K h
def C_slices_Clone_api_Hit_api_Hit (a0_s : Sl) (h : Hp) (K : Sl → Hp → Prop) : Prop :=
  CallT Try.prog 34 [.slice a0_s.a a0_s.len a0_s.cap] [.at .sl] h fun s h => K s.1 h
def C_slices_SortFunc_api_Hit_api_Hit (a0_x : Sl) (a1_cmp : Value) (h : Hp) (K : Hp → Prop) : Prop :=
  CallT Try.prog 35 [.slice a0_x.a a0_x.len a0_x.cap, a1_cmp] [] h fun s h => K h
def C_cmp_isNaN_int (a0_x : Int) (h : Hp) (K : Bool → Hp → Prop) : Prop :=
  CallT Try.prog 36 [.int .i64 a0_x] [.at .bool] h fun s h => K s.1 h
def C_cmp_isNaN_uint64 (a0_x : Int) (h : Hp) (K : Bool → Hp → Prop) : Prop :=
  CallT Try.prog 37 [.int .u64 a0_x] [.at .bool] h fun s h => K s.1 h
def C_ref11_Less (a0_a : Int) (a1_a : Int) (a2_b : Int) (a3_b : Int) (h : Hp) (K : Bool → Hp → Prop) : Prop :=
  CallT Try.prog 38 [.agg #[.int .u64 a0_a, .int .i64 a1_a], .agg #[.int .u64 a2_b, .int .i64 a3_b]] [.at .bool] h fun s h => K s.1 h
def C_heap_Heap_api_Hit_first (a0_h : Option Addr) (a1_i : Int) (h : Hp) (K : Int → Hp → Prop) : Prop :=
  CallT Try.prog 39 [.pointer a0_h, .int .i64 a1_i] [.at (.int .i64)] h fun s h => K s.1 h
def C_slices_pdqsortCmpFunc_api_Hit (a0_data : Sl) (a1_a : Int) (a2_b : Int) (a3_limit : Int) (a4_cmp : Value) (h : Hp) (K : Hp → Prop) : Prop :=
  CallT Try.prog 40 [.slice a0_data.a a0_data.len a0_data.cap, .int .i64 a1_a, .int .i64 a2_b, .int .i64 a3_limit, a4_cmp] [] h fun s h => K h
def C_math_bits_Len (a0_x : Int) (h : Hp) (K : Int → Hp → Prop) : Prop :=
  CallT Try.prog 41 [.int .u64 a0_x] [.at (.int .i64)] h fun s h => K s.1 h
def C_slices_insertionSortCmpFunc_api_Hit (a0_data : Sl) (a1_a : Int) (a2_b : Int) (a3_cmp : Value) (h : Hp) (K : Hp → Prop) : Prop :=
  CallT Try.prog 42 [.slice a0_data.a a0_data.len a0_data.cap, .int .i64 a1_a, .int .i64 a2_b, a3_cmp] [] h fun s h => K h
def C_slices_heapSortCmpFunc_api_Hit (a0_data : Sl) (a1_a : Int) (a2_b : Int) (a3_cmp : Value) (h : Hp) (K : Hp → Prop) : Prop :=
  CallT Try.prog 43 [.slice a0_data.a a0_data.len a0_data.cap, .int .i64 a1_a, .int .i64 a2_b, a3_cmp] [] h fun s h => K h
def C_slices_breakPatternsCmpFunc_api_Hit (a0_data : Sl) (a1_a : Int) (a2_b : Int) (a3_cmp : Value) (h : Hp) (K : Hp → Prop) : Prop :=
  CallT Try.prog 44 [.slice a0_data.a a0_data.len a0_data.cap, .int .i64 a1_a, .int .i64 a2_b, a3_cmp] [] h fun s h => K h
def C_slices_choosePivotCmpFunc_api_Hit (a0_data : Sl) (a1_a : Int) (a2_b : Int) (a3_cmp : Value) (h : Hp) (K : Int → Int → Hp → Prop) : Prop :=
  CallT Try.prog 45 [.slice a0_data.a a0_data.len a0_data.cap, .int .i64 a1_a, .int .i64 a2_b, a3_cmp] [.at (.int .i64), .at (.int .i64)] h fun s h => K s.1 s.2.1 h
def C_slices_reverseRangeCmpFunc_api_Hit (a0_data : Sl) (a1_a : Int) (a2_b : Int) (a3_cmp : Value) (h : Hp) (K : Hp → Prop) : Prop :=
  CallT Try.prog 46 [.slice a0_data.a a0_data.len a0_data.cap, .int .i64 a1_a, .int .i64 a2_b, a3_cmp] [] h fun s h => K h
def C_slices_partialInsertionSortCmpFunc_api_Hit (a0_data : Sl) (a1_a : Int) (a2_b : Int) (a3_cmp : Value) (h : Hp) (K : Bool → Hp → Prop) : Prop :=
  CallT Try.prog 47 [.slice a0_data.a a0_data.len a0_data.cap, .int .i64 a1_a, .int .i64 a2_b, a3_cmp] [.at .bool] h fun s h => K s.1 h
def C_slices_partitionEqualCmpFunc_api_Hit (a0_data : Sl) (a1_a : Int) (a2_b : Int) (a3_pivot : Int) (a4_cmp : Value) (h : Hp) (K : Int → Hp → Prop) : Prop :=
  CallT Try.prog 48 [.slice a0_data.a a0_data.len a0_data.cap, .int .i64 a1_a, .int .i64 a2_b, .int .i64 a3_pivot, a4_cmp] [.at (.int .i64)] h fun s h => K s.1 h
def C_slices_partitionCmpFunc_api_Hit (a0_data : Sl) (a1_a : Int) (a2_b : Int) (a3_pivot : Int) (a4_cmp : Value) (h : Hp) (K : Int → Bool → Hp → Prop) : Prop :=
  CallT Try.prog 49 [.slice a0_data.a a0_data.len a0_data.cap, .int .i64 a1_a, .int .i64 a2_b, .int .i64 a3_pivot, a4_cmp] [.at (.int .i64), .at .bool] h fun s h => K s.1 s.2.1 h
def C_math_bits_Len32 (a0_x : Int) (h : Hp) (K : Int → Hp → Prop) : Prop :=
  CallT Try.prog 50 [.int .u32 a0_x] [.at (.int .i64)] h fun s h => K s.1 h
def C_math_bits_Len64 (a0_x : Int) (h : Hp) (K : Int → Hp → Prop) : Prop :=
  CallT Try.prog 51 [.int .u64 a0_x] [.at (.int .i64)] h fun s h => K s.1 h
def C_slices_siftDownCmpFunc_api_Hit (a0_data : Sl) (a1_lo : Int) (a2_hi : Int) (a3_first : Int) (a4_cmp : Value) (h : Hp) (K : Hp → Prop) : Prop :=
  CallT Try.prog 52 [.slice a0_data.a a0_data.len a0_data.cap, .int .i64 a1_lo, .int .i64 a2_hi, .int .i64 a3_first, a4_cmp] [] h fun s h => K h
def C_slices_nextPowerOfTwo (a0_length : Int) (h : Hp) (K : Int → Hp → Prop) : Prop :=
  CallT Try.prog 53 [.int .i64 a0_length] [.at (.int .u64)] h fun s h => K s.1 h
def C_slices_xorshift_Next (a0_r : Option Addr) (h : Hp) (K : Int → Hp → Prop) : Prop :=
  CallT Try.prog 54 [.pointer a0_r] [.at (.int .u64)] h fun s h => K s.1 h
def C_slices_medianAdjacentCmpFunc_api_Hit (a0_data : Sl) (a1_a : Int) (a2_swaps : Option Addr) (a3_cmp : Value) (h : Hp) (K : Int → Hp → Prop) : Prop :=
  CallT Try.prog 55 [.slice a0_data.a a0_data.len a0_data.cap, .int .i64 a1_a, .pointer a2_swaps, a3_cmp] [.at (.int .i64)] h fun s h => K s.1 h
def C_slices_medianCmpFunc_api_Hit (a0_data : Sl) (a1_a : Int) (a2_b : Int) (a3_c : Int) (a4_swaps : Option Addr) (a5_cmp : Value) (h : Hp) (K : Int → Hp → Prop) : Prop :=
  CallT Try.prog 56 [.slice a0_data.a a0_data.len a0_data.cap, .int .i64 a1_a, .int .i64 a2_b, .int .i64 a3_c, .pointer a4_swaps, a5_cmp] [.at (.int .i64)] h fun s h => K s.1 h
def C_slices_order2CmpFunc_api_Hit (a0_data : Sl) (a1_a : Int) (a2_b : Int) (a3_swaps : Option Addr) (a4_cmp : Value) (h : Hp) (K : Int → Int → Hp → Prop) : Prop :=
  CallT Try.prog 57 [.slice a0_data.a a0_data.len a0_data.cap, .int .i64 a1_a, .int .i64 a2_b, .pointer a3_swaps, a4_cmp] [.at (.int .i64), .at (.int .i64)] h fun s h => K s.1 s.2.1 h
def J1_law12_BestKeeps (a0_k : Int) (a1_l : Sl) (K : Bool → Hp → Prop) (t1 : Option Addr) (sJ1 : Unit) (hJ1 : Hp) : Prop :=
C_best_Best_Bound t1 hJ1 fun (t3 : Int) (h4 : Hp) =>
C_ref12_Bound a1_l a0_k h4 fun (t5 : Int) (h6 : Hp) =>
cnd (t3 == t5) (
C_law12_lives  h6 fun (t7 : Bool) (h8 : Hp) =>
K t7 h8) (
K false h6)
def J2_law12_BestKeeps (a0_k : Int) (a1_l : Sl) (K : Bool → Hp → Prop) (t1 : Option Addr) (sL1 : (Int × Unit) × Hp) (R1 : (Int × Unit) × Hp → Prop) (t18 : Sl) (sJ2 : Bool × Unit) (hJ2 : Hp) : Prop :=
idxS a1_l.a a1_l.len sL1.1.1 2 fun (p20 : Addr) =>
ldA (.int .u64) hJ2 p20 fun (t21 : Int) =>
ldA (.int .i64) hJ2 (Addr.add p20 1) fun (t22 : Int) =>
C_best_Best_Add t1 t21 t22 hJ2 fun (t23 : Bool) (h24 : Hp) =>
cnd (!(t23 == sJ2.1)) (
K false h24) (
C_best_Best_List t1 h24 fun (t25 : Sl) (h26 : Hp) =>
C_ref11_Same t25 t18 h26 fun (t27 : Bool) (h28 : Hp) =>
cnd (!t27) (
K false h28) (
C_best_Best_Len t1 h28 fun (t29 : Int) (h30 : Hp) =>
cnd (t29 != (t18.len : Int)) (
K false h30) (
C_best_Best_Bound t1 h30 fun (t31 : Int) (h32 : Hp) =>
Let (IntKind.wrap .i64 (sL1.1.1 + 1) : Int) fun (t33 : Int) =>
slcS a1_l.a a1_l.len a1_l.cap none (some t33) 2 fun (t34 : Option Addr) (l35 c36 : Nat) =>
C_ref12_Bound (Sl.mk t34 l35 c36) a0_k h32 fun (t37 : Int) (h38 : Hp) =>
cnd (t31 != t37) (
K false h38) (
C_best_Best_Full t1 h38 fun (t39 : Bool) (h40 : Hp) =>
cnd (!(t39 == (decide ((t18.len : Int) ≥ a0_k)))) (
K false h40) (
Let (IntKind.wrap .i64 (sL1.1.1 + 1) : Int) fun (t41 : Int) =>
R1 ((t41, ()), h40))))))
def L1_law12_BestKeeps (a0_k : Int) (a1_l : Sl) (K : Bool → Hp → Prop) (t1 : Option Addr) (J1 : Unit → Hp → Prop) (sL1 : (Int × Unit) × Hp) (R1 : (Int × Unit) × Hp → Prop) : Prop :=
cnd (decide (sL1.1.1 < (a1_l.len : Int))) (
slcS a1_l.a a1_l.len a1_l.cap none (some sL1.1.1) 2 fun (t9 : Option Addr) (l10 c11 : Nat) =>
C_ref12_Keep (Sl.mk t9 l10 c11) a0_k sL1.2 fun (t12 : Sl) (h13 : Hp) =>
Let (IntKind.wrap .i64 (sL1.1.1 + 1) : Int) fun (t14 : Int) =>
slcS a1_l.a a1_l.len a1_l.cap none (some t14) 2 fun (t15 : Option Addr) (l16 c17 : Nat) =>
C_ref12_Keep (Sl.mk t15 l16 c17) a0_k h13 fun (t18 : Sl) (h19 : Hp) =>
Jn (J2_law12_BestKeeps a0_k a1_l K t1 sL1 R1 t18) fun (J2 : Bool × Unit → Hp → Prop) =>
cnd (decide ((t18.len : Int) > (t12.len : Int))) (
J2 (true, ()) h19) (
C_ref11_Same t18 t12 h19 fun (t42 : Bool) (h43 : Hp) =>
J2 (!t42, ()) h43)) (
J1 (()) sL1.2)
def F_law12_BestKeeps (a0_k : Int) (a1_l : Sl) (h : Hp) (K : Bool → Hp → Prop) : Prop :=
C_best_New a0_k h fun (t1 : Option Addr) (h2 : Hp) =>
Jn (J1_law12_BestKeeps a0_k a1_l K t1) fun (J1 : Unit → Hp → Prop) =>
∃ n, Lp (L1_law12_BestKeeps a0_k a1_l K t1 J1) n ((0, ()), h2)

theorem F_law12_BestKeeps_ok (a0_k : Int) (a1_l : Sl) (h : Hp) (K : Bool → Hp → Prop) (hF : F_law12_BestKeeps a0_k a1_l h K) : C_law12_BestKeeps a0_k a1_l h K := by
  have e : bodyVC Try.prog Try.f3 (.seq .no (.seq .no (.join [] (.seq .no (.block (.loop [(6, .at (.int .i64))] (.seq (.seq .no (.cond .no .no)) (.seq (.block (.seq .no (.seq .no (.join [(9, .at .bool)] .no (.seq .no (.cond (.seq .no .no) .no)))))) .no))))) (.seq .no .no)))) (Option.getD Try.f3.body .skip) [.int .i64 a0_k, .slice a1_l.a a1_l.len a1_l.cap] h [.at .bool] (fun s h => K s.1 h) = F_law12_BestKeeps a0_k a1_l h K := by kernel_rfl
  exact fun_sound mixed Try.func3 rfl (e.mpr hF)

def J3_law12_BestOrder (K : Bool → Hp → Prop) (t1 : Option Addr) (t3 : Option Addr) (t5 : Option Addr) (sJ3 : Unit) (hJ3 : Hp) : Prop :=
C_best_Best_List t1 hJ3 fun (t7 : Sl) (h8 : Hp) =>
C_best_Best_List t3 h8 fun (t9 : Sl) (h10 : Hp) =>
C_ref11_Same t7 t9 h10 fun (t11 : Bool) (h12 : Hp) =>
cnd t11 (
C_best_Best_List t1 h12 fun (t13 : Sl) (h14 : Hp) =>
C_best_Best_List t5 h14 fun (t15 : Sl) (h16 : Hp) =>
C_ref11_Same t13 t15 h16 fun (t17 : Bool) (h18 : Hp) =>
cnd t17 (
C_best_Best_Bound t1 h18 fun (t19 : Int) (h20 : Hp) =>
C_best_Best_Bound t3 h20 fun (t21 : Int) (h22 : Hp) =>
cnd (t19 == t21) (
C_law12_lives  h22 fun (t23 : Bool) (h24 : Hp) =>
K t23 h24) (
K false h22)) (
K false h18)) (
K false h12)
def L1_law12_BestOrder (a1_l : Sl) (t5 : Option Addr) (sJ2 : Int × Unit) (J3 : Unit → Hp → Prop) (sL1 : (Int × Unit) × Hp) (R1 : (Int × Unit) × Hp → Prop) : Prop :=
cnd (decide (sL1.1.1 < (a1_l.len : Int))) (
Let (IntKind.wrap .i64 (sL1.1.1 + sJ2.1) : Int) fun (t25 : Int) =>
((a1_l.len : Int) ≠ (0 : Int)) ∧ (
Let (Int.tmod t25 (a1_l.len : Int) : Int) fun (t26 : Int) =>
idxS a1_l.a a1_l.len t26 2 fun (p27 : Addr) =>
ldA (.int .u64) sL1.2 p27 fun (t28 : Int) =>
ldA (.int .i64) sL1.2 (Addr.add p27 1) fun (t29 : Int) =>
C_best_Best_Add t5 t28 t29 sL1.2 fun (t30 : Bool) (h31 : Hp) =>
Let (IntKind.wrap .i64 (sL1.1.1 + 1) : Int) fun (t32 : Int) =>
R1 ((t32, ()), h31))) (
J3 (()) sL1.2)
def J2_law12_BestOrder (a1_l : Sl) (K : Bool → Hp → Prop) (t1 : Option Addr) (t3 : Option Addr) (t5 : Option Addr) (sJ2 : Int × Unit) (hJ2 : Hp) : Prop :=
Jn (J3_law12_BestOrder K t1 t3 t5) fun (J3 : Unit → Hp → Prop) =>
∃ n, Lp (L1_law12_BestOrder a1_l t5 sJ2 J3) n ((0, ()), hJ2)
def J4_law12_BestOrder (a1_l : Sl) (a2_turn : Int) (J2 : Int × Unit → Hp → Prop) (sJ4 : Bool × Unit) (hJ4 : Hp) : Prop :=
cnd sJ4.1 (
((a1_l.len : Int) ≠ (0 : Int)) ∧ (
Let (Int.tmod a2_turn (a1_l.len : Int) : Int) fun (t33 : Int) =>
J2 (t33, ()) hJ4)) (
J2 (0, ()) hJ4)
def J1_law12_BestOrder (a0_k : Int) (a1_l : Sl) (a2_turn : Int) (K : Bool → Hp → Prop) (t1 : Option Addr) (t3 : Option Addr) (sJ1 : Unit) (hJ1 : Hp) : Prop :=
C_best_New a0_k hJ1 fun (t5 : Option Addr) (h6 : Hp) =>
Jn (J2_law12_BestOrder a1_l K t1 t3 t5) fun (J2 : Int × Unit → Hp → Prop) =>
Jn (J4_law12_BestOrder a1_l a2_turn J2) fun (J4 : Bool × Unit → Hp → Prop) =>
cnd (decide (a2_turn > 0)) (
J4 (decide ((a1_l.len : Int) > 0), ()) h6) (
J4 (false, ()) h6)
def L2_law12_BestOrder (a1_l : Sl) (t1 : Option Addr) (t3 : Option Addr) (J1 : Unit → Hp → Prop) (sL2 : (Int × Unit) × Hp) (R2 : (Int × Unit) × Hp → Prop) : Prop :=
cnd (decide (sL2.1.1 < (a1_l.len : Int))) (
idxS a1_l.a a1_l.len sL2.1.1 2 fun (p34 : Addr) =>
ldA (.int .u64) sL2.2 p34 fun (t35 : Int) =>
ldA (.int .i64) sL2.2 (Addr.add p34 1) fun (t36 : Int) =>
C_best_Best_Add t1 t35 t36 sL2.2 fun (t37 : Bool) (h38 : Hp) =>
Let (IntKind.wrap .i64 ((a1_l.len : Int) - 1) : Int) fun (t39 : Int) =>
Let (IntKind.wrap .i64 (t39 - sL2.1.1) : Int) fun (t40 : Int) =>
idxS a1_l.a a1_l.len t40 2 fun (p41 : Addr) =>
ldA (.int .u64) h38 p41 fun (t42 : Int) =>
ldA (.int .i64) h38 (Addr.add p41 1) fun (t43 : Int) =>
C_best_Best_Add t3 t42 t43 h38 fun (t44 : Bool) (h45 : Hp) =>
Let (IntKind.wrap .i64 (sL2.1.1 + 1) : Int) fun (t46 : Int) =>
R2 ((t46, ()), h45)) (
J1 (()) sL2.2)
def F_law12_BestOrder (a0_k : Int) (a1_l : Sl) (a2_turn : Int) (h : Hp) (K : Bool → Hp → Prop) : Prop :=
C_best_New a0_k h fun (t1 : Option Addr) (h2 : Hp) =>
C_best_New a0_k h2 fun (t3 : Option Addr) (h4 : Hp) =>
Jn (J1_law12_BestOrder a0_k a1_l a2_turn K t1 t3) fun (J1 : Unit → Hp → Prop) =>
∃ n, Lp (L2_law12_BestOrder a1_l t1 t3 J1) n ((0, ()), h4)

theorem F_law12_BestOrder_ok (a0_k : Int) (a1_l : Sl) (a2_turn : Int) (h : Hp) (K : Bool → Hp → Prop) (hF : F_law12_BestOrder a0_k a1_l a2_turn h K) : C_law12_BestOrder a0_k a1_l a2_turn h K := by
  have e : bodyVC Try.prog Try.f4 (.seq .no (.seq .no (.join [] (.seq .no (.block (.loop [(9, .at (.int .i64))] (.seq (.seq .no (.cond .no .no)) (.seq (.block (.seq .no .no)) .no))))) (.seq .no (.seq .no (.join [(11, .at (.int .i64))] (.join [(47, .at .bool)] .no (.cond .no .no)) (.join [] (.seq .no (.block (.loop [(12, .at (.int .i64))] (.seq (.seq .no (.cond .no .no)) (.seq (.block .no) .no))))) (.seq .no .no)))))))) (Option.getD Try.f4.body .skip) [.int .i64 a0_k, .slice a1_l.a a1_l.len a1_l.cap, .int .i64 a2_turn] h [.at .bool] (fun s h => K s.1 h) = F_law12_BestOrder a0_k a1_l a2_turn h K := by kernel_rfl
  exact fun_sound mixed Try.func4 rfl (e.mpr hF)

def F_law12_BestNone (a0_h : Int) (a1_h : Int) (h : Hp) (K : Bool → Hp → Prop) : Prop :=
Let (Array.push h (Obj.cells #[.int .u64 a0_h, .int .i64 a1_h] 30)) fun (h1 : Hp) =>
Let (Addr.mk (Array.size h) 0 none) fun (p2 : Addr) =>
ldA (.int .u64) h1 p2 fun (t3 : Int) =>
ldA (.int .i64) h1 (Addr.add p2 1) fun (t4 : Int) =>
C_best_Best_Add none t3 t4 h1 fun (t5 : Bool) (h6 : Hp) =>
cnd (!t5) (
C_best_Best_Bound none h6 fun (t7 : Int) (h8 : Hp) =>
cnd (t7 == (-1)) (
C_best_Best_Full none h8 fun (t9 : Bool) (h10 : Hp) =>
cnd t9 (
C_best_Best_Len none h10 fun (t11 : Int) (h12 : Hp) =>
cnd (t11 == 0) (
C_best_Best_List none h12 fun (t13 : Sl) (h14 : Hp) =>
cnd ((t13.len : Int) == 0) (
C_law12_lives  h14 fun (t15 : Bool) (h16 : Hp) =>
K t15 h16) (
K false h14)) (
K false h12)) (
K false h10)) (
K false h8)) (
K false h6)

theorem F_law12_BestNone_ok (a0_h : Int) (a1_h : Int) (h : Hp) (K : Bool → Hp → Prop) (hF : F_law12_BestNone a0_h a1_h h K) : C_law12_BestNone a0_h a1_h h K := by
  have e : bodyVC Try.prog Try.f5 (.seq .no (.seq .no (.seq .no .no))) (Option.getD Try.f5.body .skip) [.agg #[.int .u64 a0_h, .int .i64 a1_h]] h [.at .bool] (fun s h => K s.1 h) = F_law12_BestNone a0_h a1_h h K := by kernel_rfl
  exact fun_sound mixed Try.func5 rfl (e.mpr hF)

def F_best_New (a0_k : Int) (h : Hp) (K : Option Addr → Hp → Prop) : Prop :=
Let (if 0 > a0_k then 0 else a0_k : Int) fun (t1 : Int) =>
C_heap_New_api_Hit (.func (.func 16) #[] #[]) h fun (t2 : Option Addr) (h3 : Hp) =>
Let (Array.push h3 (Obj.cells #[.int .i64 t1, .pointer t2] 41)) fun (h4 : Hp) =>
Let (Addr.mk (Array.size h3) 0 none) fun (p5 : Addr) =>
K (some p5) h4

theorem F_best_New_ok (a0_k : Int) (h : Hp) (K : Option Addr → Hp → Prop) (hF : F_best_New a0_k h K) : C_best_New a0_k h K := by
  have e : bodyVC Try.prog Try.f6 (.seq .no (.seq .no (.seq .no .no))) (Option.getD Try.f6.body .skip) [.int .i64 a0_k] h [.at .ptr] (fun s h => K s.1 h) = F_best_New a0_k h K := by kernel_rfl
  exact fun_sound mixed Try.func6 rfl (e.mpr hF)

def F_ref12_Keep (a0_l : Sl) (a1_k : Int) (h : Hp) (K : Sl → Hp → Prop) : Prop :=
C_ref11_Sort a0_l h fun (t1 : Sl) (h2 : Hp) =>
C_ref11_First t1 a1_k h2 fun (t3 : Sl) (h4 : Hp) =>
K t3 h4

theorem F_ref12_Keep_ok (a0_l : Sl) (a1_k : Int) (h : Hp) (K : Sl → Hp → Prop) (hF : F_ref12_Keep a0_l a1_k h K) : C_ref12_Keep a0_l a1_k h K := by
  have e : bodyVC Try.prog Try.f7 (.seq .no (.seq .no .no)) (Option.getD Try.f7.body .skip) [.slice a0_l.a a0_l.len a0_l.cap, .int .i64 a1_k] h [.at .sl] (fun s h => K s.1 h) = F_ref12_Keep a0_l a1_k h K := by kernel_rfl
  exact fun_sound mixed Try.func7 rfl (e.mpr hF)

def L1_ref11_Same (a0_a : Sl) (a1_b : Sl) (K : Bool → Hp → Prop) (sL1 : (Int × Unit) × Hp) (R1 : (Int × Unit) × Hp → Prop) : Prop :=
cnd (decide (sL1.1.1 < (a0_a.len : Int))) (
idxS a0_a.a a0_a.len sL1.1.1 2 fun (p1 : Addr) =>
ldA (.int .u64) sL1.2 p1 fun (t2 : Int) =>
ldA (.int .i64) sL1.2 (Addr.add p1 1) fun (t3 : Int) =>
idxS a1_b.a a1_b.len sL1.1.1 2 fun (p4 : Addr) =>
ldA (.int .u64) sL1.2 p4 fun (t5 : Int) =>
ldA (.int .i64) sL1.2 (Addr.add p4 1) fun (t6 : Int) =>
cnd (!((t2 == t5) && ((t3 == t6) && true))) (
K false sL1.2) (
Let (IntKind.wrap .i64 (sL1.1.1 + 1) : Int) fun (t7 : Int) =>
R1 ((t7, ()), sL1.2))) (
K true sL1.2)
def F_ref11_Same (a0_a : Sl) (a1_b : Sl) (h : Hp) (K : Bool → Hp → Prop) : Prop :=
cnd ((a0_a.len : Int) != (a1_b.len : Int)) (
K false h) (
∃ n, Lp (L1_ref11_Same a0_a a1_b K) n ((0, ()), h))

theorem F_ref11_Same_ok (a0_a : Sl) (a1_b : Sl) (h : Hp) (K : Bool → Hp → Prop) (hF : F_ref11_Same a0_a a1_b h K) : C_ref11_Same a0_a a1_b h K := by
  have e : bodyVC Try.prog Try.f8 (.seq .no (.seq (.seq .no (.cond (.seq .no .no) .no)) (.seq (.seq .no (.block (.loop [(5, .at (.int .i64))] (.seq (.seq .no (.cond .no .no)) (.seq (.block (.seq .no (.cond (.seq .no .no) .no))) .no))))) (.seq .no .no)))) (Option.getD Try.f8.body .skip) [.slice a0_a.a a0_a.len a0_a.cap, .slice a1_b.a a1_b.len a1_b.cap] h [.at .bool] (fun s h => K s.1 h) = F_ref11_Same a0_a a1_b h K := by kernel_rfl
  exact fun_sound mixed Try.func8 rfl (e.mpr hF)

def J2_best_Best_Add (a0_b : Option Addr) (K : Bool → Hp → Prop) (p2 : Addr) (sJ2 : Unit) (hJ2 : Hp) : Prop :=
someA a0_b fun (p3 : Addr) =>
ldA .ptr hJ2 (Addr.add p3 1) fun (t4 : Option Addr) =>
ldA (.int .u64) hJ2 p2 fun (t5 : Int) =>
ldA (.int .i64) hJ2 (Addr.add p2 1) fun (t6 : Int) =>
C_heap_Heap_api_Hit_Push t4 t5 t6 hJ2 fun  (h7 : Hp) =>
K true h7
def J3_best_Best_Add (a0_b : Option Addr) (K : Bool → Hp → Prop) (p2 : Addr) (J2 : Unit → Hp → Prop) (p15 : Addr) (sJ3 : Bool × Unit) (hJ3 : Hp) : Prop :=
cnd sJ3.1 (
ldA (.int .u64) hJ3 p2 fun (t18 : Int) =>
ldA (.int .i64) hJ3 (Addr.add p2 1) fun (t19 : Int) =>
ldA (.int .u64) hJ3 p15 fun (t20 : Int) =>
ldA (.int .i64) hJ3 (Addr.add p15 1) fun (t21 : Int) =>
C_hits_Cmp t18 t19 t20 t21 hJ3 fun (t22 : Int) (h23 : Hp) =>
cnd (decide (t22 ≥ 0)) (
K false h23) (
someA a0_b fun (p24 : Addr) =>
ldA .ptr h23 (Addr.add p24 1) fun (t25 : Option Addr) =>
C_heap_Heap_api_Hit_Pop t25 h23 fun (t26 : Int) (t27 : Int) (t28 : Bool) (h29 : Hp) =>
J2 (()) h29)) (
J2 (()) hJ3)
def J1_best_Best_Add (a0_b : Option Addr) (K : Bool → Hp → Prop) (p2 : Addr) (sJ1 : Unit) (hJ1 : Hp) : Prop :=
Jn (J2_best_Best_Add a0_b K p2) fun (J2 : Unit → Hp → Prop) =>
someA a0_b fun (p8 : Addr) =>
ldA .ptr hJ1 (Addr.add p8 1) fun (t9 : Option Addr) =>
C_heap_Heap_api_Hit_Top t9 hJ1 fun (t10 : Int) (t11 : Int) (t12 : Bool) (h13 : Hp) =>
Let (Array.push h13 (Obj.cells #[.int .u64 0, .int .i64 0] 30)) fun (h14 : Hp) =>
Let (Addr.mk (Array.size h13) 0 none) fun (p15 : Addr) =>
stC h14 p15 (
Let (hset h14 p15 (.int .u64 t10)) fun (h16 : Hp) =>
stC h16 (Addr.add p15 1) (
Let (hset h16 (Addr.add p15 1) (.int .i64 t11)) fun (h17 : Hp) =>
Jn (J3_best_Best_Add a0_b K p2 J2 p15) fun (J3 : Bool × Unit → Hp → Prop) =>
cnd t12 (
C_best_Best_Full a0_b h17 fun (t30 : Bool) (h31 : Hp) =>
J3 (t30, ()) h31) (
J3 (false, ()) h17)))
def F_best_Best_Add (a0_b : Option Addr) (a1_h : Int) (a2_h : Int) (h : Hp) (K : Bool → Hp → Prop) : Prop :=
Let (Array.push h (Obj.cells #[.int .u64 a1_h, .int .i64 a2_h] 30)) fun (h1 : Hp) =>
Let (Addr.mk (Array.size h) 0 none) fun (p2 : Addr) =>
Jn (J1_best_Best_Add a0_b K p2) fun (J1 : Unit → Hp → Prop) =>
cnd (Option.isNone a0_b) (
K false h1) (
someA a0_b fun (p32 : Addr) =>
ldA (.int .i64) h1 p32 fun (t33 : Int) =>
cnd (t33 == 0) (
K false h1) (
J1 (()) h1))

theorem F_best_Best_Add_ok (a0_b : Option Addr) (a1_h : Int) (a2_h : Int) (h : Hp) (K : Bool → Hp → Prop) (hF : F_best_Best_Add a0_b a1_h a2_h h K) : C_best_Best_Add a0_b a1_h a2_h h K := by
  have e : bodyVC Try.prog Try.f9 (.seq .no (.join [] (.seq .no (.cond (.seq .no .no) .no)) (.join [] (.seq .no (.join [(28, .at .bool)] .no (.cond (.seq (.seq .no (.cond (.seq .no .no) .no)) .no) .no))) (.seq .no (.seq .no .no))))) (Option.getD Try.f9.body .skip) [.pointer a0_b, .agg #[.int .u64 a1_h, .int .i64 a2_h]] h [.at .bool] (fun s h => K s.1 h) = F_best_Best_Add a0_b a1_h a2_h h K := by kernel_rfl
  exact fun_sound mixed Try.func9 rfl (e.mpr hF)

def F_best_Best_List (a0_b : Option Addr) (h : Hp) (K : Sl → Hp → Prop) : Prop :=
cnd (Option.isNone a0_b) (
K (Sl.mk none 0 0) h) (
someA a0_b fun (p1 : Addr) =>
ldA .ptr h (Addr.add p1 1) fun (t2 : Option Addr) =>
C_heap_Heap_api_Hit_All t2 h fun (t3 : Sl) (h4 : Hp) =>
C_hits_Sort t3 h4 fun (t5 : Sl) (h6 : Hp) =>
K t5 h6)

theorem F_best_Best_List_ok (a0_b : Option Addr) (h : Hp) (K : Sl → Hp → Prop) (hF : F_best_Best_List a0_b h K) : C_best_Best_List a0_b h K := by
  have e : bodyVC Try.prog Try.f10 (.seq .no (.seq (.seq .no (.cond (.seq .no .no) .no)) (.seq .no .no))) (Option.getD Try.f10.body .skip) [.pointer a0_b] h [.at .sl] (fun s h => K s.1 h) = F_best_Best_List a0_b h K := by kernel_rfl
  exact fun_sound mixed Try.func10 rfl (e.mpr hF)

def F_best_Best_Len (a0_b : Option Addr) (h : Hp) (K : Int → Hp → Prop) : Prop :=
cnd (Option.isNone a0_b) (
K 0 h) (
someA a0_b fun (p1 : Addr) =>
ldA .ptr h (Addr.add p1 1) fun (t2 : Option Addr) =>
C_heap_Heap_api_Hit_Len t2 h fun (t3 : Int) (h4 : Hp) =>
K t3 h4)

theorem F_best_Best_Len_ok (a0_b : Option Addr) (h : Hp) (K : Int → Hp → Prop) (hF : F_best_Best_Len a0_b h K) : C_best_Best_Len a0_b h K := by
  have e : bodyVC Try.prog Try.f11 (.seq .no (.seq (.seq .no (.cond (.seq .no .no) .no)) (.seq .no .no))) (Option.getD Try.f11.body .skip) [.pointer a0_b] h [.at (.int .i64)] (fun s h => K s.1 h) = F_best_Best_Len a0_b h K := by kernel_rfl
  exact fun_sound mixed Try.func11 rfl (e.mpr hF)

def J1_best_Best_Bound (a0_b : Option Addr) (K : Int → Hp → Prop) (sJ1 : Unit) (hJ1 : Hp) : Prop :=
someA a0_b fun (p1 : Addr) =>
ldA .ptr hJ1 (Addr.add p1 1) fun (t2 : Option Addr) =>
C_heap_Heap_api_Hit_Top t2 hJ1 fun (t3 : Int) (t4 : Int) (t5 : Bool) (h6 : Hp) =>
Let (Array.push h6 (Obj.cells #[.int .u64 0, .int .i64 0] 30)) fun (h7 : Hp) =>
Let (Addr.mk (Array.size h6) 0 none) fun (p8 : Addr) =>
stC h7 p8 (
Let (hset h7 p8 (.int .u64 t3)) fun (h9 : Hp) =>
stC h9 (Addr.add p8 1) (
Let (hset h9 (Addr.add p8 1) (.int .i64 t4)) fun (h10 : Hp) =>
cnd (!t5) (
K 1125899906842624 h10) (
C_best_Best_Full a0_b h10 fun (t11 : Bool) (h12 : Hp) =>
cnd (!t11) (
K 1125899906842624 h12) (
ldA (.int .i64) h12 (Addr.add p8 1) fun (t13 : Int) =>
K t13 h12))))
def F_best_Best_Bound (a0_b : Option Addr) (h : Hp) (K : Int → Hp → Prop) : Prop :=
Jn (J1_best_Best_Bound a0_b K) fun (J1 : Unit → Hp → Prop) =>
cnd (Option.isNone a0_b) (
K (-1) h) (
someA a0_b fun (p14 : Addr) =>
ldA (.int .i64) h p14 fun (t15 : Int) =>
cnd (t15 == 0) (
K (-1) h) (
J1 (()) h))

theorem F_best_Best_Bound_ok (a0_b : Option Addr) (h : Hp) (K : Int → Hp → Prop) (hF : F_best_Best_Bound a0_b h K) : C_best_Best_Bound a0_b h K := by
  have e : bodyVC Try.prog Try.f12 (.seq .no (.join [] (.seq .no (.cond (.seq .no .no) .no)) (.seq .no (.seq (.seq .no (.cond (.seq .no .no) .no)) (.seq .no .no))))) (Option.getD Try.f12.body .skip) [.pointer a0_b] h [.at (.int .i64)] (fun s h => K s.1 h) = F_best_Best_Bound a0_b h K := by kernel_rfl
  exact fun_sound mixed Try.func12 rfl (e.mpr hF)

def F_ref12_Bound (a0_l : Sl) (a1_k : Int) (h : Hp) (K : Int → Hp → Prop) : Prop :=
cnd (decide (a1_k < 1)) (
K (-1) h) (
C_ref12_Keep a0_l a1_k h fun (t1 : Sl) (h2 : Hp) =>
cnd (decide ((t1.len : Int) < a1_k)) (
K 1125899906842624 h2) (
Let (IntKind.wrap .i64 (a1_k - 1) : Int) fun (t3 : Int) =>
idxS t1.a t1.len t3 2 fun (p4 : Addr) =>
ldA (.int .i64) h2 (Addr.add p4 1) fun (t5 : Int) =>
K t5 h2))

theorem F_ref12_Bound_ok (a0_l : Sl) (a1_k : Int) (h : Hp) (K : Int → Hp → Prop) (hF : F_ref12_Bound a0_l a1_k h K) : C_ref12_Bound a0_l a1_k h K := by
  have e : bodyVC Try.prog Try.f13 (.seq .no (.seq (.seq .no (.cond (.seq .no .no) .no)) (.seq .no (.seq (.seq .no (.cond (.seq .no .no) .no)) (.seq .no .no))))) (Option.getD Try.f13.body .skip) [.slice a0_l.a a0_l.len a0_l.cap, .int .i64 a1_k] h [.at (.int .i64)] (fun s h => K s.1 h) = F_ref12_Bound a0_l a1_k h K := by kernel_rfl
  exact fun_sound mixed Try.func13 rfl (e.mpr hF)

def F_best_Best_Full (a0_b : Option Addr) (h : Hp) (K : Bool → Hp → Prop) : Prop :=
cnd (Option.isNone a0_b) (
K true h) (
someA a0_b fun (p1 : Addr) =>
ldA .ptr h (Addr.add p1 1) fun (t2 : Option Addr) =>
C_heap_Heap_api_Hit_Len t2 h fun (t3 : Int) (h4 : Hp) =>
Ext h h4 ∧ (
someA a0_b fun (p5 : Addr) =>
ldA (.int .i64) h p5 fun (t6 : Int) =>
K (decide (t3 ≥ t6)) h4))

theorem F_best_Best_Full_ok (a0_b : Option Addr) (h : Hp) (K : Bool → Hp → Prop) (hF : F_best_Best_Full a0_b h K) : C_best_Best_Full a0_b h K := by
  have e : bodyVC Try.prog Try.f14 (.seq .no (.seq .no .no)) (Option.getD Try.f14.body .skip) [.pointer a0_b] h [.at .bool] (fun s h => K s.1 h) = F_best_Best_Full a0_b h K := by kernel_rfl
  exact fun_sound mixed Try.func14 rfl (e.mpr hF)

def F_law12_lives  (h : Hp) (K : Bool → Hp → Prop) : Prop :=
C_best_New 2 h fun (t1 : Option Addr) (h2 : Hp) =>
C_best_Best_Add t1 1 5 h2 fun (t3 : Bool) (h4 : Hp) =>
C_best_Best_Add t1 2 3 h4 fun (t5 : Bool) (h6 : Hp) =>
C_best_Best_Add t1 3 4 h6 fun (t7 : Bool) (h8 : Hp) =>
cnd t7 (
C_best_Best_Add t1 4 4 h8 fun (t9 : Bool) (h10 : Hp) =>
cnd (!t9) (
C_best_Best_Bound t1 h10 fun (t11 : Int) (h12 : Hp) =>
cnd (t11 == 4) (
C_best_Best_Len t1 h12 fun (t13 : Int) (h14 : Hp) =>
K (t13 == 2) h14) (
K false h12)) (
K false h10)) (
K false h8)

theorem F_law12_lives_ok  (h : Hp) (K : Bool → Hp → Prop) (hF : F_law12_lives  h K) : C_law12_lives  h K := by
  have e : bodyVC Try.prog Try.f15 (.seq .no (.seq .no (.seq .no (.seq .no (.seq .no .no))))) (Option.getD Try.f15.body .skip) [] h [.at .bool] (fun s h => K s.1 h) = F_law12_lives  h K := by kernel_rfl
  exact fun_sound mixed Try.func15 rfl (e.mpr hF)

def F_best_New_1 (a0_a : Int) (a1_a : Int) (a2_b : Int) (a3_b : Int) (h : Hp) (K : Int → Hp → Prop) : Prop :=
Let (Array.push h (Obj.cells #[.int .u64 a0_a, .int .i64 a1_a] 30)) fun (h1 : Hp) =>
Let (Addr.mk (Array.size h) 0 none) fun (p2 : Addr) =>
Let (Array.push h1 (Obj.cells #[.int .u64 a2_b, .int .i64 a3_b] 30)) fun (h3 : Hp) =>
Let (Addr.mk (Array.size h1) 0 none) fun (p4 : Addr) =>
ldA (.int .u64) h3 p4 fun (t5 : Int) =>
ldA (.int .i64) h3 (Addr.add p4 1) fun (t6 : Int) =>
ldA (.int .u64) h3 p2 fun (t7 : Int) =>
ldA (.int .i64) h3 (Addr.add p2 1) fun (t8 : Int) =>
C_hits_Cmp t5 t6 t7 t8 h3 fun (t9 : Int) (h10 : Hp) =>
K t9 h10

theorem F_best_New_1_ok (a0_a : Int) (a1_a : Int) (a2_b : Int) (a3_b : Int) (h : Hp) (K : Int → Hp → Prop) (hF : F_best_New_1 a0_a a1_a a2_b a3_b h K) : C_best_New_1 a0_a a1_a a2_b a3_b h K := by
  have e : bodyVC Try.prog Try.f16 (.seq .no (.seq .no .no)) (Option.getD Try.f16.body .skip) [.agg #[.int .u64 a0_a, .int .i64 a1_a], .agg #[.int .u64 a2_b, .int .i64 a3_b]] h [.at (.int .i64)] (fun s h => K s.1 h) = F_best_New_1 a0_a a1_a a2_b a3_b h K := by kernel_rfl
  exact fun_sound mixed Try.func16 rfl (e.mpr hF)

def F_hits_Cmp (a0_a : Int) (a1_a : Int) (a2_b : Int) (a3_b : Int) (h : Hp) (K : Int → Hp → Prop) : Prop :=
Let (Array.push h (Obj.cells #[.int .u64 a0_a, .int .i64 a1_a] 30)) fun (h1 : Hp) =>
Let (Addr.mk (Array.size h) 0 none) fun (p2 : Addr) =>
Let (Array.push h1 (Obj.cells #[.int .u64 a2_b, .int .i64 a3_b] 30)) fun (h3 : Hp) =>
Let (Addr.mk (Array.size h1) 0 none) fun (p4 : Addr) =>
ldA (.int .i64) h3 (Addr.add p2 1) fun (t5 : Int) =>
ldA (.int .i64) h3 (Addr.add p4 1) fun (t6 : Int) =>
C_cmp_Compare_int t5 t6 h3 fun (t7 : Int) (h8 : Hp) =>
Ext h3 h8 ∧ (
ldA (.int .u64) h3 p2 fun (t9 : Int) =>
ldA (.int .u64) h3 p4 fun (t10 : Int) =>
C_cmp_Compare_uint64 t9 t10 h8 fun (t11 : Int) (h12 : Hp) =>
Let (Array.push h12 (Obj.cells #[.int .i64 t7, .int .i64 t11] 3)) fun (h13 : Hp) =>
Let (Addr.mk (Array.size h12) 0 none) fun (p14 : Addr) =>
C_cmp_Or_int (Sl.mk (some p14) 2 2) h13 fun (t15 : Int) (h16 : Hp) =>
K t15 h16)

theorem F_hits_Cmp_ok (a0_a : Int) (a1_a : Int) (a2_b : Int) (a3_b : Int) (h : Hp) (K : Int → Hp → Prop) (hF : F_hits_Cmp a0_a a1_a a2_b a3_b h K) : C_hits_Cmp a0_a a1_a a2_b a3_b h K := by
  have e : bodyVC Try.prog Try.f17 (.seq .no (.seq .no .no)) (Option.getD Try.f17.body .skip) [.agg #[.int .u64 a0_a, .int .i64 a1_a], .agg #[.int .u64 a2_b, .int .i64 a3_b]] h [.at (.int .i64)] (fun s h => K s.1 h) = F_hits_Cmp a0_a a1_a a2_b a3_b h K := by kernel_rfl
  exact fun_sound mixed Try.func17 rfl (e.mpr hF)

def F_heap_New_api_Hit (a0_order : Value) (h : Hp) (K : Option Addr → Hp → Prop) : Prop :=
oneA a0_order fun (v1 : Value) =>
Let (Array.push h (Obj.cells #[v1, .slice none 0 0] 50)) fun (h2 : Hp) =>
Let (Addr.mk (Array.size h) 0 none) fun (p3 : Addr) =>
K (some p3) h2

theorem F_heap_New_api_Hit_ok (a0_order : Value) (h : Hp) (K : Option Addr → Hp → Prop) (hF : F_heap_New_api_Hit a0_order h K) : C_heap_New_api_Hit a0_order h K := by
  have e : bodyVC Try.prog Try.f18 (.seq .no (.seq .no .no)) (Option.getD Try.f18.body .skip) [a0_order] h [.at .ptr] (fun s h => K s.1 h) = F_heap_New_api_Hit a0_order h K := by kernel_rfl
  exact fun_sound mixed Try.func18 rfl (e.mpr hF)

def J1_ref11_First (a0_l : Sl) (sL1 : (Sl × Int × Unit) × Hp) (R1 : (Sl × Int × Unit) × Hp → Prop) (sJ1 : Unit) (hJ1 : Hp) : Prop :=
idxS a0_l.a a0_l.len sL1.1.2.1 2 fun (p1 : Addr) =>
ldA (.int .u64) hJ1 p1 fun (t2 : Int) =>
ldA (.int .i64) hJ1 (Addr.add p1 1) fun (t3 : Int) =>
Let (Array.push hJ1 (Obj.cells #[.int .u64 t2, .int .i64 t3] 30)) fun (h4 : Hp) =>
Let (Addr.mk (Array.size hJ1) 0 none) fun (p5 : Addr) =>
appS 30 2 16 [.int .u64 0, .int .i64 0] sL1.1.1.a sL1.1.1.len sL1.1.1.cap (.slice (some p5) 1 1) h4 fun (t6 : Sl) (h7 : Hp) =>
Let (IntKind.wrap .i64 (sL1.1.2.1 + 1) : Int) fun (t8 : Int) =>
R1 ((t6, t8, ()), h7)
def L1_ref11_First (a0_l : Sl) (a1_k : Int) (K : Sl → Hp → Prop) (sL1 : (Sl × Int × Unit) × Hp) (R1 : (Sl × Int × Unit) × Hp → Prop) : Prop :=
Jn (J1_ref11_First a0_l sL1 R1) fun (J1 : Unit → Hp → Prop) =>
cnd (decide (sL1.1.2.1 < (a0_l.len : Int))) (
cnd (decide (sL1.1.2.1 < a1_k)) (
J1 (()) sL1.2) (
K (Sl.mk sL1.1.1.a sL1.1.1.len sL1.1.1.cap) sL1.2)) (
K (Sl.mk sL1.1.1.a sL1.1.1.len sL1.1.1.cap) sL1.2)
def F_ref11_First (a0_l : Sl) (a1_k : Int) (h : Hp) (K : Sl → Hp → Prop) : Prop :=
∃ n, Lp (L1_ref11_First a0_l a1_k K) n (((Sl.mk none 0 0), 0, ()), h)

theorem F_ref11_First_ok (a0_l : Sl) (a1_k : Int) (h : Hp) (K : Sl → Hp → Prop) (hF : F_ref11_First a0_l a1_k h K) : C_ref11_First a0_l a1_k h K := by
  have e : bodyVC Try.prog Try.f19 (.seq .no (.seq .no (.seq (.seq .no (.block (.loop [(5, .at .sl), (6, .at (.int .i64))] (.join [] (.seq .no (.cond .no .no)) (.seq (.block .no) .no))))) (.seq .no .no)))) (Option.getD Try.f19.body .skip) [.slice a0_l.a a0_l.len a0_l.cap, .int .i64 a1_k] h [.at .sl] (fun s h => K s.1 h) = F_ref11_First a0_l a1_k h K := by kernel_rfl
  exact fun_sound mixed Try.func19 rfl (e.mpr hF)

def L1_ref11_Sort (a0_l : Sl) (K : Sl → Hp → Prop) (sL1 : (Sl × Int × Unit) × Hp) (R1 : (Sl × Int × Unit) × Hp → Prop) : Prop :=
cnd (decide (sL1.1.2.1 < (a0_l.len : Int))) (
idxS a0_l.a a0_l.len sL1.1.2.1 2 fun (p1 : Addr) =>
ldA (.int .u64) sL1.2 p1 fun (t2 : Int) =>
ldA (.int .i64) sL1.2 (Addr.add p1 1) fun (t3 : Int) =>
C_ref11_Put (Sl.mk sL1.1.1.a sL1.1.1.len sL1.1.1.cap) t2 t3 sL1.2 fun (t4 : Sl) (h5 : Hp) =>
Let (IntKind.wrap .i64 (sL1.1.2.1 + 1) : Int) fun (t6 : Int) =>
R1 ((t4, t6, ()), h5)) (
K (Sl.mk sL1.1.1.a sL1.1.1.len sL1.1.1.cap) sL1.2)
def F_ref11_Sort (a0_l : Sl) (h : Hp) (K : Sl → Hp → Prop) : Prop :=
∃ n, Lp (L1_ref11_Sort a0_l K) n (((Sl.mk none 0 0), 0, ()), h)

theorem F_ref11_Sort_ok (a0_l : Sl) (h : Hp) (K : Sl → Hp → Prop) (hF : F_ref11_Sort a0_l h K) : C_ref11_Sort a0_l h K := by
  have e : bodyVC Try.prog Try.f20 (.seq .no (.seq .no (.seq (.seq .no (.block (.loop [(3, .at .sl), (4, .at (.int .i64))] (.seq (.seq .no (.cond .no .no)) (.seq (.block .no) .no))))) (.seq .no .no)))) (Option.getD Try.f20.body .skip) [.slice a0_l.a a0_l.len a0_l.cap] h [.at .sl] (fun s h => K s.1 h) = F_ref11_Sort a0_l h K := by kernel_rfl
  exact fun_sound mixed Try.func20 rfl (e.mpr hF)

def J1_heap_Heap_api_Hit_Top (a0_h : Option Addr) (K : Int → Int → Bool → Hp → Prop) (p2 : Addr) (sJ1 : Bool × Unit) (hJ1 : Hp) : Prop :=
cnd sJ1.1 (
Let (Array.push hJ1 (Obj.cells #[.int .u64 0, .int .i64 0] 30)) fun (h3 : Hp) =>
Let (Addr.mk (Array.size hJ1) 0 none) fun (p4 : Addr) =>
ldA (.int .u64) h3 p4 fun (t5 : Int) =>
ldA (.int .i64) h3 (Addr.add p4 1) fun (t6 : Int) =>
stC h3 p2 (
Let (hset h3 p2 (.int .u64 t5)) fun (h7 : Hp) =>
stC h7 (Addr.add p2 1) (
Let (hset h7 (Addr.add p2 1) (.int .i64 t6)) fun (h8 : Hp) =>
ldA (.int .u64) h8 p2 fun (r9 : Int) =>
ldA (.int .i64) h8 (Addr.add p2 1) fun (r10 : Int) =>
K r9 r10 false h8))) (
someA a0_h fun (p11 : Addr) =>
ldA .sl hJ1 (Addr.add p11 1) fun (t12 : Sl) =>
idxS t12.a t12.len 0 2 fun (p13 : Addr) =>
ldA (.int .u64) hJ1 p13 fun (t14 : Int) =>
ldA (.int .i64) hJ1 (Addr.add p13 1) fun (t15 : Int) =>
stC hJ1 p2 (
Let (hset hJ1 p2 (.int .u64 t14)) fun (h16 : Hp) =>
stC h16 (Addr.add p2 1) (
Let (hset h16 (Addr.add p2 1) (.int .i64 t15)) fun (h17 : Hp) =>
ldA (.int .u64) h17 p2 fun (r18 : Int) =>
ldA (.int .i64) h17 (Addr.add p2 1) fun (r19 : Int) =>
K r18 r19 true h17)))
def F_heap_Heap_api_Hit_Top (a0_h : Option Addr) (h : Hp) (K : Int → Int → Bool → Hp → Prop) : Prop :=
Let (Array.push h (Obj.cells #[.int .u64 0, .int .i64 0] 30)) fun (h1 : Hp) =>
Let (Addr.mk (Array.size h) 0 none) fun (p2 : Addr) =>
Jn (J1_heap_Heap_api_Hit_Top a0_h K p2) fun (J1 : Bool × Unit → Hp → Prop) =>
cnd (Option.isNone a0_h) (
J1 (true, ()) h1) (
someA a0_h fun (p20 : Addr) =>
ldA .sl h1 (Addr.add p20 1) fun (t21 : Sl) =>
J1 (((t21.len : Int) == 0), ()) h1)

theorem F_heap_Heap_api_Hit_Top_ok (a0_h : Option Addr) (h : Hp) (K : Int → Int → Bool → Hp → Prop) (hF : F_heap_Heap_api_Hit_Top a0_h h K) : C_heap_Heap_api_Hit_Top a0_h h K := by
  have e : bodyVC Try.prog Try.f21 (.seq .no (.seq (.join [(14, .at .bool)] .no (.cond (.seq .no (.seq .no .no)) .no)) (.seq .no .no))) (Option.getD Try.f21.body .skip) [.pointer a0_h] h [.agg [(.int .u64), (.int .i64)], .at .bool] (fun s h => K s.1.1 s.1.2.1 s.2.1 h) = F_heap_Heap_api_Hit_Top a0_h h K := by kernel_rfl
  exact fun_sound mixed Try.func21 rfl (e.mpr hF)

def F_heap_Heap_api_Hit_Pop (a0_h : Option Addr) (h : Hp) (K : Int → Int → Bool → Hp → Prop) : Prop :=
Let (Array.push h (Obj.cells #[.int .u64 0, .int .i64 0] 30)) fun (h1 : Hp) =>
Let (Addr.mk (Array.size h) 0 none) fun (p2 : Addr) =>
C_heap_Heap_api_Hit_Top a0_h h1 fun (t3 : Int) (t4 : Int) (t5 : Bool) (h6 : Hp) =>
Let (Array.push h6 (Obj.cells #[.int .u64 0, .int .i64 0] 30)) fun (h7 : Hp) =>
Let (Addr.mk (Array.size h6) 0 none) fun (p8 : Addr) =>
stC h7 p8 (
Let (hset h7 p8 (.int .u64 t3)) fun (h9 : Hp) =>
stC h9 (Addr.add p8 1) (
Let (hset h9 (Addr.add p8 1) (.int .i64 t4)) fun (h10 : Hp) =>
cnd (!t5) (
ldA (.int .u64) h10 p8 fun (t11 : Int) =>
ldA (.int .i64) h10 (Addr.add p8 1) fun (t12 : Int) =>
stC h10 p2 (
Let (hset h10 p2 (.int .u64 t11)) fun (h13 : Hp) =>
stC h13 (Addr.add p2 1) (
Let (hset h13 (Addr.add p2 1) (.int .i64 t12)) fun (h14 : Hp) =>
ldA (.int .u64) h14 p2 fun (r15 : Int) =>
ldA (.int .i64) h14 (Addr.add p2 1) fun (r16 : Int) =>
K r15 r16 false h14))) (
someA a0_h fun (p17 : Addr) =>
ldA .sl h10 (Addr.add p17 1) fun (t18 : Sl) =>
Let (IntKind.wrap .i64 ((t18.len : Int) - 1) : Int) fun (t19 : Int) =>
C_heap_Heap_api_Hit_swap a0_h 0 t19 h10 fun  (h20 : Hp) =>
someA a0_h fun (p21 : Addr) =>
ldA .sl h20 (Addr.add p21 1) fun (t22 : Sl) =>
slcS t22.a t22.len t22.cap none (some t19) 2 fun (t23 : Option Addr) (l24 c25 : Nat) =>
someA a0_h fun (p26 : Addr) =>
((1 : Nat) = 1) ∧ (
stC h20 (Addr.add p26 1) (
Let (hset h20 (Addr.add p26 1) (.slice t23 l24 c25)) fun (h27 : Hp) =>
cnd (decide (t19 > 0)) (
C_heap_Heap_api_Hit_down a0_h 0 h27 fun  (h28 : Hp) =>
ldA (.int .u64) h28 p8 fun (t29 : Int) =>
ldA (.int .i64) h28 (Addr.add p8 1) fun (t30 : Int) =>
stC h28 p2 (
Let (hset h28 p2 (.int .u64 t29)) fun (h31 : Hp) =>
stC h31 (Addr.add p2 1) (
Let (hset h31 (Addr.add p2 1) (.int .i64 t30)) fun (h32 : Hp) =>
ldA (.int .u64) h32 p2 fun (r33 : Int) =>
ldA (.int .i64) h32 (Addr.add p2 1) fun (r34 : Int) =>
K r33 r34 true h32))) (
ldA (.int .u64) h27 p8 fun (t35 : Int) =>
ldA (.int .i64) h27 (Addr.add p8 1) fun (t36 : Int) =>
stC h27 p2 (
Let (hset h27 p2 (.int .u64 t35)) fun (h37 : Hp) =>
stC h37 (Addr.add p2 1) (
Let (hset h37 (Addr.add p2 1) (.int .i64 t36)) fun (h38 : Hp) =>
ldA (.int .u64) h38 p2 fun (r39 : Int) =>
ldA (.int .i64) h38 (Addr.add p2 1) fun (r40 : Int) =>
K r39 r40 true h38))))))))

theorem F_heap_Heap_api_Hit_Pop_ok (a0_h : Option Addr) (h : Hp) (K : Int → Int → Bool → Hp → Prop) (hF : F_heap_Heap_api_Hit_Pop a0_h h K) : C_heap_Heap_api_Hit_Pop a0_h h K := by
  have e : bodyVC Try.prog Try.f22 (.seq .no (.seq .no (.seq (.seq .no (.cond (.seq .no .no) .no)) (.seq .no (.seq .no (.seq .no (.seq (.seq .no (.cond .no .no)) (.seq .no .no)))))))) (Option.getD Try.f22.body .skip) [.pointer a0_h] h [.agg [(.int .u64), (.int .i64)], .at .bool] (fun s h => K s.1.1 s.1.2.1 s.2.1 h) = F_heap_Heap_api_Hit_Pop a0_h h K := by kernel_rfl
  exact fun_sound mixed Try.func22 rfl (e.mpr hF)

def F_heap_Heap_api_Hit_Push (a0_h : Option Addr) (a1_x : Int) (a2_x : Int) (h : Hp) (K : Hp → Prop) : Prop :=
Let (Array.push h (Obj.cells #[.int .u64 a1_x, .int .i64 a2_x] 30)) fun (h1 : Hp) =>
Let (Addr.mk (Array.size h) 0 none) fun (p2 : Addr) =>
cnd (Option.isNone a0_h) (
K h1) (
someA a0_h fun (p3 : Addr) =>
ldA .sl h1 (Addr.add p3 1) fun (t4 : Sl) =>
ldA (.int .u64) h1 p2 fun (t5 : Int) =>
ldA (.int .i64) h1 (Addr.add p2 1) fun (t6 : Int) =>
Let (Array.push h1 (Obj.cells #[.int .u64 t5, .int .i64 t6] 30)) fun (h7 : Hp) =>
Let (Addr.mk (Array.size h1) 0 none) fun (p8 : Addr) =>
Ext h1 h7 ∧ (
appS 30 2 16 [.int .u64 0, .int .i64 0] t4.a t4.len t4.cap (.slice (some p8) 1 1) h7 fun (t9 : Sl) (h10 : Hp) =>
someA a0_h fun (p11 : Addr) =>
((1 : Nat) = 1) ∧ (
stC h10 (Addr.add p11 1) (
Let (hset h10 (Addr.add p11 1) (.slice t9.a t9.len t9.cap)) fun (h12 : Hp) =>
someA a0_h fun (p13 : Addr) =>
ldA .sl h12 (Addr.add p13 1) fun (t14 : Sl) =>
Let (IntKind.wrap .i64 ((t14.len : Int) - 1) : Int) fun (t15 : Int) =>
C_heap_Heap_api_Hit_up a0_h t15 h12 fun  (h16 : Hp) =>
K h16))))

theorem F_heap_Heap_api_Hit_Push_ok (a0_h : Option Addr) (a1_x : Int) (a2_x : Int) (h : Hp) (K : Hp → Prop) (hF : F_heap_Heap_api_Hit_Push a0_h a1_x a2_x h K) : C_heap_Heap_api_Hit_Push a0_h a1_x a2_x h K := by
  have e : bodyVC Try.prog Try.f23 (.seq .no (.seq (.seq .no (.cond .no .no)) (.seq .no .no))) (Option.getD Try.f23.body .skip) [.pointer a0_h, .agg #[.int .u64 a1_x, .int .i64 a2_x]] h [] (fun s h => K h) = F_heap_Heap_api_Hit_Push a0_h a1_x a2_x h K := by kernel_rfl
  exact fun_sound mixed Try.func23 rfl (e.mpr hF)

def F_hits_Sort (a0_l : Sl) (h : Hp) (K : Sl → Hp → Prop) : Prop :=
C_slices_Clone_api_Hit_api_Hit a0_l h fun (t1 : Sl) (h2 : Hp) =>
C_slices_SortFunc_api_Hit_api_Hit t1 (.func (.func 17) #[] #[]) h2 fun  (h3 : Hp) =>
K t1 h3

theorem F_hits_Sort_ok (a0_l : Sl) (h : Hp) (K : Sl → Hp → Prop) (hF : F_hits_Sort a0_l h K) : C_hits_Sort a0_l h K := by
  have e : bodyVC Try.prog Try.f24 (.seq .no (.seq .no (.seq .no (.seq .no .no)))) (Option.getD Try.f24.body .skip) [.slice a0_l.a a0_l.len a0_l.cap] h [.at .sl] (fun s h => K s.1 h) = F_hits_Sort a0_l h K := by kernel_rfl
  exact fun_sound mixed Try.func24 rfl (e.mpr hF)

def F_heap_Heap_api_Hit_All (a0_h : Option Addr) (h : Hp) (K : Sl → Hp → Prop) : Prop :=
cnd (Option.isNone a0_h) (
K (Sl.mk none 0 0) h) (
someA a0_h fun (p1 : Addr) =>
ldA .sl h (Addr.add p1 1) fun (t2 : Sl) =>
C_slices_Clone_api_Hit_api_Hit t2 h fun (t3 : Sl) (h4 : Hp) =>
someA a0_h fun (p5 : Addr) =>
ldA .raw h4 p5 fun (t6 : Value) =>
C_slices_SortFunc_api_Hit_api_Hit t3 t6 h4 fun  (h7 : Hp) =>
K t3 h7)

theorem F_heap_Heap_api_Hit_All_ok (a0_h : Option Addr) (h : Hp) (K : Sl → Hp → Prop) (hF : F_heap_Heap_api_Hit_All a0_h h K) : C_heap_Heap_api_Hit_All a0_h h K := by
  have e : bodyVC Try.prog Try.f25 (.seq .no (.seq (.seq .no (.cond (.seq .no .no) .no)) (.seq .no (.seq .no (.seq .no .no))))) (Option.getD Try.f25.body .skip) [.pointer a0_h] h [.at .sl] (fun s h => K s.1 h) = F_heap_Heap_api_Hit_All a0_h h K := by kernel_rfl
  exact fun_sound mixed Try.func25 rfl (e.mpr hF)

def F_heap_Heap_api_Hit_Len (a0_h : Option Addr) (h : Hp) (K : Int → Hp → Prop) : Prop :=
cnd (Option.isNone a0_h) (
K 0 h) (
someA a0_h fun (p1 : Addr) =>
ldA .sl h (Addr.add p1 1) fun (t2 : Sl) =>
K (t2.len : Int) h)

theorem F_heap_Heap_api_Hit_Len_ok (a0_h : Option Addr) (h : Hp) (K : Int → Hp → Prop) (hF : F_heap_Heap_api_Hit_Len a0_h h K) : C_heap_Heap_api_Hit_Len a0_h h K := by
  have e : bodyVC Try.prog Try.f26 (.seq .no (.seq (.seq .no (.cond (.seq .no .no) .no)) (.seq .no .no))) (Option.getD Try.f26.body .skip) [.pointer a0_h] h [.at (.int .i64)] (fun s h => K s.1 h) = F_heap_Heap_api_Hit_Len a0_h h K := by kernel_rfl
  exact fun_sound mixed Try.func26 rfl (e.mpr hF)

def L1_cmp_Or_int (a0_vals : Sl) (K : Int → Hp → Prop) (sL1 : (Int × Unit) × Hp) (R1 : (Int × Unit) × Hp → Prop) : Prop :=
cnd (decide (sL1.1.1 < (a0_vals.len : Int))) (
idxS a0_vals.a a0_vals.len sL1.1.1 1 fun (p1 : Addr) =>
ldA (.int .i64) sL1.2 p1 fun (t2 : Int) =>
cnd (t2 != 0) (
K t2 sL1.2) (
Let (IntKind.wrap .i64 (sL1.1.1 + 1) : Int) fun (t3 : Int) =>
R1 ((t3, ()), sL1.2))) (
K 0 sL1.2)
def F_cmp_Or_int (a0_vals : Sl) (h : Hp) (K : Int → Hp → Prop) : Prop :=
∃ n, Lp (L1_cmp_Or_int a0_vals K) n ((0, ()), h)

theorem F_cmp_Or_int_ok (a0_vals : Sl) (h : Hp) (K : Int → Hp → Prop) (hF : F_cmp_Or_int a0_vals h K) : C_cmp_Or_int a0_vals h K := by
  have e : bodyVC Try.prog Try.f27 (.seq .no (.seq .no (.seq (.seq .no (.block (.loop [(8, .at (.int .i64))] (.seq .no (.seq (.cond .no .no) (.seq (.block (.seq .no (.seq .no (.cond (.seq .no .no) .no)))) .no)))))) (.seq .no .no)))) (Option.getD Try.f27.body .skip) [.slice a0_vals.a a0_vals.len a0_vals.cap] h [.at (.int .i64)] (fun s h => K s.1 h) = F_cmp_Or_int a0_vals h K := by kernel_rfl
  exact fun_sound mixed Try.func27 rfl (e.mpr hF)

def F_cmp_Compare_int (a0_x : Int) (a1_y : Int) (h : Hp) (K : Int → Hp → Prop) : Prop :=
C_cmp_isNaN_int a0_x h fun (t1 : Bool) (h2 : Hp) =>
C_cmp_isNaN_int a1_y h2 fun (t3 : Bool) (h4 : Hp) =>
cnd t1 (
cnd t3 (
K 0 h4) (
K (-1) h4)) (
cnd t3 (
K 1 h4) (
cnd (decide (a0_x < a1_y)) (
K (-1) h4) (
cnd (decide (a0_x > a1_y)) (
K 1 h4) (
K 0 h4))))

theorem F_cmp_Compare_int_ok (a0_x : Int) (a1_y : Int) (h : Hp) (K : Int → Hp → Prop) (hF : F_cmp_Compare_int a0_x a1_y h K) : C_cmp_Compare_int a0_x a1_y h K := by
  have e : bodyVC Try.prog Try.f28 (.seq .no (.seq .no (.seq .no (.seq (.seq .no (.cond (.seq (.seq .no (.cond (.seq .no .no) .no)) (.seq .no .no)) .no)) (.seq (.seq .no (.cond (.seq .no .no) .no)) (.seq (.seq .no (.cond (.seq .no .no) .no)) (.seq (.seq .no (.cond (.seq .no .no) .no)) (.seq .no .no)))))))) (Option.getD Try.f28.body .skip) [.int .i64 a0_x, .int .i64 a1_y] h [.at (.int .i64)] (fun s h => K s.1 h) = F_cmp_Compare_int a0_x a1_y h K := by kernel_rfl
  exact fun_sound mixed Try.func28 rfl (e.mpr hF)

def F_cmp_Compare_uint64 (a0_x : Int) (a1_y : Int) (h : Hp) (K : Int → Hp → Prop) : Prop :=
C_cmp_isNaN_uint64 a0_x h fun (t1 : Bool) (h2 : Hp) =>
C_cmp_isNaN_uint64 a1_y h2 fun (t3 : Bool) (h4 : Hp) =>
cnd t1 (
cnd t3 (
K 0 h4) (
K (-1) h4)) (
cnd t3 (
K 1 h4) (
cnd (decide (a0_x < a1_y)) (
K (-1) h4) (
cnd (decide (a0_x > a1_y)) (
K 1 h4) (
K 0 h4))))

theorem F_cmp_Compare_uint64_ok (a0_x : Int) (a1_y : Int) (h : Hp) (K : Int → Hp → Prop) (hF : F_cmp_Compare_uint64 a0_x a1_y h K) : C_cmp_Compare_uint64 a0_x a1_y h K := by
  have e : bodyVC Try.prog Try.f29 (.seq .no (.seq .no (.seq .no (.seq (.seq .no (.cond (.seq (.seq .no (.cond (.seq .no .no) .no)) (.seq .no .no)) .no)) (.seq (.seq .no (.cond (.seq .no .no) .no)) (.seq (.seq .no (.cond (.seq .no .no) .no)) (.seq (.seq .no (.cond (.seq .no .no) .no)) (.seq .no .no)))))))) (Option.getD Try.f29.body .skip) [.int .u64 a0_x, .int .u64 a1_y] h [.at (.int .i64)] (fun s h => K s.1 h) = F_cmp_Compare_uint64 a0_x a1_y h K := by kernel_rfl
  exact fun_sound mixed Try.func29 rfl (e.mpr hF)

def J1_ref11_Put (K : Sl → Hp → Prop) (p2 : Addr) (sJ1 : Sl × Bool × Unit) (hJ1 : Hp) : Prop :=
cnd (!sJ1.2.1) (
ldA (.int .u64) hJ1 p2 fun (t3 : Int) =>
ldA (.int .i64) hJ1 (Addr.add p2 1) fun (t4 : Int) =>
Let (Array.push hJ1 (Obj.cells #[.int .u64 t3, .int .i64 t4] 30)) fun (h5 : Hp) =>
Let (Addr.mk (Array.size hJ1) 0 none) fun (p6 : Addr) =>
appS 30 2 16 [.int .u64 0, .int .i64 0] sJ1.1.a sJ1.1.len sJ1.1.cap (.slice (some p6) 1 1) h5 fun (t7 : Sl) (h8 : Hp) =>
K t7 h8) (
K (Sl.mk sJ1.1.a sJ1.1.len sJ1.1.cap) hJ1)
def J2_ref11_Put (a0_l : Sl) (sL1 : (Sl × Bool × Int × Unit) × Hp) (R1 : (Sl × Bool × Int × Unit) × Hp → Prop) (sJ2 : Sl × Bool × Unit) (hJ2 : Hp) : Prop :=
idxS a0_l.a a0_l.len sL1.1.2.2.1 2 fun (p9 : Addr) =>
ldA (.int .u64) hJ2 p9 fun (t10 : Int) =>
ldA (.int .i64) hJ2 (Addr.add p9 1) fun (t11 : Int) =>
Let (Array.push hJ2 (Obj.cells #[.int .u64 t10, .int .i64 t11] 30)) fun (h12 : Hp) =>
Let (Addr.mk (Array.size hJ2) 0 none) fun (p13 : Addr) =>
appS 30 2 16 [.int .u64 0, .int .i64 0] sJ2.1.a sJ2.1.len sJ2.1.cap (.slice (some p13) 1 1) h12 fun (t14 : Sl) (h15 : Hp) =>
Let (IntKind.wrap .i64 (sL1.1.2.2.1 + 1) : Int) fun (t16 : Int) =>
R1 ((t14, sJ2.2.1, t16, ()), h15)
def J3_ref11_Put (p2 : Addr) (sL1 : (Sl × Bool × Int × Unit) × Hp) (J2 : Sl × Bool × Unit → Hp → Prop) (sJ3 : Bool × Unit) (hJ3 : Hp) : Prop :=
cnd sJ3.1 (
ldA (.int .u64) hJ3 p2 fun (t17 : Int) =>
ldA (.int .i64) hJ3 (Addr.add p2 1) fun (t18 : Int) =>
Let (Array.push hJ3 (Obj.cells #[.int .u64 t17, .int .i64 t18] 30)) fun (h19 : Hp) =>
Let (Addr.mk (Array.size hJ3) 0 none) fun (p20 : Addr) =>
appS 30 2 16 [.int .u64 0, .int .i64 0] sL1.1.1.a sL1.1.1.len sL1.1.1.cap (.slice (some p20) 1 1) h19 fun (t21 : Sl) (h22 : Hp) =>
J2 (t21, true, ()) h22) (
J2 ((Sl.mk sL1.1.1.a sL1.1.1.len sL1.1.1.cap), sL1.1.2.1, ()) hJ3)
def L1_ref11_Put (a0_l : Sl) (p2 : Addr) (J1 : Sl × Bool × Unit → Hp → Prop) (sL1 : (Sl × Bool × Int × Unit) × Hp) (R1 : (Sl × Bool × Int × Unit) × Hp → Prop) : Prop :=
cnd (decide (sL1.1.2.2.1 < (a0_l.len : Int))) (
Jn (J2_ref11_Put a0_l sL1 R1) fun (J2 : Sl × Bool × Unit → Hp → Prop) =>
Jn (J3_ref11_Put p2 sL1 J2) fun (J3 : Bool × Unit → Hp → Prop) =>
cnd (!sL1.1.2.1) (
ldA (.int .u64) sL1.2 p2 fun (t23 : Int) =>
ldA (.int .i64) sL1.2 (Addr.add p2 1) fun (t24 : Int) =>
idxS a0_l.a a0_l.len sL1.1.2.2.1 2 fun (p25 : Addr) =>
ldA (.int .u64) sL1.2 p25 fun (t26 : Int) =>
ldA (.int .i64) sL1.2 (Addr.add p25 1) fun (t27 : Int) =>
C_ref11_Less t23 t24 t26 t27 sL1.2 fun (t28 : Bool) (h29 : Hp) =>
J3 (t28, ()) h29) (
J3 (false, ()) sL1.2)) (
J1 ((Sl.mk sL1.1.1.a sL1.1.1.len sL1.1.1.cap), sL1.1.2.1, ()) sL1.2)
def F_ref11_Put (a0_l : Sl) (a1_h : Int) (a2_h : Int) (h : Hp) (K : Sl → Hp → Prop) : Prop :=
Let (Array.push h (Obj.cells #[.int .u64 a1_h, .int .i64 a2_h] 30)) fun (h1 : Hp) =>
Let (Addr.mk (Array.size h) 0 none) fun (p2 : Addr) =>
Jn (J1_ref11_Put K p2) fun (J1 : Sl × Bool × Unit → Hp → Prop) =>
∃ n, Lp (L1_ref11_Put a0_l p2 J1) n (((Sl.mk none 0 0), false, 0, ()), h1)

theorem F_ref11_Put_ok (a0_l : Sl) (a1_h : Int) (a2_h : Int) (h : Hp) (K : Sl → Hp → Prop) (hF : F_ref11_Put a0_l a1_h a2_h h K) : C_ref11_Put a0_l a1_h a2_h h K := by
  have e : bodyVC Try.prog Try.f30 (.seq .no (.seq .no (.seq .no (.join [(5, .at .sl), (6, .at .bool)] (.seq .no (.block (.loop [(5, .at .sl), (6, .at .bool), (7, .at (.int .i64))] (.seq (.seq .no (.cond .no .no)) (.seq (.block (.join [(5, .at .sl), (6, .at .bool)] (.join [(23, .at .bool)] .no (.cond (.seq .no .no) .no)) .no)) .no))))) (.seq (.seq .no (.cond .no .no)) (.seq .no .no)))))) (Option.getD Try.f30.body .skip) [.slice a0_l.a a0_l.len a0_l.cap, .agg #[.int .u64 a1_h, .int .i64 a2_h]] h [.at .sl] (fun s h => K s.1 h) = F_ref11_Put a0_l a1_h a2_h h K := by kernel_rfl
  exact fun_sound mixed Try.func30 rfl (e.mpr hF)

def F_heap_Heap_api_Hit_swap (a0_h : Option Addr) (a1_i : Int) (a2_k : Int) (h : Hp) (K : Hp → Prop) : Prop :=
someA a0_h fun (p1 : Addr) =>
ldA .sl h (Addr.add p1 1) fun (t2 : Sl) =>
someA a0_h fun (p3 : Addr) =>
ldA .sl h (Addr.add p3 1) fun (t4 : Sl) =>
someA a0_h fun (p5 : Addr) =>
ldA .sl h (Addr.add p5 1) fun (t6 : Sl) =>
idxS t6.a t6.len a2_k 2 fun (p7 : Addr) =>
ldA (.int .u64) h p7 fun (t8 : Int) =>
ldA (.int .i64) h (Addr.add p7 1) fun (t9 : Int) =>
someA a0_h fun (p10 : Addr) =>
ldA .sl h (Addr.add p10 1) fun (t11 : Sl) =>
idxS t11.a t11.len a1_i 2 fun (p12 : Addr) =>
ldA (.int .u64) h p12 fun (t13 : Int) =>
ldA (.int .i64) h (Addr.add p12 1) fun (t14 : Int) =>
idxS t2.a t2.len a1_i 2 fun (p15 : Addr) =>
stC h p15 (
Let (hset h p15 (.int .u64 t8)) fun (h16 : Hp) =>
stC h16 (Addr.add p15 1) (
Let (hset h16 (Addr.add p15 1) (.int .i64 t9)) fun (h17 : Hp) =>
idxS t4.a t4.len a2_k 2 fun (p18 : Addr) =>
stC h17 p18 (
Let (hset h17 p18 (.int .u64 t13)) fun (h19 : Hp) =>
stC h19 (Addr.add p18 1) (
Let (hset h19 (Addr.add p18 1) (.int .i64 t14)) fun (h20 : Hp) =>
K h20))))

theorem F_heap_Heap_api_Hit_swap_ok (a0_h : Option Addr) (a1_i : Int) (a2_k : Int) (h : Hp) (K : Hp → Prop) (hF : F_heap_Heap_api_Hit_swap a0_h a1_i a2_k h K) : C_heap_Heap_api_Hit_swap a0_h a1_i a2_k h K := by
  have e : bodyVC Try.prog Try.f31 .no (Option.getD Try.f31.body .skip) [.pointer a0_h, .int .i64 a1_i, .int .i64 a2_k] h [] (fun s h => K h) = F_heap_Heap_api_Hit_swap a0_h a1_i a2_k h K := by kernel_rfl
  exact fun_sound mixed Try.func31 rfl (e.mpr hF)

def L1_heap_Heap_api_Hit_down (a0_h : Option Addr) (K : Hp → Prop) (sL1 : (Int × Int × Unit) × Hp) (R1 : (Int × Int × Unit) × Hp → Prop) : Prop :=
cnd (sL1.1.2.1 != sL1.1.1) (
C_heap_Heap_api_Hit_swap a0_h sL1.1.1 sL1.1.2.1 sL1.2 fun  (h3 : Hp) =>
C_heap_Heap_api_Hit_first a0_h sL1.1.2.1 h3 fun (t4 : Int) (h5 : Hp) =>
R1 ((sL1.1.2.1, t4, ()), h5)) (
K sL1.2)
def F_heap_Heap_api_Hit_down (a0_h : Option Addr) (a1_i : Int) (h : Hp) (K : Hp → Prop) : Prop :=
C_heap_Heap_api_Hit_first a0_h a1_i h fun (t1 : Int) (h2 : Hp) =>
∃ n, Lp (L1_heap_Heap_api_Hit_down a0_h K) n ((a1_i, t1, ()), h2)

theorem F_heap_Heap_api_Hit_down_ok (a0_h : Option Addr) (a1_i : Int) (h : Hp) (K : Hp → Prop) (hF : F_heap_Heap_api_Hit_down a0_h a1_i h K) : C_heap_Heap_api_Hit_down a0_h a1_i h K := by
  have e : bodyVC Try.prog Try.f32 (.seq .no (.block (.loop [(1, .at (.int .i64)), (4, .at (.int .i64))] (.seq (.seq .no (.cond .no .no)) (.seq (.block (.seq .no .no)) .no))))) (Option.getD Try.f32.body .skip) [.pointer a0_h, .int .i64 a1_i] h [] (fun s h => K h) = F_heap_Heap_api_Hit_down a0_h a1_i h K := by kernel_rfl
  exact fun_sound mixed Try.func32 rfl (e.mpr hF)

def L1_heap_Heap_api_Hit_up (a0_h : Option Addr) (K : Hp → Prop) (sL1 : (Int × Unit) × Hp) (R1 : (Int × Unit) × Hp → Prop) : Prop :=
cnd (decide (sL1.1.1 > 0)) (
Let (IntKind.wrap .i64 (sL1.1.1 - 1) : Int) fun (t1 : Int) =>
(2 ≠ (0 : Int)) ∧ (
Let (IntKind.wrap .i64 (Int.tdiv t1 2) : Int) fun (t2 : Int) =>
someA a0_h fun (p3 : Addr) =>
ldA .raw sL1.2 p3 fun (t4 : Value) =>
someA a0_h fun (p5 : Addr) =>
ldA .sl sL1.2 (Addr.add p5 1) fun (t6 : Sl) =>
idxS t6.a t6.len t2 2 fun (p7 : Addr) =>
ldA (.int .u64) sL1.2 p7 fun (t8 : Int) =>
ldA (.int .i64) sL1.2 (Addr.add p7 1) fun (t9 : Int) =>
someA a0_h fun (p10 : Addr) =>
ldA .sl sL1.2 (Addr.add p10 1) fun (t11 : Sl) =>
idxS t11.a t11.len sL1.1.1 2 fun (p12 : Addr) =>
ldA (.int .u64) sL1.2 p12 fun (t13 : Int) =>
ldA (.int .i64) sL1.2 (Addr.add p12 1) fun (t14 : Int) =>
callV Try.prog t4 [.agg #[.int .u64 t8, .int .i64 t9], .agg #[.int .u64 t13, .int .i64 t14]] [.at (.int .i64)] sL1.2 fun (s : Int × Unit) (h16 : Hp) =>
cnd (decide (s.1 ≤ 0)) (
K h16) (
C_heap_Heap_api_Hit_swap a0_h sL1.1.1 t2 h16 fun  (h17 : Hp) =>
R1 ((t2, ()), h17)))) (
K sL1.2)
def F_heap_Heap_api_Hit_up (a0_h : Option Addr) (a1_i : Int) (h : Hp) (K : Hp → Prop) : Prop :=
∃ n, Lp (L1_heap_Heap_api_Hit_up a0_h K) n ((a1_i, ()), h)

theorem F_heap_Heap_api_Hit_up_ok (a0_h : Option Addr) (a1_i : Int) (h : Hp) (K : Hp → Prop) (hF : F_heap_Heap_api_Hit_up a0_h a1_i h K) : C_heap_Heap_api_Hit_up a0_h a1_i h K := by
  have e : bodyVC Try.prog Try.f33 (.block (.loop [(1, .at (.int .i64))] (.seq (.seq .no (.cond .no .no)) (.block (.seq .no (.seq (.seq .no (.cond .no .no)) (.seq .no .no))))))) (Option.getD Try.f33.body .skip) [.pointer a0_h, .int .i64 a1_i] h [] (fun s h => K h) = F_heap_Heap_api_Hit_up a0_h a1_i h K := by kernel_rfl
  exact fun_sound mixed Try.func33 rfl (e.mpr hF)

def F_slices_Clone_api_Hit_api_Hit (a0_s : Sl) (h : Hp) (K : Sl → Hp → Prop) : Prop :=
cnd (Option.isNone a0_s.a) (
K (Sl.mk none 0 0) h) (
Let (Array.push h (Obj.cells #[] 30)) fun (h1 : Hp) =>
Let (Addr.mk (Array.size h) 0 none) fun (p2 : Addr) =>
appS 30 2 16 [.int .u64 0, .int .i64 0] (some p2) 0 0 (.slice a0_s.a a0_s.len a0_s.cap) h1 fun (t3 : Sl) (h4 : Hp) =>
K t3 h4)

theorem F_slices_Clone_api_Hit_api_Hit_ok (a0_s : Sl) (h : Hp) (K : Sl → Hp → Prop) (hF : F_slices_Clone_api_Hit_api_Hit a0_s h K) : C_slices_Clone_api_Hit_api_Hit a0_s h K := by
  have e : bodyVC Try.prog Try.f34 (.seq .no (.seq (.seq .no (.cond (.seq .no .no) .no)) (.seq .no .no))) (Option.getD Try.f34.body .skip) [.slice a0_s.a a0_s.len a0_s.cap] h [.at .sl] (fun s h => K s.1 h) = F_slices_Clone_api_Hit_api_Hit a0_s h K := by kernel_rfl
  exact fun_sound mixed Try.func34 rfl (e.mpr hF)

def F_slices_SortFunc_api_Hit_api_Hit (a0_x : Sl) (a1_cmp : Value) (h : Hp) (K : Hp → Prop) : Prop :=
Let (IntKind.wrap .u64 ((a0_x.len : Int)) : Int) fun (t1 : Int) =>
C_math_bits_Len t1 h fun (t2 : Int) (h3 : Hp) =>
C_slices_pdqsortCmpFunc_api_Hit a0_x 0 (a0_x.len : Int) t2 a1_cmp h3 fun  (h4 : Hp) =>
K h4

theorem F_slices_SortFunc_api_Hit_api_Hit_ok (a0_x : Sl) (a1_cmp : Value) (h : Hp) (K : Hp → Prop) (hF : F_slices_SortFunc_api_Hit_api_Hit a0_x a1_cmp h K) : C_slices_SortFunc_api_Hit_api_Hit a0_x a1_cmp h K := by
  have e : bodyVC Try.prog Try.f35 (.seq .no .no) (Option.getD Try.f35.body .skip) [.slice a0_x.a a0_x.len a0_x.cap, a1_cmp] h [] (fun s h => K h) = F_slices_SortFunc_api_Hit_api_Hit a0_x a1_cmp h K := by kernel_rfl
  exact fun_sound mixed Try.func35 rfl (e.mpr hF)

def F_cmp_isNaN_int (a0_x : Int) (h : Hp) (K : Bool → Hp → Prop) : Prop :=
K (a0_x != a0_x) h

theorem F_cmp_isNaN_int_ok (a0_x : Int) (h : Hp) (K : Bool → Hp → Prop) (hF : F_cmp_isNaN_int a0_x h K) : C_cmp_isNaN_int a0_x h K := by
  have e : bodyVC Try.prog Try.f36 (.seq .no (.seq .no .no)) (Option.getD Try.f36.body .skip) [.int .i64 a0_x] h [.at .bool] (fun s h => K s.1 h) = F_cmp_isNaN_int a0_x h K := by kernel_rfl
  exact fun_sound mixed Try.func36 rfl (e.mpr hF)

def F_cmp_isNaN_uint64 (a0_x : Int) (h : Hp) (K : Bool → Hp → Prop) : Prop :=
K (a0_x != a0_x) h

theorem F_cmp_isNaN_uint64_ok (a0_x : Int) (h : Hp) (K : Bool → Hp → Prop) (hF : F_cmp_isNaN_uint64 a0_x h K) : C_cmp_isNaN_uint64 a0_x h K := by
  have e : bodyVC Try.prog Try.f37 (.seq .no (.seq .no .no)) (Option.getD Try.f37.body .skip) [.int .u64 a0_x] h [.at .bool] (fun s h => K s.1 h) = F_cmp_isNaN_uint64 a0_x h K := by kernel_rfl
  exact fun_sound mixed Try.func37 rfl (e.mpr hF)

def F_ref11_Less (a0_a : Int) (a1_a : Int) (a2_b : Int) (a3_b : Int) (h : Hp) (K : Bool → Hp → Prop) : Prop :=
Let (Array.push h (Obj.cells #[.int .u64 a0_a, .int .i64 a1_a] 30)) fun (h1 : Hp) =>
Let (Addr.mk (Array.size h) 0 none) fun (p2 : Addr) =>
Let (Array.push h1 (Obj.cells #[.int .u64 a2_b, .int .i64 a3_b] 30)) fun (h3 : Hp) =>
Let (Addr.mk (Array.size h1) 0 none) fun (p4 : Addr) =>
ldA (.int .i64) h3 (Addr.add p2 1) fun (t5 : Int) =>
ldA (.int .i64) h3 (Addr.add p4 1) fun (t6 : Int) =>
cnd (decide (t5 < t6)) (
K true h3) (
ldA (.int .i64) h3 (Addr.add p2 1) fun (t7 : Int) =>
ldA (.int .i64) h3 (Addr.add p4 1) fun (t8 : Int) =>
cnd (t7 == t8) (
ldA (.int .u64) h3 p2 fun (t9 : Int) =>
ldA (.int .u64) h3 p4 fun (t10 : Int) =>
K (decide (t9 < t10)) h3) (
K false h3))

theorem F_ref11_Less_ok (a0_a : Int) (a1_a : Int) (a2_b : Int) (a3_b : Int) (h : Hp) (K : Bool → Hp → Prop) (hF : F_ref11_Less a0_a a1_a a2_b a3_b h K) : C_ref11_Less a0_a a1_a a2_b a3_b h K := by
  have e : bodyVC Try.prog Try.f38 (.seq .no (.seq .no .no)) (Option.getD Try.f38.body .skip) [.agg #[.int .u64 a0_a, .int .i64 a1_a], .agg #[.int .u64 a2_b, .int .i64 a3_b]] h [.at .bool] (fun s h => K s.1 h) = F_ref11_Less a0_a a1_a a2_b a3_b h K := by kernel_rfl
  exact fun_sound mixed Try.func38 rfl (e.mpr hF)

def J1_heap_Heap_api_Hit_first (a0_h : Option Addr) (sL1 : (Int × Int × Unit) × Hp) (R1 : (Int × Int × Unit) × Hp → Prop) (sJ1 : Unit) (hJ1 : Hp) : Prop :=
someA a0_h fun (p3 : Addr) =>
ldA .raw hJ1 p3 fun (t4 : Value) =>
someA a0_h fun (p5 : Addr) =>
ldA .sl hJ1 (Addr.add p5 1) fun (t6 : Sl) =>
idxS t6.a t6.len sL1.1.2.1 2 fun (p7 : Addr) =>
ldA (.int .u64) hJ1 p7 fun (t8 : Int) =>
ldA (.int .i64) hJ1 (Addr.add p7 1) fun (t9 : Int) =>
someA a0_h fun (p10 : Addr) =>
ldA .sl hJ1 (Addr.add p10 1) fun (t11 : Sl) =>
idxS t11.a t11.len sL1.1.1 2 fun (p12 : Addr) =>
ldA (.int .u64) hJ1 p12 fun (t13 : Int) =>
ldA (.int .i64) hJ1 (Addr.add p12 1) fun (t14 : Int) =>
callV Try.prog t4 [.agg #[.int .u64 t8, .int .i64 t9], .agg #[.int .u64 t13, .int .i64 t14]] [.at (.int .i64)] hJ1 fun (s : Int × Unit) (h16 : Hp) =>
cnd (decide (s.1 < 0)) (
Let (IntKind.wrap .i64 (sL1.1.2.1 + 1) : Int) fun (t17 : Int) =>
R1 ((sL1.1.2.1, t17, ()), h16)) (
Let (IntKind.wrap .i64 (sL1.1.2.1 + 1) : Int) fun (t18 : Int) =>
R1 ((sL1.1.1, t18, ()), h16))
def L1_heap_Heap_api_Hit_first (a0_h : Option Addr) (a1_i : Int) (K : Int → Hp → Prop) (sL1 : (Int × Int × Unit) × Hp) (R1 : (Int × Int × Unit) × Hp → Prop) : Prop :=
Jn (J1_heap_Heap_api_Hit_first a0_h sL1 R1) fun (J1 : Unit → Hp → Prop) =>
Let (IntKind.wrap .i64 ((2 : Int) * a1_i) : Int) fun (t19 : Int) =>
Let (IntKind.wrap .i64 (t19 + 2) : Int) fun (t20 : Int) =>
cnd (decide (sL1.1.2.1 ≤ t20)) (
someA a0_h fun (p21 : Addr) =>
ldA .sl sL1.2 (Addr.add p21 1) fun (t22 : Sl) =>
cnd (decide (sL1.1.2.1 < (t22.len : Int))) (
J1 (()) sL1.2) (
K sL1.1.1 sL1.2)) (
K sL1.1.1 sL1.2)
def F_heap_Heap_api_Hit_first (a0_h : Option Addr) (a1_i : Int) (h : Hp) (K : Int → Hp → Prop) : Prop :=
Let (IntKind.wrap .i64 ((2 : Int) * a1_i) : Int) fun (t1 : Int) =>
Let (IntKind.wrap .i64 (t1 + 1) : Int) fun (t2 : Int) =>
∃ n, Lp (L1_heap_Heap_api_Hit_first a0_h a1_i K) n ((a1_i, t2, ()), h)

theorem F_heap_Heap_api_Hit_first_ok (a0_h : Option Addr) (a1_i : Int) (h : Hp) (K : Int → Hp → Prop) (hF : F_heap_Heap_api_Hit_first a0_h a1_i h K) : C_heap_Heap_api_Hit_first a0_h a1_i h K := by
  have e : bodyVC Try.prog Try.f39 (.seq .no (.seq .no (.seq (.seq .no (.block (.loop [(5, .at (.int .i64)), (6, .at (.int .i64))] (.join [] (.seq .no (.cond .no .no)) (.seq (.block (.seq .no (.cond .no .no))) .no))))) (.seq .no .no)))) (Option.getD Try.f39.body .skip) [.pointer a0_h, .int .i64 a1_i] h [.at (.int .i64)] (fun s h => K s.1 h) = F_heap_Heap_api_Hit_first a0_h a1_i h K := by kernel_rfl
  exact fun_sound mixed Try.func39 rfl (e.mpr hF)

def J4_slices_pdqsortCmpFunc_api_Hit (a0_data : Sl) (a4_cmp : Value) (sL1 : (Int × Int × Int × Bool × Bool × Unit) × Hp) (R1 : (Int × Int × Int × Bool × Bool × Unit) × Hp → Prop) (t1 : Int) (sJ1 : Int × Unit) (sJ2 : Int × Int × Unit) (sJ4 : Bool × Unit) (hJ4 : Hp) : Prop :=
cnd sJ4.1 (
C_slices_partitionEqualCmpFunc_api_Hit a0_data sL1.1.1 sL1.1.2.1 sJ2.1 a4_cmp hJ4 fun (t7 : Int) (h8 : Hp) =>
R1 ((t7, sL1.1.2.1, sJ1.1, sL1.1.2.2.2.1, sL1.1.2.2.2.2.1, ()), h8)) (
C_slices_partitionCmpFunc_api_Hit a0_data sL1.1.1 sL1.1.2.1 sJ2.1 a4_cmp hJ4 fun (t9 : Int) (t10 : Bool) (h11 : Hp) =>
Let (IntKind.wrap .i64 (t9 - sL1.1.1) : Int) fun (t12 : Int) =>
Let (IntKind.wrap .i64 (sL1.1.2.1 - t9) : Int) fun (t13 : Int) =>
(8 ≠ (0 : Int)) ∧ (
Let (IntKind.wrap .i64 (Int.tdiv t1 8) : Int) fun (t14 : Int) =>
cnd (decide (t12 < t13)) (
C_slices_pdqsortCmpFunc_api_Hit a0_data sL1.1.1 t9 sJ1.1 a4_cmp h11 fun  (h15 : Hp) =>
Let (IntKind.wrap .i64 (t9 + 1) : Int) fun (t16 : Int) =>
R1 ((t16, sL1.1.2.1, sJ1.1, decide (t12 ≥ t14), t10, ()), h15)) (
Let (IntKind.wrap .i64 (t9 + 1) : Int) fun (t17 : Int) =>
C_slices_pdqsortCmpFunc_api_Hit a0_data t17 sL1.1.2.1 sJ1.1 a4_cmp h11 fun  (h18 : Hp) =>
R1 ((sL1.1.1, t9, sJ1.1, decide (t13 ≥ t14), t10, ()), h18))))
def J3_slices_pdqsortCmpFunc_api_Hit (a0_data : Sl) (a4_cmp : Value) (sL1 : (Int × Int × Int × Bool × Bool × Unit) × Hp) (R1 : (Int × Int × Int × Bool × Bool × Unit) × Hp → Prop) (t1 : Int) (sJ1 : Int × Unit) (sJ2 : Int × Int × Unit) (sJ3 : Unit) (hJ3 : Hp) : Prop :=
Jn (J4_slices_pdqsortCmpFunc_api_Hit a0_data a4_cmp sL1 R1 t1 sJ1 sJ2) fun (J4 : Bool × Unit → Hp → Prop) =>
cnd (decide (sL1.1.1 > 0)) (
Let (IntKind.wrap .i64 (sL1.1.1 - 1) : Int) fun (t19 : Int) =>
idxS a0_data.a a0_data.len t19 2 fun (p20 : Addr) =>
ldA (.int .u64) hJ3 p20 fun (t21 : Int) =>
ldA (.int .i64) hJ3 (Addr.add p20 1) fun (t22 : Int) =>
idxS a0_data.a a0_data.len sJ2.1 2 fun (p23 : Addr) =>
ldA (.int .u64) hJ3 p23 fun (t24 : Int) =>
ldA (.int .i64) hJ3 (Addr.add p23 1) fun (t25 : Int) =>
callV Try.prog a4_cmp [.agg #[.int .u64 t21, .int .i64 t22], .agg #[.int .u64 t24, .int .i64 t25]] [.at (.int .i64)] hJ3 fun (s : Int × Unit) (h27 : Hp) =>
J4 (!(decide (s.1 < 0)), ()) h27) (
J4 (false, ()) hJ3)
def J5_slices_pdqsortCmpFunc_api_Hit (a0_data : Sl) (a4_cmp : Value) (K : Hp → Prop) (sL1 : (Int × Int × Int × Bool × Bool × Unit) × Hp) (J3 : Unit → Hp → Prop) (sJ5 : Bool × Unit) (hJ5 : Hp) : Prop :=
cnd sJ5.1 (
C_slices_partialInsertionSortCmpFunc_api_Hit a0_data sL1.1.1 sL1.1.2.1 a4_cmp hJ5 fun (t28 : Bool) (h29 : Hp) =>
cnd t28 (
K h29) (
J3 (()) h29)) (
J3 (()) hJ5)
def J2_slices_pdqsortCmpFunc_api_Hit (a0_data : Sl) (a4_cmp : Value) (K : Hp → Prop) (sL1 : (Int × Int × Int × Bool × Bool × Unit) × Hp) (R1 : (Int × Int × Int × Bool × Bool × Unit) × Hp → Prop) (t1 : Int) (sJ1 : Int × Unit) (sJ2 : Int × Int × Unit) (hJ2 : Hp) : Prop :=
Jn (J3_slices_pdqsortCmpFunc_api_Hit a0_data a4_cmp sL1 R1 t1 sJ1 sJ2) fun (J3 : Unit → Hp → Prop) =>
Jn (J5_slices_pdqsortCmpFunc_api_Hit a0_data a4_cmp K sL1 J3) fun (J5 : Bool × Unit → Hp → Prop) =>
cnd sL1.1.2.2.2.1 (
cnd sL1.1.2.2.2.2.1 (
J5 ((sJ2.2.1 == 1), ()) hJ2) (
J5 (false, ()) hJ2)) (
J5 (false, ()) hJ2)
def J1_slices_pdqsortCmpFunc_api_Hit (a0_data : Sl) (a4_cmp : Value) (K : Hp → Prop) (sL1 : (Int × Int × Int × Bool × Bool × Unit) × Hp) (R1 : (Int × Int × Int × Bool × Bool × Unit) × Hp → Prop) (t1 : Int) (sJ1 : Int × Unit) (hJ1 : Hp) : Prop :=
C_slices_choosePivotCmpFunc_api_Hit a0_data sL1.1.1 sL1.1.2.1 a4_cmp hJ1 fun (t4 : Int) (t5 : Int) (h6 : Hp) =>
Jn (J2_slices_pdqsortCmpFunc_api_Hit a0_data a4_cmp K sL1 R1 t1 sJ1) fun (J2 : Int × Int × Unit → Hp → Prop) =>
cnd (t5 == 2) (
C_slices_reverseRangeCmpFunc_api_Hit a0_data sL1.1.1 sL1.1.2.1 a4_cmp h6 fun  (h30 : Hp) =>
Let (IntKind.wrap .i64 (sL1.1.2.1 - 1) : Int) fun (t31 : Int) =>
Let (IntKind.wrap .i64 (t4 - sL1.1.1) : Int) fun (t32 : Int) =>
Let (IntKind.wrap .i64 (t31 - t32) : Int) fun (t33 : Int) =>
J2 (t33, 1, ()) h30) (
J2 (t4, t5, ()) h6)
def L1_slices_pdqsortCmpFunc_api_Hit (a0_data : Sl) (a4_cmp : Value) (K : Hp → Prop) (sL1 : (Int × Int × Int × Bool × Bool × Unit) × Hp) (R1 : (Int × Int × Int × Bool × Bool × Unit) × Hp → Prop) : Prop :=
Let (IntKind.wrap .i64 (sL1.1.2.1 - sL1.1.1) : Int) fun (t1 : Int) =>
cnd (decide (t1 ≤ 12)) (
C_slices_insertionSortCmpFunc_api_Hit a0_data sL1.1.1 sL1.1.2.1 a4_cmp sL1.2 fun  (h2 : Hp) =>
K h2) (
cnd (sL1.1.2.2.1 == 0) (
C_slices_heapSortCmpFunc_api_Hit a0_data sL1.1.1 sL1.1.2.1 a4_cmp sL1.2 fun  (h3 : Hp) =>
K h3) (
Jn (J1_slices_pdqsortCmpFunc_api_Hit a0_data a4_cmp K sL1 R1 t1) fun (J1 : Int × Unit → Hp → Prop) =>
cnd (!sL1.1.2.2.2.1) (
C_slices_breakPatternsCmpFunc_api_Hit a0_data sL1.1.1 sL1.1.2.1 a4_cmp sL1.2 fun  (h34 : Hp) =>
Let (IntKind.wrap .i64 (sL1.1.2.2.1 - 1) : Int) fun (t35 : Int) =>
J1 (t35, ()) h34) (
J1 (sL1.1.2.2.1, ()) sL1.2)))
def F_slices_pdqsortCmpFunc_api_Hit (a0_data : Sl) (a1_a : Int) (a2_b : Int) (a3_limit : Int) (a4_cmp : Value) (h : Hp) (K : Hp → Prop) : Prop :=
∃ n, Lp (L1_slices_pdqsortCmpFunc_api_Hit a0_data a4_cmp K) n ((a1_a, a2_b, a3_limit, true, true, ()), h)

theorem F_slices_pdqsortCmpFunc_api_Hit_ok (a0_data : Sl) (a1_a : Int) (a2_b : Int) (a3_limit : Int) (a4_cmp : Value) (h : Hp) (K : Hp → Prop) (hF : F_slices_pdqsortCmpFunc_api_Hit a0_data a1_a a2_b a3_limit a4_cmp h K) : C_slices_pdqsortCmpFunc_api_Hit a0_data a1_a a2_b a3_limit a4_cmp h K := by
  have e : bodyVC Try.prog Try.f40 (.seq .no (.seq .no (.block (.loop [(1, .at (.int .i64)), (2, .at (.int .i64)), (3, .at (.int .i64)), (10, .at .bool), (11, .at .bool)] (.block (.seq .no (.seq (.seq .no (.cond (.seq .no .no) .no)) (.seq (.seq .no (.cond (.seq .no .no) .no)) (.join [(3, .at (.int .i64))] (.seq .no (.cond (.seq .no .no) .no)) (.seq .no (.join [(13, .at (.int .i64)), (14, .at (.int .i64))] (.seq .no (.cond (.seq .no (.seq .no .no)) .no)) (.join [] (.join [(75, .at .bool)] .no (.cond (.seq .no (.cond .no .no)) .no)) (.seq (.join [(97, .at .bool)] .no (.cond (.seq .no (.seq .no .no)) .no)) (.seq .no (.seq .no (.seq .no (.seq .no (.seq .no (.cond (.seq .no (.seq .no .no)) (.seq .no (.seq .no .no))))))))))))))))))))) (Option.getD Try.f40.body .skip) [.slice a0_data.a a0_data.len a0_data.cap, .int .i64 a1_a, .int .i64 a2_b, .int .i64 a3_limit, a4_cmp] h [] (fun s h => K h) = F_slices_pdqsortCmpFunc_api_Hit a0_data a1_a a2_b a3_limit a4_cmp h K := by kernel_rfl
  exact fun_sound mixed Try.func40 rfl (e.mpr hF)

def F_math_bits_Len (a0_x : Int) (h : Hp) (K : Int → Hp → Prop) : Prop :=
C_math_bits_Len64 a0_x h fun (t1 : Int) (h2 : Hp) =>
K t1 h2

theorem F_math_bits_Len_ok (a0_x : Int) (h : Hp) (K : Int → Hp → Prop) (hF : F_math_bits_Len a0_x h K) : C_math_bits_Len a0_x h K := by
  have e : bodyVC Try.prog Try.f41 (.seq .no (.seq (.cond (.seq .no .no) .no) (.seq .no .no))) (Option.getD Try.f41.body .skip) [.int .u64 a0_x] h [.at (.int .i64)] (fun s h => K s.1 h) = F_math_bits_Len a0_x h K := by kernel_rfl
  exact fun_sound mixed Try.func41 rfl (e.mpr hF)

def J1_slices_insertionSortCmpFunc_api_Hit (a0_data : Sl) (sL2 : (Int × Unit) × Hp) (R2 : (Int × Unit) × Hp → Prop) (sJ1 : Unit) (hJ1 : Hp) : Prop :=
Let (IntKind.wrap .i64 (sL2.1.1 - 1) : Int) fun (t2 : Int) =>
Let (IntKind.wrap .i64 (sL2.1.1 - 1) : Int) fun (t3 : Int) =>
idxS a0_data.a a0_data.len t3 2 fun (p4 : Addr) =>
ldA (.int .u64) hJ1 p4 fun (t5 : Int) =>
ldA (.int .i64) hJ1 (Addr.add p4 1) fun (t6 : Int) =>
idxS a0_data.a a0_data.len sL2.1.1 2 fun (p7 : Addr) =>
ldA (.int .u64) hJ1 p7 fun (t8 : Int) =>
ldA (.int .i64) hJ1 (Addr.add p7 1) fun (t9 : Int) =>
idxS a0_data.a a0_data.len sL2.1.1 2 fun (p10 : Addr) =>
stC hJ1 p10 (
Let (hset hJ1 p10 (.int .u64 t5)) fun (h11 : Hp) =>
stC h11 (Addr.add p10 1) (
Let (hset h11 (Addr.add p10 1) (.int .i64 t6)) fun (h12 : Hp) =>
idxS a0_data.a a0_data.len t2 2 fun (p13 : Addr) =>
stC h12 p13 (
Let (hset h12 p13 (.int .u64 t8)) fun (h14 : Hp) =>
stC h14 (Addr.add p13 1) (
Let (hset h14 (Addr.add p13 1) (.int .i64 t9)) fun (h15 : Hp) =>
Let (IntKind.wrap .i64 (sL2.1.1 - 1) : Int) fun (t16 : Int) =>
R2 ((t16, ()), h15)))))
def L2_slices_insertionSortCmpFunc_api_Hit (a0_data : Sl) (a1_a : Int) (a3_cmp : Value) (sL1 : (Int × Unit) × Hp) (R1 : (Int × Unit) × Hp → Prop) (sL2 : (Int × Unit) × Hp) (R2 : (Int × Unit) × Hp → Prop) : Prop :=
Jn (J1_slices_insertionSortCmpFunc_api_Hit a0_data sL2 R2) fun (J1 : Unit → Hp → Prop) =>
cnd (decide (sL2.1.1 > a1_a)) (
idxS a0_data.a a0_data.len sL2.1.1 2 fun (p17 : Addr) =>
ldA (.int .u64) sL2.2 p17 fun (t18 : Int) =>
ldA (.int .i64) sL2.2 (Addr.add p17 1) fun (t19 : Int) =>
Let (IntKind.wrap .i64 (sL2.1.1 - 1) : Int) fun (t20 : Int) =>
idxS a0_data.a a0_data.len t20 2 fun (p21 : Addr) =>
ldA (.int .u64) sL2.2 p21 fun (t22 : Int) =>
ldA (.int .i64) sL2.2 (Addr.add p21 1) fun (t23 : Int) =>
callV Try.prog a3_cmp [.agg #[.int .u64 t18, .int .i64 t19], .agg #[.int .u64 t22, .int .i64 t23]] [.at (.int .i64)] sL2.2 fun (s : Int × Unit) (h25 : Hp) =>
cnd (decide (s.1 < 0)) (
J1 (()) h25) (
Let (IntKind.wrap .i64 (sL1.1.1 + 1) : Int) fun (t26 : Int) =>
R1 ((t26, ()), h25))) (
Let (IntKind.wrap .i64 (sL1.1.1 + 1) : Int) fun (t27 : Int) =>
R1 ((t27, ()), sL2.2))
def L1_slices_insertionSortCmpFunc_api_Hit (a0_data : Sl) (a1_a : Int) (a2_b : Int) (a3_cmp : Value) (K : Hp → Prop) (sL1 : (Int × Unit) × Hp) (R1 : (Int × Unit) × Hp → Prop) : Prop :=
cnd (decide (sL1.1.1 < a2_b)) (
∃ n, Lp (L2_slices_insertionSortCmpFunc_api_Hit a0_data a1_a a3_cmp sL1 R1) n ((sL1.1.1, ()), sL1.2)) (
K sL1.2)
def F_slices_insertionSortCmpFunc_api_Hit (a0_data : Sl) (a1_a : Int) (a2_b : Int) (a3_cmp : Value) (h : Hp) (K : Hp → Prop) : Prop :=
Let (IntKind.wrap .i64 (a1_a + 1) : Int) fun (t1 : Int) =>
∃ n, Lp (L1_slices_insertionSortCmpFunc_api_Hit a0_data a1_a a2_b a3_cmp K) n ((t1, ()), h)

theorem F_slices_insertionSortCmpFunc_api_Hit_ok (a0_data : Sl) (a1_a : Int) (a2_b : Int) (a3_cmp : Value) (h : Hp) (K : Hp → Prop) (hF : F_slices_insertionSortCmpFunc_api_Hit a0_data a1_a a2_b a3_cmp h K) : C_slices_insertionSortCmpFunc_api_Hit a0_data a1_a a2_b a3_cmp h K := by
  have e : bodyVC Try.prog Try.f42 (.seq .no (.block (.loop [(8, .at (.int .i64))] (.seq (.seq .no (.cond .no .no)) (.seq (.block (.seq .no (.block (.loop [(9, .at (.int .i64))] (.join [] (.seq .no (.cond .no .no)) (.seq (.block .no) .no)))))) .no))))) (Option.getD Try.f42.body .skip) [.slice a0_data.a a0_data.len a0_data.cap, .int .i64 a1_a, .int .i64 a2_b, a3_cmp] h [] (fun s h => K h) = F_slices_insertionSortCmpFunc_api_Hit a0_data a1_a a2_b a3_cmp h K := by kernel_rfl
  exact fun_sound mixed Try.func42 rfl (e.mpr hF)

def L1_slices_heapSortCmpFunc_api_Hit (a0_data : Sl) (a1_a : Int) (a3_cmp : Value) (K : Hp → Prop) (sL1 : (Int × Unit) × Hp) (R1 : (Int × Unit) × Hp → Prop) : Prop :=
cnd (decide (sL1.1.1 ≥ 0)) (
Let (IntKind.wrap .i64 (a1_a + sL1.1.1) : Int) fun (t3 : Int) =>
Let (IntKind.wrap .i64 (a1_a + sL1.1.1) : Int) fun (t4 : Int) =>
idxS a0_data.a a0_data.len t4 2 fun (p5 : Addr) =>
ldA (.int .u64) sL1.2 p5 fun (t6 : Int) =>
ldA (.int .i64) sL1.2 (Addr.add p5 1) fun (t7 : Int) =>
idxS a0_data.a a0_data.len a1_a 2 fun (p8 : Addr) =>
ldA (.int .u64) sL1.2 p8 fun (t9 : Int) =>
ldA (.int .i64) sL1.2 (Addr.add p8 1) fun (t10 : Int) =>
idxS a0_data.a a0_data.len a1_a 2 fun (p11 : Addr) =>
stC sL1.2 p11 (
Let (hset sL1.2 p11 (.int .u64 t6)) fun (h12 : Hp) =>
stC h12 (Addr.add p11 1) (
Let (hset h12 (Addr.add p11 1) (.int .i64 t7)) fun (h13 : Hp) =>
idxS a0_data.a a0_data.len t3 2 fun (p14 : Addr) =>
stC h13 p14 (
Let (hset h13 p14 (.int .u64 t9)) fun (h15 : Hp) =>
stC h15 (Addr.add p14 1) (
Let (hset h15 (Addr.add p14 1) (.int .i64 t10)) fun (h16 : Hp) =>
C_slices_siftDownCmpFunc_api_Hit a0_data 0 sL1.1.1 a1_a a3_cmp h16 fun  (h17 : Hp) =>
Let (IntKind.wrap .i64 (sL1.1.1 - 1) : Int) fun (t18 : Int) =>
R1 ((t18, ()), h17)))))) (
K sL1.2)
def J1_slices_heapSortCmpFunc_api_Hit (a0_data : Sl) (a1_a : Int) (a3_cmp : Value) (K : Hp → Prop) (t1 : Int) (sJ1 : Unit) (hJ1 : Hp) : Prop :=
Let (IntKind.wrap .i64 (t1 - 1) : Int) fun (t2 : Int) =>
∃ n, Lp (L1_slices_heapSortCmpFunc_api_Hit a0_data a1_a a3_cmp K) n ((t2, ()), hJ1)
def L2_slices_heapSortCmpFunc_api_Hit (a0_data : Sl) (a1_a : Int) (a3_cmp : Value) (t1 : Int) (J1 : Unit → Hp → Prop) (sL2 : (Int × Unit) × Hp) (R2 : (Int × Unit) × Hp → Prop) : Prop :=
cnd (decide (sL2.1.1 ≥ 0)) (
C_slices_siftDownCmpFunc_api_Hit a0_data sL2.1.1 t1 a1_a a3_cmp sL2.2 fun  (h21 : Hp) =>
Let (IntKind.wrap .i64 (sL2.1.1 - 1) : Int) fun (t22 : Int) =>
R2 ((t22, ()), h21)) (
J1 (()) sL2.2)
def F_slices_heapSortCmpFunc_api_Hit (a0_data : Sl) (a1_a : Int) (a2_b : Int) (a3_cmp : Value) (h : Hp) (K : Hp → Prop) : Prop :=
Let (IntKind.wrap .i64 (a2_b - a1_a) : Int) fun (t1 : Int) =>
Jn (J1_slices_heapSortCmpFunc_api_Hit a0_data a1_a a3_cmp K t1) fun (J1 : Unit → Hp → Prop) =>
Let (IntKind.wrap .i64 (t1 - 1) : Int) fun (t19 : Int) =>
(2 ≠ (0 : Int)) ∧ (
Let (IntKind.wrap .i64 (Int.tdiv t19 2) : Int) fun (t20 : Int) =>
∃ n, Lp (L2_slices_heapSortCmpFunc_api_Hit a0_data a1_a a3_cmp t1 J1) n ((t20, ()), h))

theorem F_slices_heapSortCmpFunc_api_Hit_ok (a0_data : Sl) (a1_a : Int) (a2_b : Int) (a3_cmp : Value) (h : Hp) (K : Hp → Prop) (hF : F_slices_heapSortCmpFunc_api_Hit a0_data a1_a a2_b a3_cmp h K) : C_slices_heapSortCmpFunc_api_Hit a0_data a1_a a2_b a3_cmp h K := by
  have e : bodyVC Try.prog Try.f43 (.seq .no (.seq .no (.seq .no (.join [] (.seq .no (.block (.loop [(11, .at (.int .i64))] (.seq (.seq .no (.cond .no .no)) (.seq (.block .no) .no))))) (.seq .no (.block (.loop [(12, .at (.int .i64))] (.seq (.seq .no (.cond .no .no)) (.seq (.block (.seq .no .no)) .no))))))))) (Option.getD Try.f43.body .skip) [.slice a0_data.a a0_data.len a0_data.cap, .int .i64 a1_a, .int .i64 a2_b, a3_cmp] h [] (fun s h => K h) = F_slices_heapSortCmpFunc_api_Hit a0_data a1_a a2_b a3_cmp h K := by kernel_rfl
  exact fun_sound mixed Try.func43 rfl (e.mpr hF)

def J1_slices_breakPatternsCmpFunc_api_Hit (a0_data : Sl) (a1_a : Int) (sL1 : (Int × Unit) × Hp) (R1 : (Int × Unit) × Hp → Prop) (sJ1 : Int × Unit) (hJ1 : Hp) : Prop :=
Let (IntKind.wrap .i64 (a1_a + sJ1.1) : Int) fun (t21 : Int) =>
Let (IntKind.wrap .i64 (a1_a + sJ1.1) : Int) fun (t22 : Int) =>
idxS a0_data.a a0_data.len t22 2 fun (p23 : Addr) =>
ldA (.int .u64) hJ1 p23 fun (t24 : Int) =>
ldA (.int .i64) hJ1 (Addr.add p23 1) fun (t25 : Int) =>
idxS a0_data.a a0_data.len sL1.1.1 2 fun (p26 : Addr) =>
ldA (.int .u64) hJ1 p26 fun (t27 : Int) =>
ldA (.int .i64) hJ1 (Addr.add p26 1) fun (t28 : Int) =>
idxS a0_data.a a0_data.len sL1.1.1 2 fun (p29 : Addr) =>
stC hJ1 p29 (
Let (hset hJ1 p29 (.int .u64 t24)) fun (h30 : Hp) =>
stC h30 (Addr.add p29 1) (
Let (hset h30 (Addr.add p29 1) (.int .i64 t25)) fun (h31 : Hp) =>
idxS a0_data.a a0_data.len t21 2 fun (p32 : Addr) =>
stC h31 p32 (
Let (hset h31 p32 (.int .u64 t27)) fun (h33 : Hp) =>
stC h33 (Addr.add p32 1) (
Let (hset h33 (Addr.add p32 1) (.int .i64 t28)) fun (h34 : Hp) =>
Let (IntKind.wrap .i64 (sL1.1.1 + 1) : Int) fun (t35 : Int) =>
R1 ((t35, ()), h34)))))
def L1_slices_breakPatternsCmpFunc_api_Hit (a0_data : Sl) (a1_a : Int) (K : Hp → Prop) (t1 : Int) (p4 : Addr) (t6 : Int) (sL1 : (Int × Unit) × Hp) (R1 : (Int × Unit) × Hp → Prop) : Prop :=
(4 ≠ (0 : Int)) ∧ (
Let (IntKind.wrap .i64 (Int.tdiv t1 4) : Int) fun (t12 : Int) =>
Let (IntKind.wrap .i64 (t12 * 2) : Int) fun (t13 : Int) =>
Let (IntKind.wrap .i64 (a1_a + t13) : Int) fun (t14 : Int) =>
Let (IntKind.wrap .i64 (t14 + 1) : Int) fun (t15 : Int) =>
cnd (decide (sL1.1.1 ≤ t15)) (
C_slices_xorshift_Next (some p4) sL1.2 fun (t16 : Int) (h17 : Hp) =>
Let (IntKind.wrap .u64 (t6 - 1) : Int) fun (t18 : Int) =>
Let (ibAnd .u64 t16 t18 : Int) fun (t19 : Int) =>
Let (IntKind.wrap .i64 (t19) : Int) fun (t20 : Int) =>
Jn (J1_slices_breakPatternsCmpFunc_api_Hit a0_data a1_a sL1 R1) fun (J1 : Int × Unit → Hp → Prop) =>
cnd (decide (t20 ≥ t1)) (
Let (IntKind.wrap .i64 (t20 - t1) : Int) fun (t36 : Int) =>
J1 (t36, ()) h17) (
J1 (t20, ()) h17)) (
K sL1.2))
def F_slices_breakPatternsCmpFunc_api_Hit (a0_data : Sl) (a1_a : Int) (a2_b : Int) (a3_cmp : Value) (h : Hp) (K : Hp → Prop) : Prop :=
Let (IntKind.wrap .i64 (a2_b - a1_a) : Int) fun (t1 : Int) =>
cnd (decide (t1 ≥ 8)) (
Let (IntKind.wrap .u64 (t1) : Int) fun (t2 : Int) =>
Let (Array.push h (Obj.cells #[.int .u64 0] 74)) fun (h3 : Hp) =>
Let (Addr.mk (Array.size h) 0 none) fun (p4 : Addr) =>
((1 : Nat) = 1) ∧ (
stC h3 p4 (
Let (hset h3 p4 (.int .u64 t2)) fun (h5 : Hp) =>
C_slices_nextPowerOfTwo t1 h5 fun (t6 : Int) (h7 : Hp) =>
(4 ≠ (0 : Int)) ∧ (
Let (IntKind.wrap .i64 (Int.tdiv t1 4) : Int) fun (t8 : Int) =>
Let (IntKind.wrap .i64 (t8 * 2) : Int) fun (t9 : Int) =>
Let (IntKind.wrap .i64 (a1_a + t9) : Int) fun (t10 : Int) =>
Let (IntKind.wrap .i64 (t10 - 1) : Int) fun (t11 : Int) =>
∃ n, Lp (L1_slices_breakPatternsCmpFunc_api_Hit a0_data a1_a K t1 p4 t6) n ((t11, ()), h7))))) (
K h)

theorem F_slices_breakPatternsCmpFunc_api_Hit_ok (a0_data : Sl) (a1_a : Int) (a2_b : Int) (a3_cmp : Value) (h : Hp) (K : Hp → Prop) (hF : F_slices_breakPatternsCmpFunc_api_Hit a0_data a1_a a2_b a3_cmp h K) : C_slices_breakPatternsCmpFunc_api_Hit a0_data a1_a a2_b a3_cmp h K := by
  have e : bodyVC Try.prog Try.f44 (.seq .no (.seq .no (.cond (.seq .no (.seq .no (.seq .no (.block (.loop [(11, .at (.int .i64))] (.seq (.seq .no (.cond .no .no)) (.seq (.block (.seq .no (.join [(12, .at (.int .i64))] (.seq .no (.cond .no .no)) .no))) .no))))))) .no))) (Option.getD Try.f44.body .skip) [.slice a0_data.a a0_data.len a0_data.cap, .int .i64 a1_a, .int .i64 a2_b, a3_cmp] h [] (fun s h => K h) = F_slices_breakPatternsCmpFunc_api_Hit a0_data a1_a a2_b a3_cmp h K := by kernel_rfl
  exact fun_sound mixed Try.func44 rfl (e.mpr hF)

def J1_slices_choosePivotCmpFunc_api_Hit (K : Int → Int → Hp → Prop) (p3 : Addr) (sJ1 : Int × Unit) (hJ1 : Hp) : Prop :=
ldA (.int .i64) hJ1 p3 fun (t13 : Int) =>
cnd (t13 == 0) (
K sJ1.1 1 hJ1) (
cnd (t13 == 12) (
K sJ1.1 2 hJ1) (
K sJ1.1 0 hJ1))
def F_slices_choosePivotCmpFunc_api_Hit (a0_data : Sl) (a1_a : Int) (a2_b : Int) (a3_cmp : Value) (h : Hp) (K : Int → Int → Hp → Prop) : Prop :=
Let (IntKind.wrap .i64 (a2_b - a1_a) : Int) fun (t1 : Int) =>
Let (Array.push h (Obj.cells #[.int .i64 0] 3)) fun (h2 : Hp) =>
Let (Addr.mk (Array.size h) 0 none) fun (p3 : Addr) =>
(4 ≠ (0 : Int)) ∧ (
Let (IntKind.wrap .i64 (Int.tdiv t1 4) : Int) fun (t4 : Int) =>
Let (IntKind.wrap .i64 (t4 * 1) : Int) fun (t5 : Int) =>
Let (IntKind.wrap .i64 (a1_a + t5) : Int) fun (t6 : Int) =>
(4 ≠ (0 : Int)) ∧ (
Let (IntKind.wrap .i64 (Int.tdiv t1 4) : Int) fun (t7 : Int) =>
Let (IntKind.wrap .i64 (t7 * 2) : Int) fun (t8 : Int) =>
Let (IntKind.wrap .i64 (a1_a + t8) : Int) fun (t9 : Int) =>
(4 ≠ (0 : Int)) ∧ (
Let (IntKind.wrap .i64 (Int.tdiv t1 4) : Int) fun (t10 : Int) =>
Let (IntKind.wrap .i64 (t10 * 3) : Int) fun (t11 : Int) =>
Let (IntKind.wrap .i64 (a1_a + t11) : Int) fun (t12 : Int) =>
Jn (J1_slices_choosePivotCmpFunc_api_Hit K p3) fun (J1 : Int × Unit → Hp → Prop) =>
cnd (decide (t1 ≥ 8)) (
cnd (decide (t1 ≥ 50)) (
C_slices_medianAdjacentCmpFunc_api_Hit a0_data t6 (some p3) a3_cmp h2 fun (t14 : Int) (h15 : Hp) =>
C_slices_medianAdjacentCmpFunc_api_Hit a0_data t9 (some p3) a3_cmp h15 fun (t16 : Int) (h17 : Hp) =>
C_slices_medianAdjacentCmpFunc_api_Hit a0_data t12 (some p3) a3_cmp h17 fun (t18 : Int) (h19 : Hp) =>
C_slices_medianCmpFunc_api_Hit a0_data t14 t16 t18 (some p3) a3_cmp h19 fun (t20 : Int) (h21 : Hp) =>
J1 (t20, ()) h21) (
C_slices_medianCmpFunc_api_Hit a0_data t6 t9 t12 (some p3) a3_cmp h2 fun (t22 : Int) (h23 : Hp) =>
J1 (t22, ()) h23)) (
J1 (t9, ()) h2))))

theorem F_slices_choosePivotCmpFunc_api_Hit_ok (a0_data : Sl) (a1_a : Int) (a2_b : Int) (a3_cmp : Value) (h : Hp) (K : Int → Int → Hp → Prop) (hF : F_slices_choosePivotCmpFunc_api_Hit a0_data a1_a a2_b a3_cmp h K) : C_slices_choosePivotCmpFunc_api_Hit a0_data a1_a a2_b a3_cmp h K := by
  have e : bodyVC Try.prog Try.f45 (.seq .no (.seq .no (.seq .no (.seq .no (.seq .no (.seq .no (.join [(13, .at (.int .i64))] (.seq .no (.cond (.seq (.seq .no (.cond (.seq .no (.seq .no .no)) .no)) .no) .no)) (.seq .no (.block (.seq .no (.cond (.seq .no .no) (.seq .no (.cond (.seq .no .no) (.seq .no .no)))))))))))))) (Option.getD Try.f45.body .skip) [.slice a0_data.a a0_data.len a0_data.cap, .int .i64 a1_a, .int .i64 a2_b, a3_cmp] h [.at (.int .i64), .at (.int .i64)] (fun s h => K s.1 s.2.1 h) = F_slices_choosePivotCmpFunc_api_Hit a0_data a1_a a2_b a3_cmp h K := by kernel_rfl
  exact fun_sound mixed Try.func45 rfl (e.mpr hF)

def L1_slices_reverseRangeCmpFunc_api_Hit (a0_data : Sl) (K : Hp → Prop) (sL1 : (Int × Int × Unit) × Hp) (R1 : (Int × Int × Unit) × Hp → Prop) : Prop :=
cnd (decide (sL1.1.1 < sL1.1.2.1)) (
idxS a0_data.a a0_data.len sL1.1.2.1 2 fun (p2 : Addr) =>
ldA (.int .u64) sL1.2 p2 fun (t3 : Int) =>
ldA (.int .i64) sL1.2 (Addr.add p2 1) fun (t4 : Int) =>
idxS a0_data.a a0_data.len sL1.1.1 2 fun (p5 : Addr) =>
ldA (.int .u64) sL1.2 p5 fun (t6 : Int) =>
ldA (.int .i64) sL1.2 (Addr.add p5 1) fun (t7 : Int) =>
idxS a0_data.a a0_data.len sL1.1.1 2 fun (p8 : Addr) =>
stC sL1.2 p8 (
Let (hset sL1.2 p8 (.int .u64 t3)) fun (h9 : Hp) =>
stC h9 (Addr.add p8 1) (
Let (hset h9 (Addr.add p8 1) (.int .i64 t4)) fun (h10 : Hp) =>
idxS a0_data.a a0_data.len sL1.1.2.1 2 fun (p11 : Addr) =>
stC h10 p11 (
Let (hset h10 p11 (.int .u64 t6)) fun (h12 : Hp) =>
stC h12 (Addr.add p11 1) (
Let (hset h12 (Addr.add p11 1) (.int .i64 t7)) fun (h13 : Hp) =>
Let (IntKind.wrap .i64 (sL1.1.1 + 1) : Int) fun (t14 : Int) =>
Let (IntKind.wrap .i64 (sL1.1.2.1 - 1) : Int) fun (t15 : Int) =>
R1 ((t14, t15, ()), h13)))))) (
K sL1.2)
def F_slices_reverseRangeCmpFunc_api_Hit (a0_data : Sl) (a1_a : Int) (a2_b : Int) (a3_cmp : Value) (h : Hp) (K : Hp → Prop) : Prop :=
Let (IntKind.wrap .i64 (a2_b - 1) : Int) fun (t1 : Int) =>
∃ n, Lp (L1_slices_reverseRangeCmpFunc_api_Hit a0_data K) n ((a1_a, t1, ()), h)

theorem F_slices_reverseRangeCmpFunc_api_Hit_ok (a0_data : Sl) (a1_a : Int) (a2_b : Int) (a3_cmp : Value) (h : Hp) (K : Hp → Prop) (hF : F_slices_reverseRangeCmpFunc_api_Hit a0_data a1_a a2_b a3_cmp h K) : C_slices_reverseRangeCmpFunc_api_Hit a0_data a1_a a2_b a3_cmp h K := by
  have e : bodyVC Try.prog Try.f46 (.seq .no (.seq .no (.block (.loop [(8, .at (.int .i64)), (9, .at (.int .i64))] (.seq (.seq .no (.cond .no .no)) (.block (.seq .no (.seq .no .no)))))))) (Option.getD Try.f46.body .skip) [.slice a0_data.a a0_data.len a0_data.cap, .int .i64 a1_a, .int .i64 a2_b, a3_cmp] h [] (fun s h => K h) = F_slices_reverseRangeCmpFunc_api_Hit a0_data a1_a a2_b a3_cmp h K := by kernel_rfl
  exact fun_sound mixed Try.func46 rfl (e.mpr hF)

def L2_slices_partialInsertionSortCmpFunc_api_Hit (a0_data : Sl) (a2_b : Int) (a3_cmp : Value) (sL1 : (Int × Int × Unit) × Hp) (R1 : (Int × Int × Unit) × Hp → Prop) (sJ1 : Int × Unit) (sL2 : (Int × Unit) × Hp) (R2 : (Int × Unit) × Hp → Prop) : Prop :=
cnd (decide (sL2.1.1 < a2_b)) (
idxS a0_data.a a0_data.len sL2.1.1 2 fun (p19 : Addr) =>
ldA (.int .u64) sL2.2 p19 fun (t20 : Int) =>
ldA (.int .i64) sL2.2 (Addr.add p19 1) fun (t21 : Int) =>
Let (IntKind.wrap .i64 (sL2.1.1 - 1) : Int) fun (t22 : Int) =>
idxS a0_data.a a0_data.len t22 2 fun (p23 : Addr) =>
ldA (.int .u64) sL2.2 p23 fun (t24 : Int) =>
ldA (.int .i64) sL2.2 (Addr.add p23 1) fun (t25 : Int) =>
callV Try.prog a3_cmp [.agg #[.int .u64 t20, .int .i64 t21], .agg #[.int .u64 t24, .int .i64 t25]] [.at (.int .i64)] sL2.2 fun (s : Int × Unit) (h27 : Hp) =>
cnd (!(decide (s.1 < 0))) (
Let (IntKind.wrap .i64 (sL1.1.2.1 + 1) : Int) fun (t28 : Int) =>
R1 ((sJ1.1, t28, ()), h27)) (
Let (IntKind.wrap .i64 (sL2.1.1 - 1) : Int) fun (t29 : Int) =>
Let (IntKind.wrap .i64 (sL2.1.1 - 1) : Int) fun (t30 : Int) =>
idxS a0_data.a a0_data.len t30 2 fun (p31 : Addr) =>
ldA (.int .u64) h27 p31 fun (t32 : Int) =>
ldA (.int .i64) h27 (Addr.add p31 1) fun (t33 : Int) =>
idxS a0_data.a a0_data.len sL2.1.1 2 fun (p34 : Addr) =>
ldA (.int .u64) h27 p34 fun (t35 : Int) =>
ldA (.int .i64) h27 (Addr.add p34 1) fun (t36 : Int) =>
idxS a0_data.a a0_data.len sL2.1.1 2 fun (p37 : Addr) =>
stC h27 p37 (
Let (hset h27 p37 (.int .u64 t32)) fun (h38 : Hp) =>
stC h38 (Addr.add p37 1) (
Let (hset h38 (Addr.add p37 1) (.int .i64 t33)) fun (h39 : Hp) =>
idxS a0_data.a a0_data.len t29 2 fun (p40 : Addr) =>
stC h39 p40 (
Let (hset h39 p40 (.int .u64 t35)) fun (h41 : Hp) =>
stC h41 (Addr.add p40 1) (
Let (hset h41 (Addr.add p40 1) (.int .i64 t36)) fun (h42 : Hp) =>
Let (IntKind.wrap .i64 (sL2.1.1 + 1) : Int) fun (t43 : Int) =>
R2 ((t43, ()), h42))))))) (
Let (IntKind.wrap .i64 (sL1.1.2.1 + 1) : Int) fun (t44 : Int) =>
R1 ((sJ1.1, t44, ()), sL2.2))
def J2_slices_partialInsertionSortCmpFunc_api_Hit (a0_data : Sl) (a2_b : Int) (a3_cmp : Value) (sL1 : (Int × Int × Unit) × Hp) (R1 : (Int × Int × Unit) × Hp → Prop) (sJ1 : Int × Unit) (sJ2 : Unit) (hJ2 : Hp) : Prop :=
Let (IntKind.wrap .i64 (a2_b - sJ1.1) : Int) fun (t17 : Int) =>
cnd (decide (t17 ≥ 2)) (
Let (IntKind.wrap .i64 (sJ1.1 + 1) : Int) fun (t18 : Int) =>
∃ n, Lp (L2_slices_partialInsertionSortCmpFunc_api_Hit a0_data a2_b a3_cmp sL1 R1 sJ1) n ((t18, ()), hJ2)) (
Let (IntKind.wrap .i64 (sL1.1.2.1 + 1) : Int) fun (t45 : Int) =>
R1 ((sJ1.1, t45, ()), hJ2))
def L3_slices_partialInsertionSortCmpFunc_api_Hit (a0_data : Sl) (a3_cmp : Value) (J2 : Unit → Hp → Prop) (sL3 : (Int × Unit) × Hp) (R3 : (Int × Unit) × Hp → Prop) : Prop :=
cnd (decide (sL3.1.1 ≥ 1)) (
idxS a0_data.a a0_data.len sL3.1.1 2 fun (p48 : Addr) =>
ldA (.int .u64) sL3.2 p48 fun (t49 : Int) =>
ldA (.int .i64) sL3.2 (Addr.add p48 1) fun (t50 : Int) =>
Let (IntKind.wrap .i64 (sL3.1.1 - 1) : Int) fun (t51 : Int) =>
idxS a0_data.a a0_data.len t51 2 fun (p52 : Addr) =>
ldA (.int .u64) sL3.2 p52 fun (t53 : Int) =>
ldA (.int .i64) sL3.2 (Addr.add p52 1) fun (t54 : Int) =>
callV Try.prog a3_cmp [.agg #[.int .u64 t49, .int .i64 t50], .agg #[.int .u64 t53, .int .i64 t54]] [.at (.int .i64)] sL3.2 fun (s : Int × Unit) (h56 : Hp) =>
cnd (!(decide (s.1 < 0))) (
J2 (()) h56) (
Let (IntKind.wrap .i64 (sL3.1.1 - 1) : Int) fun (t57 : Int) =>
Let (IntKind.wrap .i64 (sL3.1.1 - 1) : Int) fun (t58 : Int) =>
idxS a0_data.a a0_data.len t58 2 fun (p59 : Addr) =>
ldA (.int .u64) h56 p59 fun (t60 : Int) =>
ldA (.int .i64) h56 (Addr.add p59 1) fun (t61 : Int) =>
idxS a0_data.a a0_data.len sL3.1.1 2 fun (p62 : Addr) =>
ldA (.int .u64) h56 p62 fun (t63 : Int) =>
ldA (.int .i64) h56 (Addr.add p62 1) fun (t64 : Int) =>
idxS a0_data.a a0_data.len sL3.1.1 2 fun (p65 : Addr) =>
stC h56 p65 (
Let (hset h56 p65 (.int .u64 t60)) fun (h66 : Hp) =>
stC h66 (Addr.add p65 1) (
Let (hset h66 (Addr.add p65 1) (.int .i64 t61)) fun (h67 : Hp) =>
idxS a0_data.a a0_data.len t57 2 fun (p68 : Addr) =>
stC h67 p68 (
Let (hset h67 p68 (.int .u64 t63)) fun (h69 : Hp) =>
stC h69 (Addr.add p68 1) (
Let (hset h69 (Addr.add p68 1) (.int .i64 t64)) fun (h70 : Hp) =>
Let (IntKind.wrap .i64 (sL3.1.1 - 1) : Int) fun (t71 : Int) =>
R3 ((t71, ()), h70))))))) (
J2 (()) sL3.2)
def J1_slices_partialInsertionSortCmpFunc_api_Hit (a0_data : Sl) (a1_a : Int) (a2_b : Int) (a3_cmp : Value) (K : Bool → Hp → Prop) (sL1 : (Int × Int × Unit) × Hp) (R1 : (Int × Int × Unit) × Hp → Prop) (sJ1 : Int × Unit) (hJ1 : Hp) : Prop :=
cnd (sJ1.1 == a2_b) (
K true hJ1) (
Let (IntKind.wrap .i64 (a2_b - a1_a) : Int) fun (t2 : Int) =>
cnd (decide (t2 < 50)) (
K false hJ1) (
Let (IntKind.wrap .i64 (sJ1.1 - 1) : Int) fun (t3 : Int) =>
Let (IntKind.wrap .i64 (sJ1.1 - 1) : Int) fun (t4 : Int) =>
idxS a0_data.a a0_data.len t4 2 fun (p5 : Addr) =>
ldA (.int .u64) hJ1 p5 fun (t6 : Int) =>
ldA (.int .i64) hJ1 (Addr.add p5 1) fun (t7 : Int) =>
idxS a0_data.a a0_data.len sJ1.1 2 fun (p8 : Addr) =>
ldA (.int .u64) hJ1 p8 fun (t9 : Int) =>
ldA (.int .i64) hJ1 (Addr.add p8 1) fun (t10 : Int) =>
idxS a0_data.a a0_data.len sJ1.1 2 fun (p11 : Addr) =>
stC hJ1 p11 (
Let (hset hJ1 p11 (.int .u64 t6)) fun (h12 : Hp) =>
stC h12 (Addr.add p11 1) (
Let (hset h12 (Addr.add p11 1) (.int .i64 t7)) fun (h13 : Hp) =>
idxS a0_data.a a0_data.len t3 2 fun (p14 : Addr) =>
stC h13 p14 (
Let (hset h13 p14 (.int .u64 t9)) fun (h15 : Hp) =>
stC h15 (Addr.add p14 1) (
Let (hset h15 (Addr.add p14 1) (.int .i64 t10)) fun (h16 : Hp) =>
Jn (J2_slices_partialInsertionSortCmpFunc_api_Hit a0_data a2_b a3_cmp sL1 R1 sJ1) fun (J2 : Unit → Hp → Prop) =>
Let (IntKind.wrap .i64 (sJ1.1 - a1_a) : Int) fun (t46 : Int) =>
cnd (decide (t46 ≥ 2)) (
Let (IntKind.wrap .i64 (sJ1.1 - 1) : Int) fun (t47 : Int) =>
∃ n, Lp (L3_slices_partialInsertionSortCmpFunc_api_Hit a0_data a3_cmp J2) n ((t47, ()), h16)) (
J2 (()) h16)))))))
def L4_slices_partialInsertionSortCmpFunc_api_Hit (a0_data : Sl) (a2_b : Int) (a3_cmp : Value) (J1 : Int × Unit → Hp → Prop) (sL4 : (Int × Unit) × Hp) (R4 : (Int × Unit) × Hp → Prop) : Prop :=
cnd (decide (sL4.1.1 < a2_b)) (
idxS a0_data.a a0_data.len sL4.1.1 2 fun (p72 : Addr) =>
ldA (.int .u64) sL4.2 p72 fun (t73 : Int) =>
ldA (.int .i64) sL4.2 (Addr.add p72 1) fun (t74 : Int) =>
Let (IntKind.wrap .i64 (sL4.1.1 - 1) : Int) fun (t75 : Int) =>
idxS a0_data.a a0_data.len t75 2 fun (p76 : Addr) =>
ldA (.int .u64) sL4.2 p76 fun (t77 : Int) =>
ldA (.int .i64) sL4.2 (Addr.add p76 1) fun (t78 : Int) =>
callV Try.prog a3_cmp [.agg #[.int .u64 t73, .int .i64 t74], .agg #[.int .u64 t77, .int .i64 t78]] [.at (.int .i64)] sL4.2 fun (s : Int × Unit) (h80 : Hp) =>
cnd (!(decide (s.1 < 0))) (
Let (IntKind.wrap .i64 (sL4.1.1 + 1) : Int) fun (t81 : Int) =>
R4 ((t81, ()), h80)) (
J1 (sL4.1.1, ()) h80)) (
J1 (sL4.1.1, ()) sL4.2)
def L1_slices_partialInsertionSortCmpFunc_api_Hit (a0_data : Sl) (a1_a : Int) (a2_b : Int) (a3_cmp : Value) (K : Bool → Hp → Prop) (sL1 : (Int × Int × Unit) × Hp) (R1 : (Int × Int × Unit) × Hp → Prop) : Prop :=
cnd (decide (sL1.1.2.1 < 5)) (
Jn (J1_slices_partialInsertionSortCmpFunc_api_Hit a0_data a1_a a2_b a3_cmp K sL1 R1) fun (J1 : Int × Unit → Hp → Prop) =>
∃ n, Lp (L4_slices_partialInsertionSortCmpFunc_api_Hit a0_data a2_b a3_cmp J1) n ((sL1.1.1, ()), sL1.2)) (
K false sL1.2)
def F_slices_partialInsertionSortCmpFunc_api_Hit (a0_data : Sl) (a1_a : Int) (a2_b : Int) (a3_cmp : Value) (h : Hp) (K : Bool → Hp → Prop) : Prop :=
Let (IntKind.wrap .i64 (a1_a + 1) : Int) fun (t1 : Int) =>
∃ n, Lp (L1_slices_partialInsertionSortCmpFunc_api_Hit a0_data a1_a a2_b a3_cmp K) n ((t1, 0, ()), h)

theorem F_slices_partialInsertionSortCmpFunc_api_Hit_ok (a0_data : Sl) (a1_a : Int) (a2_b : Int) (a3_cmp : Value) (h : Hp) (K : Bool → Hp → Prop) (hF : F_slices_partialInsertionSortCmpFunc_api_Hit a0_data a1_a a2_b a3_cmp h K) : C_slices_partialInsertionSortCmpFunc_api_Hit a0_data a1_a a2_b a3_cmp h K := by
  have e : bodyVC Try.prog Try.f47 (.seq .no (.seq .no (.seq (.seq .no (.block (.loop [(9, .at (.int .i64)), (10, .at (.int .i64))] (.seq (.seq .no (.cond .no .no)) (.seq (.block (.join [(9, .at (.int .i64))] (.block (.loop [(9, .at (.int .i64))] (.seq (.seq .no (.cond .no .no)) (.block .no)))) (.seq (.seq .no (.cond (.seq .no .no) .no)) (.seq (.seq .no (.cond (.seq .no .no) .no)) (.seq .no (.join [] (.seq .no (.cond (.seq .no (.block (.loop [(11, .at (.int .i64))] (.seq (.seq .no (.cond .no .no)) (.seq (.block (.seq (.seq .no (.cond .no .no)) .no)) .no))))) .no)) (.seq .no (.cond (.seq .no (.block (.loop [(12, .at (.int .i64))] (.seq (.seq .no (.cond .no .no)) (.seq (.block (.seq (.seq .no (.cond .no .no)) .no)) .no))))) .no)))))))) .no))))) (.seq .no .no)))) (Option.getD Try.f47.body .skip) [.slice a0_data.a a0_data.len a0_data.cap, .int .i64 a1_a, .int .i64 a2_b, a3_cmp] h [.at .bool] (fun s h => K s.1 h) = F_slices_partialInsertionSortCmpFunc_api_Hit a0_data a1_a a2_b a3_cmp h K := by kernel_rfl
  exact fun_sound mixed Try.func47 rfl (e.mpr hF)

def J2_slices_partitionEqualCmpFunc_api_Hit (a0_data : Sl) (K : Int → Hp → Prop) (R1 : (Int × Int × Unit) × Hp → Prop) (sJ1 : Int × Unit) (sJ2 : Int × Unit) (hJ2 : Hp) : Prop :=
cnd (decide (sJ1.1 > sJ2.1)) (
K sJ1.1 hJ2) (
idxS a0_data.a a0_data.len sJ2.1 2 fun (p15 : Addr) =>
ldA (.int .u64) hJ2 p15 fun (t16 : Int) =>
ldA (.int .i64) hJ2 (Addr.add p15 1) fun (t17 : Int) =>
idxS a0_data.a a0_data.len sJ1.1 2 fun (p18 : Addr) =>
ldA (.int .u64) hJ2 p18 fun (t19 : Int) =>
ldA (.int .i64) hJ2 (Addr.add p18 1) fun (t20 : Int) =>
idxS a0_data.a a0_data.len sJ1.1 2 fun (p21 : Addr) =>
stC hJ2 p21 (
Let (hset hJ2 p21 (.int .u64 t16)) fun (h22 : Hp) =>
stC h22 (Addr.add p21 1) (
Let (hset h22 (Addr.add p21 1) (.int .i64 t17)) fun (h23 : Hp) =>
idxS a0_data.a a0_data.len sJ2.1 2 fun (p24 : Addr) =>
stC h23 p24 (
Let (hset h23 p24 (.int .u64 t19)) fun (h25 : Hp) =>
stC h25 (Addr.add p24 1) (
Let (hset h25 (Addr.add p24 1) (.int .i64 t20)) fun (h26 : Hp) =>
Let (IntKind.wrap .i64 (sJ1.1 + 1) : Int) fun (t27 : Int) =>
Let (IntKind.wrap .i64 (sJ2.1 - 1) : Int) fun (t28 : Int) =>
R1 ((t27, t28, ()), h26))))))
def L2_slices_partitionEqualCmpFunc_api_Hit (a0_data : Sl) (a1_a : Int) (a4_cmp : Value) (sJ1 : Int × Unit) (J2 : Int × Unit → Hp → Prop) (sL2 : (Int × Unit) × Hp) (R2 : (Int × Unit) × Hp → Prop) : Prop :=
cnd (decide (sJ1.1 ≤ sL2.1.1)) (
idxS a0_data.a a0_data.len a1_a 2 fun (p29 : Addr) =>
ldA (.int .u64) sL2.2 p29 fun (t30 : Int) =>
ldA (.int .i64) sL2.2 (Addr.add p29 1) fun (t31 : Int) =>
idxS a0_data.a a0_data.len sL2.1.1 2 fun (p32 : Addr) =>
ldA (.int .u64) sL2.2 p32 fun (t33 : Int) =>
ldA (.int .i64) sL2.2 (Addr.add p32 1) fun (t34 : Int) =>
callV Try.prog a4_cmp [.agg #[.int .u64 t30, .int .i64 t31], .agg #[.int .u64 t33, .int .i64 t34]] [.at (.int .i64)] sL2.2 fun (s : Int × Unit) (h36 : Hp) =>
cnd (decide (s.1 < 0)) (
Let (IntKind.wrap .i64 (sL2.1.1 - 1) : Int) fun (t37 : Int) =>
R2 ((t37, ()), h36)) (
J2 (sL2.1.1, ()) h36)) (
J2 (sL2.1.1, ()) sL2.2)
def J1_slices_partitionEqualCmpFunc_api_Hit (a0_data : Sl) (a1_a : Int) (a4_cmp : Value) (K : Int → Hp → Prop) (sL1 : (Int × Int × Unit) × Hp) (R1 : (Int × Int × Unit) × Hp → Prop) (sJ1 : Int × Unit) (hJ1 : Hp) : Prop :=
Jn (J2_slices_partitionEqualCmpFunc_api_Hit a0_data K R1 sJ1) fun (J2 : Int × Unit → Hp → Prop) =>
∃ n, Lp (L2_slices_partitionEqualCmpFunc_api_Hit a0_data a1_a a4_cmp sJ1 J2) n ((sL1.1.2.1, ()), hJ1)
def L3_slices_partitionEqualCmpFunc_api_Hit (a0_data : Sl) (a1_a : Int) (a4_cmp : Value) (sL1 : (Int × Int × Unit) × Hp) (J1 : Int × Unit → Hp → Prop) (sL3 : (Int × Unit) × Hp) (R3 : (Int × Unit) × Hp → Prop) : Prop :=
cnd (decide (sL3.1.1 ≤ sL1.1.2.1)) (
idxS a0_data.a a0_data.len a1_a 2 fun (p38 : Addr) =>
ldA (.int .u64) sL3.2 p38 fun (t39 : Int) =>
ldA (.int .i64) sL3.2 (Addr.add p38 1) fun (t40 : Int) =>
idxS a0_data.a a0_data.len sL3.1.1 2 fun (p41 : Addr) =>
ldA (.int .u64) sL3.2 p41 fun (t42 : Int) =>
ldA (.int .i64) sL3.2 (Addr.add p41 1) fun (t43 : Int) =>
callV Try.prog a4_cmp [.agg #[.int .u64 t39, .int .i64 t40], .agg #[.int .u64 t42, .int .i64 t43]] [.at (.int .i64)] sL3.2 fun (s : Int × Unit) (h45 : Hp) =>
cnd (!(decide (s.1 < 0))) (
Let (IntKind.wrap .i64 (sL3.1.1 + 1) : Int) fun (t46 : Int) =>
R3 ((t46, ()), h45)) (
J1 (sL3.1.1, ()) h45)) (
J1 (sL3.1.1, ()) sL3.2)
def L1_slices_partitionEqualCmpFunc_api_Hit (a0_data : Sl) (a1_a : Int) (a4_cmp : Value) (K : Int → Hp → Prop) (sL1 : (Int × Int × Unit) × Hp) (R1 : (Int × Int × Unit) × Hp → Prop) : Prop :=
Jn (J1_slices_partitionEqualCmpFunc_api_Hit a0_data a1_a a4_cmp K sL1 R1) fun (J1 : Int × Unit → Hp → Prop) =>
∃ n, Lp (L3_slices_partitionEqualCmpFunc_api_Hit a0_data a1_a a4_cmp sL1 J1) n ((sL1.1.1, ()), sL1.2)
def F_slices_partitionEqualCmpFunc_api_Hit (a0_data : Sl) (a1_a : Int) (a2_b : Int) (a3_pivot : Int) (a4_cmp : Value) (h : Hp) (K : Int → Hp → Prop) : Prop :=
idxS a0_data.a a0_data.len a3_pivot 2 fun (p1 : Addr) =>
ldA (.int .u64) h p1 fun (t2 : Int) =>
ldA (.int .i64) h (Addr.add p1 1) fun (t3 : Int) =>
idxS a0_data.a a0_data.len a1_a 2 fun (p4 : Addr) =>
ldA (.int .u64) h p4 fun (t5 : Int) =>
ldA (.int .i64) h (Addr.add p4 1) fun (t6 : Int) =>
idxS a0_data.a a0_data.len a1_a 2 fun (p7 : Addr) =>
stC h p7 (
Let (hset h p7 (.int .u64 t2)) fun (h8 : Hp) =>
stC h8 (Addr.add p7 1) (
Let (hset h8 (Addr.add p7 1) (.int .i64 t3)) fun (h9 : Hp) =>
idxS a0_data.a a0_data.len a3_pivot 2 fun (p10 : Addr) =>
stC h9 p10 (
Let (hset h9 p10 (.int .u64 t5)) fun (h11 : Hp) =>
stC h11 (Addr.add p10 1) (
Let (hset h11 (Addr.add p10 1) (.int .i64 t6)) fun (h12 : Hp) =>
Let (IntKind.wrap .i64 (a1_a + 1) : Int) fun (t13 : Int) =>
Let (IntKind.wrap .i64 (a2_b - 1) : Int) fun (t14 : Int) =>
∃ n, Lp (L1_slices_partitionEqualCmpFunc_api_Hit a0_data a1_a a4_cmp K) n ((t13, t14, ()), h12)))))

theorem F_slices_partitionEqualCmpFunc_api_Hit_ok (a0_data : Sl) (a1_a : Int) (a2_b : Int) (a3_pivot : Int) (a4_cmp : Value) (h : Hp) (K : Int → Hp → Prop) (hF : F_slices_partitionEqualCmpFunc_api_Hit a0_data a1_a a2_b a3_pivot a4_cmp h K) : C_slices_partitionEqualCmpFunc_api_Hit a0_data a1_a a2_b a3_pivot a4_cmp h K := by
  have e : bodyVC Try.prog Try.f48 (.seq .no (.seq .no (.seq .no (.seq (.block (.loop [(11, .at (.int .i64)), (12, .at (.int .i64))] (.block (.join [(11, .at (.int .i64))] (.block (.loop [(11, .at (.int .i64))] (.seq (.seq .no (.cond .no .no)) (.block .no)))) (.join [(12, .at (.int .i64))] (.block (.loop [(12, .at (.int .i64))] (.seq (.seq .no (.cond .no .no)) (.block .no)))) (.seq (.seq .no (.cond .no .no)) (.seq .no (.seq .no .no)))))))) (.seq .no .no))))) (Option.getD Try.f48.body .skip) [.slice a0_data.a a0_data.len a0_data.cap, .int .i64 a1_a, .int .i64 a2_b, .int .i64 a3_pivot, a4_cmp] h [.at (.int .i64)] (fun s h => K s.1 h) = F_slices_partitionEqualCmpFunc_api_Hit a0_data a1_a a2_b a3_pivot a4_cmp h K := by kernel_rfl
  exact fun_sound mixed Try.func48 rfl (e.mpr hF)

def J3_slices_partitionCmpFunc_api_Hit (a0_data : Sl) (a1_a : Int) (K : Int → Bool → Hp → Prop) (sJ3 : Int × Unit) (hJ3 : Hp) : Prop :=
idxS a0_data.a a0_data.len a1_a 2 fun (p41 : Addr) =>
ldA (.int .u64) hJ3 p41 fun (t42 : Int) =>
ldA (.int .i64) hJ3 (Addr.add p41 1) fun (t43 : Int) =>
idxS a0_data.a a0_data.len sJ3.1 2 fun (p44 : Addr) =>
ldA (.int .u64) hJ3 p44 fun (t45 : Int) =>
ldA (.int .i64) hJ3 (Addr.add p44 1) fun (t46 : Int) =>
idxS a0_data.a a0_data.len sJ3.1 2 fun (p47 : Addr) =>
stC hJ3 p47 (
Let (hset hJ3 p47 (.int .u64 t42)) fun (h48 : Hp) =>
stC h48 (Addr.add p47 1) (
Let (hset h48 (Addr.add p47 1) (.int .i64 t43)) fun (h49 : Hp) =>
idxS a0_data.a a0_data.len a1_a 2 fun (p50 : Addr) =>
stC h49 p50 (
Let (hset h49 p50 (.int .u64 t45)) fun (h51 : Hp) =>
stC h51 (Addr.add p50 1) (
Let (hset h51 (Addr.add p50 1) (.int .i64 t46)) fun (h52 : Hp) =>
K sJ3.1 false h52))))
def J5_slices_partitionCmpFunc_api_Hit (a0_data : Sl) (J3 : Int × Unit → Hp → Prop) (R1 : (Int × Int × Unit) × Hp → Prop) (sJ4 : Int × Unit) (sJ5 : Int × Unit) (hJ5 : Hp) : Prop :=
cnd (decide (sJ4.1 > sJ5.1)) (
J3 (sJ5.1, ()) hJ5) (
idxS a0_data.a a0_data.len sJ5.1 2 fun (p53 : Addr) =>
ldA (.int .u64) hJ5 p53 fun (t54 : Int) =>
ldA (.int .i64) hJ5 (Addr.add p53 1) fun (t55 : Int) =>
idxS a0_data.a a0_data.len sJ4.1 2 fun (p56 : Addr) =>
ldA (.int .u64) hJ5 p56 fun (t57 : Int) =>
ldA (.int .i64) hJ5 (Addr.add p56 1) fun (t58 : Int) =>
idxS a0_data.a a0_data.len sJ4.1 2 fun (p59 : Addr) =>
stC hJ5 p59 (
Let (hset hJ5 p59 (.int .u64 t54)) fun (h60 : Hp) =>
stC h60 (Addr.add p59 1) (
Let (hset h60 (Addr.add p59 1) (.int .i64 t55)) fun (h61 : Hp) =>
idxS a0_data.a a0_data.len sJ5.1 2 fun (p62 : Addr) =>
stC h61 p62 (
Let (hset h61 p62 (.int .u64 t57)) fun (h63 : Hp) =>
stC h63 (Addr.add p62 1) (
Let (hset h63 (Addr.add p62 1) (.int .i64 t58)) fun (h64 : Hp) =>
Let (IntKind.wrap .i64 (sJ4.1 + 1) : Int) fun (t65 : Int) =>
Let (IntKind.wrap .i64 (sJ5.1 - 1) : Int) fun (t66 : Int) =>
R1 ((t65, t66, ()), h64))))))
def L2_slices_partitionCmpFunc_api_Hit (a0_data : Sl) (a1_a : Int) (a4_cmp : Value) (sJ4 : Int × Unit) (J5 : Int × Unit → Hp → Prop) (sL2 : (Int × Unit) × Hp) (R2 : (Int × Unit) × Hp → Prop) : Prop :=
cnd (decide (sJ4.1 ≤ sL2.1.1)) (
idxS a0_data.a a0_data.len sL2.1.1 2 fun (p67 : Addr) =>
ldA (.int .u64) sL2.2 p67 fun (t68 : Int) =>
ldA (.int .i64) sL2.2 (Addr.add p67 1) fun (t69 : Int) =>
idxS a0_data.a a0_data.len a1_a 2 fun (p70 : Addr) =>
ldA (.int .u64) sL2.2 p70 fun (t71 : Int) =>
ldA (.int .i64) sL2.2 (Addr.add p70 1) fun (t72 : Int) =>
callV Try.prog a4_cmp [.agg #[.int .u64 t68, .int .i64 t69], .agg #[.int .u64 t71, .int .i64 t72]] [.at (.int .i64)] sL2.2 fun (s : Int × Unit) (h74 : Hp) =>
cnd (!(decide (s.1 < 0))) (
Let (IntKind.wrap .i64 (sL2.1.1 - 1) : Int) fun (t75 : Int) =>
R2 ((t75, ()), h74)) (
J5 (sL2.1.1, ()) h74)) (
J5 (sL2.1.1, ()) sL2.2)
def J4_slices_partitionCmpFunc_api_Hit (a0_data : Sl) (a1_a : Int) (a4_cmp : Value) (J3 : Int × Unit → Hp → Prop) (sL1 : (Int × Int × Unit) × Hp) (R1 : (Int × Int × Unit) × Hp → Prop) (sJ4 : Int × Unit) (hJ4 : Hp) : Prop :=
Jn (J5_slices_partitionCmpFunc_api_Hit a0_data J3 R1 sJ4) fun (J5 : Int × Unit → Hp → Prop) =>
∃ n, Lp (L2_slices_partitionCmpFunc_api_Hit a0_data a1_a a4_cmp sJ4 J5) n ((sL1.1.2.1, ()), hJ4)
def L3_slices_partitionCmpFunc_api_Hit (a0_data : Sl) (a1_a : Int) (a4_cmp : Value) (sL1 : (Int × Int × Unit) × Hp) (J4 : Int × Unit → Hp → Prop) (sL3 : (Int × Unit) × Hp) (R3 : (Int × Unit) × Hp → Prop) : Prop :=
cnd (decide (sL3.1.1 ≤ sL1.1.2.1)) (
idxS a0_data.a a0_data.len sL3.1.1 2 fun (p76 : Addr) =>
ldA (.int .u64) sL3.2 p76 fun (t77 : Int) =>
ldA (.int .i64) sL3.2 (Addr.add p76 1) fun (t78 : Int) =>
idxS a0_data.a a0_data.len a1_a 2 fun (p79 : Addr) =>
ldA (.int .u64) sL3.2 p79 fun (t80 : Int) =>
ldA (.int .i64) sL3.2 (Addr.add p79 1) fun (t81 : Int) =>
callV Try.prog a4_cmp [.agg #[.int .u64 t77, .int .i64 t78], .agg #[.int .u64 t80, .int .i64 t81]] [.at (.int .i64)] sL3.2 fun (s : Int × Unit) (h83 : Hp) =>
cnd (decide (s.1 < 0)) (
Let (IntKind.wrap .i64 (sL3.1.1 + 1) : Int) fun (t84 : Int) =>
R3 ((t84, ()), h83)) (
J4 (sL3.1.1, ()) h83)) (
J4 (sL3.1.1, ()) sL3.2)
def L1_slices_partitionCmpFunc_api_Hit (a0_data : Sl) (a1_a : Int) (a4_cmp : Value) (J3 : Int × Unit → Hp → Prop) (sL1 : (Int × Int × Unit) × Hp) (R1 : (Int × Int × Unit) × Hp → Prop) : Prop :=
Jn (J4_slices_partitionCmpFunc_api_Hit a0_data a1_a a4_cmp J3 sL1 R1) fun (J4 : Int × Unit → Hp → Prop) =>
∃ n, Lp (L3_slices_partitionCmpFunc_api_Hit a0_data a1_a a4_cmp sL1 J4) n ((sL1.1.1, ()), sL1.2)
def J2_slices_partitionCmpFunc_api_Hit (a0_data : Sl) (a1_a : Int) (a4_cmp : Value) (K : Int → Bool → Hp → Prop) (sJ1 : Int × Unit) (sJ2 : Int × Unit) (hJ2 : Hp) : Prop :=
cnd (decide (sJ1.1 > sJ2.1)) (
idxS a0_data.a a0_data.len a1_a 2 fun (p15 : Addr) =>
ldA (.int .u64) hJ2 p15 fun (t16 : Int) =>
ldA (.int .i64) hJ2 (Addr.add p15 1) fun (t17 : Int) =>
idxS a0_data.a a0_data.len sJ2.1 2 fun (p18 : Addr) =>
ldA (.int .u64) hJ2 p18 fun (t19 : Int) =>
ldA (.int .i64) hJ2 (Addr.add p18 1) fun (t20 : Int) =>
idxS a0_data.a a0_data.len sJ2.1 2 fun (p21 : Addr) =>
stC hJ2 p21 (
Let (hset hJ2 p21 (.int .u64 t16)) fun (h22 : Hp) =>
stC h22 (Addr.add p21 1) (
Let (hset h22 (Addr.add p21 1) (.int .i64 t17)) fun (h23 : Hp) =>
idxS a0_data.a a0_data.len a1_a 2 fun (p24 : Addr) =>
stC h23 p24 (
Let (hset h23 p24 (.int .u64 t19)) fun (h25 : Hp) =>
stC h25 (Addr.add p24 1) (
Let (hset h25 (Addr.add p24 1) (.int .i64 t20)) fun (h26 : Hp) =>
K sJ2.1 true h26))))) (
idxS a0_data.a a0_data.len sJ2.1 2 fun (p27 : Addr) =>
ldA (.int .u64) hJ2 p27 fun (t28 : Int) =>
ldA (.int .i64) hJ2 (Addr.add p27 1) fun (t29 : Int) =>
idxS a0_data.a a0_data.len sJ1.1 2 fun (p30 : Addr) =>
ldA (.int .u64) hJ2 p30 fun (t31 : Int) =>
ldA (.int .i64) hJ2 (Addr.add p30 1) fun (t32 : Int) =>
idxS a0_data.a a0_data.len sJ1.1 2 fun (p33 : Addr) =>
stC hJ2 p33 (
Let (hset hJ2 p33 (.int .u64 t28)) fun (h34 : Hp) =>
stC h34 (Addr.add p33 1) (
Let (hset h34 (Addr.add p33 1) (.int .i64 t29)) fun (h35 : Hp) =>
idxS a0_data.a a0_data.len sJ2.1 2 fun (p36 : Addr) =>
stC h35 p36 (
Let (hset h35 p36 (.int .u64 t31)) fun (h37 : Hp) =>
stC h37 (Addr.add p36 1) (
Let (hset h37 (Addr.add p36 1) (.int .i64 t32)) fun (h38 : Hp) =>
Let (IntKind.wrap .i64 (sJ1.1 + 1) : Int) fun (t39 : Int) =>
Let (IntKind.wrap .i64 (sJ2.1 - 1) : Int) fun (t40 : Int) =>
Jn (J3_slices_partitionCmpFunc_api_Hit a0_data a1_a K) fun (J3 : Int × Unit → Hp → Prop) =>
∃ n, Lp (L1_slices_partitionCmpFunc_api_Hit a0_data a1_a a4_cmp J3) n ((t39, t40, ()), h38))))))
def L4_slices_partitionCmpFunc_api_Hit (a0_data : Sl) (a1_a : Int) (a4_cmp : Value) (sJ1 : Int × Unit) (J2 : Int × Unit → Hp → Prop) (sL4 : (Int × Unit) × Hp) (R4 : (Int × Unit) × Hp → Prop) : Prop :=
cnd (decide (sJ1.1 ≤ sL4.1.1)) (
idxS a0_data.a a0_data.len sL4.1.1 2 fun (p85 : Addr) =>
ldA (.int .u64) sL4.2 p85 fun (t86 : Int) =>
ldA (.int .i64) sL4.2 (Addr.add p85 1) fun (t87 : Int) =>
idxS a0_data.a a0_data.len a1_a 2 fun (p88 : Addr) =>
ldA (.int .u64) sL4.2 p88 fun (t89 : Int) =>
ldA (.int .i64) sL4.2 (Addr.add p88 1) fun (t90 : Int) =>
callV Try.prog a4_cmp [.agg #[.int .u64 t86, .int .i64 t87], .agg #[.int .u64 t89, .int .i64 t90]] [.at (.int .i64)] sL4.2 fun (s : Int × Unit) (h92 : Hp) =>
cnd (!(decide (s.1 < 0))) (
Let (IntKind.wrap .i64 (sL4.1.1 - 1) : Int) fun (t93 : Int) =>
R4 ((t93, ()), h92)) (
J2 (sL4.1.1, ()) h92)) (
J2 (sL4.1.1, ()) sL4.2)
def J1_slices_partitionCmpFunc_api_Hit (a0_data : Sl) (a1_a : Int) (a4_cmp : Value) (K : Int → Bool → Hp → Prop) (t14 : Int) (sJ1 : Int × Unit) (hJ1 : Hp) : Prop :=
Jn (J2_slices_partitionCmpFunc_api_Hit a0_data a1_a a4_cmp K sJ1) fun (J2 : Int × Unit → Hp → Prop) =>
∃ n, Lp (L4_slices_partitionCmpFunc_api_Hit a0_data a1_a a4_cmp sJ1 J2) n ((t14, ()), hJ1)
def L5_slices_partitionCmpFunc_api_Hit (a0_data : Sl) (a1_a : Int) (a4_cmp : Value) (t14 : Int) (J1 : Int × Unit → Hp → Prop) (sL5 : (Int × Unit) × Hp) (R5 : (Int × Unit) × Hp → Prop) : Prop :=
cnd (decide (sL5.1.1 ≤ t14)) (
idxS a0_data.a a0_data.len sL5.1.1 2 fun (p94 : Addr) =>
ldA (.int .u64) sL5.2 p94 fun (t95 : Int) =>
ldA (.int .i64) sL5.2 (Addr.add p94 1) fun (t96 : Int) =>
idxS a0_data.a a0_data.len a1_a 2 fun (p97 : Addr) =>
ldA (.int .u64) sL5.2 p97 fun (t98 : Int) =>
ldA (.int .i64) sL5.2 (Addr.add p97 1) fun (t99 : Int) =>
callV Try.prog a4_cmp [.agg #[.int .u64 t95, .int .i64 t96], .agg #[.int .u64 t98, .int .i64 t99]] [.at (.int .i64)] sL5.2 fun (s : Int × Unit) (h101 : Hp) =>
cnd (decide (s.1 < 0)) (
Let (IntKind.wrap .i64 (sL5.1.1 + 1) : Int) fun (t102 : Int) =>
R5 ((t102, ()), h101)) (
J1 (sL5.1.1, ()) h101)) (
J1 (sL5.1.1, ()) sL5.2)
def F_slices_partitionCmpFunc_api_Hit (a0_data : Sl) (a1_a : Int) (a2_b : Int) (a3_pivot : Int) (a4_cmp : Value) (h : Hp) (K : Int → Bool → Hp → Prop) : Prop :=
idxS a0_data.a a0_data.len a3_pivot 2 fun (p1 : Addr) =>
ldA (.int .u64) h p1 fun (t2 : Int) =>
ldA (.int .i64) h (Addr.add p1 1) fun (t3 : Int) =>
idxS a0_data.a a0_data.len a1_a 2 fun (p4 : Addr) =>
ldA (.int .u64) h p4 fun (t5 : Int) =>
ldA (.int .i64) h (Addr.add p4 1) fun (t6 : Int) =>
idxS a0_data.a a0_data.len a1_a 2 fun (p7 : Addr) =>
stC h p7 (
Let (hset h p7 (.int .u64 t2)) fun (h8 : Hp) =>
stC h8 (Addr.add p7 1) (
Let (hset h8 (Addr.add p7 1) (.int .i64 t3)) fun (h9 : Hp) =>
idxS a0_data.a a0_data.len a3_pivot 2 fun (p10 : Addr) =>
stC h9 p10 (
Let (hset h9 p10 (.int .u64 t5)) fun (h11 : Hp) =>
stC h11 (Addr.add p10 1) (
Let (hset h11 (Addr.add p10 1) (.int .i64 t6)) fun (h12 : Hp) =>
Let (IntKind.wrap .i64 (a1_a + 1) : Int) fun (t13 : Int) =>
Let (IntKind.wrap .i64 (a2_b - 1) : Int) fun (t14 : Int) =>
Jn (J1_slices_partitionCmpFunc_api_Hit a0_data a1_a a4_cmp K t14) fun (J1 : Int × Unit → Hp → Prop) =>
∃ n, Lp (L5_slices_partitionCmpFunc_api_Hit a0_data a1_a a4_cmp t14 J1) n ((t13, ()), h12)))))

theorem F_slices_partitionCmpFunc_api_Hit_ok (a0_data : Sl) (a1_a : Int) (a2_b : Int) (a3_pivot : Int) (a4_cmp : Value) (h : Hp) (K : Int → Bool → Hp → Prop) (hF : F_slices_partitionCmpFunc_api_Hit a0_data a1_a a2_b a3_pivot a4_cmp h K) : C_slices_partitionCmpFunc_api_Hit a0_data a1_a a2_b a3_pivot a4_cmp h K := by
  have e : bodyVC Try.prog Try.f49 (.seq .no (.seq .no (.seq .no (.join [(12, .at (.int .i64))] (.block (.loop [(12, .at (.int .i64))] (.seq (.seq .no (.cond .no .no)) (.block .no)))) (.join [(13, .at (.int .i64))] (.block (.loop [(13, .at (.int .i64))] (.seq (.seq .no (.cond .no .no)) (.block .no)))) (.seq (.seq .no (.cond (.seq .no (.seq .no .no)) .no)) (.seq .no (.seq .no (.seq .no (.join [(13, .at (.int .i64))] (.block (.loop [(12, .at (.int .i64)), (13, .at (.int .i64))] (.block (.join [(12, .at (.int .i64))] (.block (.loop [(12, .at (.int .i64))] (.seq (.seq .no (.cond .no .no)) (.block .no)))) (.join [(13, .at (.int .i64))] (.block (.loop [(13, .at (.int .i64))] (.seq (.seq .no (.cond .no .no)) (.block .no)))) (.seq (.seq .no (.cond .no .no)) (.seq .no (.seq .no .no)))))))) (.seq .no (.seq .no .no)))))))))))) (Option.getD Try.f49.body .skip) [.slice a0_data.a a0_data.len a0_data.cap, .int .i64 a1_a, .int .i64 a2_b, .int .i64 a3_pivot, a4_cmp] h [.at (.int .i64), .at .bool] (fun s h => K s.1 s.2.1 h) = F_slices_partitionCmpFunc_api_Hit a0_data a1_a a2_b a3_pivot a4_cmp h K := by kernel_rfl
  exact fun_sound mixed Try.func49 rfl (e.mpr hF)

def J2_math_bits_Len32 (K : Int → Hp → Prop) (sJ2 : Int × Int × Unit) (hJ2 : Hp) : Prop :=
Let (IntKind.wrap .u8 (sJ2.1) : Int) fun (t1 : Int) =>
idxStr (ByteArray.mk #[0, 1, 2, 2, 3, 3, 3, 3, 4, 4, 4, 4, 4, 4, 4, 4, 5, 5, 5, 5, 5, 5, 5, 5, 5, 5, 5, 5, 5, 5, 5, 5, 6, 6, 6, 6, 6, 6, 6, 6, 6, 6, 6, 6, 6, 6, 6, 6, 6, 6, 6, 6, 6, 6, 6, 6, 6, 6, 6, 6, 6, 6, 6, 6, 7, 7, 7, 7, 7, 7, 7, 7, 7, 7, 7, 7, 7, 7, 7, 7, 7, 7, 7, 7, 7, 7, 7, 7, 7, 7, 7, 7, 7, 7, 7, 7, 7, 7, 7, 7, 7, 7, 7, 7, 7, 7, 7, 7, 7, 7, 7, 7, 7, 7, 7, 7, 7, 7, 7, 7, 7, 7, 7, 7, 7, 7, 7, 7, 8, 8, 8, 8, 8, 8, 8, 8, 8, 8, 8, 8, 8, 8, 8, 8, 8, 8, 8, 8, 8, 8, 8, 8, 8, 8, 8, 8, 8, 8, 8, 8, 8, 8, 8, 8, 8, 8, 8, 8, 8, 8, 8, 8, 8, 8, 8, 8, 8, 8, 8, 8, 8, 8, 8, 8, 8, 8, 8, 8, 8, 8, 8, 8, 8, 8, 8, 8, 8, 8, 8, 8, 8, 8, 8, 8, 8, 8, 8, 8, 8, 8, 8, 8, 8, 8, 8, 8, 8, 8, 8, 8, 8, 8, 8, 8, 8, 8, 8, 8, 8, 8, 8, 8, 8, 8, 8, 8, 8, 8, 8, 8, 8, 8, 8, 8, 8, 8, 8, 8, 8, 8, 8, 8, 8, 8, 8, 8]) t1 fun (t2 : Int) =>
Let (IntKind.wrap .i64 (t2) : Int) fun (t3 : Int) =>
Let (IntKind.wrap .i64 (sJ2.2.1 + t3) : Int) fun (t4 : Int) =>
K t4 hJ2
def J1_math_bits_Len32 (K : Int → Hp → Prop) (sJ1 : Int × Int × Unit) (hJ1 : Hp) : Prop :=
Jn (J2_math_bits_Len32 K) fun (J2 : Int × Int × Unit → Hp → Prop) =>
cnd (decide (sJ1.1 ≥ 256)) (
Let (Int.fdiv sJ1.1 (2 ^ min (Int.toNat 8) (IntKind.bits .u32)) : Int) fun (t5 : Int) =>
Let (IntKind.wrap .i64 (sJ1.2.1 + 8) : Int) fun (t6 : Int) =>
J2 (t5, t6, ()) hJ1) (
J2 (sJ1.1, sJ1.2.1, ()) hJ1)
def F_math_bits_Len32 (a0_x : Int) (h : Hp) (K : Int → Hp → Prop) : Prop :=
Jn (J1_math_bits_Len32 K) fun (J1 : Int × Int × Unit → Hp → Prop) =>
cnd (decide (a0_x ≥ 65536)) (
Let (Int.fdiv a0_x (2 ^ min (Int.toNat 16) (IntKind.bits .u32)) : Int) fun (t7 : Int) =>
J1 (t7, 16, ()) h) (
J1 (a0_x, 0, ()) h)

theorem F_math_bits_Len32_ok (a0_x : Int) (h : Hp) (K : Int → Hp → Prop) (hF : F_math_bits_Len32 a0_x h K) : C_math_bits_Len32 a0_x h K := by
  have e : bodyVC Try.prog Try.f50 (.seq .no (.join [(0, .at (.int .u32)), (2, .at (.int .i64))] (.seq .no (.cond (.seq .no .no) .no)) (.join [(0, .at (.int .u32)), (2, .at (.int .i64))] (.seq .no (.cond (.seq .no .no) .no)) (.seq .no .no)))) (Option.getD Try.f50.body .skip) [.int .u32 a0_x] h [.at (.int .i64)] (fun s h => K s.1 h) = F_math_bits_Len32 a0_x h K := by kernel_rfl
  exact fun_sound mixed Try.func50 rfl (e.mpr hF)

def J3_math_bits_Len64 (K : Int → Hp → Prop) (sJ3 : Int × Int × Unit) (hJ3 : Hp) : Prop :=
Let (IntKind.wrap .u8 (sJ3.1) : Int) fun (t1 : Int) =>
idxStr (ByteArray.mk #[0, 1, 2, 2, 3, 3, 3, 3, 4, 4, 4, 4, 4, 4, 4, 4, 5, 5, 5, 5, 5, 5, 5, 5, 5, 5, 5, 5, 5, 5, 5, 5, 6, 6, 6, 6, 6, 6, 6, 6, 6, 6, 6, 6, 6, 6, 6, 6, 6, 6, 6, 6, 6, 6, 6, 6, 6, 6, 6, 6, 6, 6, 6, 6, 7, 7, 7, 7, 7, 7, 7, 7, 7, 7, 7, 7, 7, 7, 7, 7, 7, 7, 7, 7, 7, 7, 7, 7, 7, 7, 7, 7, 7, 7, 7, 7, 7, 7, 7, 7, 7, 7, 7, 7, 7, 7, 7, 7, 7, 7, 7, 7, 7, 7, 7, 7, 7, 7, 7, 7, 7, 7, 7, 7, 7, 7, 7, 7, 8, 8, 8, 8, 8, 8, 8, 8, 8, 8, 8, 8, 8, 8, 8, 8, 8, 8, 8, 8, 8, 8, 8, 8, 8, 8, 8, 8, 8, 8, 8, 8, 8, 8, 8, 8, 8, 8, 8, 8, 8, 8, 8, 8, 8, 8, 8, 8, 8, 8, 8, 8, 8, 8, 8, 8, 8, 8, 8, 8, 8, 8, 8, 8, 8, 8, 8, 8, 8, 8, 8, 8, 8, 8, 8, 8, 8, 8, 8, 8, 8, 8, 8, 8, 8, 8, 8, 8, 8, 8, 8, 8, 8, 8, 8, 8, 8, 8, 8, 8, 8, 8, 8, 8, 8, 8, 8, 8, 8, 8, 8, 8, 8, 8, 8, 8, 8, 8, 8, 8, 8, 8, 8, 8, 8, 8, 8, 8]) t1 fun (t2 : Int) =>
Let (IntKind.wrap .i64 (t2) : Int) fun (t3 : Int) =>
Let (IntKind.wrap .i64 (sJ3.2.1 + t3) : Int) fun (t4 : Int) =>
K t4 hJ3
def J2_math_bits_Len64 (K : Int → Hp → Prop) (sJ2 : Int × Int × Unit) (hJ2 : Hp) : Prop :=
Jn (J3_math_bits_Len64 K) fun (J3 : Int × Int × Unit → Hp → Prop) =>
cnd (decide (sJ2.1 ≥ 256)) (
((0 : Int) ≤ 8) ∧ (
Let (Int.fdiv sJ2.1 (2 ^ min (Int.toNat 8) (IntKind.bits .u64)) : Int) fun (t5 : Int) =>
Let (IntKind.wrap .i64 (sJ2.2.1 + 8) : Int) fun (t6 : Int) =>
J3 (t5, t6, ()) hJ2)) (
J3 (sJ2.1, sJ2.2.1, ()) hJ2)
def J1_math_bits_Len64 (K : Int → Hp → Prop) (sJ1 : Int × Int × Unit) (hJ1 : Hp) : Prop :=
Jn (J2_math_bits_Len64 K) fun (J2 : Int × Int × Unit → Hp → Prop) =>
cnd (decide (sJ1.1 ≥ 65536)) (
((0 : Int) ≤ 16) ∧ (
Let (Int.fdiv sJ1.1 (2 ^ min (Int.toNat 16) (IntKind.bits .u64)) : Int) fun (t7 : Int) =>
Let (IntKind.wrap .i64 (sJ1.2.1 + 16) : Int) fun (t8 : Int) =>
J2 (t7, t8, ()) hJ1)) (
J2 (sJ1.1, sJ1.2.1, ()) hJ1)
def F_math_bits_Len64 (a0_x : Int) (h : Hp) (K : Int → Hp → Prop) : Prop :=
Jn (J1_math_bits_Len64 K) fun (J1 : Int × Int × Unit → Hp → Prop) =>
cnd (decide (a0_x ≥ 4294967296)) (
((0 : Int) ≤ 32) ∧ (
Let (Int.fdiv a0_x (2 ^ min (Int.toNat 32) (IntKind.bits .u64)) : Int) fun (t9 : Int) =>
J1 (t9, 32, ()) h)) (
J1 (a0_x, 0, ()) h)

theorem F_math_bits_Len64_ok (a0_x : Int) (h : Hp) (K : Int → Hp → Prop) (hF : F_math_bits_Len64 a0_x h K) : C_math_bits_Len64 a0_x h K := by
  have e : bodyVC Try.prog Try.f51 (.seq .no (.join [(0, .at (.int .u64)), (2, .at (.int .i64))] (.seq .no (.cond (.seq .no .no) .no)) (.join [(0, .at (.int .u64)), (2, .at (.int .i64))] (.seq .no (.cond (.seq .no .no) .no)) (.join [(0, .at (.int .u64)), (2, .at (.int .i64))] (.seq .no (.cond (.seq .no .no) .no)) (.seq .no .no))))) (Option.getD Try.f51.body .skip) [.int .u64 a0_x] h [.at (.int .i64)] (fun s h => K s.1 h) = F_math_bits_Len64 a0_x h K := by kernel_rfl
  exact fun_sound mixed Try.func51 rfl (e.mpr hF)

def J1_slices_siftDownCmpFunc_api_Hit (a0_data : Sl) (a3_first : Int) (a4_cmp : Value) (K : Hp → Prop) (sL1 : (Int × Unit) × Hp) (R1 : (Int × Unit) × Hp → Prop) (sJ1 : Int × Unit) (hJ1 : Hp) : Prop :=
Let (IntKind.wrap .i64 (a3_first + sL1.1.1) : Int) fun (t3 : Int) =>
idxS a0_data.a a0_data.len t3 2 fun (p4 : Addr) =>
ldA (.int .u64) hJ1 p4 fun (t5 : Int) =>
ldA (.int .i64) hJ1 (Addr.add p4 1) fun (t6 : Int) =>
Let (IntKind.wrap .i64 (a3_first + sJ1.1) : Int) fun (t7 : Int) =>
idxS a0_data.a a0_data.len t7 2 fun (p8 : Addr) =>
ldA (.int .u64) hJ1 p8 fun (t9 : Int) =>
ldA (.int .i64) hJ1 (Addr.add p8 1) fun (t10 : Int) =>
callV Try.prog a4_cmp [.agg #[.int .u64 t5, .int .i64 t6], .agg #[.int .u64 t9, .int .i64 t10]] [.at (.int .i64)] hJ1 fun (s : Int × Unit) (h12 : Hp) =>
cnd (!(decide (s.1 < 0))) (
K h12) (
Let (IntKind.wrap .i64 (a3_first + sL1.1.1) : Int) fun (t13 : Int) =>
Let (IntKind.wrap .i64 (a3_first + sJ1.1) : Int) fun (t14 : Int) =>
Let (IntKind.wrap .i64 (a3_first + sJ1.1) : Int) fun (t15 : Int) =>
idxS a0_data.a a0_data.len t15 2 fun (p16 : Addr) =>
ldA (.int .u64) h12 p16 fun (t17 : Int) =>
ldA (.int .i64) h12 (Addr.add p16 1) fun (t18 : Int) =>
Let (IntKind.wrap .i64 (a3_first + sL1.1.1) : Int) fun (t19 : Int) =>
idxS a0_data.a a0_data.len t19 2 fun (p20 : Addr) =>
ldA (.int .u64) h12 p20 fun (t21 : Int) =>
ldA (.int .i64) h12 (Addr.add p20 1) fun (t22 : Int) =>
idxS a0_data.a a0_data.len t13 2 fun (p23 : Addr) =>
stC h12 p23 (
Let (hset h12 p23 (.int .u64 t17)) fun (h24 : Hp) =>
stC h24 (Addr.add p23 1) (
Let (hset h24 (Addr.add p23 1) (.int .i64 t18)) fun (h25 : Hp) =>
idxS a0_data.a a0_data.len t14 2 fun (p26 : Addr) =>
stC h25 p26 (
Let (hset h25 p26 (.int .u64 t21)) fun (h27 : Hp) =>
stC h27 (Addr.add p26 1) (
Let (hset h27 (Addr.add p26 1) (.int .i64 t22)) fun (h28 : Hp) =>
R1 ((sJ1.1, ()), h28))))))
def J2_slices_siftDownCmpFunc_api_Hit (t2 : Int) (J1 : Int × Unit → Hp → Prop) (sJ2 : Bool × Unit) (hJ2 : Hp) : Prop :=
cnd sJ2.1 (
Let (IntKind.wrap .i64 (t2 + 1) : Int) fun (t29 : Int) =>
J1 (t29, ()) hJ2) (
J1 (t2, ()) hJ2)
def L1_slices_siftDownCmpFunc_api_Hit (a0_data : Sl) (a2_hi : Int) (a3_first : Int) (a4_cmp : Value) (K : Hp → Prop) (sL1 : (Int × Unit) × Hp) (R1 : (Int × Unit) × Hp → Prop) : Prop :=
Let (IntKind.wrap .i64 ((2 : Int) * sL1.1.1) : Int) fun (t1 : Int) =>
Let (IntKind.wrap .i64 (t1 + 1) : Int) fun (t2 : Int) =>
cnd (decide (t2 ≥ a2_hi)) (
K sL1.2) (
Jn (J1_slices_siftDownCmpFunc_api_Hit a0_data a3_first a4_cmp K sL1 R1) fun (J1 : Int × Unit → Hp → Prop) =>
Jn (J2_slices_siftDownCmpFunc_api_Hit t2 J1) fun (J2 : Bool × Unit → Hp → Prop) =>
Let (IntKind.wrap .i64 (t2 + 1) : Int) fun (t30 : Int) =>
cnd (decide (t30 < a2_hi)) (
Let (IntKind.wrap .i64 (a3_first + t2) : Int) fun (t31 : Int) =>
idxS a0_data.a a0_data.len t31 2 fun (p32 : Addr) =>
ldA (.int .u64) sL1.2 p32 fun (t33 : Int) =>
ldA (.int .i64) sL1.2 (Addr.add p32 1) fun (t34 : Int) =>
Let (IntKind.wrap .i64 (a3_first + t2) : Int) fun (t35 : Int) =>
Let (IntKind.wrap .i64 (t35 + 1) : Int) fun (t36 : Int) =>
idxS a0_data.a a0_data.len t36 2 fun (p37 : Addr) =>
ldA (.int .u64) sL1.2 p37 fun (t38 : Int) =>
ldA (.int .i64) sL1.2 (Addr.add p37 1) fun (t39 : Int) =>
callV Try.prog a4_cmp [.agg #[.int .u64 t33, .int .i64 t34], .agg #[.int .u64 t38, .int .i64 t39]] [.at (.int .i64)] sL1.2 fun (s : Int × Unit) (h41 : Hp) =>
J2 (decide (s.1 < 0), ()) h41) (
J2 (false, ()) sL1.2))
def F_slices_siftDownCmpFunc_api_Hit (a0_data : Sl) (a1_lo : Int) (a2_hi : Int) (a3_first : Int) (a4_cmp : Value) (h : Hp) (K : Hp → Prop) : Prop :=
∃ n, Lp (L1_slices_siftDownCmpFunc_api_Hit a0_data a2_hi a3_first a4_cmp K) n ((a1_lo, ()), h)

theorem F_slices_siftDownCmpFunc_api_Hit_ok (a0_data : Sl) (a1_lo : Int) (a2_hi : Int) (a3_first : Int) (a4_cmp : Value) (h : Hp) (K : Hp → Prop) (hF : F_slices_siftDownCmpFunc_api_Hit a0_data a1_lo a2_hi a3_first a4_cmp h K) : C_slices_siftDownCmpFunc_api_Hit a0_data a1_lo a2_hi a3_first a4_cmp h K := by
  have e : bodyVC Try.prog Try.f52 (.seq .no (.block (.loop [(10, .at (.int .i64))] (.block (.seq .no (.seq (.seq .no (.cond .no .no)) (.join [(11, .at (.int .i64))] (.join [(40, .at .bool)] .no (.cond .no .no)) (.seq (.seq .no (.cond .no .no)) (.seq .no .no))))))))) (Option.getD Try.f52.body .skip) [.slice a0_data.a a0_data.len a0_data.cap, .int .i64 a1_lo, .int .i64 a2_hi, .int .i64 a3_first, a4_cmp] h [] (fun s h => K h) = F_slices_siftDownCmpFunc_api_Hit a0_data a1_lo a2_hi a3_first a4_cmp h K := by kernel_rfl
  exact fun_sound mixed Try.func52 rfl (e.mpr hF)

def F_slices_nextPowerOfTwo (a0_length : Int) (h : Hp) (K : Int → Hp → Prop) : Prop :=
Let (IntKind.wrap .u64 (a0_length) : Int) fun (t1 : Int) =>
C_math_bits_Len t1 h fun (t2 : Int) (h3 : Hp) =>
((0 : Int) ≤ t2) ∧ (
Let (IntKind.wrap .u64 (1 * 2 ^ min (Int.toNat t2) (IntKind.bits .u64)) : Int) fun (t4 : Int) =>
K t4 h3)

theorem F_slices_nextPowerOfTwo_ok (a0_length : Int) (h : Hp) (K : Int → Hp → Prop) (hF : F_slices_nextPowerOfTwo a0_length h K) : C_slices_nextPowerOfTwo a0_length h K := by
  have e : bodyVC Try.prog Try.f53 (.seq .no (.seq .no .no)) (Option.getD Try.f53.body .skip) [.int .i64 a0_length] h [.at (.int .u64)] (fun s h => K s.1 h) = F_slices_nextPowerOfTwo a0_length h K := by kernel_rfl
  exact fun_sound mixed Try.func53 rfl (e.mpr hF)

def F_slices_xorshift_Next (a0_r : Option Addr) (h : Hp) (K : Int → Hp → Prop) : Prop :=
someA a0_r fun (p1 : Addr) =>
ldA (.int .u64) h p1 fun (t2 : Int) =>
someA a0_r fun (p3 : Addr) =>
ldA (.int .u64) h p3 fun (t4 : Int) =>
((0 : Int) ≤ 13) ∧ (
Let (IntKind.wrap .u64 (t4 * 2 ^ min (Int.toNat 13) (IntKind.bits .u64)) : Int) fun (t5 : Int) =>
Let (ibXor .u64 t2 t5 : Int) fun (t6 : Int) =>
someA a0_r fun (p7 : Addr) =>
((1 : Nat) = 1) ∧ (
stC h p7 (
Let (hset h p7 (.int .u64 t6)) fun (h8 : Hp) =>
someA a0_r fun (p9 : Addr) =>
ldA (.int .u64) h8 p9 fun (t10 : Int) =>
someA a0_r fun (p11 : Addr) =>
ldA (.int .u64) h8 p11 fun (t12 : Int) =>
((0 : Int) ≤ 7) ∧ (
Let (Int.fdiv t12 (2 ^ min (Int.toNat 7) (IntKind.bits .u64)) : Int) fun (t13 : Int) =>
Let (ibXor .u64 t10 t13 : Int) fun (t14 : Int) =>
someA a0_r fun (p15 : Addr) =>
((1 : Nat) = 1) ∧ (
stC h8 p15 (
Let (hset h8 p15 (.int .u64 t14)) fun (h16 : Hp) =>
someA a0_r fun (p17 : Addr) =>
ldA (.int .u64) h16 p17 fun (t18 : Int) =>
someA a0_r fun (p19 : Addr) =>
ldA (.int .u64) h16 p19 fun (t20 : Int) =>
((0 : Int) ≤ 17) ∧ (
Let (IntKind.wrap .u64 (t20 * 2 ^ min (Int.toNat 17) (IntKind.bits .u64)) : Int) fun (t21 : Int) =>
Let (ibXor .u64 t18 t21 : Int) fun (t22 : Int) =>
someA a0_r fun (p23 : Addr) =>
((1 : Nat) = 1) ∧ (
stC h16 p23 (
Let (hset h16 p23 (.int .u64 t22)) fun (h24 : Hp) =>
someA a0_r fun (p25 : Addr) =>
ldA (.int .u64) h24 p25 fun (t26 : Int) =>
K t26 h24)))))))))

theorem F_slices_xorshift_Next_ok (a0_r : Option Addr) (h : Hp) (K : Int → Hp → Prop) (hF : F_slices_xorshift_Next a0_r h K) : C_slices_xorshift_Next a0_r h K := by
  have e : bodyVC Try.prog Try.f54 (.seq .no (.seq .no (.seq .no (.seq .no (.seq .no .no))))) (Option.getD Try.f54.body .skip) [.pointer a0_r] h [.at (.int .u64)] (fun s h => K s.1 h) = F_slices_xorshift_Next a0_r h K := by kernel_rfl
  exact fun_sound mixed Try.func54 rfl (e.mpr hF)

def F_slices_medianAdjacentCmpFunc_api_Hit (a0_data : Sl) (a1_a : Int) (a2_swaps : Option Addr) (a3_cmp : Value) (h : Hp) (K : Int → Hp → Prop) : Prop :=
Let (IntKind.wrap .i64 (a1_a - 1) : Int) fun (t1 : Int) =>
Let (IntKind.wrap .i64 (a1_a + 1) : Int) fun (t2 : Int) =>
C_slices_medianCmpFunc_api_Hit a0_data t1 a1_a t2 a2_swaps a3_cmp h fun (t3 : Int) (h4 : Hp) =>
K t3 h4

theorem F_slices_medianAdjacentCmpFunc_api_Hit_ok (a0_data : Sl) (a1_a : Int) (a2_swaps : Option Addr) (a3_cmp : Value) (h : Hp) (K : Int → Hp → Prop) (hF : F_slices_medianAdjacentCmpFunc_api_Hit a0_data a1_a a2_swaps a3_cmp h K) : C_slices_medianAdjacentCmpFunc_api_Hit a0_data a1_a a2_swaps a3_cmp h K := by
  have e : bodyVC Try.prog Try.f55 (.seq .no (.seq .no .no)) (Option.getD Try.f55.body .skip) [.slice a0_data.a a0_data.len a0_data.cap, .int .i64 a1_a, .pointer a2_swaps, a3_cmp] h [.at (.int .i64)] (fun s h => K s.1 h) = F_slices_medianAdjacentCmpFunc_api_Hit a0_data a1_a a2_swaps a3_cmp h K := by kernel_rfl
  exact fun_sound mixed Try.func55 rfl (e.mpr hF)

def F_slices_medianCmpFunc_api_Hit (a0_data : Sl) (a1_a : Int) (a2_b : Int) (a3_c : Int) (a4_swaps : Option Addr) (a5_cmp : Value) (h : Hp) (K : Int → Hp → Prop) : Prop :=
C_slices_order2CmpFunc_api_Hit a0_data a1_a a2_b a4_swaps a5_cmp h fun (t1 : Int) (t2 : Int) (h3 : Hp) =>
C_slices_order2CmpFunc_api_Hit a0_data t2 a3_c a4_swaps a5_cmp h3 fun (t4 : Int) (t5 : Int) (h6 : Hp) =>
C_slices_order2CmpFunc_api_Hit a0_data t1 t4 a4_swaps a5_cmp h6 fun (t7 : Int) (t8 : Int) (h9 : Hp) =>
K t8 h9

theorem F_slices_medianCmpFunc_api_Hit_ok (a0_data : Sl) (a1_a : Int) (a2_b : Int) (a3_c : Int) (a4_swaps : Option Addr) (a5_cmp : Value) (h : Hp) (K : Int → Hp → Prop) (hF : F_slices_medianCmpFunc_api_Hit a0_data a1_a a2_b a3_c a4_swaps a5_cmp h K) : C_slices_medianCmpFunc_api_Hit a0_data a1_a a2_b a3_c a4_swaps a5_cmp h K := by
  have e : bodyVC Try.prog Try.f56 (.seq .no (.seq .no (.seq .no (.seq .no (.seq .no .no))))) (Option.getD Try.f56.body .skip) [.slice a0_data.a a0_data.len a0_data.cap, .int .i64 a1_a, .int .i64 a2_b, .int .i64 a3_c, .pointer a4_swaps, a5_cmp] h [.at (.int .i64)] (fun s h => K s.1 h) = F_slices_medianCmpFunc_api_Hit a0_data a1_a a2_b a3_c a4_swaps a5_cmp h K := by kernel_rfl
  exact fun_sound mixed Try.func56 rfl (e.mpr hF)

def F_slices_order2CmpFunc_api_Hit (a0_data : Sl) (a1_a : Int) (a2_b : Int) (a3_swaps : Option Addr) (a4_cmp : Value) (h : Hp) (K : Int → Int → Hp → Prop) : Prop :=
idxS a0_data.a a0_data.len a2_b 2 fun (p1 : Addr) =>
ldA (.int .u64) h p1 fun (t2 : Int) =>
ldA (.int .i64) h (Addr.add p1 1) fun (t3 : Int) =>
idxS a0_data.a a0_data.len a1_a 2 fun (p4 : Addr) =>
ldA (.int .u64) h p4 fun (t5 : Int) =>
ldA (.int .i64) h (Addr.add p4 1) fun (t6 : Int) =>
callV Try.prog a4_cmp [.agg #[.int .u64 t2, .int .i64 t3], .agg #[.int .u64 t5, .int .i64 t6]] [.at (.int .i64)] h fun (s : Int × Unit) (h8 : Hp) =>
cnd (decide (s.1 < 0)) (
someA a3_swaps fun (p9 : Addr) =>
ldA (.int .i64) h8 p9 fun (t10 : Int) =>
Let (IntKind.wrap .i64 (t10 + 1) : Int) fun (t11 : Int) =>
someA a3_swaps fun (p12 : Addr) =>
((1 : Nat) = 1) ∧ (
stC h8 p12 (
Let (hset h8 p12 (.int .i64 t11)) fun (h13 : Hp) =>
K a2_b a1_a h13))) (
K a1_a a2_b h8)

theorem F_slices_order2CmpFunc_api_Hit_ok (a0_data : Sl) (a1_a : Int) (a2_b : Int) (a3_swaps : Option Addr) (a4_cmp : Value) (h : Hp) (K : Int → Int → Hp → Prop) (hF : F_slices_order2CmpFunc_api_Hit a0_data a1_a a2_b a3_swaps a4_cmp h K) : C_slices_order2CmpFunc_api_Hit a0_data a1_a a2_b a3_swaps a4_cmp h K := by
  have e : bodyVC Try.prog Try.f57 (.seq .no (.seq (.seq .no (.cond (.seq .no (.seq .no .no)) .no)) (.seq .no .no))) (Option.getD Try.f57.body .skip) [.slice a0_data.a a0_data.len a0_data.cap, .int .i64 a1_a, .int .i64 a2_b, .pointer a3_swaps, a4_cmp] h [.at (.int .i64), .at (.int .i64)] (fun s h => K s.1 s.2.1 h) = F_slices_order2CmpFunc_api_Hit a0_data a1_a a2_b a3_swaps a4_cmp h K := by kernel_rfl
  exact fun_sound mixed Try.func57 rfl (e.mpr hF)

end Go.Proofs.YtfopgddogcbodaaF
