/- The formulas of the seat's functions and the proofs that they are enough, printed by gen.py of this session. No condition. -/
import Derived.Test.YtlbpmophbmbfiaaProg
import Derived.Test.YtlbpmophbmbfiaaK7
namespace Go.Proofs.YtlbpmophbmbfiaaF
open Go Go.Proofs.YtlbpmophbmbfiaaK Go.Proofs
set_option linter.unusedVariables false
set_option maxRecDepth 100000
theorem mixed : Try.prog.follows .mixedOrders = true := by kernel_rfl
def C_gosem_cut_init  (h : Hp) (K : Hp → Prop) : Prop :=
  CallT Try.prog 2 [] [] h fun s h => K h
def C_law17_ScanPairs (a0_x : Int) (a1_x : Sl) (a2_x : Int) (a3_x : Sl) (a4_x : ByteArray) (a5_x : Int) (a6_x : Int) (h : Hp) (K : Bool → Hp → Prop) : Prop :=
  CallT Try.prog 3 [.agg #[.int .i64 a0_x, .slice a1_x.a a1_x.len a1_x.cap, .int .i64 a2_x, .slice a3_x.a a3_x.len a3_x.cap, .string a4_x, .int .i64 a5_x, .int .i64 a6_x]] [.at .bool] h fun s h => K s.1 h
def C_law17_ScanTells (a0_x : Int) (a1_x : Sl) (a2_x : Int) (a3_x : Sl) (a4_x : ByteArray) (a5_x : Int) (a6_x : Int) (h : Hp) (K : Bool → Hp → Prop) : Prop :=
  CallT Try.prog 4 [.agg #[.int .i64 a0_x, .slice a1_x.a a1_x.len a1_x.cap, .int .i64 a2_x, .slice a3_x.a a3_x.len a3_x.cap, .string a4_x, .int .i64 a5_x, .int .i64 a6_x]] [.at .bool] h fun s h => K s.1 h
def C_law17_ScanNone (a0_x : Int) (a1_x : Sl) (a2_x : Int) (a3_x : Sl) (a4_x : ByteArray) (a5_x : Int) (a6_x : Int) (h : Hp) (K : Bool → Hp → Prop) : Prop :=
  CallT Try.prog 5 [.agg #[.int .i64 a0_x, .slice a1_x.a a1_x.len a1_x.cap, .int .i64 a2_x, .slice a3_x.a a3_x.len a3_x.cap, .string a4_x, .int .i64 a5_x, .int .i64 a6_x]] [.at .bool] h fun s h => K s.1 h
def C_ref17_Short (a0_l : Sl) (a1_q : Sl) (a2_many : Int) (a3_most : Int) (h : Hp) (K : Bool → Hp → Prop) : Prop :=
  CallT Try.prog 6 [.slice a0_l.a a0_l.len a0_l.cap, .slice a1_q.a a1_q.len a1_q.cap, .int .i64 a2_many, .int .i64 a3_most] [.at .bool] h fun s h => K s.1 h
def C_law17_lives  (h : Hp) (K : Bool → Hp → Prop) : Prop :=
  CallT Try.prog 7 [] [.at .bool] h fun s h => K s.1 h
def C_metric_New (a0_metric : Int) (h : Hp) (K : Option Addr → Hp → Prop) : Prop :=
  CallT Try.prog 8 [.int .i64 a0_metric] [.at .ptr] h fun s h => K s.1 h
def C_scan_Pairs (a0_m : Option Addr) (a1_l : Sl) (a2_r : Int) (h : Hp) (K : Sl → Hp → Prop) : Prop :=
  CallT Try.prog 9 [.pointer a0_m, .slice a1_l.a a1_l.len a1_l.cap, .int .i64 a2_r] [.at .sl] h fun s h => K s.1 h
def C_ref09_Dist (a0_metric : Int) (a1_x : Int) (a2_x : Sl) (a3_x : ByteArray) (a4_y : Int) (a5_y : Sl) (a6_y : ByteArray) (h : Hp) (K : Int → Hp → Prop) : Prop :=
  CallT Try.prog 10 [.int .i64 a0_metric, .agg #[.int .i64 a1_x, .slice a2_x.a a2_x.len a2_x.cap, .string a3_x], .agg #[.int .i64 a4_y, .slice a5_y.a a5_y.len a5_y.cap, .string a6_y]] [.at (.int .i64)] h fun s h => K s.1 h
def C_metric_Meter_Calls (a0_m : Option Addr) (h : Hp) (K : Int → Hp → Prop) : Prop :=
  CallT Try.prog 11 [.pointer a0_m] [.at (.int .i64)] h fun s h => K s.1 h
def C_ref17_All (a0_metric : Int) (a1_l : Sl) (a2_q : Int) (a3_q : Sl) (a4_q : ByteArray) (h : Hp) (K : Sl → Hp → Prop) : Prop :=
  CallT Try.prog 12 [.int .i64 a0_metric, .slice a1_l.a a1_l.len a1_l.cap, .agg #[.int .i64 a2_q, .slice a3_q.a a3_q.len a3_q.cap, .string a4_q]] [.at .sl] h fun s h => K s.1 h
def C_ref11_Same (a0_a : Sl) (a1_b : Sl) (h : Hp) (K : Bool → Hp → Prop) : Prop :=
  CallT Try.prog 13 [.slice a0_a.a a0_a.len a0_a.cap, .slice a1_b.a a1_b.len a1_b.cap] [.at .bool] h fun s h => K s.1 h
def C_scan_All (a0_m : Option Addr) (a1_l : Sl) (a2_q : Int) (a3_q : Sl) (a4_q : ByteArray) (h : Hp) (K : Sl → Hp → Prop) : Prop :=
  CallT Try.prog 14 [.pointer a0_m, .slice a1_l.a a1_l.len a1_l.cap, .agg #[.int .i64 a2_q, .slice a3_q.a a3_q.len a3_q.cap, .string a4_q]] [.at .sl] h fun s h => K s.1 h
def C_scan_Range (a0_m : Option Addr) (a1_l : Sl) (a2_q : Int) (a3_q : Sl) (a4_q : ByteArray) (a5_r : Int) (h : Hp) (K : Sl → Hp → Prop) : Prop :=
  CallT Try.prog 15 [.pointer a0_m, .slice a1_l.a a1_l.len a1_l.cap, .agg #[.int .i64 a2_q, .slice a3_q.a a3_q.len a3_q.cap, .string a4_q], .int .i64 a5_r] [.at .sl] h fun s h => K s.1 h
def C_ref11_Within (a0_l : Sl) (a1_r : Int) (h : Hp) (K : Sl → Hp → Prop) : Prop :=
  CallT Try.prog 16 [.slice a0_l.a a0_l.len a0_l.cap, .int .i64 a1_r] [.at .sl] h fun s h => K s.1 h
def C_scan_Near (a0_m : Option Addr) (a1_l : Sl) (a2_q : Int) (a3_q : Sl) (a4_q : ByteArray) (a5_k : Int) (h : Hp) (K : Sl → Hp → Prop) : Prop :=
  CallT Try.prog 17 [.pointer a0_m, .slice a1_l.a a1_l.len a1_l.cap, .agg #[.int .i64 a2_q, .slice a3_q.a a3_q.len a3_q.cap, .string a4_q], .int .i64 a5_k] [.at .sl] h fun s h => K s.1 h
def C_ref11_First (a0_l : Sl) (a1_k : Int) (h : Hp) (K : Sl → Hp → Prop) : Prop :=
  CallT Try.prog 18 [.slice a0_l.a a0_l.len a0_l.cap, .int .i64 a1_k] [.at .sl] h fun s h => K s.1 h
def C_ref09_Short (a0_l : Sl) (a1_most : Int) (h : Hp) (K : Bool → Hp → Prop) : Prop :=
  CallT Try.prog 19 [.slice a0_l.a a0_l.len a0_l.cap, .int .i64 a1_most] [.at .bool] h fun s h => K s.1 h
def C_metric_Meter_Upto (a0_m : Option Addr) (a1_x : Int) (a2_x : Sl) (a3_x : ByteArray) (a4_y : Int) (a5_y : Sl) (a6_y : ByteArray) (a7_most : Int) (h : Hp) (K : Int → Bool → Hp → Prop) : Prop :=
  CallT Try.prog 20 [.pointer a0_m, .agg #[.int .i64 a1_x, .slice a2_x.a a2_x.len a2_x.cap, .string a3_x], .agg #[.int .i64 a4_y, .slice a5_y.a a5_y.len a5_y.cap, .string a6_y], .int .i64 a7_most] [.at (.int .i64), .at .bool] h fun s h => K s.1 s.2.1 h
def C_ref06_Dist (a0_a : Sl) (a1_b : Sl) (h : Hp) (K : Int → Hp → Prop) : Prop :=
  CallT Try.prog 21 [.slice a0_a.a a0_a.len a0_a.cap, .slice a1_b.a a1_b.len a1_b.cap] [.at (.int .i64)] h fun s h => K s.1 h
def C_ref07_Dist (a0_a : ByteArray) (a1_b : ByteArray) (h : Hp) (K : Int → Hp → Prop) : Prop :=
  CallT Try.prog 22 [.string a0_a, .string a1_b] [.at (.int .i64)] h fun s h => K s.1 h
def C_ref08_Dist (a0_a : ByteArray) (a1_b : ByteArray) (h : Hp) (K : Int → Hp → Prop) : Prop :=
  CallT Try.prog 23 [.string a0_a, .string a1_b] [.at (.int .i64)] h fun s h => K s.1 h
def C_ref11_Put (a0_l : Sl) (a1_h : Int) (a2_h : Int) (h : Hp) (K : Sl → Hp → Prop) : Prop :=
  CallT Try.prog 24 [.slice a0_l.a a0_l.len a0_l.cap, .agg #[.int .u64 a1_h, .int .i64 a2_h]] [.at .sl] h fun s h => K s.1 h
def C_metric_Meter_Dist (a0_m : Option Addr) (a1_x : Int) (a2_x : Sl) (a3_x : ByteArray) (a4_y : Int) (a5_y : Sl) (a6_y : ByteArray) (h : Hp) (K : Int → Hp → Prop) : Prop :=
  CallT Try.prog 25 [.pointer a0_m, .agg #[.int .i64 a1_x, .slice a2_x.a a2_x.len a2_x.cap, .string a3_x], .agg #[.int .i64 a4_y, .slice a5_y.a a5_y.len a5_y.cap, .string a6_y]] [.at (.int .i64)] h fun s h => K s.1 h
def C_hits_Sort (a0_l : Sl) (h : Hp) (K : Sl → Hp → Prop) : Prop :=
  CallT Try.prog 26 [.slice a0_l.a a0_l.len a0_l.cap] [.at .sl] h fun s h => K s.1 h
def C_best_New (a0_k : Int) (h : Hp) (K : Option Addr → Hp → Prop) : Prop :=
  CallT Try.prog 27 [.int .i64 a0_k] [.at .ptr] h fun s h => K s.1 h
def C_best_Best_Add (a0_b : Option Addr) (a1_h : Int) (a2_h : Int) (h : Hp) (K : Bool → Hp → Prop) : Prop :=
  CallT Try.prog 28 [.pointer a0_b, .agg #[.int .u64 a1_h, .int .i64 a2_h]] [.at .bool] h fun s h => K s.1 h
def C_best_Best_List (a0_b : Option Addr) (h : Hp) (K : Sl → Hp → Prop) : Prop :=
  CallT Try.prog 29 [.pointer a0_b] [.at .sl] h fun s h => K s.1 h
def C_metric_Upto (a0_metric : Int) (a1_x : Int) (a2_x : Sl) (a3_x : ByteArray) (a4_y : Int) (a5_y : Sl) (a6_y : ByteArray) (a7_most : Int) (h : Hp) (K : Int → Bool → Hp → Prop) : Prop :=
  CallT Try.prog 30 [.int .i64 a0_metric, .agg #[.int .i64 a1_x, .slice a2_x.a a2_x.len a2_x.cap, .string a3_x], .agg #[.int .i64 a4_y, .slice a5_y.a a5_y.len a5_y.cap, .string a6_y], .int .i64 a7_most] [.at (.int .i64), .at .bool] h fun s h => K s.1 s.2.1 h
def C_ref06_pad (a0_a : Sl) (a1_n : Int) (h : Hp) (K : Sl → Hp → Prop) : Prop :=
  CallT Try.prog 31 [.slice a0_a.a a0_a.len a0_a.cap, .int .i64 a1_n] [.at .sl] h fun s h => K s.1 h
def C_ref11_Less (a0_a : Int) (a1_a : Int) (a2_b : Int) (a3_b : Int) (h : Hp) (K : Bool → Hp → Prop) : Prop :=
  CallT Try.prog 32 [.agg #[.int .u64 a0_a, .int .i64 a1_a], .agg #[.int .u64 a2_b, .int .i64 a3_b]] [.at .bool] h fun s h => K s.1 h
def C_metric_Dist (a0_metric : Int) (a1_x : Int) (a2_x : Sl) (a3_x : ByteArray) (a4_y : Int) (a5_y : Sl) (a6_y : ByteArray) (h : Hp) (K : Int → Hp → Prop) : Prop :=
  CallT Try.prog 33 [.int .i64 a0_metric, .agg #[.int .i64 a1_x, .slice a2_x.a a2_x.len a2_x.cap, .string a3_x], .agg #[.int .i64 a4_y, .slice a5_y.a a5_y.len a5_y.cap, .string a6_y]] [.at (.int .i64)] h fun s h => K s.1 h
def C_slices_Clone_api_Hit_api_Hit (a0_s : Sl) (h : Hp) (K : Sl → Hp → Prop) : Prop :=
  CallT Try.prog 34 [.slice a0_s.a a0_s.len a0_s.cap] [.at .sl] h fun s h => K s.1 h
def C_slices_SortFunc_api_Hit_api_Hit (a0_x : Sl) (a1_cmp : Value) (h : Hp) (K : Hp → Prop) : Prop :=
  CallT Try.prog 35 [.slice a0_x.a a0_x.len a0_x.cap, a1_cmp] [] h fun s h => K h
def C_hits_Cmp (a0_a : Int) (a1_a : Int) (a2_b : Int) (a3_b : Int) (h : Hp) (K : Int → Hp → Prop) : Prop :=
  CallT Try.prog 36 [.agg #[.int .u64 a0_a, .int .i64 a1_a], .agg #[.int .u64 a2_b, .int .i64 a3_b]] [.at (.int .i64)] h fun s h => K s.1 h
def C_best_New_1 (a0_a : Int) (a1_a : Int) (a2_b : Int) (a3_b : Int) (h : Hp) (K : Int → Hp → Prop) : Prop :=
  CallT Try.prog 37 [.agg #[.int .u64 a0_a, .int .i64 a1_a], .agg #[.int .u64 a2_b, .int .i64 a3_b]] [.at (.int .i64)] h fun s h => K s.1 h
def C_heap_New_api_Hit (a0_order : Value) (h : Hp) (K : Option Addr → Hp → Prop) : Prop :=
  CallT Try.prog 38 [a0_order] [.at .ptr] h fun s h => K s.1 h
def C_heap_Heap_api_Hit_Top (a0_h : Option Addr) (h : Hp) (K : Int → Int → Bool → Hp → Prop) : Prop :=
  CallT Try.prog 39 [.pointer a0_h] [.agg [(.int .u64), (.int .i64)], .at .bool] h fun s h => K s.1.1 s.1.2.1 s.2.1 h
def C_best_Best_Full (a0_b : Option Addr) (h : Hp) (K : Bool → Hp → Prop) : Prop :=
  CallT Try.prog 40 [.pointer a0_b] [.at .bool] h fun s h => K s.1 h
def C_heap_Heap_api_Hit_Pop (a0_h : Option Addr) (h : Hp) (K : Int → Int → Bool → Hp → Prop) : Prop :=
  CallT Try.prog 41 [.pointer a0_h] [.agg [(.int .u64), (.int .i64)], .at .bool] h fun s h => K s.1.1 s.1.2.1 s.2.1 h
def C_heap_Heap_api_Hit_Push (a0_h : Option Addr) (a1_x : Int) (a2_x : Int) (h : Hp) (K : Hp → Prop) : Prop :=
  CallT Try.prog 42 [.pointer a0_h, .agg #[.int .u64 a1_x, .int .i64 a2_x]] [] h fun s h => K h
def C_heap_Heap_api_Hit_All (a0_h : Option Addr) (h : Hp) (K : Sl → Hp → Prop) : Prop :=
  CallT Try.prog 43 [.pointer a0_h] [.at .sl] h fun s h => K s.1 h
def C_lone_Upto (a0_a : Sl) (a1_b : Sl) (a2_most : Int) (h : Hp) (K : Int → Bool → Hp → Prop) : Prop :=
  CallT Try.prog 44 [.slice a0_a.a a0_a.len a0_a.cap, .slice a1_b.a a1_b.len a1_b.cap, .int .i64 a2_most] [.at (.int .i64), .at .bool] h fun s h => K s.1 s.2.1 h
def C_ham_Upto (a0_a : ByteArray) (a1_b : ByteArray) (a2_most : Int) (h : Hp) (K : Int → Bool → Hp → Prop) : Prop :=
  CallT Try.prog 45 [.string a0_a, .string a1_b, .int .i64 a2_most] [.at (.int .i64), .at .bool] h fun s h => K s.1 s.2.1 h
def C_lev_Upto (a0_a : ByteArray) (a1_b : ByteArray) (a2_most : Int) (h : Hp) (K : Int → Bool → Hp → Prop) : Prop :=
  CallT Try.prog 46 [.string a0_a, .string a1_b, .int .i64 a2_most] [.at (.int .i64), .at .bool] h fun s h => K s.1 s.2.1 h
def C_lone_Dist (a0_a : Sl) (a1_b : Sl) (h : Hp) (K : Int → Hp → Prop) : Prop :=
  CallT Try.prog 47 [.slice a0_a.a a0_a.len a0_a.cap, .slice a1_b.a a1_b.len a1_b.cap] [.at (.int .i64)] h fun s h => K s.1 h
def C_ham_Dist (a0_a : ByteArray) (a1_b : ByteArray) (h : Hp) (K : Int → Hp → Prop) : Prop :=
  CallT Try.prog 48 [.string a0_a, .string a1_b] [.at (.int .i64)] h fun s h => K s.1 h
def C_lev_Dist (a0_a : ByteArray) (a1_b : ByteArray) (h : Hp) (K : Int → Hp → Prop) : Prop :=
  CallT Try.prog 49 [.string a0_a, .string a1_b] [.at (.int .i64)] h fun s h => K s.1 h
def C_slices_pdqsortCmpFunc_api_Hit (a0_data : Sl) (a1_a : Int) (a2_b : Int) (a3_limit : Int) (a4_cmp : Value) (h : Hp) (K : Hp → Prop) : Prop :=
  CallT Try.prog 50 [.slice a0_data.a a0_data.len a0_data.cap, .int .i64 a1_a, .int .i64 a2_b, .int .i64 a3_limit, a4_cmp] [] h fun s h => K h
def C_math_bits_Len (a0_x : Int) (h : Hp) (K : Int → Hp → Prop) : Prop :=
  CallT Try.prog 51 [.int .u64 a0_x] [.at (.int .i64)] h fun s h => K s.1 h
def C_cmp_Or_int (a0_vals : Sl) (h : Hp) (K : Int → Hp → Prop) : Prop :=
  CallT Try.prog 52 [.slice a0_vals.a a0_vals.len a0_vals.cap] [.at (.int .i64)] h fun s h => K s.1 h
def C_cmp_Compare_int (a0_x : Int) (a1_y : Int) (h : Hp) (K : Int → Hp → Prop) : Prop :=
  CallT Try.prog 53 [.int .i64 a0_x, .int .i64 a1_y] [.at (.int .i64)] h fun s h => K s.1 h
def C_cmp_Compare_uint64 (a0_x : Int) (a1_y : Int) (h : Hp) (K : Int → Hp → Prop) : Prop :=
  CallT Try.prog 54 [.int .u64 a0_x, .int .u64 a1_y] [.at (.int .i64)] h fun s h => K s.1 h
def C_heap_Heap_api_Hit_Len (a0_h : Option Addr) (h : Hp) (K : Int → Hp → Prop) : Prop :=
  CallT Try.prog 55 [.pointer a0_h] [.at (.int .i64)] h fun s h => K s.1 h
def C_heap_Heap_api_Hit_swap (a0_h : Option Addr) (a1_i : Int) (a2_k : Int) (h : Hp) (K : Hp → Prop) : Prop :=
  CallT Try.prog 56 [.pointer a0_h, .int .i64 a1_i, .int .i64 a2_k] [] h fun s h => K h
def C_heap_Heap_api_Hit_down (a0_h : Option Addr) (a1_i : Int) (h : Hp) (K : Hp → Prop) : Prop :=
  CallT Try.prog 57 [.pointer a0_h, .int .i64 a1_i] [] h fun s h => K h
def C_heap_Heap_api_Hit_up (a0_h : Option Addr) (a1_i : Int) (h : Hp) (K : Hp → Prop) : Prop :=
  CallT Try.prog 58 [.pointer a0_h, .int .i64 a1_i] [] h fun s h => K h
def C_lone_places (a0_a : Sl) (a1_b : Sl) (h : Hp) (K : Value → Hp → Prop) : Prop :=
  CallT Try.prog 59 [.slice a0_a.a a0_a.len a0_a.cap, .slice a1_b.a a1_b.len a1_b.cap] [.at .raw] h fun s h => K s.1 h
def C_ham_longer (a0_a : ByteArray) (a1_b : ByteArray) (h : Hp) (K : Int → Hp → Prop) : Prop :=
  CallT Try.prog 60 [.string a0_a, .string a1_b] [.at (.int .i64)] h fun s h => K s.1 h
def C_lev_Trim (a0_a : ByteArray) (a1_b : ByteArray) (h : Hp) (K : ByteArray → ByteArray → Hp → Prop) : Prop :=
  CallT Try.prog 61 [.string a0_a, .string a1_b] [.at .str, .at .str] h fun s h => K s.1 s.2.1 h
def C_lev_first (a0_n : Int) (h : Hp) (K : Sl → Hp → Prop) : Prop :=
  CallT Try.prog 62 [.int .i64 a0_n] [.at .sl] h fun s h => K s.1 h
def C_lev_band_step (a0_x : Int) (a1_x : Sl) (a2_n : Int) (a3_c : Int) (a4_b : ByteArray) (a5_most : Int) (h : Hp) (K : Int → Sl → Hp → Prop) : Prop :=
  CallT Try.prog 63 [.agg #[.int .i64 a0_x, .slice a1_x.a a1_x.len a1_x.cap], .int .i64 a2_n, .int .u8 a3_c, .string a4_b, .int .i64 a5_most] [.agg [(.int .i64), .sl]] h fun s h => K s.1.1 s.1.2.1 h
def C_lev_band_at (a0_x : Int) (a1_x : Sl) (a2_i : Int) (a3_far : Int) (h : Hp) (K : Int → Hp → Prop) : Prop :=
  CallT Try.prog 64 [.agg #[.int .i64 a0_x, .slice a1_x.a a1_x.len a1_x.cap], .int .i64 a2_i, .int .i64 a3_far] [.at (.int .i64)] h fun s h => K s.1 h
def C_ham_Places (a0_a : ByteArray) (a1_b : ByteArray) (h : Hp) (K : Sl → Hp → Prop) : Prop :=
  CallT Try.prog 65 [.string a0_a, .string a1_b] [.at .sl] h fun s h => K s.1 h
def C_lev_next (a0_row : Sl) (a1_c : Int) (a2_b : ByteArray) (h : Hp) (K : Sl → Hp → Prop) : Prop :=
  CallT Try.prog 66 [.slice a0_row.a a0_row.len a0_row.cap, .int .u8 a1_c, .string a2_b] [.at .sl] h fun s h => K s.1 h
def C_slices_insertionSortCmpFunc_api_Hit (a0_data : Sl) (a1_a : Int) (a2_b : Int) (a3_cmp : Value) (h : Hp) (K : Hp → Prop) : Prop :=
  CallT Try.prog 67 [.slice a0_data.a a0_data.len a0_data.cap, .int .i64 a1_a, .int .i64 a2_b, a3_cmp] [] h fun s h => K h
def C_slices_heapSortCmpFunc_api_Hit (a0_data : Sl) (a1_a : Int) (a2_b : Int) (a3_cmp : Value) (h : Hp) (K : Hp → Prop) : Prop :=
  CallT Try.prog 68 [.slice a0_data.a a0_data.len a0_data.cap, .int .i64 a1_a, .int .i64 a2_b, a3_cmp] [] h fun s h => K h
def C_slices_breakPatternsCmpFunc_api_Hit (a0_data : Sl) (a1_a : Int) (a2_b : Int) (a3_cmp : Value) (h : Hp) (K : Hp → Prop) : Prop :=
  CallT Try.prog 69 [.slice a0_data.a a0_data.len a0_data.cap, .int .i64 a1_a, .int .i64 a2_b, a3_cmp] [] h fun s h => K h
def C_slices_choosePivotCmpFunc_api_Hit (a0_data : Sl) (a1_a : Int) (a2_b : Int) (a3_cmp : Value) (h : Hp) (K : Int → Int → Hp → Prop) : Prop :=
  CallT Try.prog 70 [.slice a0_data.a a0_data.len a0_data.cap, .int .i64 a1_a, .int .i64 a2_b, a3_cmp] [.at (.int .i64), .at (.int .i64)] h fun s h => K s.1 s.2.1 h
def C_slices_reverseRangeCmpFunc_api_Hit (a0_data : Sl) (a1_a : Int) (a2_b : Int) (a3_cmp : Value) (h : Hp) (K : Hp → Prop) : Prop :=
  CallT Try.prog 71 [.slice a0_data.a a0_data.len a0_data.cap, .int .i64 a1_a, .int .i64 a2_b, a3_cmp] [] h fun s h => K h
def C_slices_partialInsertionSortCmpFunc_api_Hit (a0_data : Sl) (a1_a : Int) (a2_b : Int) (a3_cmp : Value) (h : Hp) (K : Bool → Hp → Prop) : Prop :=
  CallT Try.prog 72 [.slice a0_data.a a0_data.len a0_data.cap, .int .i64 a1_a, .int .i64 a2_b, a3_cmp] [.at .bool] h fun s h => K s.1 h
def C_slices_partitionEqualCmpFunc_api_Hit (a0_data : Sl) (a1_a : Int) (a2_b : Int) (a3_pivot : Int) (a4_cmp : Value) (h : Hp) (K : Int → Hp → Prop) : Prop :=
  CallT Try.prog 73 [.slice a0_data.a a0_data.len a0_data.cap, .int .i64 a1_a, .int .i64 a2_b, .int .i64 a3_pivot, a4_cmp] [.at (.int .i64)] h fun s h => K s.1 h
def C_slices_partitionCmpFunc_api_Hit (a0_data : Sl) (a1_a : Int) (a2_b : Int) (a3_pivot : Int) (a4_cmp : Value) (h : Hp) (K : Int → Bool → Hp → Prop) : Prop :=
  CallT Try.prog 74 [.slice a0_data.a a0_data.len a0_data.cap, .int .i64 a1_a, .int .i64 a2_b, .int .i64 a3_pivot, a4_cmp] [.at (.int .i64), .at .bool] h fun s h => K s.1 s.2.1 h
def C_math_bits_Len32 (a0_x : Int) (h : Hp) (K : Int → Hp → Prop) : Prop :=
  CallT Try.prog 75 [.int .u32 a0_x] [.at (.int .i64)] h fun s h => K s.1 h
def C_math_bits_Len64 (a0_x : Int) (h : Hp) (K : Int → Hp → Prop) : Prop :=
  CallT Try.prog 76 [.int .u64 a0_x] [.at (.int .i64)] h fun s h => K s.1 h
def C_cmp_isNaN_int (a0_x : Int) (h : Hp) (K : Bool → Hp → Prop) : Prop :=
  CallT Try.prog 77 [.int .i64 a0_x] [.at .bool] h fun s h => K s.1 h
def C_cmp_isNaN_uint64 (a0_x : Int) (h : Hp) (K : Bool → Hp → Prop) : Prop :=
  CallT Try.prog 78 [.int .u64 a0_x] [.at .bool] h fun s h => K s.1 h
def C_heap_Heap_api_Hit_first (a0_h : Option Addr) (a1_i : Int) (h : Hp) (K : Int → Hp → Prop) : Prop :=
  CallT Try.prog 79 [.pointer a0_h, .int .i64 a1_i] [.at (.int .i64)] h fun s h => K s.1 h
def C_lone_places_1 (a0_yield : Value) (a1_t : Option Addr) (a2_t : Option Addr) (h : Hp) (K : Hp → Prop) : Prop :=
  CallT Try.prog 80 [a0_yield, .pointer a1_t, .pointer a2_t] [] h fun s h => K h
def C_lone_apart (a0_x : Int) (a1_y : Int) (h : Hp) (K : Int → Hp → Prop) : Prop :=
  CallT Try.prog 81 [.int .i32 a0_x, .int .i32 a1_y] [.at (.int .i64)] h fun s h => K s.1 h
def C_lone_at (a0_a : Sl) (a1_i : Int) (h : Hp) (K : Int → Hp → Prop) : Prop :=
  CallT Try.prog 82 [.slice a0_a.a a0_a.len a0_a.cap, .int .i64 a1_i] [.at (.int .i32)] h fun s h => K s.1 h
def C_slices_siftDownCmpFunc_api_Hit (a0_data : Sl) (a1_lo : Int) (a2_hi : Int) (a3_first : Int) (a4_cmp : Value) (h : Hp) (K : Hp → Prop) : Prop :=
  CallT Try.prog 83 [.slice a0_data.a a0_data.len a0_data.cap, .int .i64 a1_lo, .int .i64 a2_hi, .int .i64 a3_first, a4_cmp] [] h fun s h => K h
def C_slices_nextPowerOfTwo (a0_length : Int) (h : Hp) (K : Int → Hp → Prop) : Prop :=
  CallT Try.prog 84 [.int .i64 a0_length] [.at (.int .u64)] h fun s h => K s.1 h
def C_slices_xorshift_Next (a0_r : Option Addr) (h : Hp) (K : Int → Hp → Prop) : Prop :=
  CallT Try.prog 85 [.pointer a0_r] [.at (.int .u64)] h fun s h => K s.1 h
def C_slices_medianAdjacentCmpFunc_api_Hit (a0_data : Sl) (a1_a : Int) (a2_swaps : Option Addr) (a3_cmp : Value) (h : Hp) (K : Int → Hp → Prop) : Prop :=
  CallT Try.prog 86 [.slice a0_data.a a0_data.len a0_data.cap, .int .i64 a1_a, .pointer a2_swaps, a3_cmp] [.at (.int .i64)] h fun s h => K s.1 h
def C_slices_medianCmpFunc_api_Hit (a0_data : Sl) (a1_a : Int) (a2_b : Int) (a3_c : Int) (a4_swaps : Option Addr) (a5_cmp : Value) (h : Hp) (K : Int → Hp → Prop) : Prop :=
  CallT Try.prog 87 [.slice a0_data.a a0_data.len a0_data.cap, .int .i64 a1_a, .int .i64 a2_b, .int .i64 a3_c, .pointer a4_swaps, a5_cmp] [.at (.int .i64)] h fun s h => K s.1 h
def C_slices_order2CmpFunc_api_Hit (a0_data : Sl) (a1_a : Int) (a2_b : Int) (a3_swaps : Option Addr) (a4_cmp : Value) (h : Hp) (K : Int → Int → Hp → Prop) : Prop :=
  CallT Try.prog 88 [.slice a0_data.a a0_data.len a0_data.cap, .int .i64 a1_a, .int .i64 a2_b, .pointer a3_swaps, a4_cmp] [.at (.int .i64), .at (.int .i64)] h fun s h => K s.1 s.2.1 h
def J1_law17_ScanPairs (K : Bool → Hp → Prop) (p2 : Addr) (t9 : Option Addr) (t13 : Sl) (sJ1 : Int × Unit) (hJ1 : Hp) : Prop :=
cnd (sJ1.1 == (t13.len : Int)) (
C_metric_Meter_Calls t9 hJ1 fun (t15 : Int) (h16 : Hp) =>
Ext hJ1 h16 ∧ (
ldA .sl hJ1 (Addr.add p2 1) fun (t17 : Sl) =>
ldA .sl hJ1 (Addr.add p2 1) fun (t18 : Sl) =>
Let (IntKind.wrap .i64 ((t18.len : Int) - 1) : Int) fun (t19 : Int) =>
Let (IntKind.wrap .i64 ((t17.len : Int) * t19) : Int) fun (t20 : Int) =>
(2 ≠ (0 : Int)) ∧ (
Let (IntKind.wrap .i64 (Int.tdiv t20 2) : Int) fun (t21 : Int) =>
cnd (t15 == t21) (
C_law17_lives  h16 fun (t22 : Bool) (h23 : Hp) =>
K t22 h23) (
K false h16)))) (
K false hJ1)
def L2_law17_ScanPairs (K : Bool → Hp → Prop) (p2 : Addr) (t13 : Sl) (sL1 : (Int × Int × Unit) × Hp) (R1 : (Int × Int × Unit) × Hp → Prop) (sL2 : (Int × Int × Unit) × Hp) (R2 : (Int × Int × Unit) × Hp → Prop) : Prop :=
ldA .sl sL2.2 (Addr.add p2 1) fun (t26 : Sl) =>
cnd (decide (sL2.1.2.1 < (t26.len : Int))) (
ldA (.int .i64) sL2.2 p2 fun (t27 : Int) =>
ldA .sl sL2.2 (Addr.add p2 1) fun (t28 : Sl) =>
idxS t28.a t28.len sL1.1.2.1 4 fun (p29 : Addr) =>
ldA (.int .i64) sL2.2 (Addr.add p29 1) fun (t30 : Int) =>
ldA .sl sL2.2 (Addr.add (Addr.add p29 1) 1) fun (t31 : Sl) =>
ldA .str sL2.2 (Addr.add (Addr.add p29 1) 2) fun (t32 : ByteArray) =>
ldA .sl sL2.2 (Addr.add p2 1) fun (t33 : Sl) =>
idxS t33.a t33.len sL2.1.2.1 4 fun (p34 : Addr) =>
ldA (.int .i64) sL2.2 (Addr.add p34 1) fun (t35 : Int) =>
ldA .sl sL2.2 (Addr.add (Addr.add p34 1) 1) fun (t36 : Sl) =>
ldA .str sL2.2 (Addr.add (Addr.add p34 1) 2) fun (t37 : ByteArray) =>
C_ref09_Dist t27 t30 t31 t32 t35 t36 t37 sL2.2 fun (t38 : Int) (h39 : Hp) =>
ldA (.int .i64) h39 (Addr.add p2 5) fun (t40 : Int) =>
cnd (decide (t38 > t40)) (
Let (IntKind.wrap .i64 (sL2.1.2.1 + 1) : Int) fun (t41 : Int) =>
R2 ((sL2.1.1, t41, ()), h39)) (
cnd (decide (sL2.1.1 ≥ (t13.len : Int))) (
K false h39) (
idxS t13.a t13.len sL2.1.1 3 fun (p42 : Addr) =>
ldA (.int .i64) h39 p42 fun (t43 : Int) =>
cnd (t43 != sL1.1.2.1) (
K false h39) (
idxS t13.a t13.len sL2.1.1 3 fun (p44 : Addr) =>
ldA (.int .i64) h39 (Addr.add p44 1) fun (t45 : Int) =>
cnd (t45 != sL2.1.2.1) (
K false h39) (
idxS t13.a t13.len sL2.1.1 3 fun (p46 : Addr) =>
ldA (.int .i64) h39 (Addr.add p46 2) fun (t47 : Int) =>
cnd (t47 != t38) (
K false h39) (
Let (IntKind.wrap .i64 (sL2.1.1 + 1) : Int) fun (t48 : Int) =>
Let (IntKind.wrap .i64 (sL2.1.2.1 + 1) : Int) fun (t49 : Int) =>
R2 ((t48, t49, ()), h39))))))) (
Let (IntKind.wrap .i64 (sL1.1.2.1 + 1) : Int) fun (t50 : Int) =>
R1 ((sL2.1.1, t50, ()), sL2.2))
def L1_law17_ScanPairs (K : Bool → Hp → Prop) (p2 : Addr) (t13 : Sl) (J1 : Int × Unit → Hp → Prop) (sL1 : (Int × Int × Unit) × Hp) (R1 : (Int × Int × Unit) × Hp → Prop) : Prop :=
ldA .sl sL1.2 (Addr.add p2 1) fun (t24 : Sl) =>
cnd (decide (sL1.1.2.1 < (t24.len : Int))) (
Let (IntKind.wrap .i64 (sL1.1.2.1 + 1) : Int) fun (t25 : Int) =>
∃ n, Lp (L2_law17_ScanPairs K p2 t13 sL1 R1) n ((sL1.1.1, t25, ()), sL1.2)) (
J1 (sL1.1.1, ()) sL1.2)
def F_law17_ScanPairs (a0_x : Int) (a1_x : Sl) (a2_x : Int) (a3_x : Sl) (a4_x : ByteArray) (a5_x : Int) (a6_x : Int) (h : Hp) (K : Bool → Hp → Prop) : Prop :=
Let (Array.push h (Obj.cells #[.int .i64 a0_x, .slice a1_x.a a1_x.len a1_x.cap, .int .i64 a2_x, .slice a3_x.a a3_x.len a3_x.cap, .string a4_x, .int .i64 a5_x, .int .i64 a6_x] 27)) fun (h1 : Hp) =>
Let (Addr.mk (Array.size h) 0 none) fun (p2 : Addr) =>
ldA .sl h1 (Addr.add p2 1) fun (t3 : Sl) =>
C_ref17_Short t3 (Sl.mk none 0 0) 30 40 h1 fun (t4 : Bool) (h5 : Hp) =>
cnd (!t4) (
C_law17_lives  h5 fun (t6 : Bool) (h7 : Hp) =>
K t6 h7) (
ldA (.int .i64) h5 p2 fun (t8 : Int) =>
C_metric_New t8 h5 fun (t9 : Option Addr) (h10 : Hp) =>
ldA .sl h10 (Addr.add p2 1) fun (t11 : Sl) =>
ldA (.int .i64) h10 (Addr.add p2 5) fun (t12 : Int) =>
C_scan_Pairs t9 t11 t12 h10 fun (t13 : Sl) (h14 : Hp) =>
Jn (J1_law17_ScanPairs K p2 t9 t13) fun (J1 : Int × Unit → Hp → Prop) =>
∃ n, Lp (L1_law17_ScanPairs K p2 t13 J1) n ((0, 0, ()), h14))

theorem F_law17_ScanPairs_ok (a0_x : Int) (a1_x : Sl) (a2_x : Int) (a3_x : Sl) (a4_x : ByteArray) (a5_x : Int) (a6_x : Int) (h : Hp) (K : Bool → Hp → Prop) (hF : F_law17_ScanPairs a0_x a1_x a2_x a3_x a4_x a5_x a6_x h K) : C_law17_ScanPairs a0_x a1_x a2_x a3_x a4_x a5_x a6_x h K := by
  have e : bodyVC Try.prog Try.f3 (.seq .no (.seq (.seq .no (.cond (.seq .no .no) .no)) (.seq .no (.seq .no (.seq .no (.join [(5, .at (.int .i64))] (.seq .no (.block (.loop [(5, .at (.int .i64)), (6, .at (.int .i64))] (.seq (.seq .no (.cond .no .no)) (.seq (.block (.seq .no (.block (.loop [(5, .at (.int .i64)), (7, .at (.int .i64))] (.seq (.seq .no (.cond .no .no)) (.seq (.block (.seq .no (.seq (.seq .no (.cond .no .no)) (.seq (.seq .no (.cond (.seq .no .no) .no)) .no)))) .no)))))) .no))))) (.seq .no .no))))))) (Option.getD Try.f3.body .skip) [.agg #[.int .i64 a0_x, .slice a1_x.a a1_x.len a1_x.cap, .int .i64 a2_x, .slice a3_x.a a3_x.len a3_x.cap, .string a4_x, .int .i64 a5_x, .int .i64 a6_x]] h [.at .bool] (fun s h => K s.1 h) = F_law17_ScanPairs a0_x a1_x a2_x a3_x a4_x a5_x a6_x h K := by kernel_rfl
  exact fun_sound mixed Try.func3 rfl (e.mpr hF)

def J2_law17_ScanTells (K : Bool → Hp → Prop) (p2 : Addr) (t14 : Option Addr) (t21 : Sl) (sJ2 : Unit) (hJ2 : Hp) : Prop :=
∃ (S23 : List Nat),
(Addr.block (Addr.add p2 1) ∉ S23) ∧ (
ldA .sl hJ2 (Addr.add p2 1) fun (t24 : Sl) =>
(Addr.block (Addr.add p2 2) ∉ S23) ∧ (
ldA (.int .i64) hJ2 (Addr.add p2 2) fun (t25 : Int) =>
ldA .sl hJ2 (Addr.add (Addr.add p2 2) 1) fun (t26 : Sl) =>
ldA .str hJ2 (Addr.add (Addr.add p2 2) 2) fun (t27 : ByteArray) =>
(Addr.block (Addr.add p2 6) ∉ S23) ∧ (
ldA (.int .i64) hJ2 (Addr.add p2 6) fun (t28 : Int) =>
C_scan_Near t14 t24 t25 t26 t27 t28 hJ2 fun (t29 : Sl) (h30 : Hp) =>
ExtS S23 hJ2 h30 ∧ (
(Addr.block (Addr.add p2 6) ∉ S23) ∧ (
ldA (.int .i64) hJ2 (Addr.add p2 6) fun (t31 : Int) =>
C_ref11_First t21 t31 h30 fun (t32 : Sl) (h33 : Hp) =>
C_ref11_Same t29 t32 h33 fun (t34 : Bool) (h35 : Hp) =>
cnd t34 (
C_metric_Meter_Calls t14 h35 fun (t36 : Int) (h37 : Hp) =>
ExtS S23 h35 h37 ∧ (
(Addr.block (Addr.add p2 1) ∉ S23) ∧ (
ldA .sl h35 (Addr.add p2 1) fun (t38 : Sl) =>
Let (IntKind.wrap .i64 ((3 : Int) * (t38.len : Int)) : Int) fun (t39 : Int) =>
cnd (t36 == t39) (
C_law17_lives  h37 fun (t40 : Bool) (h41 : Hp) =>
K t40 h41) (
K false h37)))) (
K false h35))))))
def J1_law17_ScanTells (K : Bool → Hp → Prop) (p2 : Addr) (t14 : Option Addr) (t21 : Sl) (sJ1 : Unit) (hJ1 : Hp) : Prop :=
Jn (J2_law17_ScanTells K p2 t14 t21) fun (J2 : Unit → Hp → Prop) =>
∃ (S42 : List Nat),
(Addr.block (Addr.add p2 1) ∉ S42) ∧ (
ldA .sl hJ1 (Addr.add p2 1) fun (t43 : Sl) =>
(Addr.block (Addr.add p2 2) ∉ S42) ∧ (
ldA (.int .i64) hJ1 (Addr.add p2 2) fun (t44 : Int) =>
ldA .sl hJ1 (Addr.add (Addr.add p2 2) 1) fun (t45 : Sl) =>
ldA .str hJ1 (Addr.add (Addr.add p2 2) 2) fun (t46 : ByteArray) =>
(Addr.block (Addr.add p2 5) ∉ S42) ∧ (
ldA (.int .i64) hJ1 (Addr.add p2 5) fun (t47 : Int) =>
C_scan_Range t14 t43 t44 t45 t46 t47 hJ1 fun (t48 : Sl) (h49 : Hp) =>
ExtS S42 hJ1 h49 ∧ (
(Addr.block (Addr.add p2 5) ∉ S42) ∧ (
ldA (.int .i64) hJ1 (Addr.add p2 5) fun (t50 : Int) =>
C_ref11_Within t21 t50 h49 fun (t51 : Sl) (h52 : Hp) =>
C_ref11_Same t48 t51 h52 fun (t53 : Bool) (h54 : Hp) =>
cnd (!t53) (
K false h54) (
C_metric_Meter_Calls t14 h54 fun (t55 : Int) (h56 : Hp) =>
ExtS S42 h54 h56 ∧ (
(Addr.block (Addr.add p2 1) ∉ S42) ∧ (
ldA .sl h54 (Addr.add p2 1) fun (t57 : Sl) =>
Let (IntKind.wrap .i64 ((2 : Int) * (t57.len : Int)) : Int) fun (t58 : Int) =>
cnd (t55 != t58) (
K false h56) (
J2 (()) h56)))))))))
def F_law17_ScanTells (a0_x : Int) (a1_x : Sl) (a2_x : Int) (a3_x : Sl) (a4_x : ByteArray) (a5_x : Int) (a6_x : Int) (h : Hp) (K : Bool → Hp → Prop) : Prop :=
Let (Array.push h (Obj.cells #[.int .i64 a0_x, .slice a1_x.a a1_x.len a1_x.cap, .int .i64 a2_x, .slice a3_x.a a3_x.len a3_x.cap, .string a4_x, .int .i64 a5_x, .int .i64 a6_x] 27)) fun (h1 : Hp) =>
Let (Addr.mk (Array.size h) 0 none) fun (p2 : Addr) =>
ldA .sl h1 (Addr.add p2 1) fun (t3 : Sl) =>
ldA (.int .i64) h1 (Addr.add p2 2) fun (t4 : Int) =>
ldA .sl h1 (Addr.add (Addr.add p2 2) 1) fun (t5 : Sl) =>
ldA .str h1 (Addr.add (Addr.add p2 2) 2) fun (t6 : ByteArray) =>
Let (Array.push h1 (Obj.cells #[.int .i64 t4, .slice t5.a t5.len t5.cap, .string t6] 25)) fun (h7 : Hp) =>
Let (Addr.mk (Array.size h1) 0 none) fun (p8 : Addr) =>
C_ref17_Short t3 (Sl.mk (some p8) 1 1) 60 40 h7 fun (t9 : Bool) (h10 : Hp) =>
cnd (!t9) (
C_law17_lives  h10 fun (t11 : Bool) (h12 : Hp) =>
K t11 h12) (
ldA (.int .i64) h10 p2 fun (t13 : Int) =>
C_metric_New t13 h10 fun (t14 : Option Addr) (h15 : Hp) =>
ldA (.int .i64) h15 p2 fun (t16 : Int) =>
ldA .sl h15 (Addr.add p2 1) fun (t17 : Sl) =>
ldA (.int .i64) h15 (Addr.add p2 2) fun (t18 : Int) =>
ldA .sl h15 (Addr.add (Addr.add p2 2) 1) fun (t19 : Sl) =>
ldA .str h15 (Addr.add (Addr.add p2 2) 2) fun (t20 : ByteArray) =>
C_ref17_All t16 t17 t18 t19 t20 h15 fun (t21 : Sl) (h22 : Hp) =>
Jn (J1_law17_ScanTells K p2 t14 t21) fun (J1 : Unit → Hp → Prop) =>
∃ (S59 : List Nat),
(Addr.block (Addr.add p2 1) ∉ S59) ∧ (
ldA .sl h22 (Addr.add p2 1) fun (t60 : Sl) =>
(Addr.block (Addr.add p2 2) ∉ S59) ∧ (
ldA (.int .i64) h22 (Addr.add p2 2) fun (t61 : Int) =>
ldA .sl h22 (Addr.add (Addr.add p2 2) 1) fun (t62 : Sl) =>
ldA .str h22 (Addr.add (Addr.add p2 2) 2) fun (t63 : ByteArray) =>
C_scan_All t14 t60 t61 t62 t63 h22 fun (t64 : Sl) (h65 : Hp) =>
C_ref11_Same t64 t21 h65 fun (t66 : Bool) (h67 : Hp) =>
cnd (!t66) (
K false h67) (
C_metric_Meter_Calls t14 h67 fun (t68 : Int) (h69 : Hp) =>
ExtS S59 h67 h69 ∧ (
(Addr.block (Addr.add p2 1) ∉ S59) ∧ (
ldA .sl h67 (Addr.add p2 1) fun (t70 : Sl) =>
cnd (t68 != (t70.len : Int)) (
K false h69) (
J1 (()) h69)))))))

theorem F_law17_ScanTells_ok (a0_x : Int) (a1_x : Sl) (a2_x : Int) (a3_x : Sl) (a4_x : ByteArray) (a5_x : Int) (a6_x : Int) (h : Hp) (K : Bool → Hp → Prop) (hF : F_law17_ScanTells a0_x a1_x a2_x a3_x a4_x a5_x a6_x h K) : C_law17_ScanTells a0_x a1_x a2_x a3_x a4_x a5_x a6_x h K := by
  have e : bodyVC Try.prog Try.f4 (.seq .no (.seq (.seq .no (.cond (.seq .no .no) .no)) (.seq .no (.seq .no (.join [] (.seq .dr (.cond (.seq .no .no) .no)) (.join [] (.seq .dr (.cond (.seq .no .no) .no)) (.seq .dr .no))))))) (Option.getD Try.f4.body .skip) [.agg #[.int .i64 a0_x, .slice a1_x.a a1_x.len a1_x.cap, .int .i64 a2_x, .slice a3_x.a a3_x.len a3_x.cap, .string a4_x, .int .i64 a5_x, .int .i64 a6_x]] h [.at .bool] (fun s h => K s.1 h) = F_law17_ScanTells a0_x a1_x a2_x a3_x a4_x a5_x a6_x h K := by kernel_rfl
  exact fun_sound mixed Try.func4 rfl (e.mpr hF)

def J1_law17_ScanNone (K : Bool → Hp → Prop) (p2 : Addr) (t12 : Sl) (sJ1 : Unit) (hJ1 : Hp) : Prop :=
ldA .sl hJ1 (Addr.add p2 1) fun (t14 : Sl) =>
cnd ((t12.len : Int) == (t14.len : Int)) (
ldA .sl hJ1 (Addr.add p2 1) fun (t15 : Sl) =>
ldA (.int .i64) hJ1 (Addr.add p2 2) fun (t16 : Int) =>
ldA .sl hJ1 (Addr.add (Addr.add p2 2) 1) fun (t17 : Sl) =>
ldA .str hJ1 (Addr.add (Addr.add p2 2) 2) fun (t18 : ByteArray) =>
ldA (.int .i64) hJ1 (Addr.add p2 5) fun (t19 : Int) =>
C_scan_Range none t15 t16 t17 t18 t19 hJ1 fun (t20 : Sl) (h21 : Hp) =>
cnd ((t20.len : Int) == 0) (
ldA .sl h21 (Addr.add p2 1) fun (t22 : Sl) =>
ldA (.int .i64) h21 (Addr.add p2 5) fun (t23 : Int) =>
C_scan_Pairs none t22 t23 h21 fun (t24 : Sl) (h25 : Hp) =>
cnd ((t24.len : Int) == 0) (
C_law17_lives  h25 fun (t26 : Bool) (h27 : Hp) =>
K t26 h27) (
K false h25)) (
K false h21)) (
K false hJ1)
def L1_law17_ScanNone (K : Bool → Hp → Prop) (t12 : Sl) (J1 : Unit → Hp → Prop) (sL1 : (Int × Unit) × Hp) (R1 : (Int × Unit) × Hp → Prop) : Prop :=
cnd (decide (sL1.1.1 < (t12.len : Int))) (
idxS t12.a t12.len sL1.1.1 2 fun (p28 : Addr) =>
ldA (.int .i64) sL1.2 (Addr.add p28 1) fun (t29 : Int) =>
cnd (t29 != 0) (
K false sL1.2) (
Let (IntKind.wrap .i64 (sL1.1.1 + 1) : Int) fun (t30 : Int) =>
R1 ((t30, ()), sL1.2))) (
J1 (()) sL1.2)
def F_law17_ScanNone (a0_x : Int) (a1_x : Sl) (a2_x : Int) (a3_x : Sl) (a4_x : ByteArray) (a5_x : Int) (a6_x : Int) (h : Hp) (K : Bool → Hp → Prop) : Prop :=
Let (Array.push h (Obj.cells #[.int .i64 a0_x, .slice a1_x.a a1_x.len a1_x.cap, .int .i64 a2_x, .slice a3_x.a a3_x.len a3_x.cap, .string a4_x, .int .i64 a5_x, .int .i64 a6_x] 27)) fun (h1 : Hp) =>
Let (Addr.mk (Array.size h) 0 none) fun (p2 : Addr) =>
ldA .sl h1 (Addr.add p2 1) fun (t3 : Sl) =>
C_ref17_Short t3 (Sl.mk none 0 0) 30 40 h1 fun (t4 : Bool) (h5 : Hp) =>
cnd (!t4) (
C_law17_lives  h5 fun (t6 : Bool) (h7 : Hp) =>
K t6 h7) (
ldA .sl h5 (Addr.add p2 1) fun (t8 : Sl) =>
ldA (.int .i64) h5 (Addr.add p2 2) fun (t9 : Int) =>
ldA .sl h5 (Addr.add (Addr.add p2 2) 1) fun (t10 : Sl) =>
ldA .str h5 (Addr.add (Addr.add p2 2) 2) fun (t11 : ByteArray) =>
C_scan_All none t8 t9 t10 t11 h5 fun (t12 : Sl) (h13 : Hp) =>
Jn (J1_law17_ScanNone K p2 t12) fun (J1 : Unit → Hp → Prop) =>
∃ n, Lp (L1_law17_ScanNone K t12 J1) n ((0, ()), h13))

theorem F_law17_ScanNone_ok (a0_x : Int) (a1_x : Sl) (a2_x : Int) (a3_x : Sl) (a4_x : ByteArray) (a5_x : Int) (a6_x : Int) (h : Hp) (K : Bool → Hp → Prop) (hF : F_law17_ScanNone a0_x a1_x a2_x a3_x a4_x a5_x a6_x h K) : C_law17_ScanNone a0_x a1_x a2_x a3_x a4_x a5_x a6_x h K := by
  have e : bodyVC Try.prog Try.f5 (.seq .no (.seq (.seq .no (.cond (.seq .no .no) .no)) (.seq .no (.join [] (.seq .no (.block (.loop [(4, .at (.int .i64))] (.seq (.seq .no (.cond .no .no)) (.seq (.block (.seq .no (.cond (.seq .no .no) .no))) .no))))) (.seq .no .no))))) (Option.getD Try.f5.body .skip) [.agg #[.int .i64 a0_x, .slice a1_x.a a1_x.len a1_x.cap, .int .i64 a2_x, .slice a3_x.a a3_x.len a3_x.cap, .string a4_x, .int .i64 a5_x, .int .i64 a6_x]] h [.at .bool] (fun s h => K s.1 h) = F_law17_ScanNone a0_x a1_x a2_x a3_x a4_x a5_x a6_x h K := by kernel_rfl
  exact fun_sound mixed Try.func5 rfl (e.mpr hF)

def L1_ref17_Short (a0_l : Sl) (a3_most : Int) (K : Bool → Hp → Prop) (sL1 : (Int × Unit) × Hp) (R1 : (Int × Unit) × Hp → Prop) : Prop :=
cnd (decide (sL1.1.1 < (a0_l.len : Int))) (
idxS a0_l.a a0_l.len sL1.1.1 4 fun (p1 : Addr) =>
ldA (.int .i64) sL1.2 (Addr.add p1 1) fun (t2 : Int) =>
ldA .sl sL1.2 (Addr.add (Addr.add p1 1) 1) fun (t3 : Sl) =>
ldA .str sL1.2 (Addr.add (Addr.add p1 1) 2) fun (t4 : ByteArray) =>
Let (Array.push sL1.2 (Obj.cells #[.int .i64 t2, .slice t3.a t3.len t3.cap, .string t4] 25)) fun (h5 : Hp) =>
Let (Addr.mk (Array.size sL1.2) 0 none) fun (p6 : Addr) =>
C_ref09_Short (Sl.mk (some p6) 1 1) a3_most h5 fun (t7 : Bool) (h8 : Hp) =>
cnd (!t7) (
K false h8) (
Let (IntKind.wrap .i64 (sL1.1.1 + 1) : Int) fun (t9 : Int) =>
R1 ((t9, ()), h8))) (
K true sL1.2)
def J1_ref17_Short (a0_l : Sl) (a3_most : Int) (K : Bool → Hp → Prop) (sJ1 : Unit) (hJ1 : Hp) : Prop :=
∃ n, Lp (L1_ref17_Short a0_l a3_most K) n ((0, ()), hJ1)
def F_ref17_Short (a0_l : Sl) (a1_q : Sl) (a2_many : Int) (a3_most : Int) (h : Hp) (K : Bool → Hp → Prop) : Prop :=
Jn (J1_ref17_Short a0_l a3_most K) fun (J1 : Unit → Hp → Prop) =>
cnd (decide ((a0_l.len : Int) > a2_many)) (
K false h) (
cnd (decide ((a1_q.len : Int) > a2_many)) (
K false h) (
C_ref09_Short a1_q a3_most h fun (t10 : Bool) (h11 : Hp) =>
cnd (!t10) (
K false h11) (
J1 (()) h11)))

theorem F_ref17_Short_ok (a0_l : Sl) (a1_q : Sl) (a2_many : Int) (a3_most : Int) (h : Hp) (K : Bool → Hp → Prop) (hF : F_ref17_Short a0_l a1_q a2_many a3_most h K) : C_ref17_Short a0_l a1_q a2_many a3_most h K := by
  have e : bodyVC Try.prog Try.f6 (.seq .no (.join [] (.seq .no (.cond (.seq .no .no) .no)) (.seq (.seq .no (.block (.loop [(9, .at (.int .i64))] (.seq (.seq .no (.cond .no .no)) (.seq (.block (.seq .no (.cond (.seq .no .no) .no))) .no))))) (.seq .no .no)))) (Option.getD Try.f6.body .skip) [.slice a0_l.a a0_l.len a0_l.cap, .slice a1_q.a a1_q.len a1_q.cap, .int .i64 a2_many, .int .i64 a3_most] h [.at .bool] (fun s h => K s.1 h) = F_ref17_Short a0_l a1_q a2_many a3_most h K := by kernel_rfl
  exact fun_sound mixed Try.func6 rfl (e.mpr hF)

def F_law17_lives  (h : Hp) (K : Bool → Hp → Prop) : Prop :=
Let (Array.push h (Obj.cells #[.int .u64 1, .int .i64 2, .slice none 0 0, .string (ByteArray.mk #[97, 98, 99]), .int .u64 2, .int .i64 2, .slice none 0 0, .string (ByteArray.mk #[97, 98, 100])] 37)) fun (h1 : Hp) =>
Let (Addr.mk (Array.size h) 0 none) fun (p2 : Addr) =>
C_metric_New 2 h1 fun (t3 : Option Addr) (h4 : Hp) =>
C_scan_Near t3 (Sl.mk (some p2) 2 2) 2 (Sl.mk none 0 0) (ByteArray.mk #[97, 98, 100]) 1 h4 fun (t5 : Sl) (h6 : Hp) =>
cnd ((t5.len : Int) == 1) (
idxS t5.a t5.len 0 2 fun (p7 : Addr) =>
ldA (.int .u64) h6 p7 fun (t8 : Int) =>
ldA (.int .i64) h6 (Addr.add p7 1) fun (t9 : Int) =>
K ((t8 == 2) && ((t9 == 0) && true)) h6) (
K false h6)

theorem F_law17_lives_ok  (h : Hp) (K : Bool → Hp → Prop) (hF : F_law17_lives  h K) : C_law17_lives  h K := by
  have e : bodyVC Try.prog Try.f7 (.seq .no (.seq .no (.seq .no (.seq .no .no)))) (Option.getD Try.f7.body .skip) [] h [.at .bool] (fun s h => K s.1 h) = F_law17_lives  h K := by kernel_rfl
  exact fun_sound mixed Try.func7 rfl (e.mpr hF)

def F_metric_New (a0_metric : Int) (h : Hp) (K : Option Addr → Hp → Prop) : Prop :=
Let (Array.push h (Obj.cells #[.int .i64 a0_metric, .int .i64 0] 53)) fun (h1 : Hp) =>
Let (Addr.mk (Array.size h) 0 none) fun (p2 : Addr) =>
K (some p2) h1

theorem F_metric_New_ok (a0_metric : Int) (h : Hp) (K : Option Addr → Hp → Prop) (hF : F_metric_New a0_metric h K) : C_metric_New a0_metric h K := by
  have e : bodyVC Try.prog Try.f8 (.seq .no (.seq .no .no)) (Option.getD Try.f8.body .skip) [.int .i64 a0_metric] h [.at .ptr] (fun s h => K s.1 h) = F_metric_New a0_metric h K := by kernel_rfl
  exact fun_sound mixed Try.func8 rfl (e.mpr hF)

def L2_scan_Pairs (a0_m : Option Addr) (a1_l : Sl) (a2_r : Int) (sL1 : (Sl × Int × Unit) × Hp) (R1 : (Sl × Int × Unit) × Hp → Prop) (p7 : Addr) (sL2 : (Sl × Int × Unit) × Hp) (R2 : (Sl × Int × Unit) × Hp → Prop) : Prop :=
cnd (decide (sL2.1.2.1 < (a1_l.len : Int))) (
ldA (.int .i64) sL2.2 (Addr.add p7 1) fun (t13 : Int) =>
ldA .sl sL2.2 (Addr.add (Addr.add p7 1) 1) fun (t14 : Sl) =>
ldA .str sL2.2 (Addr.add (Addr.add p7 1) 2) fun (t15 : ByteArray) =>
idxS a1_l.a a1_l.len sL2.1.2.1 4 fun (p16 : Addr) =>
ldA (.int .i64) sL2.2 (Addr.add p16 1) fun (t17 : Int) =>
ldA .sl sL2.2 (Addr.add (Addr.add p16 1) 1) fun (t18 : Sl) =>
ldA .str sL2.2 (Addr.add (Addr.add p16 1) 2) fun (t19 : ByteArray) =>
C_metric_Meter_Upto a0_m t13 t14 t15 t17 t18 t19 a2_r sL2.2 fun (t20 : Int) (t21 : Bool) (h22 : Hp) =>
cnd t21 (
Let (Array.push h22 (Obj.cells #[.int .i64 sL1.1.2.1, .int .i64 sL2.1.2.1, .int .i64 t20] 39)) fun (h23 : Hp) =>
Let (Addr.mk (Array.size h22) 0 none) fun (p24 : Addr) =>
appS 39 3 24 [.int .i64 0, .int .i64 0, .int .i64 0] sL2.1.1.a sL2.1.1.len sL2.1.1.cap (.slice (some p24) 1 1) h23 fun (t25 : Sl) (h26 : Hp) =>
Let (IntKind.wrap .i64 (sL2.1.2.1 + 1) : Int) fun (t27 : Int) =>
R2 ((t25, t27, ()), h26)) (
Let (IntKind.wrap .i64 (sL2.1.2.1 + 1) : Int) fun (t28 : Int) =>
R2 (((Sl.mk sL2.1.1.a sL2.1.1.len sL2.1.1.cap), t28, ()), h22))) (
Let (IntKind.wrap .i64 (sL1.1.2.1 + 1) : Int) fun (t29 : Int) =>
R1 (((Sl.mk sL2.1.1.a sL2.1.1.len sL2.1.1.cap), t29, ()), sL2.2))
def L1_scan_Pairs (a0_m : Option Addr) (a1_l : Sl) (a2_r : Int) (K : Sl → Hp → Prop) (sL1 : (Sl × Int × Unit) × Hp) (R1 : (Sl × Int × Unit) × Hp → Prop) : Prop :=
cnd (decide (sL1.1.2.1 < (a1_l.len : Int))) (
idxS a1_l.a a1_l.len sL1.1.2.1 4 fun (p1 : Addr) =>
ldA (.int .u64) sL1.2 p1 fun (t2 : Int) =>
ldA (.int .i64) sL1.2 (Addr.add p1 1) fun (t3 : Int) =>
ldA .sl sL1.2 (Addr.add p1 2) fun (t4 : Sl) =>
ldA .str sL1.2 (Addr.add p1 3) fun (t5 : ByteArray) =>
Let (Array.push sL1.2 (Obj.cells #[.int .u64 0, .int .i64 0, .slice none 0 0, .string (ByteArray.mk #[])] 37)) fun (h6 : Hp) =>
Let (Addr.mk (Array.size sL1.2) 0 none) fun (p7 : Addr) =>
stC h6 p7 (
Let (hset h6 p7 (.int .u64 t2)) fun (h8 : Hp) =>
stC h8 (Addr.add p7 1) (
Let (hset h8 (Addr.add p7 1) (.int .i64 t3)) fun (h9 : Hp) =>
stC h9 (Addr.add p7 2) (
Let (hset h9 (Addr.add p7 2) (.slice t4.a t4.len t4.cap)) fun (h10 : Hp) =>
stC h10 (Addr.add p7 3) (
Let (hset h10 (Addr.add p7 3) (.string t5)) fun (h11 : Hp) =>
Let (IntKind.wrap .i64 (sL1.1.2.1 + 1) : Int) fun (t12 : Int) =>
∃ n, Lp (L2_scan_Pairs a0_m a1_l a2_r sL1 R1 p7) n (((Sl.mk sL1.1.1.a sL1.1.1.len sL1.1.1.cap), t12, ()), h11)))))) (
K (Sl.mk sL1.1.1.a sL1.1.1.len sL1.1.1.cap) sL1.2)
def F_scan_Pairs (a0_m : Option Addr) (a1_l : Sl) (a2_r : Int) (h : Hp) (K : Sl → Hp → Prop) : Prop :=
∃ n, Lp (L1_scan_Pairs a0_m a1_l a2_r K) n (((Sl.mk none 0 0), 0, ()), h)

theorem F_scan_Pairs_ok (a0_m : Option Addr) (a1_l : Sl) (a2_r : Int) (h : Hp) (K : Sl → Hp → Prop) (hF : F_scan_Pairs a0_m a1_l a2_r h K) : C_scan_Pairs a0_m a1_l a2_r h K := by
  have e : bodyVC Try.prog Try.f9 (.seq .no (.seq .no (.seq (.seq .no (.block (.loop [(7, .at .sl), (15, .at (.int .i64))] (.seq .no (.seq (.cond .no .no) (.seq (.block (.seq .no (.seq .no (.block (.loop [(7, .at .sl), (10, .at (.int .i64))] (.seq (.seq .no (.cond .no .no)) (.seq (.block (.seq .no (.seq .no (.cond .no .no)))) .no))))))) .no)))))) (.seq .no .no)))) (Option.getD Try.f9.body .skip) [.pointer a0_m, .slice a1_l.a a1_l.len a1_l.cap, .int .i64 a2_r] h [.at .sl] (fun s h => K s.1 h) = F_scan_Pairs a0_m a1_l a2_r h K := by kernel_rfl
  exact fun_sound mixed Try.func9 rfl (e.mpr hF)

def F_ref09_Dist (a0_metric : Int) (a1_x : Int) (a2_x : Sl) (a3_x : ByteArray) (a4_y : Int) (a5_y : Sl) (a6_y : ByteArray) (h : Hp) (K : Int → Hp → Prop) : Prop :=
Let (Array.push h (Obj.cells #[.int .i64 a1_x, .slice a2_x.a a2_x.len a2_x.cap, .string a3_x] 25)) fun (h1 : Hp) =>
Let (Addr.mk (Array.size h) 0 none) fun (p2 : Addr) =>
Let (Array.push h1 (Obj.cells #[.int .i64 a4_y, .slice a5_y.a a5_y.len a5_y.cap, .string a6_y] 25)) fun (h3 : Hp) =>
Let (Addr.mk (Array.size h1) 0 none) fun (p4 : Addr) =>
cnd (a0_metric == 1) (
ldA .sl h3 (Addr.add p2 1) fun (t5 : Sl) =>
ldA .sl h3 (Addr.add p4 1) fun (t6 : Sl) =>
C_ref06_Dist t5 t6 h3 fun (t7 : Int) (h8 : Hp) =>
K t7 h8) (
cnd (a0_metric == 2) (
ldA .str h3 (Addr.add p2 2) fun (t9 : ByteArray) =>
ldA .str h3 (Addr.add p4 2) fun (t10 : ByteArray) =>
C_ref07_Dist t9 t10 h3 fun (t11 : Int) (h12 : Hp) =>
K t11 h12) (
cnd (a0_metric == 3) (
ldA .str h3 (Addr.add p2 2) fun (t13 : ByteArray) =>
ldA .str h3 (Addr.add p4 2) fun (t14 : ByteArray) =>
C_ref08_Dist t13 t14 h3 fun (t15 : Int) (h16 : Hp) =>
K t15 h16) (
K 0 h3)))

theorem F_ref09_Dist_ok (a0_metric : Int) (a1_x : Int) (a2_x : Sl) (a3_x : ByteArray) (a4_y : Int) (a5_y : Sl) (a6_y : ByteArray) (h : Hp) (K : Int → Hp → Prop) (hF : F_ref09_Dist a0_metric a1_x a2_x a3_x a4_y a5_y a6_y h K) : C_ref09_Dist a0_metric a1_x a2_x a3_x a4_y a5_y a6_y h K := by
  have e : bodyVC Try.prog Try.f10 (.seq .no (.seq (.seq .no (.cond (.seq .no .no) .no)) (.seq (.seq .no (.cond (.seq .no .no) .no)) (.seq (.seq .no (.cond (.seq .no .no) .no)) (.seq .no .no))))) (Option.getD Try.f10.body .skip) [.int .i64 a0_metric, .agg #[.int .i64 a1_x, .slice a2_x.a a2_x.len a2_x.cap, .string a3_x], .agg #[.int .i64 a4_y, .slice a5_y.a a5_y.len a5_y.cap, .string a6_y]] h [.at (.int .i64)] (fun s h => K s.1 h) = F_ref09_Dist a0_metric a1_x a2_x a3_x a4_y a5_y a6_y h K := by kernel_rfl
  exact fun_sound mixed Try.func10 rfl (e.mpr hF)

def F_metric_Meter_Calls (a0_m : Option Addr) (h : Hp) (K : Int → Hp → Prop) : Prop :=
cnd (Option.isNone a0_m) (
K 0 h) (
someA a0_m fun (p1 : Addr) =>
ldA (.int .i64) h (Addr.add p1 1) fun (t2 : Int) =>
K t2 h)

theorem F_metric_Meter_Calls_ok (a0_m : Option Addr) (h : Hp) (K : Int → Hp → Prop) (hF : F_metric_Meter_Calls a0_m h K) : C_metric_Meter_Calls a0_m h K := by
  have e : bodyVC Try.prog Try.f11 (.seq .no (.seq (.seq .no (.cond (.seq .no .no) .no)) (.seq .no .no))) (Option.getD Try.f11.body .skip) [.pointer a0_m] h [.at (.int .i64)] (fun s h => K s.1 h) = F_metric_Meter_Calls a0_m h K := by kernel_rfl
  exact fun_sound mixed Try.func11 rfl (e.mpr hF)

def L1_ref17_All (a0_metric : Int) (a1_l : Sl) (K : Sl → Hp → Prop) (p2 : Addr) (sL1 : (Sl × Int × Unit) × Hp) (R1 : (Sl × Int × Unit) × Hp → Prop) : Prop :=
cnd (decide (sL1.1.2.1 < (a1_l.len : Int))) (
idxS a1_l.a a1_l.len sL1.1.2.1 4 fun (p3 : Addr) =>
ldA (.int .u64) sL1.2 p3 fun (t4 : Int) =>
ldA (.int .i64) sL1.2 p2 fun (t5 : Int) =>
ldA .sl sL1.2 (Addr.add p2 1) fun (t6 : Sl) =>
ldA .str sL1.2 (Addr.add p2 2) fun (t7 : ByteArray) =>
idxS a1_l.a a1_l.len sL1.1.2.1 4 fun (p8 : Addr) =>
ldA (.int .i64) sL1.2 (Addr.add p8 1) fun (t9 : Int) =>
ldA .sl sL1.2 (Addr.add (Addr.add p8 1) 1) fun (t10 : Sl) =>
ldA .str sL1.2 (Addr.add (Addr.add p8 1) 2) fun (t11 : ByteArray) =>
C_ref09_Dist a0_metric t5 t6 t7 t9 t10 t11 sL1.2 fun (t12 : Int) (h13 : Hp) =>
Ext sL1.2 h13 ∧ (
C_ref11_Put (Sl.mk sL1.1.1.a sL1.1.1.len sL1.1.1.cap) t4 t12 h13 fun (t14 : Sl) (h15 : Hp) =>
Let (IntKind.wrap .i64 (sL1.1.2.1 + 1) : Int) fun (t16 : Int) =>
R1 ((t14, t16, ()), h15))) (
K (Sl.mk sL1.1.1.a sL1.1.1.len sL1.1.1.cap) sL1.2)
def F_ref17_All (a0_metric : Int) (a1_l : Sl) (a2_q : Int) (a3_q : Sl) (a4_q : ByteArray) (h : Hp) (K : Sl → Hp → Prop) : Prop :=
Let (Array.push h (Obj.cells #[.int .i64 a2_q, .slice a3_q.a a3_q.len a3_q.cap, .string a4_q] 25)) fun (h1 : Hp) =>
Let (Addr.mk (Array.size h) 0 none) fun (p2 : Addr) =>
∃ n, Lp (L1_ref17_All a0_metric a1_l K p2) n (((Sl.mk none 0 0), 0, ()), h1)

theorem F_ref17_All_ok (a0_metric : Int) (a1_l : Sl) (a2_q : Int) (a3_q : Sl) (a4_q : ByteArray) (h : Hp) (K : Sl → Hp → Prop) (hF : F_ref17_All a0_metric a1_l a2_q a3_q a4_q h K) : C_ref17_All a0_metric a1_l a2_q a3_q a4_q h K := by
  have e : bodyVC Try.prog Try.f12 (.seq .no (.seq .no (.seq (.seq .no (.block (.loop [(7, .at .sl), (8, .at (.int .i64))] (.seq (.seq .no (.cond .no .no)) (.seq (.block .no) .no))))) (.seq .no .no)))) (Option.getD Try.f12.body .skip) [.int .i64 a0_metric, .slice a1_l.a a1_l.len a1_l.cap, .agg #[.int .i64 a2_q, .slice a3_q.a a3_q.len a3_q.cap, .string a4_q]] h [.at .sl] (fun s h => K s.1 h) = F_ref17_All a0_metric a1_l a2_q a3_q a4_q h K := by kernel_rfl
  exact fun_sound mixed Try.func12 rfl (e.mpr hF)

def L1_ref11_Same (a0_a : Sl) (a1_b : Sl) (K : Bool → Hp → Prop) (sL1 : (Int × Unit) × Hp) (R1 : (Int × Unit) × Hp → Prop) : Prop :=
cnd (decide (sL1.1.1 < (a0_a.len : Int))) (
idxS a0_a.a a0_a.len sL1.1.1 2 fun (p1 : Addr) =>
ldA (.int .u64) sL1.2 p1 fun (t2 : Int) =>
ldA (.int .i64) sL1.2 (Addr.add p1 1) fun (t3 : Int) =>
idxS a1_b.a a1_b.len sL1.1.1 2 fun (p4 : Addr) =>
ldA (.int .u64) sL1.2 p4 fun (t5 : Int) =>
ldA (.int .i64) sL1.2 (Addr.add p4 1) fun (t6 : Int) =>
cnd (!((t2 == t5) && ((t3 == t6) && true))) (
K false sL1.2) (
Let (IntKind.wrap .i64 (sL1.1.1 + 1) : Int) fun (t7 : Int) =>
R1 ((t7, ()), sL1.2))) (
K true sL1.2)
def F_ref11_Same (a0_a : Sl) (a1_b : Sl) (h : Hp) (K : Bool → Hp → Prop) : Prop :=
cnd ((a0_a.len : Int) != (a1_b.len : Int)) (
K false h) (
∃ n, Lp (L1_ref11_Same a0_a a1_b K) n ((0, ()), h))

theorem F_ref11_Same_ok (a0_a : Sl) (a1_b : Sl) (h : Hp) (K : Bool → Hp → Prop) (hF : F_ref11_Same a0_a a1_b h K) : C_ref11_Same a0_a a1_b h K := by
  have e : bodyVC Try.prog Try.f13 (.seq .no (.seq (.seq .no (.cond (.seq .no .no) .no)) (.seq (.seq .no (.block (.loop [(5, .at (.int .i64))] (.seq (.seq .no (.cond .no .no)) (.seq (.block (.seq .no (.cond (.seq .no .no) .no))) .no))))) (.seq .no .no)))) (Option.getD Try.f13.body .skip) [.slice a0_a.a a0_a.len a0_a.cap, .slice a1_b.a a1_b.len a1_b.cap] h [.at .bool] (fun s h => K s.1 h) = F_ref11_Same a0_a a1_b h K := by kernel_rfl
  exact fun_sound mixed Try.func13 rfl (e.mpr hF)

def L1_scan_All (a0_m : Option Addr) (a1_l : Sl) (K : Sl → Hp → Prop) (p2 : Addr) (sL1 : (Sl × Int × Unit) × Hp) (R1 : (Sl × Int × Unit) × Hp → Prop) : Prop :=
cnd (decide (sL1.1.2.1 < (a1_l.len : Int))) (
idxS a1_l.a a1_l.len sL1.1.2.1 4 fun (p3 : Addr) =>
ldA (.int .u64) sL1.2 p3 fun (t4 : Int) =>
ldA (.int .i64) sL1.2 (Addr.add p3 1) fun (t5 : Int) =>
ldA .sl sL1.2 (Addr.add p3 2) fun (t6 : Sl) =>
ldA .str sL1.2 (Addr.add p3 3) fun (t7 : ByteArray) =>
Let (Array.push sL1.2 (Obj.cells #[.int .u64 0, .int .i64 0, .slice none 0 0, .string (ByteArray.mk #[])] 37)) fun (h8 : Hp) =>
Let (Addr.mk (Array.size sL1.2) 0 none) fun (p9 : Addr) =>
stC h8 p9 (
Let (hset h8 p9 (.int .u64 t4)) fun (h10 : Hp) =>
stC h10 (Addr.add p9 1) (
Let (hset h10 (Addr.add p9 1) (.int .i64 t5)) fun (h11 : Hp) =>
stC h11 (Addr.add p9 2) (
Let (hset h11 (Addr.add p9 2) (.slice t6.a t6.len t6.cap)) fun (h12 : Hp) =>
stC h12 (Addr.add p9 3) (
Let (hset h12 (Addr.add p9 3) (.string t7)) fun (h13 : Hp) =>
∃ (S14 : List Nat),
(Addr.block p9 ∉ S14) ∧ (
ldA (.int .u64) h13 p9 fun (t15 : Int) =>
(Addr.block p2 ∉ S14) ∧ (
ldA (.int .i64) h13 p2 fun (t16 : Int) =>
ldA .sl h13 (Addr.add p2 1) fun (t17 : Sl) =>
ldA .str h13 (Addr.add p2 2) fun (t18 : ByteArray) =>
(Addr.block (Addr.add p9 1) ∉ S14) ∧ (
ldA (.int .i64) h13 (Addr.add p9 1) fun (t19 : Int) =>
ldA .sl h13 (Addr.add (Addr.add p9 1) 1) fun (t20 : Sl) =>
ldA .str h13 (Addr.add (Addr.add p9 1) 2) fun (t21 : ByteArray) =>
C_metric_Meter_Dist a0_m t16 t17 t18 t19 t20 t21 h13 fun (t22 : Int) (h23 : Hp) =>
ExtS S14 h13 h23 ∧ (
Let (Array.push h23 (Obj.cells #[.int .u64 t15, .int .i64 t22] 50)) fun (h24 : Hp) =>
Let (Addr.mk (Array.size h23) 0 none) fun (p25 : Addr) =>
appS 50 2 16 [.int .u64 0, .int .i64 0] sL1.1.1.a sL1.1.1.len sL1.1.1.cap (.slice (some p25) 1 1) h24 fun (t26 : Sl) (h27 : Hp) =>
Let (IntKind.wrap .i64 (sL1.1.2.1 + 1) : Int) fun (t28 : Int) =>
R1 ((t26, t28, ()), h27)))))))))) (
C_hits_Sort (Sl.mk sL1.1.1.a sL1.1.1.len sL1.1.1.cap) sL1.2 fun (t29 : Sl) (h30 : Hp) =>
K t29 h30)
def F_scan_All (a0_m : Option Addr) (a1_l : Sl) (a2_q : Int) (a3_q : Sl) (a4_q : ByteArray) (h : Hp) (K : Sl → Hp → Prop) : Prop :=
Let (Array.push h (Obj.cells #[.int .i64 a2_q, .slice a3_q.a a3_q.len a3_q.cap, .string a4_q] 25)) fun (h1 : Hp) =>
Let (Addr.mk (Array.size h) 0 none) fun (p2 : Addr) =>
∃ n, Lp (L1_scan_All a0_m a1_l K p2) n (((Sl.mk none 0 0), 0, ()), h1)

theorem F_scan_All_ok (a0_m : Option Addr) (a1_l : Sl) (a2_q : Int) (a3_q : Sl) (a4_q : ByteArray) (h : Hp) (K : Sl → Hp → Prop) (hF : F_scan_All a0_m a1_l a2_q a3_q a4_q h K) : C_scan_All a0_m a1_l a2_q a3_q a4_q h K := by
  have e : bodyVC Try.prog Try.f14 (.seq .no (.seq .no (.seq (.seq .no (.block (.loop [(7, .at .sl), (12, .at (.int .i64))] (.seq .no (.seq (.cond .no .no) (.seq (.block (.seq .no .dr)) .no)))))) (.seq .no .no)))) (Option.getD Try.f14.body .skip) [.pointer a0_m, .slice a1_l.a a1_l.len a1_l.cap, .agg #[.int .i64 a2_q, .slice a3_q.a a3_q.len a3_q.cap, .string a4_q]] h [.at .sl] (fun s h => K s.1 h) = F_scan_All a0_m a1_l a2_q a3_q a4_q h K := by kernel_rfl
  exact fun_sound mixed Try.func14 rfl (e.mpr hF)

def L1_scan_Range (a0_m : Option Addr) (a1_l : Sl) (a5_r : Int) (K : Sl → Hp → Prop) (p2 : Addr) (sL1 : (Sl × Int × Unit) × Hp) (R1 : (Sl × Int × Unit) × Hp → Prop) : Prop :=
cnd (decide (sL1.1.2.1 < (a1_l.len : Int))) (
idxS a1_l.a a1_l.len sL1.1.2.1 4 fun (p3 : Addr) =>
ldA (.int .u64) sL1.2 p3 fun (t4 : Int) =>
ldA (.int .i64) sL1.2 (Addr.add p3 1) fun (t5 : Int) =>
ldA .sl sL1.2 (Addr.add p3 2) fun (t6 : Sl) =>
ldA .str sL1.2 (Addr.add p3 3) fun (t7 : ByteArray) =>
Let (Array.push sL1.2 (Obj.cells #[.int .u64 0, .int .i64 0, .slice none 0 0, .string (ByteArray.mk #[])] 37)) fun (h8 : Hp) =>
Let (Addr.mk (Array.size sL1.2) 0 none) fun (p9 : Addr) =>
stC h8 p9 (
Let (hset h8 p9 (.int .u64 t4)) fun (h10 : Hp) =>
stC h10 (Addr.add p9 1) (
Let (hset h10 (Addr.add p9 1) (.int .i64 t5)) fun (h11 : Hp) =>
stC h11 (Addr.add p9 2) (
Let (hset h11 (Addr.add p9 2) (.slice t6.a t6.len t6.cap)) fun (h12 : Hp) =>
stC h12 (Addr.add p9 3) (
Let (hset h12 (Addr.add p9 3) (.string t7)) fun (h13 : Hp) =>
ldA (.int .i64) h13 p2 fun (t14 : Int) =>
ldA .sl h13 (Addr.add p2 1) fun (t15 : Sl) =>
ldA .str h13 (Addr.add p2 2) fun (t16 : ByteArray) =>
ldA (.int .i64) h13 (Addr.add p9 1) fun (t17 : Int) =>
ldA .sl h13 (Addr.add (Addr.add p9 1) 1) fun (t18 : Sl) =>
ldA .str h13 (Addr.add (Addr.add p9 1) 2) fun (t19 : ByteArray) =>
C_metric_Meter_Upto a0_m t14 t15 t16 t17 t18 t19 a5_r h13 fun (t20 : Int) (t21 : Bool) (h22 : Hp) =>
cnd t21 (
ldA (.int .u64) h22 p9 fun (t23 : Int) =>
Let (Array.push h22 (Obj.cells #[.int .u64 t23, .int .i64 t20] 50)) fun (h24 : Hp) =>
Let (Addr.mk (Array.size h22) 0 none) fun (p25 : Addr) =>
appS 50 2 16 [.int .u64 0, .int .i64 0] sL1.1.1.a sL1.1.1.len sL1.1.1.cap (.slice (some p25) 1 1) h24 fun (t26 : Sl) (h27 : Hp) =>
Let (IntKind.wrap .i64 (sL1.1.2.1 + 1) : Int) fun (t28 : Int) =>
R1 ((t26, t28, ()), h27)) (
Let (IntKind.wrap .i64 (sL1.1.2.1 + 1) : Int) fun (t29 : Int) =>
R1 (((Sl.mk sL1.1.1.a sL1.1.1.len sL1.1.1.cap), t29, ()), h22))))))) (
C_hits_Sort (Sl.mk sL1.1.1.a sL1.1.1.len sL1.1.1.cap) sL1.2 fun (t30 : Sl) (h31 : Hp) =>
K t30 h31)
def F_scan_Range (a0_m : Option Addr) (a1_l : Sl) (a2_q : Int) (a3_q : Sl) (a4_q : ByteArray) (a5_r : Int) (h : Hp) (K : Sl → Hp → Prop) : Prop :=
Let (Array.push h (Obj.cells #[.int .i64 a2_q, .slice a3_q.a a3_q.len a3_q.cap, .string a4_q] 25)) fun (h1 : Hp) =>
Let (Addr.mk (Array.size h) 0 none) fun (p2 : Addr) =>
∃ n, Lp (L1_scan_Range a0_m a1_l a5_r K p2) n (((Sl.mk none 0 0), 0, ()), h1)

theorem F_scan_Range_ok (a0_m : Option Addr) (a1_l : Sl) (a2_q : Int) (a3_q : Sl) (a4_q : ByteArray) (a5_r : Int) (h : Hp) (K : Sl → Hp → Prop) (hF : F_scan_Range a0_m a1_l a2_q a3_q a4_q a5_r h K) : C_scan_Range a0_m a1_l a2_q a3_q a4_q a5_r h K := by
  have e : bodyVC Try.prog Try.f15 (.seq .no (.seq .no (.seq (.seq .no (.block (.loop [(9, .at .sl), (16, .at (.int .i64))] (.seq .no (.seq (.cond .no .no) (.seq (.block (.seq .no (.seq .no (.seq .no (.cond .no .no))))) .no)))))) (.seq .no .no)))) (Option.getD Try.f15.body .skip) [.pointer a0_m, .slice a1_l.a a1_l.len a1_l.cap, .agg #[.int .i64 a2_q, .slice a3_q.a a3_q.len a3_q.cap, .string a4_q], .int .i64 a5_r] h [.at .sl] (fun s h => K s.1 h) = F_scan_Range a0_m a1_l a2_q a3_q a4_q a5_r h K := by kernel_rfl
  exact fun_sound mixed Try.func15 rfl (e.mpr hF)

def L1_ref11_Within (a0_l : Sl) (a1_r : Int) (K : Sl → Hp → Prop) (sL1 : (Sl × Int × Unit) × Hp) (R1 : (Sl × Int × Unit) × Hp → Prop) : Prop :=
cnd (decide (sL1.1.2.1 < (a0_l.len : Int))) (
idxS a0_l.a a0_l.len sL1.1.2.1 2 fun (p1 : Addr) =>
ldA (.int .i64) sL1.2 (Addr.add p1 1) fun (t2 : Int) =>
cnd (decide (t2 ≤ a1_r)) (
idxS a0_l.a a0_l.len sL1.1.2.1 2 fun (p3 : Addr) =>
ldA (.int .u64) sL1.2 p3 fun (t4 : Int) =>
ldA (.int .i64) sL1.2 (Addr.add p3 1) fun (t5 : Int) =>
Let (Array.push sL1.2 (Obj.cells #[.int .u64 t4, .int .i64 t5] 50)) fun (h6 : Hp) =>
Let (Addr.mk (Array.size sL1.2) 0 none) fun (p7 : Addr) =>
appS 50 2 16 [.int .u64 0, .int .i64 0] sL1.1.1.a sL1.1.1.len sL1.1.1.cap (.slice (some p7) 1 1) h6 fun (t8 : Sl) (h9 : Hp) =>
Let (IntKind.wrap .i64 (sL1.1.2.1 + 1) : Int) fun (t10 : Int) =>
R1 ((t8, t10, ()), h9)) (
Let (IntKind.wrap .i64 (sL1.1.2.1 + 1) : Int) fun (t11 : Int) =>
R1 (((Sl.mk sL1.1.1.a sL1.1.1.len sL1.1.1.cap), t11, ()), sL1.2))) (
K (Sl.mk sL1.1.1.a sL1.1.1.len sL1.1.1.cap) sL1.2)
def F_ref11_Within (a0_l : Sl) (a1_r : Int) (h : Hp) (K : Sl → Hp → Prop) : Prop :=
∃ n, Lp (L1_ref11_Within a0_l a1_r K) n (((Sl.mk none 0 0), 0, ()), h)

theorem F_ref11_Within_ok (a0_l : Sl) (a1_r : Int) (h : Hp) (K : Sl → Hp → Prop) (hF : F_ref11_Within a0_l a1_r h K) : C_ref11_Within a0_l a1_r h K := by
  have e : bodyVC Try.prog Try.f16 (.seq .no (.seq .no (.seq (.seq .no (.block (.loop [(5, .at .sl), (6, .at (.int .i64))] (.seq (.seq .no (.cond .no .no)) (.seq (.block (.seq .no (.cond .no .no))) .no))))) (.seq .no .no)))) (Option.getD Try.f16.body .skip) [.slice a0_l.a a0_l.len a0_l.cap, .int .i64 a1_r] h [.at .sl] (fun s h => K s.1 h) = F_ref11_Within a0_l a1_r h K := by kernel_rfl
  exact fun_sound mixed Try.func16 rfl (e.mpr hF)

def L1_scan_Near (a0_m : Option Addr) (a1_l : Sl) (K : Sl → Hp → Prop) (p2 : Addr) (t3 : Option Addr) (sL1 : (Int × Unit) × Hp) (R1 : (Int × Unit) × Hp → Prop) : Prop :=
cnd (decide (sL1.1.1 < (a1_l.len : Int))) (
idxS a1_l.a a1_l.len sL1.1.1 4 fun (p5 : Addr) =>
ldA (.int .u64) sL1.2 p5 fun (t6 : Int) =>
ldA (.int .i64) sL1.2 (Addr.add p5 1) fun (t7 : Int) =>
ldA .sl sL1.2 (Addr.add p5 2) fun (t8 : Sl) =>
ldA .str sL1.2 (Addr.add p5 3) fun (t9 : ByteArray) =>
Let (Array.push sL1.2 (Obj.cells #[.int .u64 0, .int .i64 0, .slice none 0 0, .string (ByteArray.mk #[])] 37)) fun (h10 : Hp) =>
Let (Addr.mk (Array.size sL1.2) 0 none) fun (p11 : Addr) =>
stC h10 p11 (
Let (hset h10 p11 (.int .u64 t6)) fun (h12 : Hp) =>
stC h12 (Addr.add p11 1) (
Let (hset h12 (Addr.add p11 1) (.int .i64 t7)) fun (h13 : Hp) =>
stC h13 (Addr.add p11 2) (
Let (hset h13 (Addr.add p11 2) (.slice t8.a t8.len t8.cap)) fun (h14 : Hp) =>
stC h14 (Addr.add p11 3) (
Let (hset h14 (Addr.add p11 3) (.string t9)) fun (h15 : Hp) =>
∃ (S16 : List Nat),
(Addr.block p11 ∉ S16) ∧ (
ldA (.int .u64) h15 p11 fun (t17 : Int) =>
(Addr.block p2 ∉ S16) ∧ (
ldA (.int .i64) h15 p2 fun (t18 : Int) =>
ldA .sl h15 (Addr.add p2 1) fun (t19 : Sl) =>
ldA .str h15 (Addr.add p2 2) fun (t20 : ByteArray) =>
(Addr.block (Addr.add p11 1) ∉ S16) ∧ (
ldA (.int .i64) h15 (Addr.add p11 1) fun (t21 : Int) =>
ldA .sl h15 (Addr.add (Addr.add p11 1) 1) fun (t22 : Sl) =>
ldA .str h15 (Addr.add (Addr.add p11 1) 2) fun (t23 : ByteArray) =>
C_metric_Meter_Dist a0_m t18 t19 t20 t21 t22 t23 h15 fun (t24 : Int) (h25 : Hp) =>
ExtS S16 h15 h25 ∧ (
C_best_Best_Add t3 t17 t24 h25 fun (t26 : Bool) (h27 : Hp) =>
Let (IntKind.wrap .i64 (sL1.1.1 + 1) : Int) fun (t28 : Int) =>
R1 ((t28, ()), h27)))))))))) (
C_best_Best_List t3 sL1.2 fun (t29 : Sl) (h30 : Hp) =>
K t29 h30)
def F_scan_Near (a0_m : Option Addr) (a1_l : Sl) (a2_q : Int) (a3_q : Sl) (a4_q : ByteArray) (a5_k : Int) (h : Hp) (K : Sl → Hp → Prop) : Prop :=
Let (Array.push h (Obj.cells #[.int .i64 a2_q, .slice a3_q.a a3_q.len a3_q.cap, .string a4_q] 25)) fun (h1 : Hp) =>
Let (Addr.mk (Array.size h) 0 none) fun (p2 : Addr) =>
C_best_New a5_k h1 fun (t3 : Option Addr) (h4 : Hp) =>
∃ n, Lp (L1_scan_Near a0_m a1_l K p2 t3) n ((0, ()), h4)

theorem F_scan_Near_ok (a0_m : Option Addr) (a1_l : Sl) (a2_q : Int) (a3_q : Sl) (a4_q : ByteArray) (a5_k : Int) (h : Hp) (K : Sl → Hp → Prop) (hF : F_scan_Near a0_m a1_l a2_q a3_q a4_q a5_k h K) : C_scan_Near a0_m a1_l a2_q a3_q a4_q a5_k h K := by
  have e : bodyVC Try.prog Try.f17 (.seq .no (.seq .no (.seq (.seq .no (.block (.loop [(16, .at (.int .i64))] (.seq .no (.seq (.cond .no .no) (.seq (.block (.seq .no .dr)) .no)))))) (.seq .no .no)))) (Option.getD Try.f17.body .skip) [.pointer a0_m, .slice a1_l.a a1_l.len a1_l.cap, .agg #[.int .i64 a2_q, .slice a3_q.a a3_q.len a3_q.cap, .string a4_q], .int .i64 a5_k] h [.at .sl] (fun s h => K s.1 h) = F_scan_Near a0_m a1_l a2_q a3_q a4_q a5_k h K := by kernel_rfl
  exact fun_sound mixed Try.func17 rfl (e.mpr hF)

def J1_ref11_First (a0_l : Sl) (sL1 : (Sl × Int × Unit) × Hp) (R1 : (Sl × Int × Unit) × Hp → Prop) (sJ1 : Unit) (hJ1 : Hp) : Prop :=
idxS a0_l.a a0_l.len sL1.1.2.1 2 fun (p1 : Addr) =>
ldA (.int .u64) hJ1 p1 fun (t2 : Int) =>
ldA (.int .i64) hJ1 (Addr.add p1 1) fun (t3 : Int) =>
Let (Array.push hJ1 (Obj.cells #[.int .u64 t2, .int .i64 t3] 50)) fun (h4 : Hp) =>
Let (Addr.mk (Array.size hJ1) 0 none) fun (p5 : Addr) =>
appS 50 2 16 [.int .u64 0, .int .i64 0] sL1.1.1.a sL1.1.1.len sL1.1.1.cap (.slice (some p5) 1 1) h4 fun (t6 : Sl) (h7 : Hp) =>
Let (IntKind.wrap .i64 (sL1.1.2.1 + 1) : Int) fun (t8 : Int) =>
R1 ((t6, t8, ()), h7)
def L1_ref11_First (a0_l : Sl) (a1_k : Int) (K : Sl → Hp → Prop) (sL1 : (Sl × Int × Unit) × Hp) (R1 : (Sl × Int × Unit) × Hp → Prop) : Prop :=
Jn (J1_ref11_First a0_l sL1 R1) fun (J1 : Unit → Hp → Prop) =>
cnd (decide (sL1.1.2.1 < (a0_l.len : Int))) (
cnd (decide (sL1.1.2.1 < a1_k)) (
J1 (()) sL1.2) (
K (Sl.mk sL1.1.1.a sL1.1.1.len sL1.1.1.cap) sL1.2)) (
K (Sl.mk sL1.1.1.a sL1.1.1.len sL1.1.1.cap) sL1.2)
def F_ref11_First (a0_l : Sl) (a1_k : Int) (h : Hp) (K : Sl → Hp → Prop) : Prop :=
∃ n, Lp (L1_ref11_First a0_l a1_k K) n (((Sl.mk none 0 0), 0, ()), h)

theorem F_ref11_First_ok (a0_l : Sl) (a1_k : Int) (h : Hp) (K : Sl → Hp → Prop) (hF : F_ref11_First a0_l a1_k h K) : C_ref11_First a0_l a1_k h K := by
  have e : bodyVC Try.prog Try.f18 (.seq .no (.seq .no (.seq (.seq .no (.block (.loop [(5, .at .sl), (6, .at (.int .i64))] (.join [] (.seq .no (.cond .no .no)) (.seq (.block .no) .no))))) (.seq .no .no)))) (Option.getD Try.f18.body .skip) [.slice a0_l.a a0_l.len a0_l.cap, .int .i64 a1_k] h [.at .sl] (fun s h => K s.1 h) = F_ref11_First a0_l a1_k h K := by kernel_rfl
  exact fun_sound mixed Try.func18 rfl (e.mpr hF)

def L1_ref09_Short (a0_l : Sl) (a1_most : Int) (K : Bool → Hp → Prop) (sL1 : (Int × Unit) × Hp) (R1 : (Int × Unit) × Hp → Prop) : Prop :=
cnd (decide (sL1.1.1 < (a0_l.len : Int))) (
idxS a0_l.a a0_l.len sL1.1.1 3 fun (p1 : Addr) =>
ldA .str sL1.2 (Addr.add p1 2) fun (t2 : ByteArray) =>
cnd (decide ((ByteArray.size t2 : Int) > a1_most)) (
K false sL1.2) (
idxS a0_l.a a0_l.len sL1.1.1 3 fun (p3 : Addr) =>
ldA .sl sL1.2 (Addr.add p3 1) fun (t4 : Sl) =>
cnd (decide ((t4.len : Int) > a1_most)) (
K false sL1.2) (
Let (IntKind.wrap .i64 (sL1.1.1 + 1) : Int) fun (t5 : Int) =>
R1 ((t5, ()), sL1.2)))) (
K true sL1.2)
def F_ref09_Short (a0_l : Sl) (a1_most : Int) (h : Hp) (K : Bool → Hp → Prop) : Prop :=
∃ n, Lp (L1_ref09_Short a0_l a1_most K) n ((0, ()), h)

theorem F_ref09_Short_ok (a0_l : Sl) (a1_most : Int) (h : Hp) (K : Bool → Hp → Prop) (hF : F_ref09_Short a0_l a1_most h K) : C_ref09_Short a0_l a1_most h K := by
  have e : bodyVC Try.prog Try.f19 (.seq .no (.seq (.seq .no (.block (.loop [(5, .at (.int .i64))] (.seq (.seq .no (.cond .no .no)) (.seq (.block (.seq .no (.cond (.seq .no .no) .no))) .no))))) (.seq .no .no))) (Option.getD Try.f19.body .skip) [.slice a0_l.a a0_l.len a0_l.cap, .int .i64 a1_most] h [.at .bool] (fun s h => K s.1 h) = F_ref09_Short a0_l a1_most h K := by kernel_rfl
  exact fun_sound mixed Try.func19 rfl (e.mpr hF)

def F_metric_Meter_Upto (a0_m : Option Addr) (a1_x : Int) (a2_x : Sl) (a3_x : ByteArray) (a4_y : Int) (a5_y : Sl) (a6_y : ByteArray) (a7_most : Int) (h : Hp) (K : Int → Bool → Hp → Prop) : Prop :=
Let (Array.push h (Obj.cells #[.int .i64 a1_x, .slice a2_x.a a2_x.len a2_x.cap, .string a3_x] 25)) fun (h1 : Hp) =>
Let (Addr.mk (Array.size h) 0 none) fun (p2 : Addr) =>
Let (Array.push h1 (Obj.cells #[.int .i64 a4_y, .slice a5_y.a a5_y.len a5_y.cap, .string a6_y] 25)) fun (h3 : Hp) =>
Let (Addr.mk (Array.size h1) 0 none) fun (p4 : Addr) =>
cnd (Option.isNone a0_m) (
K 0 false h3) (
someA a0_m fun (p5 : Addr) =>
ldA (.int .i64) h3 (Addr.add p5 1) fun (t6 : Int) =>
Let (IntKind.wrap .i64 (t6 + 1) : Int) fun (t7 : Int) =>
someA a0_m fun (p8 : Addr) =>
((1 : Nat) = 1) ∧ (
stC h3 (Addr.add p8 1) (
Let (hset h3 (Addr.add p8 1) (.int .i64 t7)) fun (h9 : Hp) =>
someA a0_m fun (p10 : Addr) =>
ldA (.int .i64) h9 p10 fun (t11 : Int) =>
ldA (.int .i64) h9 p2 fun (t12 : Int) =>
ldA .sl h9 (Addr.add p2 1) fun (t13 : Sl) =>
ldA .str h9 (Addr.add p2 2) fun (t14 : ByteArray) =>
ldA (.int .i64) h9 p4 fun (t15 : Int) =>
ldA .sl h9 (Addr.add p4 1) fun (t16 : Sl) =>
ldA .str h9 (Addr.add p4 2) fun (t17 : ByteArray) =>
C_metric_Upto t11 t12 t13 t14 t15 t16 t17 a7_most h9 fun (t18 : Int) (t19 : Bool) (h20 : Hp) =>
K t18 t19 h20)))

theorem F_metric_Meter_Upto_ok (a0_m : Option Addr) (a1_x : Int) (a2_x : Sl) (a3_x : ByteArray) (a4_y : Int) (a5_y : Sl) (a6_y : ByteArray) (a7_most : Int) (h : Hp) (K : Int → Bool → Hp → Prop) (hF : F_metric_Meter_Upto a0_m a1_x a2_x a3_x a4_y a5_y a6_y a7_most h K) : C_metric_Meter_Upto a0_m a1_x a2_x a3_x a4_y a5_y a6_y a7_most h K := by
  have e : bodyVC Try.prog Try.f20 (.seq .no (.seq (.seq .no (.cond (.seq .no .no) .no)) (.seq .no (.seq .no .no)))) (Option.getD Try.f20.body .skip) [.pointer a0_m, .agg #[.int .i64 a1_x, .slice a2_x.a a2_x.len a2_x.cap, .string a3_x], .agg #[.int .i64 a4_y, .slice a5_y.a a5_y.len a5_y.cap, .string a6_y], .int .i64 a7_most] h [.at (.int .i64), .at .bool] (fun s h => K s.1 s.2.1 h) = F_metric_Meter_Upto a0_m a1_x a2_x a3_x a4_y a5_y a6_y a7_most h K := by kernel_rfl
  exact fun_sound mixed Try.func20 rfl (e.mpr hF)

def L1_ref06_Dist (K : Int → Hp → Prop) (t1 : Sl) (t3 : Sl) (sL1 : (Int × Int × Unit) × Hp) (R1 : (Int × Int × Unit) × Hp → Prop) : Prop :=
cnd (decide (sL1.1.2.1 < (t1.len : Int))) (
idxS t1.a t1.len sL1.1.2.1 1 fun (p5 : Addr) =>
ldA (.int .i32) sL1.2 p5 fun (t6 : Int) =>
idxS t3.a t3.len sL1.1.2.1 1 fun (p7 : Addr) =>
ldA (.int .i32) sL1.2 p7 fun (t8 : Int) =>
cnd (decide (t6 > t8)) (
idxS t1.a t1.len sL1.1.2.1 1 fun (p9 : Addr) =>
ldA (.int .i32) sL1.2 p9 fun (t10 : Int) =>
Let (IntKind.wrap .i64 (t10) : Int) fun (t11 : Int) =>
idxS t3.a t3.len sL1.1.2.1 1 fun (p12 : Addr) =>
ldA (.int .i32) sL1.2 p12 fun (t13 : Int) =>
Let (IntKind.wrap .i64 (t13) : Int) fun (t14 : Int) =>
Let (IntKind.wrap .i64 (t11 - t14) : Int) fun (t15 : Int) =>
Let (IntKind.wrap .i64 (sL1.1.1 + t15) : Int) fun (t16 : Int) =>
Let (IntKind.wrap .i64 (sL1.1.2.1 + 1) : Int) fun (t17 : Int) =>
R1 ((t16, t17, ()), sL1.2)) (
idxS t3.a t3.len sL1.1.2.1 1 fun (p18 : Addr) =>
ldA (.int .i32) sL1.2 p18 fun (t19 : Int) =>
Let (IntKind.wrap .i64 (t19) : Int) fun (t20 : Int) =>
idxS t1.a t1.len sL1.1.2.1 1 fun (p21 : Addr) =>
ldA (.int .i32) sL1.2 p21 fun (t22 : Int) =>
Let (IntKind.wrap .i64 (t22) : Int) fun (t23 : Int) =>
Let (IntKind.wrap .i64 (t20 - t23) : Int) fun (t24 : Int) =>
Let (IntKind.wrap .i64 (sL1.1.1 + t24) : Int) fun (t25 : Int) =>
Let (IntKind.wrap .i64 (sL1.1.2.1 + 1) : Int) fun (t26 : Int) =>
R1 ((t25, t26, ()), sL1.2))) (
K sL1.1.1 sL1.2)
def F_ref06_Dist (a0_a : Sl) (a1_b : Sl) (h : Hp) (K : Int → Hp → Prop) : Prop :=
C_ref06_pad a0_a (a1_b.len : Int) h fun (t1 : Sl) (h2 : Hp) =>
C_ref06_pad a1_b (t1.len : Int) h2 fun (t3 : Sl) (h4 : Hp) =>
∃ n, Lp (L1_ref06_Dist K t1 t3) n ((0, 0, ()), h4)

theorem F_ref06_Dist_ok (a0_a : Sl) (a1_b : Sl) (h : Hp) (K : Int → Hp → Prop) (hF : F_ref06_Dist a0_a a1_b h K) : C_ref06_Dist a0_a a1_b h K := by
  have e : bodyVC Try.prog Try.f21 (.seq .no (.seq .no (.seq .no (.seq .no (.seq (.seq .no (.block (.loop [(5, .at (.int .i64)), (6, .at (.int .i64))] (.seq (.seq .no (.cond .no .no)) (.seq (.block (.seq .no (.cond .no .no))) .no))))) (.seq .no .no)))))) (Option.getD Try.f21.body .skip) [.slice a0_a.a a0_a.len a0_a.cap, .slice a1_b.a a1_b.len a1_b.cap] h [.at (.int .i64)] (fun s h => K s.1 h) = F_ref06_Dist a0_a a1_b h K := by kernel_rfl
  exact fun_sound mixed Try.func21 rfl (e.mpr hF)

def J2_ref07_Dist (sL1 : (Int × Int × Unit) × Hp) (R1 : (Int × Int × Unit) × Hp → Prop) (sJ2 : Bool × Unit) (hJ2 : Hp) : Prop :=
cnd sJ2.1 (
Let (IntKind.wrap .i64 (sL1.1.1 + 1) : Int) fun (t1 : Int) =>
Let (IntKind.wrap .i64 (sL1.1.2.1 + 1) : Int) fun (t2 : Int) =>
R1 ((t1, t2, ()), hJ2)) (
Let (IntKind.wrap .i64 (sL1.1.2.1 + 1) : Int) fun (t3 : Int) =>
R1 ((sL1.1.1, t3, ()), hJ2))
def J1_ref07_Dist (a0_a : ByteArray) (a1_b : ByteArray) (sL1 : (Int × Int × Unit) × Hp) (R1 : (Int × Int × Unit) × Hp → Prop) (sJ1 : Unit) (hJ1 : Hp) : Prop :=
Jn (J2_ref07_Dist sL1 R1) fun (J2 : Bool × Unit → Hp → Prop) =>
cnd (decide (sL1.1.2.1 ≥ (ByteArray.size a0_a : Int))) (
J2 (true, ()) hJ1) (
cnd (decide (sL1.1.2.1 ≥ (ByteArray.size a1_b : Int))) (
J2 (true, ()) hJ1) (
idxStr a0_a sL1.1.2.1 fun (t4 : Int) =>
idxStr a1_b sL1.1.2.1 fun (t5 : Int) =>
J2 ((t4 != t5), ()) hJ1))
def L1_ref07_Dist (a0_a : ByteArray) (a1_b : ByteArray) (K : Int → Hp → Prop) (sL1 : (Int × Int × Unit) × Hp) (R1 : (Int × Int × Unit) × Hp → Prop) : Prop :=
Jn (J1_ref07_Dist a0_a a1_b sL1 R1) fun (J1 : Unit → Hp → Prop) =>
cnd (decide (sL1.1.2.1 < (ByteArray.size a0_a : Int))) (
J1 (()) sL1.2) (
cnd (decide (sL1.1.2.1 < (ByteArray.size a1_b : Int))) (
J1 (()) sL1.2) (
K sL1.1.1 sL1.2))
def F_ref07_Dist (a0_a : ByteArray) (a1_b : ByteArray) (h : Hp) (K : Int → Hp → Prop) : Prop :=
∃ n, Lp (L1_ref07_Dist a0_a a1_b K) n ((0, 0, ()), h)

theorem F_ref07_Dist_ok (a0_a : ByteArray) (a1_b : ByteArray) (h : Hp) (K : Int → Hp → Prop) (hF : F_ref07_Dist a0_a a1_b h K) : C_ref07_Dist a0_a a1_b h K := by
  have e : bodyVC Try.prog Try.f22 (.seq .no (.seq .no (.seq (.seq .no (.block (.loop [(5, .at (.int .i64)), (6, .at (.int .i64))] (.join [] (.seq .no (.cond .no .no)) (.seq (.block (.join [(37, .at .bool)] .no (.cond .no .no))) .no))))) (.seq .no .no)))) (Option.getD Try.f22.body .skip) [.string a0_a, .string a1_b] h [.at (.int .i64)] (fun s h => K s.1 h) = F_ref07_Dist a0_a a1_b h K := by kernel_rfl
  exact fun_sound mixed Try.func22 rfl (e.mpr hF)

def J1_ref08_Dist (a0_a : ByteArray) (a1_b : ByteArray) (K : Int → Hp → Prop) (sJ1 : Sl × Unit) (hJ1 : Hp) : Prop :=
idxS sJ1.1.a sJ1.1.len (ByteArray.size a0_a : Int) 1 fun (p1 : Addr) =>
ldA .sl hJ1 p1 fun (t2 : Sl) =>
idxS t2.a t2.len (ByteArray.size a1_b : Int) 1 fun (p3 : Addr) =>
ldA (.int .i64) hJ1 p3 fun (t4 : Int) =>
K t4 hJ1
def J3_ref08_Dist (sL1 : (Sl × Int × Unit) × Hp) (sL2 : (Sl × Int × Unit) × Hp) (R2 : (Sl × Int × Unit) × Hp → Prop) (sJ3 : Int × Unit) (hJ3 : Hp) : Prop :=
Let (IntKind.wrap .i64 (sL1.1.2.1 - 1) : Int) fun (t12 : Int) =>
idxS sL1.1.1.a sL1.1.1.len t12 1 fun (p13 : Addr) =>
ldA .sl hJ3 p13 fun (t14 : Sl) =>
idxS t14.a t14.len sL2.1.2.1 1 fun (p15 : Addr) =>
ldA (.int .i64) hJ3 p15 fun (t16 : Int) =>
Let (IntKind.wrap .i64 (t16 + 1) : Int) fun (t17 : Int) =>
Let (IntKind.wrap .i64 (sL2.1.2.1 - 1) : Int) fun (t18 : Int) =>
idxS sL2.1.1.a sL2.1.1.len t18 1 fun (p19 : Addr) =>
ldA (.int .i64) hJ3 p19 fun (t20 : Int) =>
Let (IntKind.wrap .i64 (t20 + 1) : Int) fun (t21 : Int) =>
Let (if t17 < sJ3.1 then t17 else sJ3.1 : Int) fun (t22 : Int) =>
Let (if t21 < t22 then t21 else t22 : Int) fun (t23 : Int) =>
Let (Array.push hJ3 (Obj.cells #[.int .i64 t23] 3)) fun (h24 : Hp) =>
Let (Addr.mk (Array.size hJ3) 0 none) fun (p25 : Addr) =>
appS 3 1 8 [.int .i64 0] sL2.1.1.a sL2.1.1.len sL2.1.1.cap (.slice (some p25) 1 1) h24 fun (t26 : Sl) (h27 : Hp) =>
Let (IntKind.wrap .i64 (sL2.1.2.1 + 1) : Int) fun (t28 : Int) =>
R2 ((t26, t28, ()), h27)
def J2_ref08_Dist (a0_a : ByteArray) (a1_b : ByteArray) (sL1 : (Sl × Int × Unit) × Hp) (sL2 : (Sl × Int × Unit) × Hp) (R2 : (Sl × Int × Unit) × Hp → Prop) (t5 : Int) (sJ2 : Bool × Unit) (hJ2 : Hp) : Prop :=
cnd sJ2.1 (
Let (IntKind.wrap .i64 (sL1.1.2.1 - 1) : Int) fun (t6 : Int) =>
idxS sL1.1.1.a sL1.1.1.len t6 1 fun (p7 : Addr) =>
ldA .sl hJ2 p7 fun (t8 : Sl) =>
Let (IntKind.wrap .i64 (sL2.1.2.1 - 1) : Int) fun (t9 : Int) =>
idxS t8.a t8.len t9 1 fun (p10 : Addr) =>
ldA (.int .i64) hJ2 p10 fun (t11 : Int) =>
Jn (J3_ref08_Dist sL1 sL2 R2) fun (J3 : Int × Unit → Hp → Prop) =>
Let (IntKind.wrap .i64 (sL1.1.2.1 - 1) : Int) fun (t29 : Int) =>
idxStr a0_a t29 fun (t30 : Int) =>
Let (IntKind.wrap .i64 (sL2.1.2.1 - 1) : Int) fun (t31 : Int) =>
idxStr a1_b t31 fun (t32 : Int) =>
cnd (t30 != t32) (
Let (IntKind.wrap .i64 (t11 + 1) : Int) fun (t33 : Int) =>
J3 (t33, ()) hJ2) (
J3 (t11, ()) hJ2)) (
Let (Array.push hJ2 (Obj.cells #[.int .i64 t5] 3)) fun (h34 : Hp) =>
Let (Addr.mk (Array.size hJ2) 0 none) fun (p35 : Addr) =>
appS 3 1 8 [.int .i64 0] sL2.1.1.a sL2.1.1.len sL2.1.1.cap (.slice (some p35) 1 1) h34 fun (t36 : Sl) (h37 : Hp) =>
Let (IntKind.wrap .i64 (sL2.1.2.1 + 1) : Int) fun (t38 : Int) =>
R2 ((t36, t38, ()), h37))
def L2_ref08_Dist (a0_a : ByteArray) (a1_b : ByteArray) (sL1 : (Sl × Int × Unit) × Hp) (R1 : (Sl × Int × Unit) × Hp → Prop) (sL2 : (Sl × Int × Unit) × Hp) (R2 : (Sl × Int × Unit) × Hp → Prop) : Prop :=
cnd (decide (sL2.1.2.1 ≤ (ByteArray.size a1_b : Int))) (
Let (IntKind.wrap .i64 (sL1.1.2.1 + sL2.1.2.1) : Int) fun (t5 : Int) =>
Jn (J2_ref08_Dist a0_a a1_b sL1 sL2 R2 t5) fun (J2 : Bool × Unit → Hp → Prop) =>
cnd (decide (sL1.1.2.1 > 0)) (
J2 (decide (sL2.1.2.1 > 0), ()) sL2.2) (
J2 (false, ()) sL2.2)) (
Let (Array.push sL2.2 (Obj.cells #[.slice sL2.1.1.a sL2.1.1.len sL2.1.1.cap] 68)) fun (h39 : Hp) =>
Let (Addr.mk (Array.size sL2.2) 0 none) fun (p40 : Addr) =>
appS 68 1 24 [.slice none 0 0] sL1.1.1.a sL1.1.1.len sL1.1.1.cap (.slice (some p40) 1 1) h39 fun (t41 : Sl) (h42 : Hp) =>
Let (IntKind.wrap .i64 (sL1.1.2.1 + 1) : Int) fun (t43 : Int) =>
R1 ((t41, t43, ()), h42))
def L1_ref08_Dist (a0_a : ByteArray) (a1_b : ByteArray) (J1 : Sl × Unit → Hp → Prop) (sL1 : (Sl × Int × Unit) × Hp) (R1 : (Sl × Int × Unit) × Hp → Prop) : Prop :=
cnd (decide (sL1.1.2.1 ≤ (ByteArray.size a0_a : Int))) (
∃ n, Lp (L2_ref08_Dist a0_a a1_b sL1 R1) n (((Sl.mk none 0 0), 0, ()), sL1.2)) (
J1 ((Sl.mk sL1.1.1.a sL1.1.1.len sL1.1.1.cap), ()) sL1.2)
def F_ref08_Dist (a0_a : ByteArray) (a1_b : ByteArray) (h : Hp) (K : Int → Hp → Prop) : Prop :=
Jn (J1_ref08_Dist a0_a a1_b K) fun (J1 : Sl × Unit → Hp → Prop) =>
∃ n, Lp (L1_ref08_Dist a0_a a1_b J1) n (((Sl.mk none 0 0), 0, ()), h)

theorem F_ref08_Dist_ok (a0_a : ByteArray) (a1_b : ByteArray) (h : Hp) (K : Int → Hp → Prop) (hF : F_ref08_Dist a0_a a1_b h K) : C_ref08_Dist a0_a a1_b h K := by
  have e : bodyVC Try.prog Try.f23 (.seq .no (.seq .no (.join [(5, .at .sl)] (.seq .no (.block (.loop [(5, .at .sl), (6, .at (.int .i64))] (.seq (.seq .no (.cond .no .no)) (.seq (.block (.seq .no (.seq (.seq .no (.block (.loop [(7, .at .sl), (8, .at (.int .i64))] (.seq (.seq .no (.cond .no .no)) (.seq (.block (.seq .no (.seq (.join [(30, .at .bool)] .no (.cond (.seq .no (.join [(9, .at (.int .i64))] (.seq .no (.cond .no .no)) .no)) .no)) .no))) .no))))) .no))) .no))))) (.seq .no .no)))) (Option.getD Try.f23.body .skip) [.string a0_a, .string a1_b] h [.at (.int .i64)] (fun s h => K s.1 h) = F_ref08_Dist a0_a a1_b h K := by kernel_rfl
  exact fun_sound mixed Try.func23 rfl (e.mpr hF)

def J1_ref11_Put (K : Sl → Hp → Prop) (p2 : Addr) (sJ1 : Sl × Bool × Unit) (hJ1 : Hp) : Prop :=
cnd (!sJ1.2.1) (
ldA (.int .u64) hJ1 p2 fun (t3 : Int) =>
ldA (.int .i64) hJ1 (Addr.add p2 1) fun (t4 : Int) =>
Let (Array.push hJ1 (Obj.cells #[.int .u64 t3, .int .i64 t4] 50)) fun (h5 : Hp) =>
Let (Addr.mk (Array.size hJ1) 0 none) fun (p6 : Addr) =>
appS 50 2 16 [.int .u64 0, .int .i64 0] sJ1.1.a sJ1.1.len sJ1.1.cap (.slice (some p6) 1 1) h5 fun (t7 : Sl) (h8 : Hp) =>
K t7 h8) (
K (Sl.mk sJ1.1.a sJ1.1.len sJ1.1.cap) hJ1)
def J2_ref11_Put (a0_l : Sl) (sL1 : (Sl × Bool × Int × Unit) × Hp) (R1 : (Sl × Bool × Int × Unit) × Hp → Prop) (sJ2 : Sl × Bool × Unit) (hJ2 : Hp) : Prop :=
idxS a0_l.a a0_l.len sL1.1.2.2.1 2 fun (p9 : Addr) =>
ldA (.int .u64) hJ2 p9 fun (t10 : Int) =>
ldA (.int .i64) hJ2 (Addr.add p9 1) fun (t11 : Int) =>
Let (Array.push hJ2 (Obj.cells #[.int .u64 t10, .int .i64 t11] 50)) fun (h12 : Hp) =>
Let (Addr.mk (Array.size hJ2) 0 none) fun (p13 : Addr) =>
appS 50 2 16 [.int .u64 0, .int .i64 0] sJ2.1.a sJ2.1.len sJ2.1.cap (.slice (some p13) 1 1) h12 fun (t14 : Sl) (h15 : Hp) =>
Let (IntKind.wrap .i64 (sL1.1.2.2.1 + 1) : Int) fun (t16 : Int) =>
R1 ((t14, sJ2.2.1, t16, ()), h15)
def J3_ref11_Put (p2 : Addr) (sL1 : (Sl × Bool × Int × Unit) × Hp) (J2 : Sl × Bool × Unit → Hp → Prop) (sJ3 : Bool × Unit) (hJ3 : Hp) : Prop :=
cnd sJ3.1 (
ldA (.int .u64) hJ3 p2 fun (t17 : Int) =>
ldA (.int .i64) hJ3 (Addr.add p2 1) fun (t18 : Int) =>
Let (Array.push hJ3 (Obj.cells #[.int .u64 t17, .int .i64 t18] 50)) fun (h19 : Hp) =>
Let (Addr.mk (Array.size hJ3) 0 none) fun (p20 : Addr) =>
appS 50 2 16 [.int .u64 0, .int .i64 0] sL1.1.1.a sL1.1.1.len sL1.1.1.cap (.slice (some p20) 1 1) h19 fun (t21 : Sl) (h22 : Hp) =>
J2 (t21, true, ()) h22) (
J2 ((Sl.mk sL1.1.1.a sL1.1.1.len sL1.1.1.cap), sL1.1.2.1, ()) hJ3)
def L1_ref11_Put (a0_l : Sl) (p2 : Addr) (J1 : Sl × Bool × Unit → Hp → Prop) (sL1 : (Sl × Bool × Int × Unit) × Hp) (R1 : (Sl × Bool × Int × Unit) × Hp → Prop) : Prop :=
cnd (decide (sL1.1.2.2.1 < (a0_l.len : Int))) (
Jn (J2_ref11_Put a0_l sL1 R1) fun (J2 : Sl × Bool × Unit → Hp → Prop) =>
Jn (J3_ref11_Put p2 sL1 J2) fun (J3 : Bool × Unit → Hp → Prop) =>
cnd (!sL1.1.2.1) (
ldA (.int .u64) sL1.2 p2 fun (t23 : Int) =>
ldA (.int .i64) sL1.2 (Addr.add p2 1) fun (t24 : Int) =>
idxS a0_l.a a0_l.len sL1.1.2.2.1 2 fun (p25 : Addr) =>
ldA (.int .u64) sL1.2 p25 fun (t26 : Int) =>
ldA (.int .i64) sL1.2 (Addr.add p25 1) fun (t27 : Int) =>
C_ref11_Less t23 t24 t26 t27 sL1.2 fun (t28 : Bool) (h29 : Hp) =>
J3 (t28, ()) h29) (
J3 (false, ()) sL1.2)) (
J1 ((Sl.mk sL1.1.1.a sL1.1.1.len sL1.1.1.cap), sL1.1.2.1, ()) sL1.2)
def F_ref11_Put (a0_l : Sl) (a1_h : Int) (a2_h : Int) (h : Hp) (K : Sl → Hp → Prop) : Prop :=
Let (Array.push h (Obj.cells #[.int .u64 a1_h, .int .i64 a2_h] 50)) fun (h1 : Hp) =>
Let (Addr.mk (Array.size h) 0 none) fun (p2 : Addr) =>
Jn (J1_ref11_Put K p2) fun (J1 : Sl × Bool × Unit → Hp → Prop) =>
∃ n, Lp (L1_ref11_Put a0_l p2 J1) n (((Sl.mk none 0 0), false, 0, ()), h1)

theorem F_ref11_Put_ok (a0_l : Sl) (a1_h : Int) (a2_h : Int) (h : Hp) (K : Sl → Hp → Prop) (hF : F_ref11_Put a0_l a1_h a2_h h K) : C_ref11_Put a0_l a1_h a2_h h K := by
  have e : bodyVC Try.prog Try.f24 (.seq .no (.seq .no (.seq .no (.join [(5, .at .sl), (6, .at .bool)] (.seq .no (.block (.loop [(5, .at .sl), (6, .at .bool), (7, .at (.int .i64))] (.seq (.seq .no (.cond .no .no)) (.seq (.block (.join [(5, .at .sl), (6, .at .bool)] (.join [(23, .at .bool)] .no (.cond (.seq .no .no) .no)) .no)) .no))))) (.seq (.seq .no (.cond .no .no)) (.seq .no .no)))))) (Option.getD Try.f24.body .skip) [.slice a0_l.a a0_l.len a0_l.cap, .agg #[.int .u64 a1_h, .int .i64 a2_h]] h [.at .sl] (fun s h => K s.1 h) = F_ref11_Put a0_l a1_h a2_h h K := by kernel_rfl
  exact fun_sound mixed Try.func24 rfl (e.mpr hF)

def F_metric_Meter_Dist (a0_m : Option Addr) (a1_x : Int) (a2_x : Sl) (a3_x : ByteArray) (a4_y : Int) (a5_y : Sl) (a6_y : ByteArray) (h : Hp) (K : Int → Hp → Prop) : Prop :=
Let (Array.push h (Obj.cells #[.int .i64 a1_x, .slice a2_x.a a2_x.len a2_x.cap, .string a3_x] 25)) fun (h1 : Hp) =>
Let (Addr.mk (Array.size h) 0 none) fun (p2 : Addr) =>
Let (Array.push h1 (Obj.cells #[.int .i64 a4_y, .slice a5_y.a a5_y.len a5_y.cap, .string a6_y] 25)) fun (h3 : Hp) =>
Let (Addr.mk (Array.size h1) 0 none) fun (p4 : Addr) =>
cnd (Option.isNone a0_m) (
K 0 h3) (
someA a0_m fun (p5 : Addr) =>
ldA (.int .i64) h3 (Addr.add p5 1) fun (t6 : Int) =>
Let (IntKind.wrap .i64 (t6 + 1) : Int) fun (t7 : Int) =>
someA a0_m fun (p8 : Addr) =>
((1 : Nat) = 1) ∧ (
stC h3 (Addr.add p8 1) (
Let (hset h3 (Addr.add p8 1) (.int .i64 t7)) fun (h9 : Hp) =>
someA a0_m fun (p10 : Addr) =>
ldA (.int .i64) h9 p10 fun (t11 : Int) =>
ldA (.int .i64) h9 p2 fun (t12 : Int) =>
ldA .sl h9 (Addr.add p2 1) fun (t13 : Sl) =>
ldA .str h9 (Addr.add p2 2) fun (t14 : ByteArray) =>
ldA (.int .i64) h9 p4 fun (t15 : Int) =>
ldA .sl h9 (Addr.add p4 1) fun (t16 : Sl) =>
ldA .str h9 (Addr.add p4 2) fun (t17 : ByteArray) =>
C_metric_Dist t11 t12 t13 t14 t15 t16 t17 h9 fun (t18 : Int) (h19 : Hp) =>
K t18 h19)))

theorem F_metric_Meter_Dist_ok (a0_m : Option Addr) (a1_x : Int) (a2_x : Sl) (a3_x : ByteArray) (a4_y : Int) (a5_y : Sl) (a6_y : ByteArray) (h : Hp) (K : Int → Hp → Prop) (hF : F_metric_Meter_Dist a0_m a1_x a2_x a3_x a4_y a5_y a6_y h K) : C_metric_Meter_Dist a0_m a1_x a2_x a3_x a4_y a5_y a6_y h K := by
  have e : bodyVC Try.prog Try.f25 (.seq .no (.seq (.seq .no (.cond (.seq .no .no) .no)) (.seq .no (.seq .no .no)))) (Option.getD Try.f25.body .skip) [.pointer a0_m, .agg #[.int .i64 a1_x, .slice a2_x.a a2_x.len a2_x.cap, .string a3_x], .agg #[.int .i64 a4_y, .slice a5_y.a a5_y.len a5_y.cap, .string a6_y]] h [.at (.int .i64)] (fun s h => K s.1 h) = F_metric_Meter_Dist a0_m a1_x a2_x a3_x a4_y a5_y a6_y h K := by kernel_rfl
  exact fun_sound mixed Try.func25 rfl (e.mpr hF)

def F_hits_Sort (a0_l : Sl) (h : Hp) (K : Sl → Hp → Prop) : Prop :=
C_slices_Clone_api_Hit_api_Hit a0_l h fun (t1 : Sl) (h2 : Hp) =>
C_slices_SortFunc_api_Hit_api_Hit t1 (.func (.func 36) #[] #[]) h2 fun  (h3 : Hp) =>
K t1 h3

theorem F_hits_Sort_ok (a0_l : Sl) (h : Hp) (K : Sl → Hp → Prop) (hF : F_hits_Sort a0_l h K) : C_hits_Sort a0_l h K := by
  have e : bodyVC Try.prog Try.f26 (.seq .no (.seq .no (.seq .no (.seq .no .no)))) (Option.getD Try.f26.body .skip) [.slice a0_l.a a0_l.len a0_l.cap] h [.at .sl] (fun s h => K s.1 h) = F_hits_Sort a0_l h K := by kernel_rfl
  exact fun_sound mixed Try.func26 rfl (e.mpr hF)

def F_best_New (a0_k : Int) (h : Hp) (K : Option Addr → Hp → Prop) : Prop :=
Let (if 0 > a0_k then 0 else a0_k : Int) fun (t1 : Int) =>
C_heap_New_api_Hit (.func (.func 37) #[] #[]) h fun (t2 : Option Addr) (h3 : Hp) =>
Let (Array.push h3 (Obj.cells #[.int .i64 t1, .pointer t2] 75)) fun (h4 : Hp) =>
Let (Addr.mk (Array.size h3) 0 none) fun (p5 : Addr) =>
K (some p5) h4

theorem F_best_New_ok (a0_k : Int) (h : Hp) (K : Option Addr → Hp → Prop) (hF : F_best_New a0_k h K) : C_best_New a0_k h K := by
  have e : bodyVC Try.prog Try.f27 (.seq .no (.seq .no (.seq .no .no))) (Option.getD Try.f27.body .skip) [.int .i64 a0_k] h [.at .ptr] (fun s h => K s.1 h) = F_best_New a0_k h K := by kernel_rfl
  exact fun_sound mixed Try.func27 rfl (e.mpr hF)

def J2_best_Best_Add (a0_b : Option Addr) (K : Bool → Hp → Prop) (p2 : Addr) (sJ2 : Unit) (hJ2 : Hp) : Prop :=
someA a0_b fun (p3 : Addr) =>
ldA .ptr hJ2 (Addr.add p3 1) fun (t4 : Option Addr) =>
ldA (.int .u64) hJ2 p2 fun (t5 : Int) =>
ldA (.int .i64) hJ2 (Addr.add p2 1) fun (t6 : Int) =>
C_heap_Heap_api_Hit_Push t4 t5 t6 hJ2 fun  (h7 : Hp) =>
K true h7
def J3_best_Best_Add (a0_b : Option Addr) (K : Bool → Hp → Prop) (p2 : Addr) (J2 : Unit → Hp → Prop) (p15 : Addr) (sJ3 : Bool × Unit) (hJ3 : Hp) : Prop :=
cnd sJ3.1 (
ldA (.int .u64) hJ3 p2 fun (t18 : Int) =>
ldA (.int .i64) hJ3 (Addr.add p2 1) fun (t19 : Int) =>
ldA (.int .u64) hJ3 p15 fun (t20 : Int) =>
ldA (.int .i64) hJ3 (Addr.add p15 1) fun (t21 : Int) =>
C_hits_Cmp t18 t19 t20 t21 hJ3 fun (t22 : Int) (h23 : Hp) =>
cnd (decide (t22 ≥ 0)) (
K false h23) (
someA a0_b fun (p24 : Addr) =>
ldA .ptr h23 (Addr.add p24 1) fun (t25 : Option Addr) =>
C_heap_Heap_api_Hit_Pop t25 h23 fun (t26 : Int) (t27 : Int) (t28 : Bool) (h29 : Hp) =>
J2 (()) h29)) (
J2 (()) hJ3)
def J1_best_Best_Add (a0_b : Option Addr) (K : Bool → Hp → Prop) (p2 : Addr) (sJ1 : Unit) (hJ1 : Hp) : Prop :=
Jn (J2_best_Best_Add a0_b K p2) fun (J2 : Unit → Hp → Prop) =>
someA a0_b fun (p8 : Addr) =>
ldA .ptr hJ1 (Addr.add p8 1) fun (t9 : Option Addr) =>
C_heap_Heap_api_Hit_Top t9 hJ1 fun (t10 : Int) (t11 : Int) (t12 : Bool) (h13 : Hp) =>
Let (Array.push h13 (Obj.cells #[.int .u64 0, .int .i64 0] 50)) fun (h14 : Hp) =>
Let (Addr.mk (Array.size h13) 0 none) fun (p15 : Addr) =>
stC h14 p15 (
Let (hset h14 p15 (.int .u64 t10)) fun (h16 : Hp) =>
stC h16 (Addr.add p15 1) (
Let (hset h16 (Addr.add p15 1) (.int .i64 t11)) fun (h17 : Hp) =>
Jn (J3_best_Best_Add a0_b K p2 J2 p15) fun (J3 : Bool × Unit → Hp → Prop) =>
cnd t12 (
C_best_Best_Full a0_b h17 fun (t30 : Bool) (h31 : Hp) =>
J3 (t30, ()) h31) (
J3 (false, ()) h17)))
def F_best_Best_Add (a0_b : Option Addr) (a1_h : Int) (a2_h : Int) (h : Hp) (K : Bool → Hp → Prop) : Prop :=
Let (Array.push h (Obj.cells #[.int .u64 a1_h, .int .i64 a2_h] 50)) fun (h1 : Hp) =>
Let (Addr.mk (Array.size h) 0 none) fun (p2 : Addr) =>
Jn (J1_best_Best_Add a0_b K p2) fun (J1 : Unit → Hp → Prop) =>
cnd (Option.isNone a0_b) (
K false h1) (
someA a0_b fun (p32 : Addr) =>
ldA (.int .i64) h1 p32 fun (t33 : Int) =>
cnd (t33 == 0) (
K false h1) (
J1 (()) h1))

theorem F_best_Best_Add_ok (a0_b : Option Addr) (a1_h : Int) (a2_h : Int) (h : Hp) (K : Bool → Hp → Prop) (hF : F_best_Best_Add a0_b a1_h a2_h h K) : C_best_Best_Add a0_b a1_h a2_h h K := by
  have e : bodyVC Try.prog Try.f28 (.seq .no (.join [] (.seq .no (.cond (.seq .no .no) .no)) (.join [] (.seq .no (.join [(28, .at .bool)] .no (.cond (.seq (.seq .no (.cond (.seq .no .no) .no)) .no) .no))) (.seq .no (.seq .no .no))))) (Option.getD Try.f28.body .skip) [.pointer a0_b, .agg #[.int .u64 a1_h, .int .i64 a2_h]] h [.at .bool] (fun s h => K s.1 h) = F_best_Best_Add a0_b a1_h a2_h h K := by kernel_rfl
  exact fun_sound mixed Try.func28 rfl (e.mpr hF)

def F_best_Best_List (a0_b : Option Addr) (h : Hp) (K : Sl → Hp → Prop) : Prop :=
cnd (Option.isNone a0_b) (
K (Sl.mk none 0 0) h) (
someA a0_b fun (p1 : Addr) =>
ldA .ptr h (Addr.add p1 1) fun (t2 : Option Addr) =>
C_heap_Heap_api_Hit_All t2 h fun (t3 : Sl) (h4 : Hp) =>
C_hits_Sort t3 h4 fun (t5 : Sl) (h6 : Hp) =>
K t5 h6)

theorem F_best_Best_List_ok (a0_b : Option Addr) (h : Hp) (K : Sl → Hp → Prop) (hF : F_best_Best_List a0_b h K) : C_best_Best_List a0_b h K := by
  have e : bodyVC Try.prog Try.f29 (.seq .no (.seq (.seq .no (.cond (.seq .no .no) .no)) (.seq .no .no))) (Option.getD Try.f29.body .skip) [.pointer a0_b] h [.at .sl] (fun s h => K s.1 h) = F_best_Best_List a0_b h K := by kernel_rfl
  exact fun_sound mixed Try.func29 rfl (e.mpr hF)

def F_metric_Upto (a0_metric : Int) (a1_x : Int) (a2_x : Sl) (a3_x : ByteArray) (a4_y : Int) (a5_y : Sl) (a6_y : ByteArray) (a7_most : Int) (h : Hp) (K : Int → Bool → Hp → Prop) : Prop :=
Let (Array.push h (Obj.cells #[.int .i64 a1_x, .slice a2_x.a a2_x.len a2_x.cap, .string a3_x] 25)) fun (h1 : Hp) =>
Let (Addr.mk (Array.size h) 0 none) fun (p2 : Addr) =>
Let (Array.push h1 (Obj.cells #[.int .i64 a4_y, .slice a5_y.a a5_y.len a5_y.cap, .string a6_y] 25)) fun (h3 : Hp) =>
Let (Addr.mk (Array.size h1) 0 none) fun (p4 : Addr) =>
cnd (a0_metric == 1) (
ldA .sl h3 (Addr.add p2 1) fun (t5 : Sl) =>
ldA .sl h3 (Addr.add p4 1) fun (t6 : Sl) =>
C_lone_Upto t5 t6 a7_most h3 fun (t7 : Int) (t8 : Bool) (h9 : Hp) =>
K t7 t8 h9) (
cnd (a0_metric == 2) (
ldA .str h3 (Addr.add p2 2) fun (t10 : ByteArray) =>
ldA .str h3 (Addr.add p4 2) fun (t11 : ByteArray) =>
C_ham_Upto t10 t11 a7_most h3 fun (t12 : Int) (t13 : Bool) (h14 : Hp) =>
K t12 t13 h14) (
cnd (a0_metric == 3) (
ldA .str h3 (Addr.add p2 2) fun (t15 : ByteArray) =>
ldA .str h3 (Addr.add p4 2) fun (t16 : ByteArray) =>
C_lev_Upto t15 t16 a7_most h3 fun (t17 : Int) (t18 : Bool) (h19 : Hp) =>
K t17 t18 h19) (
K 0 (decide (a7_most ≥ 0)) h3)))

theorem F_metric_Upto_ok (a0_metric : Int) (a1_x : Int) (a2_x : Sl) (a3_x : ByteArray) (a4_y : Int) (a5_y : Sl) (a6_y : ByteArray) (a7_most : Int) (h : Hp) (K : Int → Bool → Hp → Prop) (hF : F_metric_Upto a0_metric a1_x a2_x a3_x a4_y a5_y a6_y a7_most h K) : C_metric_Upto a0_metric a1_x a2_x a3_x a4_y a5_y a6_y a7_most h K := by
  have e : bodyVC Try.prog Try.f30 (.seq .no (.seq (.seq .no (.block (.seq .no (.cond (.seq .no .no) (.seq .no (.cond (.seq .no .no) (.seq .no (.cond (.seq .no .no) .no)))))))) (.seq .no .no))) (Option.getD Try.f30.body .skip) [.int .i64 a0_metric, .agg #[.int .i64 a1_x, .slice a2_x.a a2_x.len a2_x.cap, .string a3_x], .agg #[.int .i64 a4_y, .slice a5_y.a a5_y.len a5_y.cap, .string a6_y], .int .i64 a7_most] h [.at (.int .i64), .at .bool] (fun s h => K s.1 s.2.1 h) = F_metric_Upto a0_metric a1_x a2_x a3_x a4_y a5_y a6_y a7_most h K := by kernel_rfl
  exact fun_sound mixed Try.func30 rfl (e.mpr hF)

def L1_ref06_pad (a1_n : Int) (K : Sl → Hp → Prop) (sL1 : (Sl × Unit) × Hp) (R1 : (Sl × Unit) × Hp → Prop) : Prop :=
cnd (decide ((sL1.1.1.len : Int) < a1_n)) (
Let (Array.push sL1.2 (Obj.cells #[.int .i32 0] 21)) fun (h3 : Hp) =>
Let (Addr.mk (Array.size sL1.2) 0 none) fun (p4 : Addr) =>
appS 21 1 4 [.int .i32 0] sL1.1.1.a sL1.1.1.len sL1.1.1.cap (.slice (some p4) 1 1) h3 fun (t5 : Sl) (h6 : Hp) =>
R1 ((t5, ()), h6)) (
K (Sl.mk sL1.1.1.a sL1.1.1.len sL1.1.1.cap) sL1.2)
def F_ref06_pad (a0_a : Sl) (a1_n : Int) (h : Hp) (K : Sl → Hp → Prop) : Prop :=
appS 21 1 4 [.int .i32 0] none 0 0 (.slice a0_a.a a0_a.len a0_a.cap) h fun (t1 : Sl) (h2 : Hp) =>
∃ n, Lp (L1_ref06_pad a1_n K) n ((t1, ()), h2)

theorem F_ref06_pad_ok (a0_a : Sl) (a1_n : Int) (h : Hp) (K : Sl → Hp → Prop) (hF : F_ref06_pad a0_a a1_n h K) : C_ref06_pad a0_a a1_n h K := by
  have e : bodyVC Try.prog Try.f31 (.seq .no (.seq .no (.seq (.block (.loop [(5, .at .sl)] (.seq (.seq .no (.cond .no .no)) (.block .no)))) (.seq .no .no)))) (Option.getD Try.f31.body .skip) [.slice a0_a.a a0_a.len a0_a.cap, .int .i64 a1_n] h [.at .sl] (fun s h => K s.1 h) = F_ref06_pad a0_a a1_n h K := by kernel_rfl
  exact fun_sound mixed Try.func31 rfl (e.mpr hF)

def F_ref11_Less (a0_a : Int) (a1_a : Int) (a2_b : Int) (a3_b : Int) (h : Hp) (K : Bool → Hp → Prop) : Prop :=
Let (Array.push h (Obj.cells #[.int .u64 a0_a, .int .i64 a1_a] 50)) fun (h1 : Hp) =>
Let (Addr.mk (Array.size h) 0 none) fun (p2 : Addr) =>
Let (Array.push h1 (Obj.cells #[.int .u64 a2_b, .int .i64 a3_b] 50)) fun (h3 : Hp) =>
Let (Addr.mk (Array.size h1) 0 none) fun (p4 : Addr) =>
ldA (.int .i64) h3 (Addr.add p2 1) fun (t5 : Int) =>
ldA (.int .i64) h3 (Addr.add p4 1) fun (t6 : Int) =>
cnd (decide (t5 < t6)) (
K true h3) (
ldA (.int .i64) h3 (Addr.add p2 1) fun (t7 : Int) =>
ldA (.int .i64) h3 (Addr.add p4 1) fun (t8 : Int) =>
cnd (t7 == t8) (
ldA (.int .u64) h3 p2 fun (t9 : Int) =>
ldA (.int .u64) h3 p4 fun (t10 : Int) =>
K (decide (t9 < t10)) h3) (
K false h3))

theorem F_ref11_Less_ok (a0_a : Int) (a1_a : Int) (a2_b : Int) (a3_b : Int) (h : Hp) (K : Bool → Hp → Prop) (hF : F_ref11_Less a0_a a1_a a2_b a3_b h K) : C_ref11_Less a0_a a1_a a2_b a3_b h K := by
  have e : bodyVC Try.prog Try.f32 (.seq .no (.seq .no .no)) (Option.getD Try.f32.body .skip) [.agg #[.int .u64 a0_a, .int .i64 a1_a], .agg #[.int .u64 a2_b, .int .i64 a3_b]] h [.at .bool] (fun s h => K s.1 h) = F_ref11_Less a0_a a1_a a2_b a3_b h K := by kernel_rfl
  exact fun_sound mixed Try.func32 rfl (e.mpr hF)

def F_metric_Dist (a0_metric : Int) (a1_x : Int) (a2_x : Sl) (a3_x : ByteArray) (a4_y : Int) (a5_y : Sl) (a6_y : ByteArray) (h : Hp) (K : Int → Hp → Prop) : Prop :=
Let (Array.push h (Obj.cells #[.int .i64 a1_x, .slice a2_x.a a2_x.len a2_x.cap, .string a3_x] 25)) fun (h1 : Hp) =>
Let (Addr.mk (Array.size h) 0 none) fun (p2 : Addr) =>
Let (Array.push h1 (Obj.cells #[.int .i64 a4_y, .slice a5_y.a a5_y.len a5_y.cap, .string a6_y] 25)) fun (h3 : Hp) =>
Let (Addr.mk (Array.size h1) 0 none) fun (p4 : Addr) =>
cnd (a0_metric == 1) (
ldA .sl h3 (Addr.add p2 1) fun (t5 : Sl) =>
ldA .sl h3 (Addr.add p4 1) fun (t6 : Sl) =>
C_lone_Dist t5 t6 h3 fun (t7 : Int) (h8 : Hp) =>
K t7 h8) (
cnd (a0_metric == 2) (
ldA .str h3 (Addr.add p2 2) fun (t9 : ByteArray) =>
ldA .str h3 (Addr.add p4 2) fun (t10 : ByteArray) =>
C_ham_Dist t9 t10 h3 fun (t11 : Int) (h12 : Hp) =>
K t11 h12) (
cnd (a0_metric == 3) (
ldA .str h3 (Addr.add p2 2) fun (t13 : ByteArray) =>
ldA .str h3 (Addr.add p4 2) fun (t14 : ByteArray) =>
C_lev_Dist t13 t14 h3 fun (t15 : Int) (h16 : Hp) =>
K t15 h16) (
K 0 h3)))

theorem F_metric_Dist_ok (a0_metric : Int) (a1_x : Int) (a2_x : Sl) (a3_x : ByteArray) (a4_y : Int) (a5_y : Sl) (a6_y : ByteArray) (h : Hp) (K : Int → Hp → Prop) (hF : F_metric_Dist a0_metric a1_x a2_x a3_x a4_y a5_y a6_y h K) : C_metric_Dist a0_metric a1_x a2_x a3_x a4_y a5_y a6_y h K := by
  have e : bodyVC Try.prog Try.f33 (.seq .no (.seq (.seq .no (.block (.seq .no (.cond (.seq .no .no) (.seq .no (.cond (.seq .no .no) (.seq .no (.cond (.seq .no .no) .no)))))))) (.seq .no .no))) (Option.getD Try.f33.body .skip) [.int .i64 a0_metric, .agg #[.int .i64 a1_x, .slice a2_x.a a2_x.len a2_x.cap, .string a3_x], .agg #[.int .i64 a4_y, .slice a5_y.a a5_y.len a5_y.cap, .string a6_y]] h [.at (.int .i64)] (fun s h => K s.1 h) = F_metric_Dist a0_metric a1_x a2_x a3_x a4_y a5_y a6_y h K := by kernel_rfl
  exact fun_sound mixed Try.func33 rfl (e.mpr hF)

def F_slices_Clone_api_Hit_api_Hit (a0_s : Sl) (h : Hp) (K : Sl → Hp → Prop) : Prop :=
cnd (Option.isNone a0_s.a) (
K (Sl.mk none 0 0) h) (
Let (Array.push h (Obj.cells #[] 50)) fun (h1 : Hp) =>
Let (Addr.mk (Array.size h) 0 none) fun (p2 : Addr) =>
appS 50 2 16 [.int .u64 0, .int .i64 0] (some p2) 0 0 (.slice a0_s.a a0_s.len a0_s.cap) h1 fun (t3 : Sl) (h4 : Hp) =>
K t3 h4)

theorem F_slices_Clone_api_Hit_api_Hit_ok (a0_s : Sl) (h : Hp) (K : Sl → Hp → Prop) (hF : F_slices_Clone_api_Hit_api_Hit a0_s h K) : C_slices_Clone_api_Hit_api_Hit a0_s h K := by
  have e : bodyVC Try.prog Try.f34 (.seq .no (.seq (.seq .no (.cond (.seq .no .no) .no)) (.seq .no .no))) (Option.getD Try.f34.body .skip) [.slice a0_s.a a0_s.len a0_s.cap] h [.at .sl] (fun s h => K s.1 h) = F_slices_Clone_api_Hit_api_Hit a0_s h K := by kernel_rfl
  exact fun_sound mixed Try.func34 rfl (e.mpr hF)

def F_slices_SortFunc_api_Hit_api_Hit (a0_x : Sl) (a1_cmp : Value) (h : Hp) (K : Hp → Prop) : Prop :=
Let (IntKind.wrap .u64 ((a0_x.len : Int)) : Int) fun (t1 : Int) =>
C_math_bits_Len t1 h fun (t2 : Int) (h3 : Hp) =>
C_slices_pdqsortCmpFunc_api_Hit a0_x 0 (a0_x.len : Int) t2 a1_cmp h3 fun  (h4 : Hp) =>
K h4

theorem F_slices_SortFunc_api_Hit_api_Hit_ok (a0_x : Sl) (a1_cmp : Value) (h : Hp) (K : Hp → Prop) (hF : F_slices_SortFunc_api_Hit_api_Hit a0_x a1_cmp h K) : C_slices_SortFunc_api_Hit_api_Hit a0_x a1_cmp h K := by
  have e : bodyVC Try.prog Try.f35 (.seq .no .no) (Option.getD Try.f35.body .skip) [.slice a0_x.a a0_x.len a0_x.cap, a1_cmp] h [] (fun s h => K h) = F_slices_SortFunc_api_Hit_api_Hit a0_x a1_cmp h K := by kernel_rfl
  exact fun_sound mixed Try.func35 rfl (e.mpr hF)

def F_hits_Cmp (a0_a : Int) (a1_a : Int) (a2_b : Int) (a3_b : Int) (h : Hp) (K : Int → Hp → Prop) : Prop :=
Let (Array.push h (Obj.cells #[.int .u64 a0_a, .int .i64 a1_a] 50)) fun (h1 : Hp) =>
Let (Addr.mk (Array.size h) 0 none) fun (p2 : Addr) =>
Let (Array.push h1 (Obj.cells #[.int .u64 a2_b, .int .i64 a3_b] 50)) fun (h3 : Hp) =>
Let (Addr.mk (Array.size h1) 0 none) fun (p4 : Addr) =>
ldA (.int .i64) h3 (Addr.add p2 1) fun (t5 : Int) =>
ldA (.int .i64) h3 (Addr.add p4 1) fun (t6 : Int) =>
C_cmp_Compare_int t5 t6 h3 fun (t7 : Int) (h8 : Hp) =>
Ext h3 h8 ∧ (
ldA (.int .u64) h3 p2 fun (t9 : Int) =>
ldA (.int .u64) h3 p4 fun (t10 : Int) =>
C_cmp_Compare_uint64 t9 t10 h8 fun (t11 : Int) (h12 : Hp) =>
Let (Array.push h12 (Obj.cells #[.int .i64 t7, .int .i64 t11] 3)) fun (h13 : Hp) =>
Let (Addr.mk (Array.size h12) 0 none) fun (p14 : Addr) =>
C_cmp_Or_int (Sl.mk (some p14) 2 2) h13 fun (t15 : Int) (h16 : Hp) =>
K t15 h16)

theorem F_hits_Cmp_ok (a0_a : Int) (a1_a : Int) (a2_b : Int) (a3_b : Int) (h : Hp) (K : Int → Hp → Prop) (hF : F_hits_Cmp a0_a a1_a a2_b a3_b h K) : C_hits_Cmp a0_a a1_a a2_b a3_b h K := by
  have e : bodyVC Try.prog Try.f36 (.seq .no (.seq .no .no)) (Option.getD Try.f36.body .skip) [.agg #[.int .u64 a0_a, .int .i64 a1_a], .agg #[.int .u64 a2_b, .int .i64 a3_b]] h [.at (.int .i64)] (fun s h => K s.1 h) = F_hits_Cmp a0_a a1_a a2_b a3_b h K := by kernel_rfl
  exact fun_sound mixed Try.func36 rfl (e.mpr hF)

def F_best_New_1 (a0_a : Int) (a1_a : Int) (a2_b : Int) (a3_b : Int) (h : Hp) (K : Int → Hp → Prop) : Prop :=
Let (Array.push h (Obj.cells #[.int .u64 a0_a, .int .i64 a1_a] 50)) fun (h1 : Hp) =>
Let (Addr.mk (Array.size h) 0 none) fun (p2 : Addr) =>
Let (Array.push h1 (Obj.cells #[.int .u64 a2_b, .int .i64 a3_b] 50)) fun (h3 : Hp) =>
Let (Addr.mk (Array.size h1) 0 none) fun (p4 : Addr) =>
ldA (.int .u64) h3 p4 fun (t5 : Int) =>
ldA (.int .i64) h3 (Addr.add p4 1) fun (t6 : Int) =>
ldA (.int .u64) h3 p2 fun (t7 : Int) =>
ldA (.int .i64) h3 (Addr.add p2 1) fun (t8 : Int) =>
C_hits_Cmp t5 t6 t7 t8 h3 fun (t9 : Int) (h10 : Hp) =>
K t9 h10

theorem F_best_New_1_ok (a0_a : Int) (a1_a : Int) (a2_b : Int) (a3_b : Int) (h : Hp) (K : Int → Hp → Prop) (hF : F_best_New_1 a0_a a1_a a2_b a3_b h K) : C_best_New_1 a0_a a1_a a2_b a3_b h K := by
  have e : bodyVC Try.prog Try.f37 (.seq .no (.seq .no .no)) (Option.getD Try.f37.body .skip) [.agg #[.int .u64 a0_a, .int .i64 a1_a], .agg #[.int .u64 a2_b, .int .i64 a3_b]] h [.at (.int .i64)] (fun s h => K s.1 h) = F_best_New_1 a0_a a1_a a2_b a3_b h K := by kernel_rfl
  exact fun_sound mixed Try.func37 rfl (e.mpr hF)

def F_heap_New_api_Hit (a0_order : Value) (h : Hp) (K : Option Addr → Hp → Prop) : Prop :=
oneA a0_order fun (v1 : Value) =>
Let (Array.push h (Obj.cells #[v1, .slice none 0 0] 88)) fun (h2 : Hp) =>
Let (Addr.mk (Array.size h) 0 none) fun (p3 : Addr) =>
K (some p3) h2

theorem F_heap_New_api_Hit_ok (a0_order : Value) (h : Hp) (K : Option Addr → Hp → Prop) (hF : F_heap_New_api_Hit a0_order h K) : C_heap_New_api_Hit a0_order h K := by
  have e : bodyVC Try.prog Try.f38 (.seq .no (.seq .no .no)) (Option.getD Try.f38.body .skip) [a0_order] h [.at .ptr] (fun s h => K s.1 h) = F_heap_New_api_Hit a0_order h K := by kernel_rfl
  exact fun_sound mixed Try.func38 rfl (e.mpr hF)

def J1_heap_Heap_api_Hit_Top (a0_h : Option Addr) (K : Int → Int → Bool → Hp → Prop) (p2 : Addr) (sJ1 : Bool × Unit) (hJ1 : Hp) : Prop :=
cnd sJ1.1 (
Let (Array.push hJ1 (Obj.cells #[.int .u64 0, .int .i64 0] 50)) fun (h3 : Hp) =>
Let (Addr.mk (Array.size hJ1) 0 none) fun (p4 : Addr) =>
ldA (.int .u64) h3 p4 fun (t5 : Int) =>
ldA (.int .i64) h3 (Addr.add p4 1) fun (t6 : Int) =>
stC h3 p2 (
Let (hset h3 p2 (.int .u64 t5)) fun (h7 : Hp) =>
stC h7 (Addr.add p2 1) (
Let (hset h7 (Addr.add p2 1) (.int .i64 t6)) fun (h8 : Hp) =>
ldA (.int .u64) h8 p2 fun (r9 : Int) =>
ldA (.int .i64) h8 (Addr.add p2 1) fun (r10 : Int) =>
K r9 r10 false h8))) (
someA a0_h fun (p11 : Addr) =>
ldA .sl hJ1 (Addr.add p11 1) fun (t12 : Sl) =>
idxS t12.a t12.len 0 2 fun (p13 : Addr) =>
ldA (.int .u64) hJ1 p13 fun (t14 : Int) =>
ldA (.int .i64) hJ1 (Addr.add p13 1) fun (t15 : Int) =>
stC hJ1 p2 (
Let (hset hJ1 p2 (.int .u64 t14)) fun (h16 : Hp) =>
stC h16 (Addr.add p2 1) (
Let (hset h16 (Addr.add p2 1) (.int .i64 t15)) fun (h17 : Hp) =>
ldA (.int .u64) h17 p2 fun (r18 : Int) =>
ldA (.int .i64) h17 (Addr.add p2 1) fun (r19 : Int) =>
K r18 r19 true h17)))
def F_heap_Heap_api_Hit_Top (a0_h : Option Addr) (h : Hp) (K : Int → Int → Bool → Hp → Prop) : Prop :=
Let (Array.push h (Obj.cells #[.int .u64 0, .int .i64 0] 50)) fun (h1 : Hp) =>
Let (Addr.mk (Array.size h) 0 none) fun (p2 : Addr) =>
Jn (J1_heap_Heap_api_Hit_Top a0_h K p2) fun (J1 : Bool × Unit → Hp → Prop) =>
cnd (Option.isNone a0_h) (
J1 (true, ()) h1) (
someA a0_h fun (p20 : Addr) =>
ldA .sl h1 (Addr.add p20 1) fun (t21 : Sl) =>
J1 (((t21.len : Int) == 0), ()) h1)

theorem F_heap_Heap_api_Hit_Top_ok (a0_h : Option Addr) (h : Hp) (K : Int → Int → Bool → Hp → Prop) (hF : F_heap_Heap_api_Hit_Top a0_h h K) : C_heap_Heap_api_Hit_Top a0_h h K := by
  have e : bodyVC Try.prog Try.f39 (.seq .no (.seq (.join [(14, .at .bool)] .no (.cond (.seq .no (.seq .no .no)) .no)) (.seq .no .no))) (Option.getD Try.f39.body .skip) [.pointer a0_h] h [.agg [(.int .u64), (.int .i64)], .at .bool] (fun s h => K s.1.1 s.1.2.1 s.2.1 h) = F_heap_Heap_api_Hit_Top a0_h h K := by kernel_rfl
  exact fun_sound mixed Try.func39 rfl (e.mpr hF)

def F_best_Best_Full (a0_b : Option Addr) (h : Hp) (K : Bool → Hp → Prop) : Prop :=
cnd (Option.isNone a0_b) (
K true h) (
someA a0_b fun (p1 : Addr) =>
ldA .ptr h (Addr.add p1 1) fun (t2 : Option Addr) =>
C_heap_Heap_api_Hit_Len t2 h fun (t3 : Int) (h4 : Hp) =>
Ext h h4 ∧ (
someA a0_b fun (p5 : Addr) =>
ldA (.int .i64) h p5 fun (t6 : Int) =>
K (decide (t3 ≥ t6)) h4))

theorem F_best_Best_Full_ok (a0_b : Option Addr) (h : Hp) (K : Bool → Hp → Prop) (hF : F_best_Best_Full a0_b h K) : C_best_Best_Full a0_b h K := by
  have e : bodyVC Try.prog Try.f40 (.seq .no (.seq .no .no)) (Option.getD Try.f40.body .skip) [.pointer a0_b] h [.at .bool] (fun s h => K s.1 h) = F_best_Best_Full a0_b h K := by kernel_rfl
  exact fun_sound mixed Try.func40 rfl (e.mpr hF)

def F_heap_Heap_api_Hit_Pop (a0_h : Option Addr) (h : Hp) (K : Int → Int → Bool → Hp → Prop) : Prop :=
Let (Array.push h (Obj.cells #[.int .u64 0, .int .i64 0] 50)) fun (h1 : Hp) =>
Let (Addr.mk (Array.size h) 0 none) fun (p2 : Addr) =>
C_heap_Heap_api_Hit_Top a0_h h1 fun (t3 : Int) (t4 : Int) (t5 : Bool) (h6 : Hp) =>
Let (Array.push h6 (Obj.cells #[.int .u64 0, .int .i64 0] 50)) fun (h7 : Hp) =>
Let (Addr.mk (Array.size h6) 0 none) fun (p8 : Addr) =>
stC h7 p8 (
Let (hset h7 p8 (.int .u64 t3)) fun (h9 : Hp) =>
stC h9 (Addr.add p8 1) (
Let (hset h9 (Addr.add p8 1) (.int .i64 t4)) fun (h10 : Hp) =>
cnd (!t5) (
ldA (.int .u64) h10 p8 fun (t11 : Int) =>
ldA (.int .i64) h10 (Addr.add p8 1) fun (t12 : Int) =>
stC h10 p2 (
Let (hset h10 p2 (.int .u64 t11)) fun (h13 : Hp) =>
stC h13 (Addr.add p2 1) (
Let (hset h13 (Addr.add p2 1) (.int .i64 t12)) fun (h14 : Hp) =>
ldA (.int .u64) h14 p2 fun (r15 : Int) =>
ldA (.int .i64) h14 (Addr.add p2 1) fun (r16 : Int) =>
K r15 r16 false h14))) (
someA a0_h fun (p17 : Addr) =>
ldA .sl h10 (Addr.add p17 1) fun (t18 : Sl) =>
Let (IntKind.wrap .i64 ((t18.len : Int) - 1) : Int) fun (t19 : Int) =>
C_heap_Heap_api_Hit_swap a0_h 0 t19 h10 fun  (h20 : Hp) =>
someA a0_h fun (p21 : Addr) =>
ldA .sl h20 (Addr.add p21 1) fun (t22 : Sl) =>
slcS t22.a t22.len t22.cap none (some t19) 2 fun (t23 : Option Addr) (l24 c25 : Nat) =>
someA a0_h fun (p26 : Addr) =>
((1 : Nat) = 1) ∧ (
stC h20 (Addr.add p26 1) (
Let (hset h20 (Addr.add p26 1) (.slice t23 l24 c25)) fun (h27 : Hp) =>
cnd (decide (t19 > 0)) (
C_heap_Heap_api_Hit_down a0_h 0 h27 fun  (h28 : Hp) =>
ldA (.int .u64) h28 p8 fun (t29 : Int) =>
ldA (.int .i64) h28 (Addr.add p8 1) fun (t30 : Int) =>
stC h28 p2 (
Let (hset h28 p2 (.int .u64 t29)) fun (h31 : Hp) =>
stC h31 (Addr.add p2 1) (
Let (hset h31 (Addr.add p2 1) (.int .i64 t30)) fun (h32 : Hp) =>
ldA (.int .u64) h32 p2 fun (r33 : Int) =>
ldA (.int .i64) h32 (Addr.add p2 1) fun (r34 : Int) =>
K r33 r34 true h32))) (
ldA (.int .u64) h27 p8 fun (t35 : Int) =>
ldA (.int .i64) h27 (Addr.add p8 1) fun (t36 : Int) =>
stC h27 p2 (
Let (hset h27 p2 (.int .u64 t35)) fun (h37 : Hp) =>
stC h37 (Addr.add p2 1) (
Let (hset h37 (Addr.add p2 1) (.int .i64 t36)) fun (h38 : Hp) =>
ldA (.int .u64) h38 p2 fun (r39 : Int) =>
ldA (.int .i64) h38 (Addr.add p2 1) fun (r40 : Int) =>
K r39 r40 true h38))))))))

theorem F_heap_Heap_api_Hit_Pop_ok (a0_h : Option Addr) (h : Hp) (K : Int → Int → Bool → Hp → Prop) (hF : F_heap_Heap_api_Hit_Pop a0_h h K) : C_heap_Heap_api_Hit_Pop a0_h h K := by
  have e : bodyVC Try.prog Try.f41 (.seq .no (.seq .no (.seq (.seq .no (.cond (.seq .no .no) .no)) (.seq .no (.seq .no (.seq .no (.seq (.seq .no (.cond .no .no)) (.seq .no .no)))))))) (Option.getD Try.f41.body .skip) [.pointer a0_h] h [.agg [(.int .u64), (.int .i64)], .at .bool] (fun s h => K s.1.1 s.1.2.1 s.2.1 h) = F_heap_Heap_api_Hit_Pop a0_h h K := by kernel_rfl
  exact fun_sound mixed Try.func41 rfl (e.mpr hF)

def F_heap_Heap_api_Hit_Push (a0_h : Option Addr) (a1_x : Int) (a2_x : Int) (h : Hp) (K : Hp → Prop) : Prop :=
Let (Array.push h (Obj.cells #[.int .u64 a1_x, .int .i64 a2_x] 50)) fun (h1 : Hp) =>
Let (Addr.mk (Array.size h) 0 none) fun (p2 : Addr) =>
cnd (Option.isNone a0_h) (
K h1) (
someA a0_h fun (p3 : Addr) =>
ldA .sl h1 (Addr.add p3 1) fun (t4 : Sl) =>
ldA (.int .u64) h1 p2 fun (t5 : Int) =>
ldA (.int .i64) h1 (Addr.add p2 1) fun (t6 : Int) =>
Let (Array.push h1 (Obj.cells #[.int .u64 t5, .int .i64 t6] 50)) fun (h7 : Hp) =>
Let (Addr.mk (Array.size h1) 0 none) fun (p8 : Addr) =>
Ext h1 h7 ∧ (
appS 50 2 16 [.int .u64 0, .int .i64 0] t4.a t4.len t4.cap (.slice (some p8) 1 1) h7 fun (t9 : Sl) (h10 : Hp) =>
someA a0_h fun (p11 : Addr) =>
((1 : Nat) = 1) ∧ (
stC h10 (Addr.add p11 1) (
Let (hset h10 (Addr.add p11 1) (.slice t9.a t9.len t9.cap)) fun (h12 : Hp) =>
someA a0_h fun (p13 : Addr) =>
ldA .sl h12 (Addr.add p13 1) fun (t14 : Sl) =>
Let (IntKind.wrap .i64 ((t14.len : Int) - 1) : Int) fun (t15 : Int) =>
C_heap_Heap_api_Hit_up a0_h t15 h12 fun  (h16 : Hp) =>
K h16))))

theorem F_heap_Heap_api_Hit_Push_ok (a0_h : Option Addr) (a1_x : Int) (a2_x : Int) (h : Hp) (K : Hp → Prop) (hF : F_heap_Heap_api_Hit_Push a0_h a1_x a2_x h K) : C_heap_Heap_api_Hit_Push a0_h a1_x a2_x h K := by
  have e : bodyVC Try.prog Try.f42 (.seq .no (.seq (.seq .no (.cond .no .no)) (.seq .no .no))) (Option.getD Try.f42.body .skip) [.pointer a0_h, .agg #[.int .u64 a1_x, .int .i64 a2_x]] h [] (fun s h => K h) = F_heap_Heap_api_Hit_Push a0_h a1_x a2_x h K := by kernel_rfl
  exact fun_sound mixed Try.func42 rfl (e.mpr hF)

def F_heap_Heap_api_Hit_All (a0_h : Option Addr) (h : Hp) (K : Sl → Hp → Prop) : Prop :=
cnd (Option.isNone a0_h) (
K (Sl.mk none 0 0) h) (
someA a0_h fun (p1 : Addr) =>
ldA .sl h (Addr.add p1 1) fun (t2 : Sl) =>
C_slices_Clone_api_Hit_api_Hit t2 h fun (t3 : Sl) (h4 : Hp) =>
someA a0_h fun (p5 : Addr) =>
ldA .raw h4 p5 fun (t6 : Value) =>
C_slices_SortFunc_api_Hit_api_Hit t3 t6 h4 fun  (h7 : Hp) =>
K t3 h7)

theorem F_heap_Heap_api_Hit_All_ok (a0_h : Option Addr) (h : Hp) (K : Sl → Hp → Prop) (hF : F_heap_Heap_api_Hit_All a0_h h K) : C_heap_Heap_api_Hit_All a0_h h K := by
  have e : bodyVC Try.prog Try.f43 (.seq .no (.seq (.seq .no (.cond (.seq .no .no) .no)) (.seq .no (.seq .no (.seq .no .no))))) (Option.getD Try.f43.body .skip) [.pointer a0_h] h [.at .sl] (fun s h => K s.1 h) = F_heap_Heap_api_Hit_All a0_h h K := by kernel_rfl
  exact fun_sound mixed Try.func43 rfl (e.mpr hF)

def J1_lone_Upto (h : Hp) (K : Int → Bool → Hp → Prop) (p2 : Addr) (p4 : Addr) (p6 : Addr) (p8 : Addr) (sJ1 : Unit) (hJ1 : Hp) : Prop :=
∃ (S10 : List Nat),
(Addr.block p8 ∉ S10) ∧ (
ldA (.int .i64) hJ1 p8 fun (t11 : Int) =>
(Addr.block p8 ∉ S10) ∧ (
ldA (.int .i64) hJ1 p8 fun (t12 : Int) =>
(Addr.block p2 ∉ S10) ∧ (
ldA (.int .i64) hJ1 p2 fun (t13 : Int) =>
((1 : Nat) = 1) ∧ (
stC hJ1 p4 (
Let (hset hJ1 p4 (.int .i64 t11)) fun (h14 : Hp) =>
ExtS S10 hJ1 h14 ∧ (
((1 : Nat) = 1) ∧ (
stC h14 p6 (
Let (hset h14 p6 (.bool (decide (t12 ≤ t13)))) fun (h15 : Hp) =>
∀ (h16 : Hp), Stp (Array.size h) h15 h16 → (
ldA (.int .i64) h16 p4 fun (r17 : Int) =>
ldA .bool h16 p6 fun (r18 : Bool) =>
K r17 r18 h16)))))))))
def F_lone_Upto (a0_a : Sl) (a1_b : Sl) (a2_most : Int) (h : Hp) (K : Int → Bool → Hp → Prop) : Prop :=
Let (Array.push h (Obj.cells #[.int .i64 a2_most] 3)) fun (h1 : Hp) =>
Let (Addr.mk (Array.size h) 0 none) fun (p2 : Addr) =>
Let (Array.push h1 (Obj.cells #[.int .i64 0] 3)) fun (h3 : Hp) =>
Let (Addr.mk (Array.size h1) 0 none) fun (p4 : Addr) =>
Let (Array.push h3 (Obj.cells #[.bool false] 4)) fun (h5 : Hp) =>
Let (Addr.mk (Array.size h3) 0 none) fun (p6 : Addr) =>
Let (Array.push h5 (Obj.cells #[.int .i64 0] 3)) fun (h7 : Hp) =>
Let (Addr.mk (Array.size h5) 0 none) fun (p8 : Addr) =>
((1 : Nat) = 1) ∧ (
stC h7 p8 (
Let (hset h7 p8 (.int .i64 0)) fun (h9 : Hp) =>
Jn (J1_lone_Upto h K p2 p4 p6 p8) fun (J1 : Unit → Hp → Prop) =>
C_lone_places a0_a a1_b h9 fun (t19 : Value) (h20 : Hp) =>
rngF Try.prog t19 (.at (.int .i64)) h20 (fun (t21 : Int) (h22 : Hp) (Kn23 : Hp → Prop) (Kx24 : Option Nat → Hp → Prop) =>
Rb (Array.size h20) h22 h22 fun (h25 : Hp) =>
ldA (.int .i64) h25 p8 fun (t26 : Int) =>
Let (IntKind.wrap .i64 (t26 + t21) : Int) fun (t27 : Int) =>
((1 : Nat) = 1) ∧ (
stC h25 p8 (
Let (hset h25 p8 (.int .i64 t27)) fun (h28 : Hp) =>
ldA (.int .i64) h28 p8 fun (t29 : Int) =>
ldA (.int .i64) h28 p2 fun (t30 : Int) =>
cnd (decide (t29 > t30)) (
((1 : Nat) = 1) ∧ (
stC h28 p4 (
Let (hset h28 p4 (.int .i64 0)) fun (h31 : Hp) =>
((1 : Nat) = 1) ∧ (
stC h31 p6 (
Let (hset h31 p6 (.bool false)) fun (h32 : Hp) =>
RKeep h25 h32 ∧ Kx24 none h32))))) (
RKeep h25 h28 ∧ Kn23 h28)))) (fun (h33 : Hp) =>
J1 (()) h33) (StopL (fun (h34 : Hp) =>
∀ (h35 : Hp), Stp (Array.size h) h34 h35 → (
ldA (.int .i64) h35 p4 fun (r36 : Int) =>
ldA .bool h35 p6 fun (r37 : Bool) =>
K r36 r37 h35)) [(0, fun (h38 : Hp) =>
J1 (()) h38)])))

theorem F_lone_Upto_ok (a0_a : Sl) (a1_b : Sl) (a2_most : Int) (h : Hp) (K : Int → Bool → Hp → Prop) (hF : F_lone_Upto a0_a a1_b a2_most h K) : C_lone_Upto a0_a a1_b a2_most h K := by
  have e : bodyVC Try.prog Try.f44 (.seq .no (.seq .no (.join [] (.seq .no (.block (.rng (13, .at (.int .i64)) .no (.block (.seq .no (.seq .no (.cond (.seq .no .no) .no))))))) (.seq .dr .no)))) (Option.getD Try.f44.body .skip) [.slice a0_a.a a0_a.len a0_a.cap, .slice a1_b.a a1_b.len a1_b.cap, .int .i64 a2_most] h [.at (.int .i64), .at .bool] (fun s h => K s.1 s.2.1 h) = F_lone_Upto a0_a a1_b a2_most h K := by kernel_rfl
  exact fun_sound mixed Try.func44 rfl (e.mpr hF)

def J1_ham_Upto (a2_most : Int) (K : Int → Bool → Hp → Prop) (sJ1 : Int × Unit) (hJ1 : Hp) : Prop :=
cnd (decide (sJ1.1 > a2_most)) (
K 0 false hJ1) (
K sJ1.1 true hJ1)
def L1_ham_Upto (a0_a : ByteArray) (a1_b : ByteArray) (a2_most : Int) (J1 : Int × Unit → Hp → Prop) (t3 : Int) (sL1 : (Int × Int × Unit) × Hp) (R1 : (Int × Int × Unit) × Hp → Prop) : Prop :=
cnd (decide (sL1.1.2.1 < t3)) (
cnd (decide (sL1.1.1 > a2_most)) (
J1 (sL1.1.1, ()) sL1.2) (
idxStr a0_a sL1.1.2.1 fun (t4 : Int) =>
idxStr a1_b sL1.1.2.1 fun (t5 : Int) =>
cnd (t4 != t5) (
Let (IntKind.wrap .i64 (sL1.1.1 + 1) : Int) fun (t6 : Int) =>
Let (IntKind.wrap .i64 (sL1.1.2.1 + 1) : Int) fun (t7 : Int) =>
R1 ((t6, t7, ()), sL1.2)) (
Let (IntKind.wrap .i64 (sL1.1.2.1 + 1) : Int) fun (t8 : Int) =>
R1 ((sL1.1.1, t8, ()), sL1.2)))) (
J1 (sL1.1.1, ()) sL1.2)
def F_ham_Upto (a0_a : ByteArray) (a1_b : ByteArray) (a2_most : Int) (h : Hp) (K : Int → Bool → Hp → Prop) : Prop :=
C_ham_longer a0_a a1_b h fun (t1 : Int) (h2 : Hp) =>
Jn (J1_ham_Upto a2_most K) fun (J1 : Int × Unit → Hp → Prop) =>
Let (if (ByteArray.size a1_b : Int) < (ByteArray.size a0_a : Int) then (ByteArray.size a1_b : Int) else (ByteArray.size a0_a : Int) : Int) fun (t3 : Int) =>
∃ n, Lp (L1_ham_Upto a0_a a1_b a2_most J1 t3) n ((t1, 0, ()), h2)

theorem F_ham_Upto_ok (a0_a : ByteArray) (a1_b : ByteArray) (a2_most : Int) (h : Hp) (K : Int → Bool → Hp → Prop) (hF : F_ham_Upto a0_a a1_b a2_most h K) : C_ham_Upto a0_a a1_b a2_most h K := by
  have e : bodyVC Try.prog Try.f45 (.seq .no (.scope (.seq .no (.seq .no (.join [(8, .at (.int .i64))] (.seq .no (.block (.loop [(8, .at (.int .i64)), (18, .at (.int .i64))] (.seq .no (.seq (.cond .no .no) (.seq (.block (.seq .no (.block (.seq .no (.cond .no (.seq .no (.cond .no .no))))))) .no)))))) (.seq (.seq .no (.cond (.seq .no .no) .no)) (.seq .no .no))))))) (Option.getD Try.f45.body .skip) [.string a0_a, .string a1_b, .int .i64 a2_most] h [.at (.int .i64), .at .bool] (fun s h => K s.1 s.2.1 h) = F_ham_Upto a0_a a1_b a2_most h K := by kernel_rfl
  exact fun_sound mixed Try.func45 rfl (e.mpr hF)

def J2_lev_Upto (K : Int → Bool → Hp → Prop) (t2 : ByteArray) (t5 : Int) (p13 : Addr) (sJ2 : Unit) (hJ2 : Hp) : Prop :=
ldA (.int .i64) hJ2 p13 fun (t16 : Int) =>
ldA .sl hJ2 (Addr.add p13 1) fun (t17 : Sl) =>
Let (IntKind.wrap .i64 (t5 + 1) : Int) fun (t18 : Int) =>
C_lev_band_at t16 t17 (ByteArray.size t2 : Int) t18 hJ2 fun (t19 : Int) (h20 : Hp) =>
cnd (decide (t19 > t5)) (
K 0 false h20) (
K t19 true h20)
def L1_lev_Upto (t1 : ByteArray) (t2 : ByteArray) (t5 : Int) (p13 : Addr) (J2 : Unit → Hp → Prop) (sL1 : (Int × Unit) × Hp) (R1 : (Int × Unit) × Hp → Prop) : Prop :=
cnd (decide (sL1.1.1 < (ByteArray.size t1 : Int))) (
ldA (.int .i64) sL1.2 p13 fun (t21 : Int) =>
ldA .sl sL1.2 (Addr.add p13 1) fun (t22 : Sl) =>
Let (IntKind.wrap .i64 (sL1.1.1 + 1) : Int) fun (t23 : Int) =>
idxStr t1 sL1.1.1 fun (t24 : Int) =>
C_lev_band_step t21 t22 t23 t24 t2 t5 sL1.2 fun (t25 : Int) (t26 : Sl) (h27 : Hp) =>
stC h27 p13 (
Let (hset h27 p13 (.int .i64 t25)) fun (h28 : Hp) =>
stC h28 (Addr.add p13 1) (
Let (hset h28 (Addr.add p13 1) (.slice t26.a t26.len t26.cap)) fun (h29 : Hp) =>
Let (IntKind.wrap .i64 (sL1.1.1 + 1) : Int) fun (t30 : Int) =>
R1 ((t30, ()), h29)))) (
J2 (()) sL1.2)
def J1_lev_Upto (a2_most : Int) (K : Int → Bool → Hp → Prop) (t1 : ByteArray) (t2 : ByteArray) (sJ1 : Unit) (hJ1 : Hp) : Prop :=
Let (if (ByteArray.size t2 : Int) > (ByteArray.size t1 : Int) then (ByteArray.size t2 : Int) else (ByteArray.size t1 : Int) : Int) fun (t4 : Int) =>
Let (if t4 < a2_most then t4 else a2_most : Int) fun (t5 : Int) =>
Let (if t5 < (ByteArray.size t2 : Int) then t5 else (ByteArray.size t2 : Int) : Int) fun (t6 : Int) =>
C_lev_first t6 hJ1 fun (t7 : Sl) (h8 : Hp) =>
slc3 t7.a t7.len t7.cap none (t7.len : Int) (t7.len : Int) 1 fun (t9 : Option Addr) (l10 c11 : Nat) =>
Let (Array.push h8 (Obj.cells #[.int .i64 0, .slice none 0 0] 98)) fun (h12 : Hp) =>
Let (Addr.mk (Array.size h8) 0 none) fun (p13 : Addr) =>
stC h12 p13 (
Let (hset h12 p13 (.int .i64 0)) fun (h14 : Hp) =>
stC h14 (Addr.add p13 1) (
Let (hset h14 (Addr.add p13 1) (.slice t9 l10 c11)) fun (h15 : Hp) =>
Jn (J2_lev_Upto K t2 t5 p13) fun (J2 : Unit → Hp → Prop) =>
∃ n, Lp (L1_lev_Upto t1 t2 t5 p13 J2) n ((0, ()), h15)))
def F_lev_Upto (a0_a : ByteArray) (a1_b : ByteArray) (a2_most : Int) (h : Hp) (K : Int → Bool → Hp → Prop) : Prop :=
C_lev_Trim a0_a a1_b h fun (t1 : ByteArray) (t2 : ByteArray) (h3 : Hp) =>
Jn (J1_lev_Upto a2_most K t1 t2) fun (J1 : Unit → Hp → Prop) =>
cnd (decide (a2_most < 0)) (
K 0 false h3) (
Let (IntKind.wrap .i64 ((ByteArray.size t1 : Int) - (ByteArray.size t2 : Int)) : Int) fun (t31 : Int) =>
Let (IntKind.wrap .i64 ((ByteArray.size t2 : Int) - (ByteArray.size t1 : Int)) : Int) fun (t32 : Int) =>
Let (if t32 > t31 then t32 else t31 : Int) fun (t33 : Int) =>
cnd (decide (t33 > a2_most)) (
K 0 false h3) (
J1 (()) h3))

theorem F_lev_Upto_ok (a0_a : ByteArray) (a1_b : ByteArray) (a2_most : Int) (h : Hp) (K : Int → Bool → Hp → Prop) (hF : F_lev_Upto a0_a a1_b a2_most h K) : C_lev_Upto a0_a a1_b a2_most h K := by
  have e : bodyVC Try.prog Try.f46 (.seq .no (.seq .no (.join [] (.seq .no (.cond (.seq .no .no) .no)) (.seq .no (.seq .no (.seq .no (.join [] (.seq .no (.block (.loop [(56, .at (.int .i64))] (.seq .no (.seq (.cond .no .no) (.seq (.block (.seq .no .no)) .no)))))) (.seq .no (.seq (.seq .no (.cond (.seq .no .no) .no)) (.seq .no .no)))))))))) (Option.getD Try.f46.body .skip) [.string a0_a, .string a1_b, .int .i64 a2_most] h [.at (.int .i64), .at .bool] (fun s h => K s.1 s.2.1 h) = F_lev_Upto a0_a a1_b a2_most h K := by kernel_rfl
  exact fun_sound mixed Try.func46 rfl (e.mpr hF)

def F_lone_Dist (a0_a : Sl) (a1_b : Sl) (h : Hp) (K : Int → Hp → Prop) : Prop :=
Let (Array.push h (Obj.cells #[.int .i64 0] 3)) fun (h1 : Hp) =>
Let (Addr.mk (Array.size h) 0 none) fun (p2 : Addr) =>
((1 : Nat) = 1) ∧ (
stC h1 p2 (
Let (hset h1 p2 (.int .i64 0)) fun (h3 : Hp) =>
C_lone_places a0_a a1_b h3 fun (t4 : Value) (h5 : Hp) =>
rngF Try.prog t4 (.at (.int .i64)) h5 (fun (t6 : Int) (h7 : Hp) (Kn8 : Hp → Prop) (Kx9 : Option Nat → Hp → Prop) =>
Rb (Array.size h5) h7 h7 fun (h10 : Hp) =>
ldA (.int .i64) h10 p2 fun (t11 : Int) =>
Let (IntKind.wrap .i64 (t11 + t6) : Int) fun (t12 : Int) =>
((1 : Nat) = 1) ∧ (
stC h10 p2 (
Let (hset h10 p2 (.int .i64 t12)) fun (h13 : Hp) =>
RKeep h10 h13 ∧ Kn8 h13))) (fun (h14 : Hp) =>
ldA (.int .i64) h14 p2 fun (t15 : Int) =>
∀ (h16 : Hp), Stp (Array.size h) h14 h16 → (
K t15 h16)) (StopL (fun (h17 : Hp) =>
∀ (h18 : Hp), Stp (Array.size h) h17 h18 → (
K 0 h18)) [(0, fun (h19 : Hp) =>
ldA (.int .i64) h19 p2 fun (t20 : Int) =>
∀ (h21 : Hp), Stp (Array.size h) h19 h21 → (
K t20 h21))])))

theorem F_lone_Dist_ok (a0_a : Sl) (a1_b : Sl) (h : Hp) (K : Int → Hp → Prop) (hF : F_lone_Dist a0_a a1_b h K) : C_lone_Dist a0_a a1_b h K := by
  have e : bodyVC Try.prog Try.f47 (.seq .no (.seq .no (.seq (.seq .no (.block (.rng (10, .at (.int .i64)) .no (.block .no)))) (.seq .no .no)))) (Option.getD Try.f47.body .skip) [.slice a0_a.a a0_a.len a0_a.cap, .slice a1_b.a a1_b.len a1_b.cap] h [.at (.int .i64)] (fun s h => K s.1 h) = F_lone_Dist a0_a a1_b h K := by kernel_rfl
  exact fun_sound mixed Try.func47 rfl (e.mpr hF)

def F_ham_Dist (a0_a : ByteArray) (a1_b : ByteArray) (h : Hp) (K : Int → Hp → Prop) : Prop :=
C_ham_longer a0_a a1_b h fun (t1 : Int) (h2 : Hp) =>
C_ham_Places a0_a a1_b h2 fun (t3 : Sl) (h4 : Hp) =>
Let (IntKind.wrap .i64 (t1 + (t3.len : Int)) : Int) fun (t5 : Int) =>
K t5 h4

theorem F_ham_Dist_ok (a0_a : ByteArray) (a1_b : ByteArray) (h : Hp) (K : Int → Hp → Prop) (hF : F_ham_Dist a0_a a1_b h K) : C_ham_Dist a0_a a1_b h K := by
  have e : bodyVC Try.prog Try.f48 (.seq .no (.seq .no .no)) (Option.getD Try.f48.body .skip) [.string a0_a, .string a1_b] h [.at (.int .i64)] (fun s h => K s.1 h) = F_ham_Dist a0_a a1_b h K := by kernel_rfl
  exact fun_sound mixed Try.func48 rfl (e.mpr hF)

def J1_lev_Dist (K : Int → Hp → Prop) (t2 : ByteArray) (sJ1 : Sl × Unit) (hJ1 : Hp) : Prop :=
idxS sJ1.1.a sJ1.1.len (ByteArray.size t2 : Int) 1 fun (p6 : Addr) =>
ldA (.int .i64) hJ1 p6 fun (t7 : Int) =>
K t7 hJ1
def L1_lev_Dist (t1 : ByteArray) (t2 : ByteArray) (J1 : Sl × Unit → Hp → Prop) (sL1 : (Sl × Int × Unit) × Hp) (R1 : (Sl × Int × Unit) × Hp → Prop) : Prop :=
cnd (decide (sL1.1.2.1 < (ByteArray.size t1 : Int))) (
idxStr t1 sL1.1.2.1 fun (t8 : Int) =>
C_lev_next (Sl.mk sL1.1.1.a sL1.1.1.len sL1.1.1.cap) t8 t2 sL1.2 fun (t9 : Sl) (h10 : Hp) =>
Let (IntKind.wrap .i64 (sL1.1.2.1 + 1) : Int) fun (t11 : Int) =>
R1 ((t9, t11, ()), h10)) (
J1 ((Sl.mk sL1.1.1.a sL1.1.1.len sL1.1.1.cap), ()) sL1.2)
def F_lev_Dist (a0_a : ByteArray) (a1_b : ByteArray) (h : Hp) (K : Int → Hp → Prop) : Prop :=
C_lev_Trim a0_a a1_b h fun (t1 : ByteArray) (t2 : ByteArray) (h3 : Hp) =>
C_lev_first (ByteArray.size t2 : Int) h3 fun (t4 : Sl) (h5 : Hp) =>
Jn (J1_lev_Dist K t2) fun (J1 : Sl × Unit → Hp → Prop) =>
∃ n, Lp (L1_lev_Dist t1 t2 J1) n ((t4, 0, ()), h5)

theorem F_lev_Dist_ok (a0_a : ByteArray) (a1_b : ByteArray) (h : Hp) (K : Int → Hp → Prop) (hF : F_lev_Dist a0_a a1_b h K) : C_lev_Dist a0_a a1_b h K := by
  have e : bodyVC Try.prog Try.f49 (.seq .no (.seq .no (.seq .no (.join [(5, .at .sl)] (.seq .no (.block (.loop [(5, .at .sl), (18, .at (.int .i64))] (.seq .no (.seq (.cond .no .no) (.seq (.block (.seq .no .no)) .no)))))) (.seq .no .no))))) (Option.getD Try.f49.body .skip) [.string a0_a, .string a1_b] h [.at (.int .i64)] (fun s h => K s.1 h) = F_lev_Dist a0_a a1_b h K := by kernel_rfl
  exact fun_sound mixed Try.func49 rfl (e.mpr hF)

def J4_slices_pdqsortCmpFunc_api_Hit (a0_data : Sl) (a4_cmp : Value) (sL1 : (Int × Int × Int × Bool × Bool × Unit) × Hp) (R1 : (Int × Int × Int × Bool × Bool × Unit) × Hp → Prop) (t1 : Int) (sJ1 : Int × Unit) (sJ2 : Int × Int × Unit) (sJ4 : Bool × Unit) (hJ4 : Hp) : Prop :=
cnd sJ4.1 (
C_slices_partitionEqualCmpFunc_api_Hit a0_data sL1.1.1 sL1.1.2.1 sJ2.1 a4_cmp hJ4 fun (t7 : Int) (h8 : Hp) =>
R1 ((t7, sL1.1.2.1, sJ1.1, sL1.1.2.2.2.1, sL1.1.2.2.2.2.1, ()), h8)) (
C_slices_partitionCmpFunc_api_Hit a0_data sL1.1.1 sL1.1.2.1 sJ2.1 a4_cmp hJ4 fun (t9 : Int) (t10 : Bool) (h11 : Hp) =>
Let (IntKind.wrap .i64 (t9 - sL1.1.1) : Int) fun (t12 : Int) =>
Let (IntKind.wrap .i64 (sL1.1.2.1 - t9) : Int) fun (t13 : Int) =>
(8 ≠ (0 : Int)) ∧ (
Let (IntKind.wrap .i64 (Int.tdiv t1 8) : Int) fun (t14 : Int) =>
cnd (decide (t12 < t13)) (
C_slices_pdqsortCmpFunc_api_Hit a0_data sL1.1.1 t9 sJ1.1 a4_cmp h11 fun  (h15 : Hp) =>
Let (IntKind.wrap .i64 (t9 + 1) : Int) fun (t16 : Int) =>
R1 ((t16, sL1.1.2.1, sJ1.1, decide (t12 ≥ t14), t10, ()), h15)) (
Let (IntKind.wrap .i64 (t9 + 1) : Int) fun (t17 : Int) =>
C_slices_pdqsortCmpFunc_api_Hit a0_data t17 sL1.1.2.1 sJ1.1 a4_cmp h11 fun  (h18 : Hp) =>
R1 ((sL1.1.1, t9, sJ1.1, decide (t13 ≥ t14), t10, ()), h18))))
def J3_slices_pdqsortCmpFunc_api_Hit (a0_data : Sl) (a4_cmp : Value) (sL1 : (Int × Int × Int × Bool × Bool × Unit) × Hp) (R1 : (Int × Int × Int × Bool × Bool × Unit) × Hp → Prop) (t1 : Int) (sJ1 : Int × Unit) (sJ2 : Int × Int × Unit) (sJ3 : Unit) (hJ3 : Hp) : Prop :=
Jn (J4_slices_pdqsortCmpFunc_api_Hit a0_data a4_cmp sL1 R1 t1 sJ1 sJ2) fun (J4 : Bool × Unit → Hp → Prop) =>
cnd (decide (sL1.1.1 > 0)) (
Let (IntKind.wrap .i64 (sL1.1.1 - 1) : Int) fun (t19 : Int) =>
idxS a0_data.a a0_data.len t19 2 fun (p20 : Addr) =>
ldA (.int .u64) hJ3 p20 fun (t21 : Int) =>
ldA (.int .i64) hJ3 (Addr.add p20 1) fun (t22 : Int) =>
idxS a0_data.a a0_data.len sJ2.1 2 fun (p23 : Addr) =>
ldA (.int .u64) hJ3 p23 fun (t24 : Int) =>
ldA (.int .i64) hJ3 (Addr.add p23 1) fun (t25 : Int) =>
callV Try.prog a4_cmp [.agg #[.int .u64 t21, .int .i64 t22], .agg #[.int .u64 t24, .int .i64 t25]] [.at (.int .i64)] hJ3 fun (s : Int × Unit) (h27 : Hp) =>
J4 (!(decide (s.1 < 0)), ()) h27) (
J4 (false, ()) hJ3)
def J5_slices_pdqsortCmpFunc_api_Hit (a0_data : Sl) (a4_cmp : Value) (K : Hp → Prop) (sL1 : (Int × Int × Int × Bool × Bool × Unit) × Hp) (J3 : Unit → Hp → Prop) (sJ5 : Bool × Unit) (hJ5 : Hp) : Prop :=
cnd sJ5.1 (
C_slices_partialInsertionSortCmpFunc_api_Hit a0_data sL1.1.1 sL1.1.2.1 a4_cmp hJ5 fun (t28 : Bool) (h29 : Hp) =>
cnd t28 (
K h29) (
J3 (()) h29)) (
J3 (()) hJ5)
def J2_slices_pdqsortCmpFunc_api_Hit (a0_data : Sl) (a4_cmp : Value) (K : Hp → Prop) (sL1 : (Int × Int × Int × Bool × Bool × Unit) × Hp) (R1 : (Int × Int × Int × Bool × Bool × Unit) × Hp → Prop) (t1 : Int) (sJ1 : Int × Unit) (sJ2 : Int × Int × Unit) (hJ2 : Hp) : Prop :=
Jn (J3_slices_pdqsortCmpFunc_api_Hit a0_data a4_cmp sL1 R1 t1 sJ1 sJ2) fun (J3 : Unit → Hp → Prop) =>
Jn (J5_slices_pdqsortCmpFunc_api_Hit a0_data a4_cmp K sL1 J3) fun (J5 : Bool × Unit → Hp → Prop) =>
cnd sL1.1.2.2.2.1 (
cnd sL1.1.2.2.2.2.1 (
J5 ((sJ2.2.1 == 1), ()) hJ2) (
J5 (false, ()) hJ2)) (
J5 (false, ()) hJ2)
def J1_slices_pdqsortCmpFunc_api_Hit (a0_data : Sl) (a4_cmp : Value) (K : Hp → Prop) (sL1 : (Int × Int × Int × Bool × Bool × Unit) × Hp) (R1 : (Int × Int × Int × Bool × Bool × Unit) × Hp → Prop) (t1 : Int) (sJ1 : Int × Unit) (hJ1 : Hp) : Prop :=
C_slices_choosePivotCmpFunc_api_Hit a0_data sL1.1.1 sL1.1.2.1 a4_cmp hJ1 fun (t4 : Int) (t5 : Int) (h6 : Hp) =>
Jn (J2_slices_pdqsortCmpFunc_api_Hit a0_data a4_cmp K sL1 R1 t1 sJ1) fun (J2 : Int × Int × Unit → Hp → Prop) =>
cnd (t5 == 2) (
C_slices_reverseRangeCmpFunc_api_Hit a0_data sL1.1.1 sL1.1.2.1 a4_cmp h6 fun  (h30 : Hp) =>
Let (IntKind.wrap .i64 (sL1.1.2.1 - 1) : Int) fun (t31 : Int) =>
Let (IntKind.wrap .i64 (t4 - sL1.1.1) : Int) fun (t32 : Int) =>
Let (IntKind.wrap .i64 (t31 - t32) : Int) fun (t33 : Int) =>
J2 (t33, 1, ()) h30) (
J2 (t4, t5, ()) h6)
def L1_slices_pdqsortCmpFunc_api_Hit (a0_data : Sl) (a4_cmp : Value) (K : Hp → Prop) (sL1 : (Int × Int × Int × Bool × Bool × Unit) × Hp) (R1 : (Int × Int × Int × Bool × Bool × Unit) × Hp → Prop) : Prop :=
Let (IntKind.wrap .i64 (sL1.1.2.1 - sL1.1.1) : Int) fun (t1 : Int) =>
cnd (decide (t1 ≤ 12)) (
C_slices_insertionSortCmpFunc_api_Hit a0_data sL1.1.1 sL1.1.2.1 a4_cmp sL1.2 fun  (h2 : Hp) =>
K h2) (
cnd (sL1.1.2.2.1 == 0) (
C_slices_heapSortCmpFunc_api_Hit a0_data sL1.1.1 sL1.1.2.1 a4_cmp sL1.2 fun  (h3 : Hp) =>
K h3) (
Jn (J1_slices_pdqsortCmpFunc_api_Hit a0_data a4_cmp K sL1 R1 t1) fun (J1 : Int × Unit → Hp → Prop) =>
cnd (!sL1.1.2.2.2.1) (
C_slices_breakPatternsCmpFunc_api_Hit a0_data sL1.1.1 sL1.1.2.1 a4_cmp sL1.2 fun  (h34 : Hp) =>
Let (IntKind.wrap .i64 (sL1.1.2.2.1 - 1) : Int) fun (t35 : Int) =>
J1 (t35, ()) h34) (
J1 (sL1.1.2.2.1, ()) sL1.2)))
def F_slices_pdqsortCmpFunc_api_Hit (a0_data : Sl) (a1_a : Int) (a2_b : Int) (a3_limit : Int) (a4_cmp : Value) (h : Hp) (K : Hp → Prop) : Prop :=
∃ n, Lp (L1_slices_pdqsortCmpFunc_api_Hit a0_data a4_cmp K) n ((a1_a, a2_b, a3_limit, true, true, ()), h)

theorem F_slices_pdqsortCmpFunc_api_Hit_ok (a0_data : Sl) (a1_a : Int) (a2_b : Int) (a3_limit : Int) (a4_cmp : Value) (h : Hp) (K : Hp → Prop) (hF : F_slices_pdqsortCmpFunc_api_Hit a0_data a1_a a2_b a3_limit a4_cmp h K) : C_slices_pdqsortCmpFunc_api_Hit a0_data a1_a a2_b a3_limit a4_cmp h K := by
  have e : bodyVC Try.prog Try.f50 (.seq .no (.seq .no (.block (.loop [(1, .at (.int .i64)), (2, .at (.int .i64)), (3, .at (.int .i64)), (10, .at .bool), (11, .at .bool)] (.block (.seq .no (.seq (.seq .no (.cond (.seq .no .no) .no)) (.seq (.seq .no (.cond (.seq .no .no) .no)) (.join [(3, .at (.int .i64))] (.seq .no (.cond (.seq .no .no) .no)) (.seq .no (.join [(13, .at (.int .i64)), (14, .at (.int .i64))] (.seq .no (.cond (.seq .no (.seq .no .no)) .no)) (.join [] (.join [(75, .at .bool)] .no (.cond (.seq .no (.cond .no .no)) .no)) (.seq (.join [(97, .at .bool)] .no (.cond (.seq .no (.seq .no .no)) .no)) (.seq .no (.seq .no (.seq .no (.seq .no (.seq .no (.cond (.seq .no (.seq .no .no)) (.seq .no (.seq .no .no))))))))))))))))))))) (Option.getD Try.f50.body .skip) [.slice a0_data.a a0_data.len a0_data.cap, .int .i64 a1_a, .int .i64 a2_b, .int .i64 a3_limit, a4_cmp] h [] (fun s h => K h) = F_slices_pdqsortCmpFunc_api_Hit a0_data a1_a a2_b a3_limit a4_cmp h K := by kernel_rfl
  exact fun_sound mixed Try.func50 rfl (e.mpr hF)

def F_math_bits_Len (a0_x : Int) (h : Hp) (K : Int → Hp → Prop) : Prop :=
C_math_bits_Len64 a0_x h fun (t1 : Int) (h2 : Hp) =>
K t1 h2

theorem F_math_bits_Len_ok (a0_x : Int) (h : Hp) (K : Int → Hp → Prop) (hF : F_math_bits_Len a0_x h K) : C_math_bits_Len a0_x h K := by
  have e : bodyVC Try.prog Try.f51 (.seq .no (.seq (.cond (.seq .no .no) .no) (.seq .no .no))) (Option.getD Try.f51.body .skip) [.int .u64 a0_x] h [.at (.int .i64)] (fun s h => K s.1 h) = F_math_bits_Len a0_x h K := by kernel_rfl
  exact fun_sound mixed Try.func51 rfl (e.mpr hF)

def L1_cmp_Or_int (a0_vals : Sl) (K : Int → Hp → Prop) (sL1 : (Int × Unit) × Hp) (R1 : (Int × Unit) × Hp → Prop) : Prop :=
cnd (decide (sL1.1.1 < (a0_vals.len : Int))) (
idxS a0_vals.a a0_vals.len sL1.1.1 1 fun (p1 : Addr) =>
ldA (.int .i64) sL1.2 p1 fun (t2 : Int) =>
cnd (t2 != 0) (
K t2 sL1.2) (
Let (IntKind.wrap .i64 (sL1.1.1 + 1) : Int) fun (t3 : Int) =>
R1 ((t3, ()), sL1.2))) (
K 0 sL1.2)
def F_cmp_Or_int (a0_vals : Sl) (h : Hp) (K : Int → Hp → Prop) : Prop :=
∃ n, Lp (L1_cmp_Or_int a0_vals K) n ((0, ()), h)

theorem F_cmp_Or_int_ok (a0_vals : Sl) (h : Hp) (K : Int → Hp → Prop) (hF : F_cmp_Or_int a0_vals h K) : C_cmp_Or_int a0_vals h K := by
  have e : bodyVC Try.prog Try.f52 (.seq .no (.seq .no (.seq (.seq .no (.block (.loop [(8, .at (.int .i64))] (.seq .no (.seq (.cond .no .no) (.seq (.block (.seq .no (.seq .no (.cond (.seq .no .no) .no)))) .no)))))) (.seq .no .no)))) (Option.getD Try.f52.body .skip) [.slice a0_vals.a a0_vals.len a0_vals.cap] h [.at (.int .i64)] (fun s h => K s.1 h) = F_cmp_Or_int a0_vals h K := by kernel_rfl
  exact fun_sound mixed Try.func52 rfl (e.mpr hF)

def F_cmp_Compare_int (a0_x : Int) (a1_y : Int) (h : Hp) (K : Int → Hp → Prop) : Prop :=
C_cmp_isNaN_int a0_x h fun (t1 : Bool) (h2 : Hp) =>
C_cmp_isNaN_int a1_y h2 fun (t3 : Bool) (h4 : Hp) =>
cnd t1 (
cnd t3 (
K 0 h4) (
K (-1) h4)) (
cnd t3 (
K 1 h4) (
cnd (decide (a0_x < a1_y)) (
K (-1) h4) (
cnd (decide (a0_x > a1_y)) (
K 1 h4) (
K 0 h4))))

theorem F_cmp_Compare_int_ok (a0_x : Int) (a1_y : Int) (h : Hp) (K : Int → Hp → Prop) (hF : F_cmp_Compare_int a0_x a1_y h K) : C_cmp_Compare_int a0_x a1_y h K := by
  have e : bodyVC Try.prog Try.f53 (.seq .no (.seq .no (.seq .no (.seq (.seq .no (.cond (.seq (.seq .no (.cond (.seq .no .no) .no)) (.seq .no .no)) .no)) (.seq (.seq .no (.cond (.seq .no .no) .no)) (.seq (.seq .no (.cond (.seq .no .no) .no)) (.seq (.seq .no (.cond (.seq .no .no) .no)) (.seq .no .no)))))))) (Option.getD Try.f53.body .skip) [.int .i64 a0_x, .int .i64 a1_y] h [.at (.int .i64)] (fun s h => K s.1 h) = F_cmp_Compare_int a0_x a1_y h K := by kernel_rfl
  exact fun_sound mixed Try.func53 rfl (e.mpr hF)

def F_cmp_Compare_uint64 (a0_x : Int) (a1_y : Int) (h : Hp) (K : Int → Hp → Prop) : Prop :=
C_cmp_isNaN_uint64 a0_x h fun (t1 : Bool) (h2 : Hp) =>
C_cmp_isNaN_uint64 a1_y h2 fun (t3 : Bool) (h4 : Hp) =>
cnd t1 (
cnd t3 (
K 0 h4) (
K (-1) h4)) (
cnd t3 (
K 1 h4) (
cnd (decide (a0_x < a1_y)) (
K (-1) h4) (
cnd (decide (a0_x > a1_y)) (
K 1 h4) (
K 0 h4))))

theorem F_cmp_Compare_uint64_ok (a0_x : Int) (a1_y : Int) (h : Hp) (K : Int → Hp → Prop) (hF : F_cmp_Compare_uint64 a0_x a1_y h K) : C_cmp_Compare_uint64 a0_x a1_y h K := by
  have e : bodyVC Try.prog Try.f54 (.seq .no (.seq .no (.seq .no (.seq (.seq .no (.cond (.seq (.seq .no (.cond (.seq .no .no) .no)) (.seq .no .no)) .no)) (.seq (.seq .no (.cond (.seq .no .no) .no)) (.seq (.seq .no (.cond (.seq .no .no) .no)) (.seq (.seq .no (.cond (.seq .no .no) .no)) (.seq .no .no)))))))) (Option.getD Try.f54.body .skip) [.int .u64 a0_x, .int .u64 a1_y] h [.at (.int .i64)] (fun s h => K s.1 h) = F_cmp_Compare_uint64 a0_x a1_y h K := by kernel_rfl
  exact fun_sound mixed Try.func54 rfl (e.mpr hF)

def F_heap_Heap_api_Hit_Len (a0_h : Option Addr) (h : Hp) (K : Int → Hp → Prop) : Prop :=
cnd (Option.isNone a0_h) (
K 0 h) (
someA a0_h fun (p1 : Addr) =>
ldA .sl h (Addr.add p1 1) fun (t2 : Sl) =>
K (t2.len : Int) h)

theorem F_heap_Heap_api_Hit_Len_ok (a0_h : Option Addr) (h : Hp) (K : Int → Hp → Prop) (hF : F_heap_Heap_api_Hit_Len a0_h h K) : C_heap_Heap_api_Hit_Len a0_h h K := by
  have e : bodyVC Try.prog Try.f55 (.seq .no (.seq (.seq .no (.cond (.seq .no .no) .no)) (.seq .no .no))) (Option.getD Try.f55.body .skip) [.pointer a0_h] h [.at (.int .i64)] (fun s h => K s.1 h) = F_heap_Heap_api_Hit_Len a0_h h K := by kernel_rfl
  exact fun_sound mixed Try.func55 rfl (e.mpr hF)

def F_heap_Heap_api_Hit_swap (a0_h : Option Addr) (a1_i : Int) (a2_k : Int) (h : Hp) (K : Hp → Prop) : Prop :=
someA a0_h fun (p1 : Addr) =>
ldA .sl h (Addr.add p1 1) fun (t2 : Sl) =>
someA a0_h fun (p3 : Addr) =>
ldA .sl h (Addr.add p3 1) fun (t4 : Sl) =>
someA a0_h fun (p5 : Addr) =>
ldA .sl h (Addr.add p5 1) fun (t6 : Sl) =>
idxS t6.a t6.len a2_k 2 fun (p7 : Addr) =>
ldA (.int .u64) h p7 fun (t8 : Int) =>
ldA (.int .i64) h (Addr.add p7 1) fun (t9 : Int) =>
someA a0_h fun (p10 : Addr) =>
ldA .sl h (Addr.add p10 1) fun (t11 : Sl) =>
idxS t11.a t11.len a1_i 2 fun (p12 : Addr) =>
ldA (.int .u64) h p12 fun (t13 : Int) =>
ldA (.int .i64) h (Addr.add p12 1) fun (t14 : Int) =>
idxS t2.a t2.len a1_i 2 fun (p15 : Addr) =>
stC h p15 (
Let (hset h p15 (.int .u64 t8)) fun (h16 : Hp) =>
stC h16 (Addr.add p15 1) (
Let (hset h16 (Addr.add p15 1) (.int .i64 t9)) fun (h17 : Hp) =>
idxS t4.a t4.len a2_k 2 fun (p18 : Addr) =>
stC h17 p18 (
Let (hset h17 p18 (.int .u64 t13)) fun (h19 : Hp) =>
stC h19 (Addr.add p18 1) (
Let (hset h19 (Addr.add p18 1) (.int .i64 t14)) fun (h20 : Hp) =>
K h20))))

theorem F_heap_Heap_api_Hit_swap_ok (a0_h : Option Addr) (a1_i : Int) (a2_k : Int) (h : Hp) (K : Hp → Prop) (hF : F_heap_Heap_api_Hit_swap a0_h a1_i a2_k h K) : C_heap_Heap_api_Hit_swap a0_h a1_i a2_k h K := by
  have e : bodyVC Try.prog Try.f56 .no (Option.getD Try.f56.body .skip) [.pointer a0_h, .int .i64 a1_i, .int .i64 a2_k] h [] (fun s h => K h) = F_heap_Heap_api_Hit_swap a0_h a1_i a2_k h K := by kernel_rfl
  exact fun_sound mixed Try.func56 rfl (e.mpr hF)

def L1_heap_Heap_api_Hit_down (a0_h : Option Addr) (K : Hp → Prop) (sL1 : (Int × Int × Unit) × Hp) (R1 : (Int × Int × Unit) × Hp → Prop) : Prop :=
cnd (sL1.1.2.1 != sL1.1.1) (
C_heap_Heap_api_Hit_swap a0_h sL1.1.1 sL1.1.2.1 sL1.2 fun  (h3 : Hp) =>
C_heap_Heap_api_Hit_first a0_h sL1.1.2.1 h3 fun (t4 : Int) (h5 : Hp) =>
R1 ((sL1.1.2.1, t4, ()), h5)) (
K sL1.2)
def F_heap_Heap_api_Hit_down (a0_h : Option Addr) (a1_i : Int) (h : Hp) (K : Hp → Prop) : Prop :=
C_heap_Heap_api_Hit_first a0_h a1_i h fun (t1 : Int) (h2 : Hp) =>
∃ n, Lp (L1_heap_Heap_api_Hit_down a0_h K) n ((a1_i, t1, ()), h2)

theorem F_heap_Heap_api_Hit_down_ok (a0_h : Option Addr) (a1_i : Int) (h : Hp) (K : Hp → Prop) (hF : F_heap_Heap_api_Hit_down a0_h a1_i h K) : C_heap_Heap_api_Hit_down a0_h a1_i h K := by
  have e : bodyVC Try.prog Try.f57 (.seq .no (.block (.loop [(1, .at (.int .i64)), (4, .at (.int .i64))] (.seq (.seq .no (.cond .no .no)) (.seq (.block (.seq .no .no)) .no))))) (Option.getD Try.f57.body .skip) [.pointer a0_h, .int .i64 a1_i] h [] (fun s h => K h) = F_heap_Heap_api_Hit_down a0_h a1_i h K := by kernel_rfl
  exact fun_sound mixed Try.func57 rfl (e.mpr hF)

def L1_heap_Heap_api_Hit_up (a0_h : Option Addr) (K : Hp → Prop) (sL1 : (Int × Unit) × Hp) (R1 : (Int × Unit) × Hp → Prop) : Prop :=
cnd (decide (sL1.1.1 > 0)) (
Let (IntKind.wrap .i64 (sL1.1.1 - 1) : Int) fun (t1 : Int) =>
(2 ≠ (0 : Int)) ∧ (
Let (IntKind.wrap .i64 (Int.tdiv t1 2) : Int) fun (t2 : Int) =>
someA a0_h fun (p3 : Addr) =>
ldA .raw sL1.2 p3 fun (t4 : Value) =>
someA a0_h fun (p5 : Addr) =>
ldA .sl sL1.2 (Addr.add p5 1) fun (t6 : Sl) =>
idxS t6.a t6.len t2 2 fun (p7 : Addr) =>
ldA (.int .u64) sL1.2 p7 fun (t8 : Int) =>
ldA (.int .i64) sL1.2 (Addr.add p7 1) fun (t9 : Int) =>
someA a0_h fun (p10 : Addr) =>
ldA .sl sL1.2 (Addr.add p10 1) fun (t11 : Sl) =>
idxS t11.a t11.len sL1.1.1 2 fun (p12 : Addr) =>
ldA (.int .u64) sL1.2 p12 fun (t13 : Int) =>
ldA (.int .i64) sL1.2 (Addr.add p12 1) fun (t14 : Int) =>
callV Try.prog t4 [.agg #[.int .u64 t8, .int .i64 t9], .agg #[.int .u64 t13, .int .i64 t14]] [.at (.int .i64)] sL1.2 fun (s : Int × Unit) (h16 : Hp) =>
cnd (decide (s.1 ≤ 0)) (
K h16) (
C_heap_Heap_api_Hit_swap a0_h sL1.1.1 t2 h16 fun  (h17 : Hp) =>
R1 ((t2, ()), h17)))) (
K sL1.2)
def F_heap_Heap_api_Hit_up (a0_h : Option Addr) (a1_i : Int) (h : Hp) (K : Hp → Prop) : Prop :=
∃ n, Lp (L1_heap_Heap_api_Hit_up a0_h K) n ((a1_i, ()), h)

theorem F_heap_Heap_api_Hit_up_ok (a0_h : Option Addr) (a1_i : Int) (h : Hp) (K : Hp → Prop) (hF : F_heap_Heap_api_Hit_up a0_h a1_i h K) : C_heap_Heap_api_Hit_up a0_h a1_i h K := by
  have e : bodyVC Try.prog Try.f58 (.block (.loop [(1, .at (.int .i64))] (.seq (.seq .no (.cond .no .no)) (.block (.seq .no (.seq (.seq .no (.cond .no .no)) (.seq .no .no))))))) (Option.getD Try.f58.body .skip) [.pointer a0_h, .int .i64 a1_i] h [] (fun s h => K h) = F_heap_Heap_api_Hit_up a0_h a1_i h K := by kernel_rfl
  exact fun_sound mixed Try.func58 rfl (e.mpr hF)

def F_lone_places (a0_a : Sl) (a1_b : Sl) (h : Hp) (K : Value → Hp → Prop) : Prop :=
Let (Array.push h (Obj.cells #[.slice a0_a.a a0_a.len a0_a.cap] 23)) fun (h1 : Hp) =>
Let (Addr.mk (Array.size h) 0 none) fun (p2 : Addr) =>
Let (Array.push h1 (Obj.cells #[.slice a1_b.a a1_b.len a1_b.cap] 23)) fun (h3 : Hp) =>
Let (Addr.mk (Array.size h1) 0 none) fun (p4 : Addr) =>
K (.func (.func 80) #[] #[.pointer (some p2), .pointer (some p4)]) h3

theorem F_lone_places_ok (a0_a : Sl) (a1_b : Sl) (h : Hp) (K : Value → Hp → Prop) (hF : F_lone_places a0_a a1_b h K) : C_lone_places a0_a a1_b h K := by
  have e : bodyVC Try.prog Try.f59 (.seq .no (.seq .no .no)) (Option.getD Try.f59.body .skip) [.slice a0_a.a a0_a.len a0_a.cap, .slice a1_b.a a1_b.len a1_b.cap] h [.at .raw] (fun s h => K s.1 h) = F_lone_places a0_a a1_b h K := by kernel_rfl
  exact fun_sound mixed Try.func59 rfl (e.mpr hF)

def F_ham_longer (a0_a : ByteArray) (a1_b : ByteArray) (h : Hp) (K : Int → Hp → Prop) : Prop :=
Let (IntKind.wrap .i64 ((ByteArray.size a0_a : Int) - (ByteArray.size a1_b : Int)) : Int) fun (t1 : Int) =>
Let (IntKind.wrap .i64 ((ByteArray.size a1_b : Int) - (ByteArray.size a0_a : Int)) : Int) fun (t2 : Int) =>
Let (if t2 > t1 then t2 else t1 : Int) fun (t3 : Int) =>
K t3 h

theorem F_ham_longer_ok (a0_a : ByteArray) (a1_b : ByteArray) (h : Hp) (K : Int → Hp → Prop) (hF : F_ham_longer a0_a a1_b h K) : C_ham_longer a0_a a1_b h K := by
  have e : bodyVC Try.prog Try.f60 (.seq .no (.seq .no .no)) (Option.getD Try.f60.body .skip) [.string a0_a, .string a1_b] h [.at (.int .i64)] (fun s h => K s.1 h) = F_ham_longer a0_a a1_b h K := by kernel_rfl
  exact fun_sound mixed Try.func60 rfl (e.mpr hF)

def J2_lev_Trim (K : ByteArray → ByteArray → Hp → Prop) (t1 : ByteArray) (t2 : ByteArray) (sJ2 : Int × Unit) (hJ2 : Hp) : Prop :=
Let (IntKind.wrap .i64 ((ByteArray.size t1 : Int) - sJ2.1) : Int) fun (t3 : Int) =>
slcStr t1 none (some t3) fun (t4 : ByteArray) =>
Let (IntKind.wrap .i64 ((ByteArray.size t2 : Int) - sJ2.1) : Int) fun (t5 : Int) =>
slcStr t2 none (some t5) fun (t6 : ByteArray) =>
K t4 t6 hJ2
def L1_lev_Trim (t1 : ByteArray) (t2 : ByteArray) (J2 : Int × Unit → Hp → Prop) (sL1 : (Int × Unit) × Hp) (R1 : (Int × Unit) × Hp → Prop) : Prop :=
Let (if (ByteArray.size t2 : Int) < (ByteArray.size t1 : Int) then (ByteArray.size t2 : Int) else (ByteArray.size t1 : Int) : Int) fun (t7 : Int) =>
cnd (decide (sL1.1.1 < t7)) (
Let (IntKind.wrap .i64 ((ByteArray.size t1 : Int) - 1) : Int) fun (t8 : Int) =>
Let (IntKind.wrap .i64 (t8 - sL1.1.1) : Int) fun (t9 : Int) =>
idxStr t1 t9 fun (t10 : Int) =>
Let (IntKind.wrap .i64 ((ByteArray.size t2 : Int) - 1) : Int) fun (t11 : Int) =>
Let (IntKind.wrap .i64 (t11 - sL1.1.1) : Int) fun (t12 : Int) =>
idxStr t2 t12 fun (t13 : Int) =>
cnd (t10 == t13) (
Let (IntKind.wrap .i64 (sL1.1.1 + 1) : Int) fun (t14 : Int) =>
R1 ((t14, ()), sL1.2)) (
J2 (sL1.1.1, ()) sL1.2)) (
J2 (sL1.1.1, ()) sL1.2)
def J1_lev_Trim (a0_a : ByteArray) (a1_b : ByteArray) (K : ByteArray → ByteArray → Hp → Prop) (sJ1 : Int × Unit) (hJ1 : Hp) : Prop :=
slcStr a0_a (some sJ1.1) none fun (t1 : ByteArray) =>
slcStr a1_b (some sJ1.1) none fun (t2 : ByteArray) =>
Jn (J2_lev_Trim K t1 t2) fun (J2 : Int × Unit → Hp → Prop) =>
∃ n, Lp (L1_lev_Trim t1 t2 J2) n ((0, ()), hJ1)
def L2_lev_Trim (a0_a : ByteArray) (a1_b : ByteArray) (J1 : Int × Unit → Hp → Prop) (sL2 : (Int × Unit) × Hp) (R2 : (Int × Unit) × Hp → Prop) : Prop :=
Let (if (ByteArray.size a1_b : Int) < (ByteArray.size a0_a : Int) then (ByteArray.size a1_b : Int) else (ByteArray.size a0_a : Int) : Int) fun (t15 : Int) =>
cnd (decide (sL2.1.1 < t15)) (
idxStr a0_a sL2.1.1 fun (t16 : Int) =>
idxStr a1_b sL2.1.1 fun (t17 : Int) =>
cnd (t16 == t17) (
Let (IntKind.wrap .i64 (sL2.1.1 + 1) : Int) fun (t18 : Int) =>
R2 ((t18, ()), sL2.2)) (
J1 (sL2.1.1, ()) sL2.2)) (
J1 (sL2.1.1, ()) sL2.2)
def F_lev_Trim (a0_a : ByteArray) (a1_b : ByteArray) (h : Hp) (K : ByteArray → ByteArray → Hp → Prop) : Prop :=
Jn (J1_lev_Trim a0_a a1_b K) fun (J1 : Int × Unit → Hp → Prop) =>
∃ n, Lp (L2_lev_Trim a0_a a1_b J1) n ((0, ()), h)

theorem F_lev_Trim_ok (a0_a : ByteArray) (a1_b : ByteArray) (h : Hp) (K : ByteArray → ByteArray → Hp → Prop) (hF : F_lev_Trim a0_a a1_b h K) : C_lev_Trim a0_a a1_b h K := by
  have e : bodyVC Try.prog Try.f61 (.seq .no (.seq .no (.join [(6, .at (.int .i64))] (.block (.loop [(6, .at (.int .i64))] (.seq (.seq .no (.cond .no .no)) (.block .no)))) (.seq .no (.seq .no (.join [(6, .at (.int .i64))] (.block (.loop [(6, .at (.int .i64))] (.seq (.seq .no (.cond .no .no)) (.block .no)))) (.seq .no .no))))))) (Option.getD Try.f61.body .skip) [.string a0_a, .string a1_b] h [.at .str, .at .str] (fun s h => K s.1 s.2.1 h) = F_lev_Trim a0_a a1_b h K := by kernel_rfl
  exact fun_sound mixed Try.func61 rfl (e.mpr hF)

def L1_lev_first (K : Sl → Hp → Prop) (t2 : Sl) (sL1 : (Int × Unit) × Hp) (R1 : (Int × Unit) × Hp → Prop) : Prop :=
cnd (decide (sL1.1.1 < (t2.len : Int))) (
idxS t2.a t2.len sL1.1.1 1 fun (p4 : Addr) =>
((1 : Nat) = 1) ∧ (
stC sL1.2 p4 (
Let (hset sL1.2 p4 (.int .i64 sL1.1.1)) fun (h5 : Hp) =>
Let (IntKind.wrap .i64 (sL1.1.1 + 1) : Int) fun (t6 : Int) =>
R1 ((t6, ()), h5)))) (
K t2 sL1.2)
def F_lev_first (a0_n : Int) (h : Hp) (K : Sl → Hp → Prop) : Prop :=
Let (IntKind.wrap .i64 (a0_n + 1) : Int) fun (t1 : Int) =>
mkS 3 1 8 [.int .i64 0] t1 t1 h fun (t2 : Sl) (h3 : Hp) =>
∃ n, Lp (L1_lev_first K t2) n ((0, ()), h3)

theorem F_lev_first_ok (a0_n : Int) (h : Hp) (K : Sl → Hp → Prop) (hF : F_lev_first a0_n h K) : C_lev_first a0_n h K := by
  have e : bodyVC Try.prog Try.f62 (.seq .no (.seq .no (.seq (.seq .no (.block (.loop [(10, .at (.int .i64))] (.seq .no (.seq (.cond .no .no) (.seq (.block (.seq .no .no)) .no)))))) (.seq .no .no)))) (Option.getD Try.f62.body .skip) [.int .i64 a0_n] h [.at .sl] (fun s h => K s.1 h) = F_lev_first a0_n h K := by kernel_rfl
  exact fun_sound mixed Try.func62 rfl (e.mpr hF)

def J1_lev_band_step (p14 : Addr) (t17 : Int) (sL1 : (Int × Unit) × Hp) (R1 : (Int × Unit) × Hp → Prop) (sJ1 : Int × Unit) (hJ1 : Hp) : Prop :=
ldA .sl hJ1 (Addr.add p14 1) fun (t23 : Sl) =>
Let (if t17 < sJ1.1 then t17 else sJ1.1 : Int) fun (t24 : Int) =>
Let (Array.push hJ1 (Obj.cells #[.int .i64 t24] 3)) fun (h25 : Hp) =>
Let (Addr.mk (Array.size hJ1) 0 none) fun (p26 : Addr) =>
appS 3 1 8 [.int .i64 0] t23.a t23.len t23.cap (.slice (some p26) 1 1) h25 fun (t27 : Sl) (h28 : Hp) =>
((1 : Nat) = 1) ∧ (
stC h28 (Addr.add p14 1) (
Let (hset h28 (Addr.add p14 1) (.slice t27.a t27.len t27.cap)) fun (h29 : Hp) =>
Let (IntKind.wrap .i64 (sL1.1.1 + 1) : Int) fun (t30 : Int) =>
R1 ((t30, ()), h29)))
def J2_lev_band_step (p2 : Addr) (p14 : Addr) (t17 : Int) (sL1 : (Int × Unit) × Hp) (t22 : Int) (J1 : Int × Unit → Hp → Prop) (sJ2 : Int × Unit) (hJ2 : Hp) : Prop :=
ldA (.int .i64) hJ2 p2 fun (t31 : Int) =>
ldA .sl hJ2 (Addr.add p2 1) fun (t32 : Sl) =>
Let (IntKind.wrap .i64 (sL1.1.1 - 1) : Int) fun (t33 : Int) =>
C_lev_band_at t31 t32 t33 t17 hJ2 fun (t34 : Int) (h35 : Hp) =>
Ext hJ2 h35 ∧ (
Let (IntKind.wrap .i64 (t34 + sJ2.1) : Int) fun (t36 : Int) =>
ldA (.int .i64) hJ2 p14 fun (t37 : Int) =>
ldA .sl hJ2 (Addr.add p14 1) fun (t38 : Sl) =>
Let (IntKind.wrap .i64 (sL1.1.1 - 1) : Int) fun (t39 : Int) =>
C_lev_band_at t37 t38 t39 t17 h35 fun (t40 : Int) (h41 : Hp) =>
Let (IntKind.wrap .i64 (t40 + 1) : Int) fun (t42 : Int) =>
Let (if t36 < t22 then t36 else t22 : Int) fun (t43 : Int) =>
Let (if t42 < t43 then t42 else t43 : Int) fun (t44 : Int) =>
J1 (t44, ()) h41)
def L1_lev_band_step (a3_c : Int) (a4_b : ByteArray) (K : Int → Sl → Hp → Prop) (p2 : Addr) (p4 : Addr) (t8 : Int) (p14 : Addr) (t17 : Int) (sL1 : (Int × Unit) × Hp) (R1 : (Int × Unit) × Hp → Prop) : Prop :=
cnd (decide (sL1.1.1 ≤ t8)) (
ldA (.int .i64) sL1.2 p2 fun (t18 : Int) =>
ldA .sl sL1.2 (Addr.add p2 1) fun (t19 : Sl) =>
C_lev_band_at t18 t19 sL1.1.1 t17 sL1.2 fun (t20 : Int) (h21 : Hp) =>
Let (IntKind.wrap .i64 (t20 + 1) : Int) fun (t22 : Int) =>
Jn (J1_lev_band_step p14 t17 sL1 R1) fun (J1 : Int × Unit → Hp → Prop) =>
cnd (decide (sL1.1.1 > 0)) (
Jn (J2_lev_band_step p2 p14 t17 sL1 t22 J1) fun (J2 : Int × Unit → Hp → Prop) =>
Let (IntKind.wrap .i64 (sL1.1.1 - 1) : Int) fun (t45 : Int) =>
idxStr a4_b t45 fun (t46 : Int) =>
cnd (t46 == a3_c) (
J2 (0, ()) h21) (
J2 (1, ()) h21)) (
J1 (t22, ()) h21)) (
ldA (.int .i64) sL1.2 p14 fun (t47 : Int) =>
ldA .sl sL1.2 (Addr.add p14 1) fun (t48 : Sl) =>
stC sL1.2 p4 (
Let (hset sL1.2 p4 (.int .i64 t47)) fun (h49 : Hp) =>
stC h49 (Addr.add p4 1) (
Let (hset h49 (Addr.add p4 1) (.slice t48.a t48.len t48.cap)) fun (h50 : Hp) =>
ldA (.int .i64) h50 p4 fun (r51 : Int) =>
ldA .sl h50 (Addr.add p4 1) fun (r52 : Sl) =>
K r51 r52 h50)))
def F_lev_band_step (a0_x : Int) (a1_x : Sl) (a2_n : Int) (a3_c : Int) (a4_b : ByteArray) (a5_most : Int) (h : Hp) (K : Int → Sl → Hp → Prop) : Prop :=
Let (Array.push h (Obj.cells #[.int .i64 a0_x, .slice a1_x.a a1_x.len a1_x.cap] 98)) fun (h1 : Hp) =>
Let (Addr.mk (Array.size h) 0 none) fun (p2 : Addr) =>
Let (Array.push h1 (Obj.cells #[.int .i64 0, .slice none 0 0] 98)) fun (h3 : Hp) =>
Let (Addr.mk (Array.size h1) 0 none) fun (p4 : Addr) =>
Let (IntKind.wrap .i64 (a2_n - a5_most) : Int) fun (t5 : Int) =>
Let (if t5 > 0 then t5 else 0 : Int) fun (t6 : Int) =>
Let (IntKind.wrap .i64 (a2_n + a5_most) : Int) fun (t7 : Int) =>
Let (if t7 < (ByteArray.size a4_b : Int) then t7 else (ByteArray.size a4_b : Int) : Int) fun (t8 : Int) =>
Let (IntKind.wrap .i64 (t8 - t6) : Int) fun (t9 : Int) =>
Let (IntKind.wrap .i64 (t9 + 1) : Int) fun (t10 : Int) =>
mkS 3 1 8 [.int .i64 0] 0 t10 h3 fun (t11 : Sl) (h12 : Hp) =>
Let (Array.push h12 (Obj.cells #[.int .i64 0, .slice none 0 0] 98)) fun (h13 : Hp) =>
Let (Addr.mk (Array.size h12) 0 none) fun (p14 : Addr) =>
stC h13 p14 (
Let (hset h13 p14 (.int .i64 t6)) fun (h15 : Hp) =>
stC h15 (Addr.add p14 1) (
Let (hset h15 (Addr.add p14 1) (.slice t11.a t11.len t11.cap)) fun (h16 : Hp) =>
Let (IntKind.wrap .i64 (a5_most + 1) : Int) fun (t17 : Int) =>
∃ n, Lp (L1_lev_band_step a3_c a4_b K p2 p4 t8 p14 t17) n ((t6, ()), h16)))

theorem F_lev_band_step_ok (a0_x : Int) (a1_x : Sl) (a2_n : Int) (a3_c : Int) (a4_b : ByteArray) (a5_most : Int) (h : Hp) (K : Int → Sl → Hp → Prop) (hF : F_lev_band_step a0_x a1_x a2_n a3_c a4_b a5_most h K) : C_lev_band_step a0_x a1_x a2_n a3_c a4_b a5_most h K := by
  have e : bodyVC Try.prog Try.f63 (.seq .no (.seq .no (.seq .no (.seq .no (.seq (.seq .no (.block (.loop [(15, .at (.int .i64))] (.seq (.seq .no (.cond .no .no)) (.seq (.block (.seq .no (.join [(16, .at (.int .i64))] (.seq .no (.cond (.seq .no (.join [(17, .at (.int .i64))] (.seq .no (.cond .no .no)) .no)) .no)) .no))) .no))))) (.seq .no .no)))))) (Option.getD Try.f63.body .skip) [.agg #[.int .i64 a0_x, .slice a1_x.a a1_x.len a1_x.cap], .int .i64 a2_n, .int .u8 a3_c, .string a4_b, .int .i64 a5_most] h [.agg [(.int .i64), .sl]] (fun s h => K s.1.1 s.1.2.1 h) = F_lev_band_step a0_x a1_x a2_n a3_c a4_b a5_most h K := by kernel_rfl
  exact fun_sound mixed Try.func63 rfl (e.mpr hF)

def J1_lev_band_at (a2_i : Int) (K : Int → Hp → Prop) (p2 : Addr) (sJ1 : Unit) (hJ1 : Hp) : Prop :=
ldA .sl hJ1 (Addr.add p2 1) fun (t3 : Sl) =>
ldA (.int .i64) hJ1 p2 fun (t4 : Int) =>
Let (IntKind.wrap .i64 (a2_i - t4) : Int) fun (t5 : Int) =>
idxS t3.a t3.len t5 1 fun (p6 : Addr) =>
ldA (.int .i64) hJ1 p6 fun (t7 : Int) =>
K t7 hJ1
def F_lev_band_at (a0_x : Int) (a1_x : Sl) (a2_i : Int) (a3_far : Int) (h : Hp) (K : Int → Hp → Prop) : Prop :=
Let (Array.push h (Obj.cells #[.int .i64 a0_x, .slice a1_x.a a1_x.len a1_x.cap] 98)) fun (h1 : Hp) =>
Let (Addr.mk (Array.size h) 0 none) fun (p2 : Addr) =>
Jn (J1_lev_band_at a2_i K p2) fun (J1 : Unit → Hp → Prop) =>
ldA (.int .i64) h1 p2 fun (t8 : Int) =>
cnd (decide (a2_i < t8)) (
K a3_far h1) (
ldA (.int .i64) h1 p2 fun (t9 : Int) =>
ldA .sl h1 (Addr.add p2 1) fun (t10 : Sl) =>
Let (IntKind.wrap .i64 (t9 + (t10.len : Int)) : Int) fun (t11 : Int) =>
cnd (decide (a2_i ≥ t11)) (
K a3_far h1) (
J1 (()) h1))

theorem F_lev_band_at_ok (a0_x : Int) (a1_x : Sl) (a2_i : Int) (a3_far : Int) (h : Hp) (K : Int → Hp → Prop) (hF : F_lev_band_at a0_x a1_x a2_i a3_far h K) : C_lev_band_at a0_x a1_x a2_i a3_far h K := by
  have e : bodyVC Try.prog Try.f64 (.seq .no (.join [] (.seq .no (.cond (.seq .no .no) .no)) (.seq .no .no))) (Option.getD Try.f64.body .skip) [.agg #[.int .i64 a0_x, .slice a1_x.a a1_x.len a1_x.cap], .int .i64 a2_i, .int .i64 a3_far] h [.at (.int .i64)] (fun s h => K s.1 h) = F_lev_band_at a0_x a1_x a2_i a3_far h K := by kernel_rfl
  exact fun_sound mixed Try.func64 rfl (e.mpr hF)

def L1_ham_Places (a0_a : ByteArray) (a1_b : ByteArray) (K : Sl → Hp → Prop) (t1 : Int) (sL1 : (Sl × Int × Unit) × Hp) (R1 : (Sl × Int × Unit) × Hp → Prop) : Prop :=
cnd (decide (sL1.1.2.1 < t1)) (
idxStr a0_a sL1.1.2.1 fun (t2 : Int) =>
idxStr a1_b sL1.1.2.1 fun (t3 : Int) =>
cnd (t2 != t3) (
Let (Array.push sL1.2 (Obj.cells #[.int .i64 sL1.1.2.1] 3)) fun (h4 : Hp) =>
Let (Addr.mk (Array.size sL1.2) 0 none) fun (p5 : Addr) =>
appS 3 1 8 [.int .i64 0] sL1.1.1.a sL1.1.1.len sL1.1.1.cap (.slice (some p5) 1 1) h4 fun (t6 : Sl) (h7 : Hp) =>
Let (IntKind.wrap .i64 (sL1.1.2.1 + 1) : Int) fun (t8 : Int) =>
R1 ((t6, t8, ()), h7)) (
Let (IntKind.wrap .i64 (sL1.1.2.1 + 1) : Int) fun (t9 : Int) =>
R1 (((Sl.mk sL1.1.1.a sL1.1.1.len sL1.1.1.cap), t9, ()), sL1.2))) (
K (Sl.mk sL1.1.1.a sL1.1.1.len sL1.1.1.cap) sL1.2)
def F_ham_Places (a0_a : ByteArray) (a1_b : ByteArray) (h : Hp) (K : Sl → Hp → Prop) : Prop :=
Let (if (ByteArray.size a1_b : Int) < (ByteArray.size a0_a : Int) then (ByteArray.size a1_b : Int) else (ByteArray.size a0_a : Int) : Int) fun (t1 : Int) =>
∃ n, Lp (L1_ham_Places a0_a a1_b K t1) n (((Sl.mk none 0 0), 0, ()), h)

theorem F_ham_Places_ok (a0_a : ByteArray) (a1_b : ByteArray) (h : Hp) (K : Sl → Hp → Prop) (hF : F_ham_Places a0_a a1_b h K) : C_ham_Places a0_a a1_b h K := by
  have e : bodyVC Try.prog Try.f65 (.seq .no (.seq .no (.seq (.seq .no (.block (.loop [(5, .at .sl), (12, .at (.int .i64))] (.seq .no (.seq (.cond .no .no) (.seq (.block (.seq .no (.seq .no (.cond .no .no)))) .no)))))) (.seq .no .no)))) (Option.getD Try.f65.body .skip) [.string a0_a, .string a1_b] h [.at .sl] (fun s h => K s.1 h) = F_ham_Places a0_a a1_b h K := by kernel_rfl
  exact fun_sound mixed Try.func65 rfl (e.mpr hF)

def J1_lev_next (a0_row : Sl) (sL1 : (Int × Unit) × Hp) (R1 : (Int × Unit) × Hp → Prop) (sJ1 : Int × Unit) (hJ1 : Hp) : Prop :=
Let (IntKind.wrap .i64 (sL1.1.1 + 1) : Int) fun (t12 : Int) =>
idxS a0_row.a a0_row.len t12 1 fun (p13 : Addr) =>
((1 : Nat) = 1) ∧ (
stC hJ1 p13 (
Let (hset hJ1 p13 (.int .i64 sJ1.1)) fun (h14 : Hp) =>
Let (IntKind.wrap .i64 (sL1.1.1 + 1) : Int) fun (t15 : Int) =>
R1 ((t15, ()), h14)))
def L1_lev_next (a0_row : Sl) (a1_c : Int) (a2_b : ByteArray) (K : Sl → Hp → Prop) (t1 : Sl) (sL1 : (Int × Unit) × Hp) (R1 : (Int × Unit) × Hp → Prop) : Prop :=
cnd (decide (sL1.1.1 < (ByteArray.size a2_b : Int))) (
idxS t1.a t1.len sL1.1.1 1 fun (p10 : Addr) =>
ldA (.int .i64) sL1.2 p10 fun (t11 : Int) =>
Jn (J1_lev_next a0_row sL1 R1) fun (J1 : Int × Unit → Hp → Prop) =>
idxStr a2_b sL1.1.1 fun (t16 : Int) =>
cnd (t16 != a1_c) (
Let (IntKind.wrap .i64 (sL1.1.1 + 1) : Int) fun (t17 : Int) =>
idxS t1.a t1.len t17 1 fun (p18 : Addr) =>
ldA (.int .i64) sL1.2 p18 fun (t19 : Int) =>
idxS a0_row.a a0_row.len sL1.1.1 1 fun (p20 : Addr) =>
ldA (.int .i64) sL1.2 p20 fun (t21 : Int) =>
Let (if t19 < t11 then t19 else t11 : Int) fun (t22 : Int) =>
Let (if t21 < t22 then t21 else t22 : Int) fun (t23 : Int) =>
Let (IntKind.wrap .i64 ((1 : Int) + t23) : Int) fun (t24 : Int) =>
J1 (t24, ()) sL1.2) (
J1 (t11, ()) sL1.2)) (
K a0_row sL1.2)
def F_lev_next (a0_row : Sl) (a1_c : Int) (a2_b : ByteArray) (h : Hp) (K : Sl → Hp → Prop) : Prop :=
mkS 3 1 8 [.int .i64 0] (a0_row.len : Int) (a0_row.len : Int) h fun (t1 : Sl) (h2 : Hp) =>
cpS 1 t1.a t1.len (.slice a0_row.a a0_row.len a0_row.cap) h2 fun (t3 : Nat) (h4 : Hp) =>
idxS a0_row.a a0_row.len 0 1 fun (p5 : Addr) =>
ldA (.int .i64) h4 p5 fun (t6 : Int) =>
Let (IntKind.wrap .i64 (t6 + 1) : Int) fun (t7 : Int) =>
idxS a0_row.a a0_row.len 0 1 fun (p8 : Addr) =>
((1 : Nat) = 1) ∧ (
stC h4 p8 (
Let (hset h4 p8 (.int .i64 t7)) fun (h9 : Hp) =>
∃ n, Lp (L1_lev_next a0_row a1_c a2_b K t1) n ((0, ()), h9)))

theorem F_lev_next_ok (a0_row : Sl) (a1_c : Int) (a2_b : ByteArray) (h : Hp) (K : Sl → Hp → Prop) (hF : F_lev_next a0_row a1_c a2_b h K) : C_lev_next a0_row a1_c a2_b h K := by
  have e : bodyVC Try.prog Try.f66 (.seq .no (.seq .no (.seq .no (.seq .no (.seq (.seq .no (.block (.loop [(23, .at (.int .i64))] (.seq .no (.seq (.cond .no .no) (.seq (.block (.seq .no (.seq .no (.join [(9, .at (.int .i64))] (.seq .no (.cond .no .no)) .no)))) .no)))))) (.seq .no .no)))))) (Option.getD Try.f66.body .skip) [.slice a0_row.a a0_row.len a0_row.cap, .int .u8 a1_c, .string a2_b] h [.at .sl] (fun s h => K s.1 h) = F_lev_next a0_row a1_c a2_b h K := by kernel_rfl
  exact fun_sound mixed Try.func66 rfl (e.mpr hF)

def J1_slices_insertionSortCmpFunc_api_Hit (a0_data : Sl) (sL2 : (Int × Unit) × Hp) (R2 : (Int × Unit) × Hp → Prop) (sJ1 : Unit) (hJ1 : Hp) : Prop :=
Let (IntKind.wrap .i64 (sL2.1.1 - 1) : Int) fun (t2 : Int) =>
Let (IntKind.wrap .i64 (sL2.1.1 - 1) : Int) fun (t3 : Int) =>
idxS a0_data.a a0_data.len t3 2 fun (p4 : Addr) =>
ldA (.int .u64) hJ1 p4 fun (t5 : Int) =>
ldA (.int .i64) hJ1 (Addr.add p4 1) fun (t6 : Int) =>
idxS a0_data.a a0_data.len sL2.1.1 2 fun (p7 : Addr) =>
ldA (.int .u64) hJ1 p7 fun (t8 : Int) =>
ldA (.int .i64) hJ1 (Addr.add p7 1) fun (t9 : Int) =>
idxS a0_data.a a0_data.len sL2.1.1 2 fun (p10 : Addr) =>
stC hJ1 p10 (
Let (hset hJ1 p10 (.int .u64 t5)) fun (h11 : Hp) =>
stC h11 (Addr.add p10 1) (
Let (hset h11 (Addr.add p10 1) (.int .i64 t6)) fun (h12 : Hp) =>
idxS a0_data.a a0_data.len t2 2 fun (p13 : Addr) =>
stC h12 p13 (
Let (hset h12 p13 (.int .u64 t8)) fun (h14 : Hp) =>
stC h14 (Addr.add p13 1) (
Let (hset h14 (Addr.add p13 1) (.int .i64 t9)) fun (h15 : Hp) =>
Let (IntKind.wrap .i64 (sL2.1.1 - 1) : Int) fun (t16 : Int) =>
R2 ((t16, ()), h15)))))
def L2_slices_insertionSortCmpFunc_api_Hit (a0_data : Sl) (a1_a : Int) (a3_cmp : Value) (sL1 : (Int × Unit) × Hp) (R1 : (Int × Unit) × Hp → Prop) (sL2 : (Int × Unit) × Hp) (R2 : (Int × Unit) × Hp → Prop) : Prop :=
Jn (J1_slices_insertionSortCmpFunc_api_Hit a0_data sL2 R2) fun (J1 : Unit → Hp → Prop) =>
cnd (decide (sL2.1.1 > a1_a)) (
idxS a0_data.a a0_data.len sL2.1.1 2 fun (p17 : Addr) =>
ldA (.int .u64) sL2.2 p17 fun (t18 : Int) =>
ldA (.int .i64) sL2.2 (Addr.add p17 1) fun (t19 : Int) =>
Let (IntKind.wrap .i64 (sL2.1.1 - 1) : Int) fun (t20 : Int) =>
idxS a0_data.a a0_data.len t20 2 fun (p21 : Addr) =>
ldA (.int .u64) sL2.2 p21 fun (t22 : Int) =>
ldA (.int .i64) sL2.2 (Addr.add p21 1) fun (t23 : Int) =>
callV Try.prog a3_cmp [.agg #[.int .u64 t18, .int .i64 t19], .agg #[.int .u64 t22, .int .i64 t23]] [.at (.int .i64)] sL2.2 fun (s : Int × Unit) (h25 : Hp) =>
cnd (decide (s.1 < 0)) (
J1 (()) h25) (
Let (IntKind.wrap .i64 (sL1.1.1 + 1) : Int) fun (t26 : Int) =>
R1 ((t26, ()), h25))) (
Let (IntKind.wrap .i64 (sL1.1.1 + 1) : Int) fun (t27 : Int) =>
R1 ((t27, ()), sL2.2))
def L1_slices_insertionSortCmpFunc_api_Hit (a0_data : Sl) (a1_a : Int) (a2_b : Int) (a3_cmp : Value) (K : Hp → Prop) (sL1 : (Int × Unit) × Hp) (R1 : (Int × Unit) × Hp → Prop) : Prop :=
cnd (decide (sL1.1.1 < a2_b)) (
∃ n, Lp (L2_slices_insertionSortCmpFunc_api_Hit a0_data a1_a a3_cmp sL1 R1) n ((sL1.1.1, ()), sL1.2)) (
K sL1.2)
def F_slices_insertionSortCmpFunc_api_Hit (a0_data : Sl) (a1_a : Int) (a2_b : Int) (a3_cmp : Value) (h : Hp) (K : Hp → Prop) : Prop :=
Let (IntKind.wrap .i64 (a1_a + 1) : Int) fun (t1 : Int) =>
∃ n, Lp (L1_slices_insertionSortCmpFunc_api_Hit a0_data a1_a a2_b a3_cmp K) n ((t1, ()), h)

theorem F_slices_insertionSortCmpFunc_api_Hit_ok (a0_data : Sl) (a1_a : Int) (a2_b : Int) (a3_cmp : Value) (h : Hp) (K : Hp → Prop) (hF : F_slices_insertionSortCmpFunc_api_Hit a0_data a1_a a2_b a3_cmp h K) : C_slices_insertionSortCmpFunc_api_Hit a0_data a1_a a2_b a3_cmp h K := by
  have e : bodyVC Try.prog Try.f67 (.seq .no (.block (.loop [(8, .at (.int .i64))] (.seq (.seq .no (.cond .no .no)) (.seq (.block (.seq .no (.block (.loop [(9, .at (.int .i64))] (.join [] (.seq .no (.cond .no .no)) (.seq (.block .no) .no)))))) .no))))) (Option.getD Try.f67.body .skip) [.slice a0_data.a a0_data.len a0_data.cap, .int .i64 a1_a, .int .i64 a2_b, a3_cmp] h [] (fun s h => K h) = F_slices_insertionSortCmpFunc_api_Hit a0_data a1_a a2_b a3_cmp h K := by kernel_rfl
  exact fun_sound mixed Try.func67 rfl (e.mpr hF)

def L1_slices_heapSortCmpFunc_api_Hit (a0_data : Sl) (a1_a : Int) (a3_cmp : Value) (K : Hp → Prop) (sL1 : (Int × Unit) × Hp) (R1 : (Int × Unit) × Hp → Prop) : Prop :=
cnd (decide (sL1.1.1 ≥ 0)) (
Let (IntKind.wrap .i64 (a1_a + sL1.1.1) : Int) fun (t3 : Int) =>
Let (IntKind.wrap .i64 (a1_a + sL1.1.1) : Int) fun (t4 : Int) =>
idxS a0_data.a a0_data.len t4 2 fun (p5 : Addr) =>
ldA (.int .u64) sL1.2 p5 fun (t6 : Int) =>
ldA (.int .i64) sL1.2 (Addr.add p5 1) fun (t7 : Int) =>
idxS a0_data.a a0_data.len a1_a 2 fun (p8 : Addr) =>
ldA (.int .u64) sL1.2 p8 fun (t9 : Int) =>
ldA (.int .i64) sL1.2 (Addr.add p8 1) fun (t10 : Int) =>
idxS a0_data.a a0_data.len a1_a 2 fun (p11 : Addr) =>
stC sL1.2 p11 (
Let (hset sL1.2 p11 (.int .u64 t6)) fun (h12 : Hp) =>
stC h12 (Addr.add p11 1) (
Let (hset h12 (Addr.add p11 1) (.int .i64 t7)) fun (h13 : Hp) =>
idxS a0_data.a a0_data.len t3 2 fun (p14 : Addr) =>
stC h13 p14 (
Let (hset h13 p14 (.int .u64 t9)) fun (h15 : Hp) =>
stC h15 (Addr.add p14 1) (
Let (hset h15 (Addr.add p14 1) (.int .i64 t10)) fun (h16 : Hp) =>
C_slices_siftDownCmpFunc_api_Hit a0_data 0 sL1.1.1 a1_a a3_cmp h16 fun  (h17 : Hp) =>
Let (IntKind.wrap .i64 (sL1.1.1 - 1) : Int) fun (t18 : Int) =>
R1 ((t18, ()), h17)))))) (
K sL1.2)
def J1_slices_heapSortCmpFunc_api_Hit (a0_data : Sl) (a1_a : Int) (a3_cmp : Value) (K : Hp → Prop) (t1 : Int) (sJ1 : Unit) (hJ1 : Hp) : Prop :=
Let (IntKind.wrap .i64 (t1 - 1) : Int) fun (t2 : Int) =>
∃ n, Lp (L1_slices_heapSortCmpFunc_api_Hit a0_data a1_a a3_cmp K) n ((t2, ()), hJ1)
def L2_slices_heapSortCmpFunc_api_Hit (a0_data : Sl) (a1_a : Int) (a3_cmp : Value) (t1 : Int) (J1 : Unit → Hp → Prop) (sL2 : (Int × Unit) × Hp) (R2 : (Int × Unit) × Hp → Prop) : Prop :=
cnd (decide (sL2.1.1 ≥ 0)) (
C_slices_siftDownCmpFunc_api_Hit a0_data sL2.1.1 t1 a1_a a3_cmp sL2.2 fun  (h21 : Hp) =>
Let (IntKind.wrap .i64 (sL2.1.1 - 1) : Int) fun (t22 : Int) =>
R2 ((t22, ()), h21)) (
J1 (()) sL2.2)
def F_slices_heapSortCmpFunc_api_Hit (a0_data : Sl) (a1_a : Int) (a2_b : Int) (a3_cmp : Value) (h : Hp) (K : Hp → Prop) : Prop :=
Let (IntKind.wrap .i64 (a2_b - a1_a) : Int) fun (t1 : Int) =>
Jn (J1_slices_heapSortCmpFunc_api_Hit a0_data a1_a a3_cmp K t1) fun (J1 : Unit → Hp → Prop) =>
Let (IntKind.wrap .i64 (t1 - 1) : Int) fun (t19 : Int) =>
(2 ≠ (0 : Int)) ∧ (
Let (IntKind.wrap .i64 (Int.tdiv t19 2) : Int) fun (t20 : Int) =>
∃ n, Lp (L2_slices_heapSortCmpFunc_api_Hit a0_data a1_a a3_cmp t1 J1) n ((t20, ()), h))

theorem F_slices_heapSortCmpFunc_api_Hit_ok (a0_data : Sl) (a1_a : Int) (a2_b : Int) (a3_cmp : Value) (h : Hp) (K : Hp → Prop) (hF : F_slices_heapSortCmpFunc_api_Hit a0_data a1_a a2_b a3_cmp h K) : C_slices_heapSortCmpFunc_api_Hit a0_data a1_a a2_b a3_cmp h K := by
  have e : bodyVC Try.prog Try.f68 (.seq .no (.seq .no (.seq .no (.join [] (.seq .no (.block (.loop [(11, .at (.int .i64))] (.seq (.seq .no (.cond .no .no)) (.seq (.block .no) .no))))) (.seq .no (.block (.loop [(12, .at (.int .i64))] (.seq (.seq .no (.cond .no .no)) (.seq (.block (.seq .no .no)) .no))))))))) (Option.getD Try.f68.body .skip) [.slice a0_data.a a0_data.len a0_data.cap, .int .i64 a1_a, .int .i64 a2_b, a3_cmp] h [] (fun s h => K h) = F_slices_heapSortCmpFunc_api_Hit a0_data a1_a a2_b a3_cmp h K := by kernel_rfl
  exact fun_sound mixed Try.func68 rfl (e.mpr hF)

def J1_slices_breakPatternsCmpFunc_api_Hit (a0_data : Sl) (a1_a : Int) (sL1 : (Int × Unit) × Hp) (R1 : (Int × Unit) × Hp → Prop) (sJ1 : Int × Unit) (hJ1 : Hp) : Prop :=
Let (IntKind.wrap .i64 (a1_a + sJ1.1) : Int) fun (t21 : Int) =>
Let (IntKind.wrap .i64 (a1_a + sJ1.1) : Int) fun (t22 : Int) =>
idxS a0_data.a a0_data.len t22 2 fun (p23 : Addr) =>
ldA (.int .u64) hJ1 p23 fun (t24 : Int) =>
ldA (.int .i64) hJ1 (Addr.add p23 1) fun (t25 : Int) =>
idxS a0_data.a a0_data.len sL1.1.1 2 fun (p26 : Addr) =>
ldA (.int .u64) hJ1 p26 fun (t27 : Int) =>
ldA (.int .i64) hJ1 (Addr.add p26 1) fun (t28 : Int) =>
idxS a0_data.a a0_data.len sL1.1.1 2 fun (p29 : Addr) =>
stC hJ1 p29 (
Let (hset hJ1 p29 (.int .u64 t24)) fun (h30 : Hp) =>
stC h30 (Addr.add p29 1) (
Let (hset h30 (Addr.add p29 1) (.int .i64 t25)) fun (h31 : Hp) =>
idxS a0_data.a a0_data.len t21 2 fun (p32 : Addr) =>
stC h31 p32 (
Let (hset h31 p32 (.int .u64 t27)) fun (h33 : Hp) =>
stC h33 (Addr.add p32 1) (
Let (hset h33 (Addr.add p32 1) (.int .i64 t28)) fun (h34 : Hp) =>
Let (IntKind.wrap .i64 (sL1.1.1 + 1) : Int) fun (t35 : Int) =>
R1 ((t35, ()), h34)))))
def L1_slices_breakPatternsCmpFunc_api_Hit (a0_data : Sl) (a1_a : Int) (K : Hp → Prop) (t1 : Int) (p4 : Addr) (t6 : Int) (sL1 : (Int × Unit) × Hp) (R1 : (Int × Unit) × Hp → Prop) : Prop :=
(4 ≠ (0 : Int)) ∧ (
Let (IntKind.wrap .i64 (Int.tdiv t1 4) : Int) fun (t12 : Int) =>
Let (IntKind.wrap .i64 (t12 * 2) : Int) fun (t13 : Int) =>
Let (IntKind.wrap .i64 (a1_a + t13) : Int) fun (t14 : Int) =>
Let (IntKind.wrap .i64 (t14 + 1) : Int) fun (t15 : Int) =>
cnd (decide (sL1.1.1 ≤ t15)) (
C_slices_xorshift_Next (some p4) sL1.2 fun (t16 : Int) (h17 : Hp) =>
Let (IntKind.wrap .u64 (t6 - 1) : Int) fun (t18 : Int) =>
Let (ibAnd .u64 t16 t18 : Int) fun (t19 : Int) =>
Let (IntKind.wrap .i64 (t19) : Int) fun (t20 : Int) =>
Jn (J1_slices_breakPatternsCmpFunc_api_Hit a0_data a1_a sL1 R1) fun (J1 : Int × Unit → Hp → Prop) =>
cnd (decide (t20 ≥ t1)) (
Let (IntKind.wrap .i64 (t20 - t1) : Int) fun (t36 : Int) =>
J1 (t36, ()) h17) (
J1 (t20, ()) h17)) (
K sL1.2))
def F_slices_breakPatternsCmpFunc_api_Hit (a0_data : Sl) (a1_a : Int) (a2_b : Int) (a3_cmp : Value) (h : Hp) (K : Hp → Prop) : Prop :=
Let (IntKind.wrap .i64 (a2_b - a1_a) : Int) fun (t1 : Int) =>
cnd (decide (t1 ≥ 8)) (
Let (IntKind.wrap .u64 (t1) : Int) fun (t2 : Int) =>
Let (Array.push h (Obj.cells #[.int .u64 0] 117)) fun (h3 : Hp) =>
Let (Addr.mk (Array.size h) 0 none) fun (p4 : Addr) =>
((1 : Nat) = 1) ∧ (
stC h3 p4 (
Let (hset h3 p4 (.int .u64 t2)) fun (h5 : Hp) =>
C_slices_nextPowerOfTwo t1 h5 fun (t6 : Int) (h7 : Hp) =>
(4 ≠ (0 : Int)) ∧ (
Let (IntKind.wrap .i64 (Int.tdiv t1 4) : Int) fun (t8 : Int) =>
Let (IntKind.wrap .i64 (t8 * 2) : Int) fun (t9 : Int) =>
Let (IntKind.wrap .i64 (a1_a + t9) : Int) fun (t10 : Int) =>
Let (IntKind.wrap .i64 (t10 - 1) : Int) fun (t11 : Int) =>
∃ n, Lp (L1_slices_breakPatternsCmpFunc_api_Hit a0_data a1_a K t1 p4 t6) n ((t11, ()), h7))))) (
K h)

theorem F_slices_breakPatternsCmpFunc_api_Hit_ok (a0_data : Sl) (a1_a : Int) (a2_b : Int) (a3_cmp : Value) (h : Hp) (K : Hp → Prop) (hF : F_slices_breakPatternsCmpFunc_api_Hit a0_data a1_a a2_b a3_cmp h K) : C_slices_breakPatternsCmpFunc_api_Hit a0_data a1_a a2_b a3_cmp h K := by
  have e : bodyVC Try.prog Try.f69 (.seq .no (.seq .no (.cond (.seq .no (.seq .no (.seq .no (.block (.loop [(11, .at (.int .i64))] (.seq (.seq .no (.cond .no .no)) (.seq (.block (.seq .no (.join [(12, .at (.int .i64))] (.seq .no (.cond .no .no)) .no))) .no))))))) .no))) (Option.getD Try.f69.body .skip) [.slice a0_data.a a0_data.len a0_data.cap, .int .i64 a1_a, .int .i64 a2_b, a3_cmp] h [] (fun s h => K h) = F_slices_breakPatternsCmpFunc_api_Hit a0_data a1_a a2_b a3_cmp h K := by kernel_rfl
  exact fun_sound mixed Try.func69 rfl (e.mpr hF)

def J1_slices_choosePivotCmpFunc_api_Hit (K : Int → Int → Hp → Prop) (p3 : Addr) (sJ1 : Int × Unit) (hJ1 : Hp) : Prop :=
ldA (.int .i64) hJ1 p3 fun (t13 : Int) =>
cnd (t13 == 0) (
K sJ1.1 1 hJ1) (
cnd (t13 == 12) (
K sJ1.1 2 hJ1) (
K sJ1.1 0 hJ1))
def F_slices_choosePivotCmpFunc_api_Hit (a0_data : Sl) (a1_a : Int) (a2_b : Int) (a3_cmp : Value) (h : Hp) (K : Int → Int → Hp → Prop) : Prop :=
Let (IntKind.wrap .i64 (a2_b - a1_a) : Int) fun (t1 : Int) =>
Let (Array.push h (Obj.cells #[.int .i64 0] 3)) fun (h2 : Hp) =>
Let (Addr.mk (Array.size h) 0 none) fun (p3 : Addr) =>
(4 ≠ (0 : Int)) ∧ (
Let (IntKind.wrap .i64 (Int.tdiv t1 4) : Int) fun (t4 : Int) =>
Let (IntKind.wrap .i64 (t4 * 1) : Int) fun (t5 : Int) =>
Let (IntKind.wrap .i64 (a1_a + t5) : Int) fun (t6 : Int) =>
(4 ≠ (0 : Int)) ∧ (
Let (IntKind.wrap .i64 (Int.tdiv t1 4) : Int) fun (t7 : Int) =>
Let (IntKind.wrap .i64 (t7 * 2) : Int) fun (t8 : Int) =>
Let (IntKind.wrap .i64 (a1_a + t8) : Int) fun (t9 : Int) =>
(4 ≠ (0 : Int)) ∧ (
Let (IntKind.wrap .i64 (Int.tdiv t1 4) : Int) fun (t10 : Int) =>
Let (IntKind.wrap .i64 (t10 * 3) : Int) fun (t11 : Int) =>
Let (IntKind.wrap .i64 (a1_a + t11) : Int) fun (t12 : Int) =>
Jn (J1_slices_choosePivotCmpFunc_api_Hit K p3) fun (J1 : Int × Unit → Hp → Prop) =>
cnd (decide (t1 ≥ 8)) (
cnd (decide (t1 ≥ 50)) (
C_slices_medianAdjacentCmpFunc_api_Hit a0_data t6 (some p3) a3_cmp h2 fun (t14 : Int) (h15 : Hp) =>
C_slices_medianAdjacentCmpFunc_api_Hit a0_data t9 (some p3) a3_cmp h15 fun (t16 : Int) (h17 : Hp) =>
C_slices_medianAdjacentCmpFunc_api_Hit a0_data t12 (some p3) a3_cmp h17 fun (t18 : Int) (h19 : Hp) =>
C_slices_medianCmpFunc_api_Hit a0_data t14 t16 t18 (some p3) a3_cmp h19 fun (t20 : Int) (h21 : Hp) =>
J1 (t20, ()) h21) (
C_slices_medianCmpFunc_api_Hit a0_data t6 t9 t12 (some p3) a3_cmp h2 fun (t22 : Int) (h23 : Hp) =>
J1 (t22, ()) h23)) (
J1 (t9, ()) h2))))

theorem F_slices_choosePivotCmpFunc_api_Hit_ok (a0_data : Sl) (a1_a : Int) (a2_b : Int) (a3_cmp : Value) (h : Hp) (K : Int → Int → Hp → Prop) (hF : F_slices_choosePivotCmpFunc_api_Hit a0_data a1_a a2_b a3_cmp h K) : C_slices_choosePivotCmpFunc_api_Hit a0_data a1_a a2_b a3_cmp h K := by
  have e : bodyVC Try.prog Try.f70 (.seq .no (.seq .no (.seq .no (.seq .no (.seq .no (.seq .no (.join [(13, .at (.int .i64))] (.seq .no (.cond (.seq (.seq .no (.cond (.seq .no (.seq .no .no)) .no)) .no) .no)) (.seq .no (.block (.seq .no (.cond (.seq .no .no) (.seq .no (.cond (.seq .no .no) (.seq .no .no)))))))))))))) (Option.getD Try.f70.body .skip) [.slice a0_data.a a0_data.len a0_data.cap, .int .i64 a1_a, .int .i64 a2_b, a3_cmp] h [.at (.int .i64), .at (.int .i64)] (fun s h => K s.1 s.2.1 h) = F_slices_choosePivotCmpFunc_api_Hit a0_data a1_a a2_b a3_cmp h K := by kernel_rfl
  exact fun_sound mixed Try.func70 rfl (e.mpr hF)

def L1_slices_reverseRangeCmpFunc_api_Hit (a0_data : Sl) (K : Hp → Prop) (sL1 : (Int × Int × Unit) × Hp) (R1 : (Int × Int × Unit) × Hp → Prop) : Prop :=
cnd (decide (sL1.1.1 < sL1.1.2.1)) (
idxS a0_data.a a0_data.len sL1.1.2.1 2 fun (p2 : Addr) =>
ldA (.int .u64) sL1.2 p2 fun (t3 : Int) =>
ldA (.int .i64) sL1.2 (Addr.add p2 1) fun (t4 : Int) =>
idxS a0_data.a a0_data.len sL1.1.1 2 fun (p5 : Addr) =>
ldA (.int .u64) sL1.2 p5 fun (t6 : Int) =>
ldA (.int .i64) sL1.2 (Addr.add p5 1) fun (t7 : Int) =>
idxS a0_data.a a0_data.len sL1.1.1 2 fun (p8 : Addr) =>
stC sL1.2 p8 (
Let (hset sL1.2 p8 (.int .u64 t3)) fun (h9 : Hp) =>
stC h9 (Addr.add p8 1) (
Let (hset h9 (Addr.add p8 1) (.int .i64 t4)) fun (h10 : Hp) =>
idxS a0_data.a a0_data.len sL1.1.2.1 2 fun (p11 : Addr) =>
stC h10 p11 (
Let (hset h10 p11 (.int .u64 t6)) fun (h12 : Hp) =>
stC h12 (Addr.add p11 1) (
Let (hset h12 (Addr.add p11 1) (.int .i64 t7)) fun (h13 : Hp) =>
Let (IntKind.wrap .i64 (sL1.1.1 + 1) : Int) fun (t14 : Int) =>
Let (IntKind.wrap .i64 (sL1.1.2.1 - 1) : Int) fun (t15 : Int) =>
R1 ((t14, t15, ()), h13)))))) (
K sL1.2)
def F_slices_reverseRangeCmpFunc_api_Hit (a0_data : Sl) (a1_a : Int) (a2_b : Int) (a3_cmp : Value) (h : Hp) (K : Hp → Prop) : Prop :=
Let (IntKind.wrap .i64 (a2_b - 1) : Int) fun (t1 : Int) =>
∃ n, Lp (L1_slices_reverseRangeCmpFunc_api_Hit a0_data K) n ((a1_a, t1, ()), h)

theorem F_slices_reverseRangeCmpFunc_api_Hit_ok (a0_data : Sl) (a1_a : Int) (a2_b : Int) (a3_cmp : Value) (h : Hp) (K : Hp → Prop) (hF : F_slices_reverseRangeCmpFunc_api_Hit a0_data a1_a a2_b a3_cmp h K) : C_slices_reverseRangeCmpFunc_api_Hit a0_data a1_a a2_b a3_cmp h K := by
  have e : bodyVC Try.prog Try.f71 (.seq .no (.seq .no (.block (.loop [(8, .at (.int .i64)), (9, .at (.int .i64))] (.seq (.seq .no (.cond .no .no)) (.block (.seq .no (.seq .no .no)))))))) (Option.getD Try.f71.body .skip) [.slice a0_data.a a0_data.len a0_data.cap, .int .i64 a1_a, .int .i64 a2_b, a3_cmp] h [] (fun s h => K h) = F_slices_reverseRangeCmpFunc_api_Hit a0_data a1_a a2_b a3_cmp h K := by kernel_rfl
  exact fun_sound mixed Try.func71 rfl (e.mpr hF)

def L2_slices_partialInsertionSortCmpFunc_api_Hit (a0_data : Sl) (a2_b : Int) (a3_cmp : Value) (sL1 : (Int × Int × Unit) × Hp) (R1 : (Int × Int × Unit) × Hp → Prop) (sJ1 : Int × Unit) (sL2 : (Int × Unit) × Hp) (R2 : (Int × Unit) × Hp → Prop) : Prop :=
cnd (decide (sL2.1.1 < a2_b)) (
idxS a0_data.a a0_data.len sL2.1.1 2 fun (p19 : Addr) =>
ldA (.int .u64) sL2.2 p19 fun (t20 : Int) =>
ldA (.int .i64) sL2.2 (Addr.add p19 1) fun (t21 : Int) =>
Let (IntKind.wrap .i64 (sL2.1.1 - 1) : Int) fun (t22 : Int) =>
idxS a0_data.a a0_data.len t22 2 fun (p23 : Addr) =>
ldA (.int .u64) sL2.2 p23 fun (t24 : Int) =>
ldA (.int .i64) sL2.2 (Addr.add p23 1) fun (t25 : Int) =>
callV Try.prog a3_cmp [.agg #[.int .u64 t20, .int .i64 t21], .agg #[.int .u64 t24, .int .i64 t25]] [.at (.int .i64)] sL2.2 fun (s : Int × Unit) (h27 : Hp) =>
cnd (!(decide (s.1 < 0))) (
Let (IntKind.wrap .i64 (sL1.1.2.1 + 1) : Int) fun (t28 : Int) =>
R1 ((sJ1.1, t28, ()), h27)) (
Let (IntKind.wrap .i64 (sL2.1.1 - 1) : Int) fun (t29 : Int) =>
Let (IntKind.wrap .i64 (sL2.1.1 - 1) : Int) fun (t30 : Int) =>
idxS a0_data.a a0_data.len t30 2 fun (p31 : Addr) =>
ldA (.int .u64) h27 p31 fun (t32 : Int) =>
ldA (.int .i64) h27 (Addr.add p31 1) fun (t33 : Int) =>
idxS a0_data.a a0_data.len sL2.1.1 2 fun (p34 : Addr) =>
ldA (.int .u64) h27 p34 fun (t35 : Int) =>
ldA (.int .i64) h27 (Addr.add p34 1) fun (t36 : Int) =>
idxS a0_data.a a0_data.len sL2.1.1 2 fun (p37 : Addr) =>
stC h27 p37 (
Let (hset h27 p37 (.int .u64 t32)) fun (h38 : Hp) =>
stC h38 (Addr.add p37 1) (
Let (hset h38 (Addr.add p37 1) (.int .i64 t33)) fun (h39 : Hp) =>
idxS a0_data.a a0_data.len t29 2 fun (p40 : Addr) =>
stC h39 p40 (
Let (hset h39 p40 (.int .u64 t35)) fun (h41 : Hp) =>
stC h41 (Addr.add p40 1) (
Let (hset h41 (Addr.add p40 1) (.int .i64 t36)) fun (h42 : Hp) =>
Let (IntKind.wrap .i64 (sL2.1.1 + 1) : Int) fun (t43 : Int) =>
R2 ((t43, ()), h42))))))) (
Let (IntKind.wrap .i64 (sL1.1.2.1 + 1) : Int) fun (t44 : Int) =>
R1 ((sJ1.1, t44, ()), sL2.2))
def J2_slices_partialInsertionSortCmpFunc_api_Hit (a0_data : Sl) (a2_b : Int) (a3_cmp : Value) (sL1 : (Int × Int × Unit) × Hp) (R1 : (Int × Int × Unit) × Hp → Prop) (sJ1 : Int × Unit) (sJ2 : Unit) (hJ2 : Hp) : Prop :=
Let (IntKind.wrap .i64 (a2_b - sJ1.1) : Int) fun (t17 : Int) =>
cnd (decide (t17 ≥ 2)) (
Let (IntKind.wrap .i64 (sJ1.1 + 1) : Int) fun (t18 : Int) =>
∃ n, Lp (L2_slices_partialInsertionSortCmpFunc_api_Hit a0_data a2_b a3_cmp sL1 R1 sJ1) n ((t18, ()), hJ2)) (
Let (IntKind.wrap .i64 (sL1.1.2.1 + 1) : Int) fun (t45 : Int) =>
R1 ((sJ1.1, t45, ()), hJ2))
def L3_slices_partialInsertionSortCmpFunc_api_Hit (a0_data : Sl) (a3_cmp : Value) (J2 : Unit → Hp → Prop) (sL3 : (Int × Unit) × Hp) (R3 : (Int × Unit) × Hp → Prop) : Prop :=
cnd (decide (sL3.1.1 ≥ 1)) (
idxS a0_data.a a0_data.len sL3.1.1 2 fun (p48 : Addr) =>
ldA (.int .u64) sL3.2 p48 fun (t49 : Int) =>
ldA (.int .i64) sL3.2 (Addr.add p48 1) fun (t50 : Int) =>
Let (IntKind.wrap .i64 (sL3.1.1 - 1) : Int) fun (t51 : Int) =>
idxS a0_data.a a0_data.len t51 2 fun (p52 : Addr) =>
ldA (.int .u64) sL3.2 p52 fun (t53 : Int) =>
ldA (.int .i64) sL3.2 (Addr.add p52 1) fun (t54 : Int) =>
callV Try.prog a3_cmp [.agg #[.int .u64 t49, .int .i64 t50], .agg #[.int .u64 t53, .int .i64 t54]] [.at (.int .i64)] sL3.2 fun (s : Int × Unit) (h56 : Hp) =>
cnd (!(decide (s.1 < 0))) (
J2 (()) h56) (
Let (IntKind.wrap .i64 (sL3.1.1 - 1) : Int) fun (t57 : Int) =>
Let (IntKind.wrap .i64 (sL3.1.1 - 1) : Int) fun (t58 : Int) =>
idxS a0_data.a a0_data.len t58 2 fun (p59 : Addr) =>
ldA (.int .u64) h56 p59 fun (t60 : Int) =>
ldA (.int .i64) h56 (Addr.add p59 1) fun (t61 : Int) =>
idxS a0_data.a a0_data.len sL3.1.1 2 fun (p62 : Addr) =>
ldA (.int .u64) h56 p62 fun (t63 : Int) =>
ldA (.int .i64) h56 (Addr.add p62 1) fun (t64 : Int) =>
idxS a0_data.a a0_data.len sL3.1.1 2 fun (p65 : Addr) =>
stC h56 p65 (
Let (hset h56 p65 (.int .u64 t60)) fun (h66 : Hp) =>
stC h66 (Addr.add p65 1) (
Let (hset h66 (Addr.add p65 1) (.int .i64 t61)) fun (h67 : Hp) =>
idxS a0_data.a a0_data.len t57 2 fun (p68 : Addr) =>
stC h67 p68 (
Let (hset h67 p68 (.int .u64 t63)) fun (h69 : Hp) =>
stC h69 (Addr.add p68 1) (
Let (hset h69 (Addr.add p68 1) (.int .i64 t64)) fun (h70 : Hp) =>
Let (IntKind.wrap .i64 (sL3.1.1 - 1) : Int) fun (t71 : Int) =>
R3 ((t71, ()), h70))))))) (
J2 (()) sL3.2)
def J1_slices_partialInsertionSortCmpFunc_api_Hit (a0_data : Sl) (a1_a : Int) (a2_b : Int) (a3_cmp : Value) (K : Bool → Hp → Prop) (sL1 : (Int × Int × Unit) × Hp) (R1 : (Int × Int × Unit) × Hp → Prop) (sJ1 : Int × Unit) (hJ1 : Hp) : Prop :=
cnd (sJ1.1 == a2_b) (
K true hJ1) (
Let (IntKind.wrap .i64 (a2_b - a1_a) : Int) fun (t2 : Int) =>
cnd (decide (t2 < 50)) (
K false hJ1) (
Let (IntKind.wrap .i64 (sJ1.1 - 1) : Int) fun (t3 : Int) =>
Let (IntKind.wrap .i64 (sJ1.1 - 1) : Int) fun (t4 : Int) =>
idxS a0_data.a a0_data.len t4 2 fun (p5 : Addr) =>
ldA (.int .u64) hJ1 p5 fun (t6 : Int) =>
ldA (.int .i64) hJ1 (Addr.add p5 1) fun (t7 : Int) =>
idxS a0_data.a a0_data.len sJ1.1 2 fun (p8 : Addr) =>
ldA (.int .u64) hJ1 p8 fun (t9 : Int) =>
ldA (.int .i64) hJ1 (Addr.add p8 1) fun (t10 : Int) =>
idxS a0_data.a a0_data.len sJ1.1 2 fun (p11 : Addr) =>
stC hJ1 p11 (
Let (hset hJ1 p11 (.int .u64 t6)) fun (h12 : Hp) =>
stC h12 (Addr.add p11 1) (
Let (hset h12 (Addr.add p11 1) (.int .i64 t7)) fun (h13 : Hp) =>
idxS a0_data.a a0_data.len t3 2 fun (p14 : Addr) =>
stC h13 p14 (
Let (hset h13 p14 (.int .u64 t9)) fun (h15 : Hp) =>
stC h15 (Addr.add p14 1) (
Let (hset h15 (Addr.add p14 1) (.int .i64 t10)) fun (h16 : Hp) =>
Jn (J2_slices_partialInsertionSortCmpFunc_api_Hit a0_data a2_b a3_cmp sL1 R1 sJ1) fun (J2 : Unit → Hp → Prop) =>
Let (IntKind.wrap .i64 (sJ1.1 - a1_a) : Int) fun (t46 : Int) =>
cnd (decide (t46 ≥ 2)) (
Let (IntKind.wrap .i64 (sJ1.1 - 1) : Int) fun (t47 : Int) =>
∃ n, Lp (L3_slices_partialInsertionSortCmpFunc_api_Hit a0_data a3_cmp J2) n ((t47, ()), h16)) (
J2 (()) h16)))))))
def L4_slices_partialInsertionSortCmpFunc_api_Hit (a0_data : Sl) (a2_b : Int) (a3_cmp : Value) (J1 : Int × Unit → Hp → Prop) (sL4 : (Int × Unit) × Hp) (R4 : (Int × Unit) × Hp → Prop) : Prop :=
cnd (decide (sL4.1.1 < a2_b)) (
idxS a0_data.a a0_data.len sL4.1.1 2 fun (p72 : Addr) =>
ldA (.int .u64) sL4.2 p72 fun (t73 : Int) =>
ldA (.int .i64) sL4.2 (Addr.add p72 1) fun (t74 : Int) =>
Let (IntKind.wrap .i64 (sL4.1.1 - 1) : Int) fun (t75 : Int) =>
idxS a0_data.a a0_data.len t75 2 fun (p76 : Addr) =>
ldA (.int .u64) sL4.2 p76 fun (t77 : Int) =>
ldA (.int .i64) sL4.2 (Addr.add p76 1) fun (t78 : Int) =>
callV Try.prog a3_cmp [.agg #[.int .u64 t73, .int .i64 t74], .agg #[.int .u64 t77, .int .i64 t78]] [.at (.int .i64)] sL4.2 fun (s : Int × Unit) (h80 : Hp) =>
cnd (!(decide (s.1 < 0))) (
Let (IntKind.wrap .i64 (sL4.1.1 + 1) : Int) fun (t81 : Int) =>
R4 ((t81, ()), h80)) (
J1 (sL4.1.1, ()) h80)) (
J1 (sL4.1.1, ()) sL4.2)
def L1_slices_partialInsertionSortCmpFunc_api_Hit (a0_data : Sl) (a1_a : Int) (a2_b : Int) (a3_cmp : Value) (K : Bool → Hp → Prop) (sL1 : (Int × Int × Unit) × Hp) (R1 : (Int × Int × Unit) × Hp → Prop) : Prop :=
cnd (decide (sL1.1.2.1 < 5)) (
Jn (J1_slices_partialInsertionSortCmpFunc_api_Hit a0_data a1_a a2_b a3_cmp K sL1 R1) fun (J1 : Int × Unit → Hp → Prop) =>
∃ n, Lp (L4_slices_partialInsertionSortCmpFunc_api_Hit a0_data a2_b a3_cmp J1) n ((sL1.1.1, ()), sL1.2)) (
K false sL1.2)
def F_slices_partialInsertionSortCmpFunc_api_Hit (a0_data : Sl) (a1_a : Int) (a2_b : Int) (a3_cmp : Value) (h : Hp) (K : Bool → Hp → Prop) : Prop :=
Let (IntKind.wrap .i64 (a1_a + 1) : Int) fun (t1 : Int) =>
∃ n, Lp (L1_slices_partialInsertionSortCmpFunc_api_Hit a0_data a1_a a2_b a3_cmp K) n ((t1, 0, ()), h)

theorem F_slices_partialInsertionSortCmpFunc_api_Hit_ok (a0_data : Sl) (a1_a : Int) (a2_b : Int) (a3_cmp : Value) (h : Hp) (K : Bool → Hp → Prop) (hF : F_slices_partialInsertionSortCmpFunc_api_Hit a0_data a1_a a2_b a3_cmp h K) : C_slices_partialInsertionSortCmpFunc_api_Hit a0_data a1_a a2_b a3_cmp h K := by
  have e : bodyVC Try.prog Try.f72 (.seq .no (.seq .no (.seq (.seq .no (.block (.loop [(9, .at (.int .i64)), (10, .at (.int .i64))] (.seq (.seq .no (.cond .no .no)) (.seq (.block (.join [(9, .at (.int .i64))] (.block (.loop [(9, .at (.int .i64))] (.seq (.seq .no (.cond .no .no)) (.block .no)))) (.seq (.seq .no (.cond (.seq .no .no) .no)) (.seq (.seq .no (.cond (.seq .no .no) .no)) (.seq .no (.join [] (.seq .no (.cond (.seq .no (.block (.loop [(11, .at (.int .i64))] (.seq (.seq .no (.cond .no .no)) (.seq (.block (.seq (.seq .no (.cond .no .no)) .no)) .no))))) .no)) (.seq .no (.cond (.seq .no (.block (.loop [(12, .at (.int .i64))] (.seq (.seq .no (.cond .no .no)) (.seq (.block (.seq (.seq .no (.cond .no .no)) .no)) .no))))) .no)))))))) .no))))) (.seq .no .no)))) (Option.getD Try.f72.body .skip) [.slice a0_data.a a0_data.len a0_data.cap, .int .i64 a1_a, .int .i64 a2_b, a3_cmp] h [.at .bool] (fun s h => K s.1 h) = F_slices_partialInsertionSortCmpFunc_api_Hit a0_data a1_a a2_b a3_cmp h K := by kernel_rfl
  exact fun_sound mixed Try.func72 rfl (e.mpr hF)

def J2_slices_partitionEqualCmpFunc_api_Hit (a0_data : Sl) (K : Int → Hp → Prop) (R1 : (Int × Int × Unit) × Hp → Prop) (sJ1 : Int × Unit) (sJ2 : Int × Unit) (hJ2 : Hp) : Prop :=
cnd (decide (sJ1.1 > sJ2.1)) (
K sJ1.1 hJ2) (
idxS a0_data.a a0_data.len sJ2.1 2 fun (p15 : Addr) =>
ldA (.int .u64) hJ2 p15 fun (t16 : Int) =>
ldA (.int .i64) hJ2 (Addr.add p15 1) fun (t17 : Int) =>
idxS a0_data.a a0_data.len sJ1.1 2 fun (p18 : Addr) =>
ldA (.int .u64) hJ2 p18 fun (t19 : Int) =>
ldA (.int .i64) hJ2 (Addr.add p18 1) fun (t20 : Int) =>
idxS a0_data.a a0_data.len sJ1.1 2 fun (p21 : Addr) =>
stC hJ2 p21 (
Let (hset hJ2 p21 (.int .u64 t16)) fun (h22 : Hp) =>
stC h22 (Addr.add p21 1) (
Let (hset h22 (Addr.add p21 1) (.int .i64 t17)) fun (h23 : Hp) =>
idxS a0_data.a a0_data.len sJ2.1 2 fun (p24 : Addr) =>
stC h23 p24 (
Let (hset h23 p24 (.int .u64 t19)) fun (h25 : Hp) =>
stC h25 (Addr.add p24 1) (
Let (hset h25 (Addr.add p24 1) (.int .i64 t20)) fun (h26 : Hp) =>
Let (IntKind.wrap .i64 (sJ1.1 + 1) : Int) fun (t27 : Int) =>
Let (IntKind.wrap .i64 (sJ2.1 - 1) : Int) fun (t28 : Int) =>
R1 ((t27, t28, ()), h26))))))
def L2_slices_partitionEqualCmpFunc_api_Hit (a0_data : Sl) (a1_a : Int) (a4_cmp : Value) (sJ1 : Int × Unit) (J2 : Int × Unit → Hp → Prop) (sL2 : (Int × Unit) × Hp) (R2 : (Int × Unit) × Hp → Prop) : Prop :=
cnd (decide (sJ1.1 ≤ sL2.1.1)) (
idxS a0_data.a a0_data.len a1_a 2 fun (p29 : Addr) =>
ldA (.int .u64) sL2.2 p29 fun (t30 : Int) =>
ldA (.int .i64) sL2.2 (Addr.add p29 1) fun (t31 : Int) =>
idxS a0_data.a a0_data.len sL2.1.1 2 fun (p32 : Addr) =>
ldA (.int .u64) sL2.2 p32 fun (t33 : Int) =>
ldA (.int .i64) sL2.2 (Addr.add p32 1) fun (t34 : Int) =>
callV Try.prog a4_cmp [.agg #[.int .u64 t30, .int .i64 t31], .agg #[.int .u64 t33, .int .i64 t34]] [.at (.int .i64)] sL2.2 fun (s : Int × Unit) (h36 : Hp) =>
cnd (decide (s.1 < 0)) (
Let (IntKind.wrap .i64 (sL2.1.1 - 1) : Int) fun (t37 : Int) =>
R2 ((t37, ()), h36)) (
J2 (sL2.1.1, ()) h36)) (
J2 (sL2.1.1, ()) sL2.2)
def J1_slices_partitionEqualCmpFunc_api_Hit (a0_data : Sl) (a1_a : Int) (a4_cmp : Value) (K : Int → Hp → Prop) (sL1 : (Int × Int × Unit) × Hp) (R1 : (Int × Int × Unit) × Hp → Prop) (sJ1 : Int × Unit) (hJ1 : Hp) : Prop :=
Jn (J2_slices_partitionEqualCmpFunc_api_Hit a0_data K R1 sJ1) fun (J2 : Int × Unit → Hp → Prop) =>
∃ n, Lp (L2_slices_partitionEqualCmpFunc_api_Hit a0_data a1_a a4_cmp sJ1 J2) n ((sL1.1.2.1, ()), hJ1)
def L3_slices_partitionEqualCmpFunc_api_Hit (a0_data : Sl) (a1_a : Int) (a4_cmp : Value) (sL1 : (Int × Int × Unit) × Hp) (J1 : Int × Unit → Hp → Prop) (sL3 : (Int × Unit) × Hp) (R3 : (Int × Unit) × Hp → Prop) : Prop :=
cnd (decide (sL3.1.1 ≤ sL1.1.2.1)) (
idxS a0_data.a a0_data.len a1_a 2 fun (p38 : Addr) =>
ldA (.int .u64) sL3.2 p38 fun (t39 : Int) =>
ldA (.int .i64) sL3.2 (Addr.add p38 1) fun (t40 : Int) =>
idxS a0_data.a a0_data.len sL3.1.1 2 fun (p41 : Addr) =>
ldA (.int .u64) sL3.2 p41 fun (t42 : Int) =>
ldA (.int .i64) sL3.2 (Addr.add p41 1) fun (t43 : Int) =>
callV Try.prog a4_cmp [.agg #[.int .u64 t39, .int .i64 t40], .agg #[.int .u64 t42, .int .i64 t43]] [.at (.int .i64)] sL3.2 fun (s : Int × Unit) (h45 : Hp) =>
cnd (!(decide (s.1 < 0))) (
Let (IntKind.wrap .i64 (sL3.1.1 + 1) : Int) fun (t46 : Int) =>
R3 ((t46, ()), h45)) (
J1 (sL3.1.1, ()) h45)) (
J1 (sL3.1.1, ()) sL3.2)
def L1_slices_partitionEqualCmpFunc_api_Hit (a0_data : Sl) (a1_a : Int) (a4_cmp : Value) (K : Int → Hp → Prop) (sL1 : (Int × Int × Unit) × Hp) (R1 : (Int × Int × Unit) × Hp → Prop) : Prop :=
Jn (J1_slices_partitionEqualCmpFunc_api_Hit a0_data a1_a a4_cmp K sL1 R1) fun (J1 : Int × Unit → Hp → Prop) =>
∃ n, Lp (L3_slices_partitionEqualCmpFunc_api_Hit a0_data a1_a a4_cmp sL1 J1) n ((sL1.1.1, ()), sL1.2)
def F_slices_partitionEqualCmpFunc_api_Hit (a0_data : Sl) (a1_a : Int) (a2_b : Int) (a3_pivot : Int) (a4_cmp : Value) (h : Hp) (K : Int → Hp → Prop) : Prop :=
idxS a0_data.a a0_data.len a3_pivot 2 fun (p1 : Addr) =>
ldA (.int .u64) h p1 fun (t2 : Int) =>
ldA (.int .i64) h (Addr.add p1 1) fun (t3 : Int) =>
idxS a0_data.a a0_data.len a1_a 2 fun (p4 : Addr) =>
ldA (.int .u64) h p4 fun (t5 : Int) =>
ldA (.int .i64) h (Addr.add p4 1) fun (t6 : Int) =>
idxS a0_data.a a0_data.len a1_a 2 fun (p7 : Addr) =>
stC h p7 (
Let (hset h p7 (.int .u64 t2)) fun (h8 : Hp) =>
stC h8 (Addr.add p7 1) (
Let (hset h8 (Addr.add p7 1) (.int .i64 t3)) fun (h9 : Hp) =>
idxS a0_data.a a0_data.len a3_pivot 2 fun (p10 : Addr) =>
stC h9 p10 (
Let (hset h9 p10 (.int .u64 t5)) fun (h11 : Hp) =>
stC h11 (Addr.add p10 1) (
Let (hset h11 (Addr.add p10 1) (.int .i64 t6)) fun (h12 : Hp) =>
Let (IntKind.wrap .i64 (a1_a + 1) : Int) fun (t13 : Int) =>
Let (IntKind.wrap .i64 (a2_b - 1) : Int) fun (t14 : Int) =>
∃ n, Lp (L1_slices_partitionEqualCmpFunc_api_Hit a0_data a1_a a4_cmp K) n ((t13, t14, ()), h12)))))

theorem F_slices_partitionEqualCmpFunc_api_Hit_ok (a0_data : Sl) (a1_a : Int) (a2_b : Int) (a3_pivot : Int) (a4_cmp : Value) (h : Hp) (K : Int → Hp → Prop) (hF : F_slices_partitionEqualCmpFunc_api_Hit a0_data a1_a a2_b a3_pivot a4_cmp h K) : C_slices_partitionEqualCmpFunc_api_Hit a0_data a1_a a2_b a3_pivot a4_cmp h K := by
  have e : bodyVC Try.prog Try.f73 (.seq .no (.seq .no (.seq .no (.seq (.block (.loop [(11, .at (.int .i64)), (12, .at (.int .i64))] (.block (.join [(11, .at (.int .i64))] (.block (.loop [(11, .at (.int .i64))] (.seq (.seq .no (.cond .no .no)) (.block .no)))) (.join [(12, .at (.int .i64))] (.block (.loop [(12, .at (.int .i64))] (.seq (.seq .no (.cond .no .no)) (.block .no)))) (.seq (.seq .no (.cond .no .no)) (.seq .no (.seq .no .no)))))))) (.seq .no .no))))) (Option.getD Try.f73.body .skip) [.slice a0_data.a a0_data.len a0_data.cap, .int .i64 a1_a, .int .i64 a2_b, .int .i64 a3_pivot, a4_cmp] h [.at (.int .i64)] (fun s h => K s.1 h) = F_slices_partitionEqualCmpFunc_api_Hit a0_data a1_a a2_b a3_pivot a4_cmp h K := by kernel_rfl
  exact fun_sound mixed Try.func73 rfl (e.mpr hF)

def J3_slices_partitionCmpFunc_api_Hit (a0_data : Sl) (a1_a : Int) (K : Int → Bool → Hp → Prop) (sJ3 : Int × Unit) (hJ3 : Hp) : Prop :=
idxS a0_data.a a0_data.len a1_a 2 fun (p41 : Addr) =>
ldA (.int .u64) hJ3 p41 fun (t42 : Int) =>
ldA (.int .i64) hJ3 (Addr.add p41 1) fun (t43 : Int) =>
idxS a0_data.a a0_data.len sJ3.1 2 fun (p44 : Addr) =>
ldA (.int .u64) hJ3 p44 fun (t45 : Int) =>
ldA (.int .i64) hJ3 (Addr.add p44 1) fun (t46 : Int) =>
idxS a0_data.a a0_data.len sJ3.1 2 fun (p47 : Addr) =>
stC hJ3 p47 (
Let (hset hJ3 p47 (.int .u64 t42)) fun (h48 : Hp) =>
stC h48 (Addr.add p47 1) (
Let (hset h48 (Addr.add p47 1) (.int .i64 t43)) fun (h49 : Hp) =>
idxS a0_data.a a0_data.len a1_a 2 fun (p50 : Addr) =>
stC h49 p50 (
Let (hset h49 p50 (.int .u64 t45)) fun (h51 : Hp) =>
stC h51 (Addr.add p50 1) (
Let (hset h51 (Addr.add p50 1) (.int .i64 t46)) fun (h52 : Hp) =>
K sJ3.1 false h52))))
def J5_slices_partitionCmpFunc_api_Hit (a0_data : Sl) (J3 : Int × Unit → Hp → Prop) (R1 : (Int × Int × Unit) × Hp → Prop) (sJ4 : Int × Unit) (sJ5 : Int × Unit) (hJ5 : Hp) : Prop :=
cnd (decide (sJ4.1 > sJ5.1)) (
J3 (sJ5.1, ()) hJ5) (
idxS a0_data.a a0_data.len sJ5.1 2 fun (p53 : Addr) =>
ldA (.int .u64) hJ5 p53 fun (t54 : Int) =>
ldA (.int .i64) hJ5 (Addr.add p53 1) fun (t55 : Int) =>
idxS a0_data.a a0_data.len sJ4.1 2 fun (p56 : Addr) =>
ldA (.int .u64) hJ5 p56 fun (t57 : Int) =>
ldA (.int .i64) hJ5 (Addr.add p56 1) fun (t58 : Int) =>
idxS a0_data.a a0_data.len sJ4.1 2 fun (p59 : Addr) =>
stC hJ5 p59 (
Let (hset hJ5 p59 (.int .u64 t54)) fun (h60 : Hp) =>
stC h60 (Addr.add p59 1) (
Let (hset h60 (Addr.add p59 1) (.int .i64 t55)) fun (h61 : Hp) =>
idxS a0_data.a a0_data.len sJ5.1 2 fun (p62 : Addr) =>
stC h61 p62 (
Let (hset h61 p62 (.int .u64 t57)) fun (h63 : Hp) =>
stC h63 (Addr.add p62 1) (
Let (hset h63 (Addr.add p62 1) (.int .i64 t58)) fun (h64 : Hp) =>
Let (IntKind.wrap .i64 (sJ4.1 + 1) : Int) fun (t65 : Int) =>
Let (IntKind.wrap .i64 (sJ5.1 - 1) : Int) fun (t66 : Int) =>
R1 ((t65, t66, ()), h64))))))
def L2_slices_partitionCmpFunc_api_Hit (a0_data : Sl) (a1_a : Int) (a4_cmp : Value) (sJ4 : Int × Unit) (J5 : Int × Unit → Hp → Prop) (sL2 : (Int × Unit) × Hp) (R2 : (Int × Unit) × Hp → Prop) : Prop :=
cnd (decide (sJ4.1 ≤ sL2.1.1)) (
idxS a0_data.a a0_data.len sL2.1.1 2 fun (p67 : Addr) =>
ldA (.int .u64) sL2.2 p67 fun (t68 : Int) =>
ldA (.int .i64) sL2.2 (Addr.add p67 1) fun (t69 : Int) =>
idxS a0_data.a a0_data.len a1_a 2 fun (p70 : Addr) =>
ldA (.int .u64) sL2.2 p70 fun (t71 : Int) =>
ldA (.int .i64) sL2.2 (Addr.add p70 1) fun (t72 : Int) =>
callV Try.prog a4_cmp [.agg #[.int .u64 t68, .int .i64 t69], .agg #[.int .u64 t71, .int .i64 t72]] [.at (.int .i64)] sL2.2 fun (s : Int × Unit) (h74 : Hp) =>
cnd (!(decide (s.1 < 0))) (
Let (IntKind.wrap .i64 (sL2.1.1 - 1) : Int) fun (t75 : Int) =>
R2 ((t75, ()), h74)) (
J5 (sL2.1.1, ()) h74)) (
J5 (sL2.1.1, ()) sL2.2)
def J4_slices_partitionCmpFunc_api_Hit (a0_data : Sl) (a1_a : Int) (a4_cmp : Value) (J3 : Int × Unit → Hp → Prop) (sL1 : (Int × Int × Unit) × Hp) (R1 : (Int × Int × Unit) × Hp → Prop) (sJ4 : Int × Unit) (hJ4 : Hp) : Prop :=
Jn (J5_slices_partitionCmpFunc_api_Hit a0_data J3 R1 sJ4) fun (J5 : Int × Unit → Hp → Prop) =>
∃ n, Lp (L2_slices_partitionCmpFunc_api_Hit a0_data a1_a a4_cmp sJ4 J5) n ((sL1.1.2.1, ()), hJ4)
def L3_slices_partitionCmpFunc_api_Hit (a0_data : Sl) (a1_a : Int) (a4_cmp : Value) (sL1 : (Int × Int × Unit) × Hp) (J4 : Int × Unit → Hp → Prop) (sL3 : (Int × Unit) × Hp) (R3 : (Int × Unit) × Hp → Prop) : Prop :=
cnd (decide (sL3.1.1 ≤ sL1.1.2.1)) (
idxS a0_data.a a0_data.len sL3.1.1 2 fun (p76 : Addr) =>
ldA (.int .u64) sL3.2 p76 fun (t77 : Int) =>
ldA (.int .i64) sL3.2 (Addr.add p76 1) fun (t78 : Int) =>
idxS a0_data.a a0_data.len a1_a 2 fun (p79 : Addr) =>
ldA (.int .u64) sL3.2 p79 fun (t80 : Int) =>
ldA (.int .i64) sL3.2 (Addr.add p79 1) fun (t81 : Int) =>
callV Try.prog a4_cmp [.agg #[.int .u64 t77, .int .i64 t78], .agg #[.int .u64 t80, .int .i64 t81]] [.at (.int .i64)] sL3.2 fun (s : Int × Unit) (h83 : Hp) =>
cnd (decide (s.1 < 0)) (
Let (IntKind.wrap .i64 (sL3.1.1 + 1) : Int) fun (t84 : Int) =>
R3 ((t84, ()), h83)) (
J4 (sL3.1.1, ()) h83)) (
J4 (sL3.1.1, ()) sL3.2)
def L1_slices_partitionCmpFunc_api_Hit (a0_data : Sl) (a1_a : Int) (a4_cmp : Value) (J3 : Int × Unit → Hp → Prop) (sL1 : (Int × Int × Unit) × Hp) (R1 : (Int × Int × Unit) × Hp → Prop) : Prop :=
Jn (J4_slices_partitionCmpFunc_api_Hit a0_data a1_a a4_cmp J3 sL1 R1) fun (J4 : Int × Unit → Hp → Prop) =>
∃ n, Lp (L3_slices_partitionCmpFunc_api_Hit a0_data a1_a a4_cmp sL1 J4) n ((sL1.1.1, ()), sL1.2)
def J2_slices_partitionCmpFunc_api_Hit (a0_data : Sl) (a1_a : Int) (a4_cmp : Value) (K : Int → Bool → Hp → Prop) (sJ1 : Int × Unit) (sJ2 : Int × Unit) (hJ2 : Hp) : Prop :=
cnd (decide (sJ1.1 > sJ2.1)) (
idxS a0_data.a a0_data.len a1_a 2 fun (p15 : Addr) =>
ldA (.int .u64) hJ2 p15 fun (t16 : Int) =>
ldA (.int .i64) hJ2 (Addr.add p15 1) fun (t17 : Int) =>
idxS a0_data.a a0_data.len sJ2.1 2 fun (p18 : Addr) =>
ldA (.int .u64) hJ2 p18 fun (t19 : Int) =>
ldA (.int .i64) hJ2 (Addr.add p18 1) fun (t20 : Int) =>
idxS a0_data.a a0_data.len sJ2.1 2 fun (p21 : Addr) =>
stC hJ2 p21 (
Let (hset hJ2 p21 (.int .u64 t16)) fun (h22 : Hp) =>
stC h22 (Addr.add p21 1) (
Let (hset h22 (Addr.add p21 1) (.int .i64 t17)) fun (h23 : Hp) =>
idxS a0_data.a a0_data.len a1_a 2 fun (p24 : Addr) =>
stC h23 p24 (
Let (hset h23 p24 (.int .u64 t19)) fun (h25 : Hp) =>
stC h25 (Addr.add p24 1) (
Let (hset h25 (Addr.add p24 1) (.int .i64 t20)) fun (h26 : Hp) =>
K sJ2.1 true h26))))) (
idxS a0_data.a a0_data.len sJ2.1 2 fun (p27 : Addr) =>
ldA (.int .u64) hJ2 p27 fun (t28 : Int) =>
ldA (.int .i64) hJ2 (Addr.add p27 1) fun (t29 : Int) =>
idxS a0_data.a a0_data.len sJ1.1 2 fun (p30 : Addr) =>
ldA (.int .u64) hJ2 p30 fun (t31 : Int) =>
ldA (.int .i64) hJ2 (Addr.add p30 1) fun (t32 : Int) =>
idxS a0_data.a a0_data.len sJ1.1 2 fun (p33 : Addr) =>
stC hJ2 p33 (
Let (hset hJ2 p33 (.int .u64 t28)) fun (h34 : Hp) =>
stC h34 (Addr.add p33 1) (
Let (hset h34 (Addr.add p33 1) (.int .i64 t29)) fun (h35 : Hp) =>
idxS a0_data.a a0_data.len sJ2.1 2 fun (p36 : Addr) =>
stC h35 p36 (
Let (hset h35 p36 (.int .u64 t31)) fun (h37 : Hp) =>
stC h37 (Addr.add p36 1) (
Let (hset h37 (Addr.add p36 1) (.int .i64 t32)) fun (h38 : Hp) =>
Let (IntKind.wrap .i64 (sJ1.1 + 1) : Int) fun (t39 : Int) =>
Let (IntKind.wrap .i64 (sJ2.1 - 1) : Int) fun (t40 : Int) =>
Jn (J3_slices_partitionCmpFunc_api_Hit a0_data a1_a K) fun (J3 : Int × Unit → Hp → Prop) =>
∃ n, Lp (L1_slices_partitionCmpFunc_api_Hit a0_data a1_a a4_cmp J3) n ((t39, t40, ()), h38))))))
def L4_slices_partitionCmpFunc_api_Hit (a0_data : Sl) (a1_a : Int) (a4_cmp : Value) (sJ1 : Int × Unit) (J2 : Int × Unit → Hp → Prop) (sL4 : (Int × Unit) × Hp) (R4 : (Int × Unit) × Hp → Prop) : Prop :=
cnd (decide (sJ1.1 ≤ sL4.1.1)) (
idxS a0_data.a a0_data.len sL4.1.1 2 fun (p85 : Addr) =>
ldA (.int .u64) sL4.2 p85 fun (t86 : Int) =>
ldA (.int .i64) sL4.2 (Addr.add p85 1) fun (t87 : Int) =>
idxS a0_data.a a0_data.len a1_a 2 fun (p88 : Addr) =>
ldA (.int .u64) sL4.2 p88 fun (t89 : Int) =>
ldA (.int .i64) sL4.2 (Addr.add p88 1) fun (t90 : Int) =>
callV Try.prog a4_cmp [.agg #[.int .u64 t86, .int .i64 t87], .agg #[.int .u64 t89, .int .i64 t90]] [.at (.int .i64)] sL4.2 fun (s : Int × Unit) (h92 : Hp) =>
cnd (!(decide (s.1 < 0))) (
Let (IntKind.wrap .i64 (sL4.1.1 - 1) : Int) fun (t93 : Int) =>
R4 ((t93, ()), h92)) (
J2 (sL4.1.1, ()) h92)) (
J2 (sL4.1.1, ()) sL4.2)
def J1_slices_partitionCmpFunc_api_Hit (a0_data : Sl) (a1_a : Int) (a4_cmp : Value) (K : Int → Bool → Hp → Prop) (t14 : Int) (sJ1 : Int × Unit) (hJ1 : Hp) : Prop :=
Jn (J2_slices_partitionCmpFunc_api_Hit a0_data a1_a a4_cmp K sJ1) fun (J2 : Int × Unit → Hp → Prop) =>
∃ n, Lp (L4_slices_partitionCmpFunc_api_Hit a0_data a1_a a4_cmp sJ1 J2) n ((t14, ()), hJ1)
def L5_slices_partitionCmpFunc_api_Hit (a0_data : Sl) (a1_a : Int) (a4_cmp : Value) (t14 : Int) (J1 : Int × Unit → Hp → Prop) (sL5 : (Int × Unit) × Hp) (R5 : (Int × Unit) × Hp → Prop) : Prop :=
cnd (decide (sL5.1.1 ≤ t14)) (
idxS a0_data.a a0_data.len sL5.1.1 2 fun (p94 : Addr) =>
ldA (.int .u64) sL5.2 p94 fun (t95 : Int) =>
ldA (.int .i64) sL5.2 (Addr.add p94 1) fun (t96 : Int) =>
idxS a0_data.a a0_data.len a1_a 2 fun (p97 : Addr) =>
ldA (.int .u64) sL5.2 p97 fun (t98 : Int) =>
ldA (.int .i64) sL5.2 (Addr.add p97 1) fun (t99 : Int) =>
callV Try.prog a4_cmp [.agg #[.int .u64 t95, .int .i64 t96], .agg #[.int .u64 t98, .int .i64 t99]] [.at (.int .i64)] sL5.2 fun (s : Int × Unit) (h101 : Hp) =>
cnd (decide (s.1 < 0)) (
Let (IntKind.wrap .i64 (sL5.1.1 + 1) : Int) fun (t102 : Int) =>
R5 ((t102, ()), h101)) (
J1 (sL5.1.1, ()) h101)) (
J1 (sL5.1.1, ()) sL5.2)
def F_slices_partitionCmpFunc_api_Hit (a0_data : Sl) (a1_a : Int) (a2_b : Int) (a3_pivot : Int) (a4_cmp : Value) (h : Hp) (K : Int → Bool → Hp → Prop) : Prop :=
idxS a0_data.a a0_data.len a3_pivot 2 fun (p1 : Addr) =>
ldA (.int .u64) h p1 fun (t2 : Int) =>
ldA (.int .i64) h (Addr.add p1 1) fun (t3 : Int) =>
idxS a0_data.a a0_data.len a1_a 2 fun (p4 : Addr) =>
ldA (.int .u64) h p4 fun (t5 : Int) =>
ldA (.int .i64) h (Addr.add p4 1) fun (t6 : Int) =>
idxS a0_data.a a0_data.len a1_a 2 fun (p7 : Addr) =>
stC h p7 (
Let (hset h p7 (.int .u64 t2)) fun (h8 : Hp) =>
stC h8 (Addr.add p7 1) (
Let (hset h8 (Addr.add p7 1) (.int .i64 t3)) fun (h9 : Hp) =>
idxS a0_data.a a0_data.len a3_pivot 2 fun (p10 : Addr) =>
stC h9 p10 (
Let (hset h9 p10 (.int .u64 t5)) fun (h11 : Hp) =>
stC h11 (Addr.add p10 1) (
Let (hset h11 (Addr.add p10 1) (.int .i64 t6)) fun (h12 : Hp) =>
Let (IntKind.wrap .i64 (a1_a + 1) : Int) fun (t13 : Int) =>
Let (IntKind.wrap .i64 (a2_b - 1) : Int) fun (t14 : Int) =>
Jn (J1_slices_partitionCmpFunc_api_Hit a0_data a1_a a4_cmp K t14) fun (J1 : Int × Unit → Hp → Prop) =>
∃ n, Lp (L5_slices_partitionCmpFunc_api_Hit a0_data a1_a a4_cmp t14 J1) n ((t13, ()), h12)))))

theorem F_slices_partitionCmpFunc_api_Hit_ok (a0_data : Sl) (a1_a : Int) (a2_b : Int) (a3_pivot : Int) (a4_cmp : Value) (h : Hp) (K : Int → Bool → Hp → Prop) (hF : F_slices_partitionCmpFunc_api_Hit a0_data a1_a a2_b a3_pivot a4_cmp h K) : C_slices_partitionCmpFunc_api_Hit a0_data a1_a a2_b a3_pivot a4_cmp h K := by
  have e : bodyVC Try.prog Try.f74 (.seq .no (.seq .no (.seq .no (.join [(12, .at (.int .i64))] (.block (.loop [(12, .at (.int .i64))] (.seq (.seq .no (.cond .no .no)) (.block .no)))) (.join [(13, .at (.int .i64))] (.block (.loop [(13, .at (.int .i64))] (.seq (.seq .no (.cond .no .no)) (.block .no)))) (.seq (.seq .no (.cond (.seq .no (.seq .no .no)) .no)) (.seq .no (.seq .no (.seq .no (.join [(13, .at (.int .i64))] (.block (.loop [(12, .at (.int .i64)), (13, .at (.int .i64))] (.block (.join [(12, .at (.int .i64))] (.block (.loop [(12, .at (.int .i64))] (.seq (.seq .no (.cond .no .no)) (.block .no)))) (.join [(13, .at (.int .i64))] (.block (.loop [(13, .at (.int .i64))] (.seq (.seq .no (.cond .no .no)) (.block .no)))) (.seq (.seq .no (.cond .no .no)) (.seq .no (.seq .no .no)))))))) (.seq .no (.seq .no .no)))))))))))) (Option.getD Try.f74.body .skip) [.slice a0_data.a a0_data.len a0_data.cap, .int .i64 a1_a, .int .i64 a2_b, .int .i64 a3_pivot, a4_cmp] h [.at (.int .i64), .at .bool] (fun s h => K s.1 s.2.1 h) = F_slices_partitionCmpFunc_api_Hit a0_data a1_a a2_b a3_pivot a4_cmp h K := by kernel_rfl
  exact fun_sound mixed Try.func74 rfl (e.mpr hF)

def J2_math_bits_Len32 (K : Int → Hp → Prop) (sJ2 : Int × Int × Unit) (hJ2 : Hp) : Prop :=
Let (IntKind.wrap .u8 (sJ2.1) : Int) fun (t1 : Int) =>
idxStr (ByteArray.mk #[0, 1, 2, 2, 3, 3, 3, 3, 4, 4, 4, 4, 4, 4, 4, 4, 5, 5, 5, 5, 5, 5, 5, 5, 5, 5, 5, 5, 5, 5, 5, 5, 6, 6, 6, 6, 6, 6, 6, 6, 6, 6, 6, 6, 6, 6, 6, 6, 6, 6, 6, 6, 6, 6, 6, 6, 6, 6, 6, 6, 6, 6, 6, 6, 7, 7, 7, 7, 7, 7, 7, 7, 7, 7, 7, 7, 7, 7, 7, 7, 7, 7, 7, 7, 7, 7, 7, 7, 7, 7, 7, 7, 7, 7, 7, 7, 7, 7, 7, 7, 7, 7, 7, 7, 7, 7, 7, 7, 7, 7, 7, 7, 7, 7, 7, 7, 7, 7, 7, 7, 7, 7, 7, 7, 7, 7, 7, 7, 8, 8, 8, 8, 8, 8, 8, 8, 8, 8, 8, 8, 8, 8, 8, 8, 8, 8, 8, 8, 8, 8, 8, 8, 8, 8, 8, 8, 8, 8, 8, 8, 8, 8, 8, 8, 8, 8, 8, 8, 8, 8, 8, 8, 8, 8, 8, 8, 8, 8, 8, 8, 8, 8, 8, 8, 8, 8, 8, 8, 8, 8, 8, 8, 8, 8, 8, 8, 8, 8, 8, 8, 8, 8, 8, 8, 8, 8, 8, 8, 8, 8, 8, 8, 8, 8, 8, 8, 8, 8, 8, 8, 8, 8, 8, 8, 8, 8, 8, 8, 8, 8, 8, 8, 8, 8, 8, 8, 8, 8, 8, 8, 8, 8, 8, 8, 8, 8, 8, 8, 8, 8, 8, 8, 8, 8, 8, 8]) t1 fun (t2 : Int) =>
Let (IntKind.wrap .i64 (t2) : Int) fun (t3 : Int) =>
Let (IntKind.wrap .i64 (sJ2.2.1 + t3) : Int) fun (t4 : Int) =>
K t4 hJ2
def J1_math_bits_Len32 (K : Int → Hp → Prop) (sJ1 : Int × Int × Unit) (hJ1 : Hp) : Prop :=
Jn (J2_math_bits_Len32 K) fun (J2 : Int × Int × Unit → Hp → Prop) =>
cnd (decide (sJ1.1 ≥ 256)) (
Let (Int.fdiv sJ1.1 (2 ^ min (Int.toNat 8) (IntKind.bits .u32)) : Int) fun (t5 : Int) =>
Let (IntKind.wrap .i64 (sJ1.2.1 + 8) : Int) fun (t6 : Int) =>
J2 (t5, t6, ()) hJ1) (
J2 (sJ1.1, sJ1.2.1, ()) hJ1)
def F_math_bits_Len32 (a0_x : Int) (h : Hp) (K : Int → Hp → Prop) : Prop :=
Jn (J1_math_bits_Len32 K) fun (J1 : Int × Int × Unit → Hp → Prop) =>
cnd (decide (a0_x ≥ 65536)) (
Let (Int.fdiv a0_x (2 ^ min (Int.toNat 16) (IntKind.bits .u32)) : Int) fun (t7 : Int) =>
J1 (t7, 16, ()) h) (
J1 (a0_x, 0, ()) h)

theorem F_math_bits_Len32_ok (a0_x : Int) (h : Hp) (K : Int → Hp → Prop) (hF : F_math_bits_Len32 a0_x h K) : C_math_bits_Len32 a0_x h K := by
  have e : bodyVC Try.prog Try.f75 (.seq .no (.join [(0, .at (.int .u32)), (2, .at (.int .i64))] (.seq .no (.cond (.seq .no .no) .no)) (.join [(0, .at (.int .u32)), (2, .at (.int .i64))] (.seq .no (.cond (.seq .no .no) .no)) (.seq .no .no)))) (Option.getD Try.f75.body .skip) [.int .u32 a0_x] h [.at (.int .i64)] (fun s h => K s.1 h) = F_math_bits_Len32 a0_x h K := by kernel_rfl
  exact fun_sound mixed Try.func75 rfl (e.mpr hF)

def J3_math_bits_Len64 (K : Int → Hp → Prop) (sJ3 : Int × Int × Unit) (hJ3 : Hp) : Prop :=
Let (IntKind.wrap .u8 (sJ3.1) : Int) fun (t1 : Int) =>
idxStr (ByteArray.mk #[0, 1, 2, 2, 3, 3, 3, 3, 4, 4, 4, 4, 4, 4, 4, 4, 5, 5, 5, 5, 5, 5, 5, 5, 5, 5, 5, 5, 5, 5, 5, 5, 6, 6, 6, 6, 6, 6, 6, 6, 6, 6, 6, 6, 6, 6, 6, 6, 6, 6, 6, 6, 6, 6, 6, 6, 6, 6, 6, 6, 6, 6, 6, 6, 7, 7, 7, 7, 7, 7, 7, 7, 7, 7, 7, 7, 7, 7, 7, 7, 7, 7, 7, 7, 7, 7, 7, 7, 7, 7, 7, 7, 7, 7, 7, 7, 7, 7, 7, 7, 7, 7, 7, 7, 7, 7, 7, 7, 7, 7, 7, 7, 7, 7, 7, 7, 7, 7, 7, 7, 7, 7, 7, 7, 7, 7, 7, 7, 8, 8, 8, 8, 8, 8, 8, 8, 8, 8, 8, 8, 8, 8, 8, 8, 8, 8, 8, 8, 8, 8, 8, 8, 8, 8, 8, 8, 8, 8, 8, 8, 8, 8, 8, 8, 8, 8, 8, 8, 8, 8, 8, 8, 8, 8, 8, 8, 8, 8, 8, 8, 8, 8, 8, 8, 8, 8, 8, 8, 8, 8, 8, 8, 8, 8, 8, 8, 8, 8, 8, 8, 8, 8, 8, 8, 8, 8, 8, 8, 8, 8, 8, 8, 8, 8, 8, 8, 8, 8, 8, 8, 8, 8, 8, 8, 8, 8, 8, 8, 8, 8, 8, 8, 8, 8, 8, 8, 8, 8, 8, 8, 8, 8, 8, 8, 8, 8, 8, 8, 8, 8, 8, 8, 8, 8, 8, 8]) t1 fun (t2 : Int) =>
Let (IntKind.wrap .i64 (t2) : Int) fun (t3 : Int) =>
Let (IntKind.wrap .i64 (sJ3.2.1 + t3) : Int) fun (t4 : Int) =>
K t4 hJ3
def J2_math_bits_Len64 (K : Int → Hp → Prop) (sJ2 : Int × Int × Unit) (hJ2 : Hp) : Prop :=
Jn (J3_math_bits_Len64 K) fun (J3 : Int × Int × Unit → Hp → Prop) =>
cnd (decide (sJ2.1 ≥ 256)) (
((0 : Int) ≤ 8) ∧ (
Let (Int.fdiv sJ2.1 (2 ^ min (Int.toNat 8) (IntKind.bits .u64)) : Int) fun (t5 : Int) =>
Let (IntKind.wrap .i64 (sJ2.2.1 + 8) : Int) fun (t6 : Int) =>
J3 (t5, t6, ()) hJ2)) (
J3 (sJ2.1, sJ2.2.1, ()) hJ2)
def J1_math_bits_Len64 (K : Int → Hp → Prop) (sJ1 : Int × Int × Unit) (hJ1 : Hp) : Prop :=
Jn (J2_math_bits_Len64 K) fun (J2 : Int × Int × Unit → Hp → Prop) =>
cnd (decide (sJ1.1 ≥ 65536)) (
((0 : Int) ≤ 16) ∧ (
Let (Int.fdiv sJ1.1 (2 ^ min (Int.toNat 16) (IntKind.bits .u64)) : Int) fun (t7 : Int) =>
Let (IntKind.wrap .i64 (sJ1.2.1 + 16) : Int) fun (t8 : Int) =>
J2 (t7, t8, ()) hJ1)) (
J2 (sJ1.1, sJ1.2.1, ()) hJ1)
def F_math_bits_Len64 (a0_x : Int) (h : Hp) (K : Int → Hp → Prop) : Prop :=
Jn (J1_math_bits_Len64 K) fun (J1 : Int × Int × Unit → Hp → Prop) =>
cnd (decide (a0_x ≥ 4294967296)) (
((0 : Int) ≤ 32) ∧ (
Let (Int.fdiv a0_x (2 ^ min (Int.toNat 32) (IntKind.bits .u64)) : Int) fun (t9 : Int) =>
J1 (t9, 32, ()) h)) (
J1 (a0_x, 0, ()) h)

theorem F_math_bits_Len64_ok (a0_x : Int) (h : Hp) (K : Int → Hp → Prop) (hF : F_math_bits_Len64 a0_x h K) : C_math_bits_Len64 a0_x h K := by
  have e : bodyVC Try.prog Try.f76 (.seq .no (.join [(0, .at (.int .u64)), (2, .at (.int .i64))] (.seq .no (.cond (.seq .no .no) .no)) (.join [(0, .at (.int .u64)), (2, .at (.int .i64))] (.seq .no (.cond (.seq .no .no) .no)) (.join [(0, .at (.int .u64)), (2, .at (.int .i64))] (.seq .no (.cond (.seq .no .no) .no)) (.seq .no .no))))) (Option.getD Try.f76.body .skip) [.int .u64 a0_x] h [.at (.int .i64)] (fun s h => K s.1 h) = F_math_bits_Len64 a0_x h K := by kernel_rfl
  exact fun_sound mixed Try.func76 rfl (e.mpr hF)

def F_cmp_isNaN_int (a0_x : Int) (h : Hp) (K : Bool → Hp → Prop) : Prop :=
K (a0_x != a0_x) h

theorem F_cmp_isNaN_int_ok (a0_x : Int) (h : Hp) (K : Bool → Hp → Prop) (hF : F_cmp_isNaN_int a0_x h K) : C_cmp_isNaN_int a0_x h K := by
  have e : bodyVC Try.prog Try.f77 (.seq .no (.seq .no .no)) (Option.getD Try.f77.body .skip) [.int .i64 a0_x] h [.at .bool] (fun s h => K s.1 h) = F_cmp_isNaN_int a0_x h K := by kernel_rfl
  exact fun_sound mixed Try.func77 rfl (e.mpr hF)

def F_cmp_isNaN_uint64 (a0_x : Int) (h : Hp) (K : Bool → Hp → Prop) : Prop :=
K (a0_x != a0_x) h

theorem F_cmp_isNaN_uint64_ok (a0_x : Int) (h : Hp) (K : Bool → Hp → Prop) (hF : F_cmp_isNaN_uint64 a0_x h K) : C_cmp_isNaN_uint64 a0_x h K := by
  have e : bodyVC Try.prog Try.f78 (.seq .no (.seq .no .no)) (Option.getD Try.f78.body .skip) [.int .u64 a0_x] h [.at .bool] (fun s h => K s.1 h) = F_cmp_isNaN_uint64 a0_x h K := by kernel_rfl
  exact fun_sound mixed Try.func78 rfl (e.mpr hF)

def J1_heap_Heap_api_Hit_first (a0_h : Option Addr) (sL1 : (Int × Int × Unit) × Hp) (R1 : (Int × Int × Unit) × Hp → Prop) (sJ1 : Unit) (hJ1 : Hp) : Prop :=
someA a0_h fun (p3 : Addr) =>
ldA .raw hJ1 p3 fun (t4 : Value) =>
someA a0_h fun (p5 : Addr) =>
ldA .sl hJ1 (Addr.add p5 1) fun (t6 : Sl) =>
idxS t6.a t6.len sL1.1.2.1 2 fun (p7 : Addr) =>
ldA (.int .u64) hJ1 p7 fun (t8 : Int) =>
ldA (.int .i64) hJ1 (Addr.add p7 1) fun (t9 : Int) =>
someA a0_h fun (p10 : Addr) =>
ldA .sl hJ1 (Addr.add p10 1) fun (t11 : Sl) =>
idxS t11.a t11.len sL1.1.1 2 fun (p12 : Addr) =>
ldA (.int .u64) hJ1 p12 fun (t13 : Int) =>
ldA (.int .i64) hJ1 (Addr.add p12 1) fun (t14 : Int) =>
callV Try.prog t4 [.agg #[.int .u64 t8, .int .i64 t9], .agg #[.int .u64 t13, .int .i64 t14]] [.at (.int .i64)] hJ1 fun (s : Int × Unit) (h16 : Hp) =>
cnd (decide (s.1 < 0)) (
Let (IntKind.wrap .i64 (sL1.1.2.1 + 1) : Int) fun (t17 : Int) =>
R1 ((sL1.1.2.1, t17, ()), h16)) (
Let (IntKind.wrap .i64 (sL1.1.2.1 + 1) : Int) fun (t18 : Int) =>
R1 ((sL1.1.1, t18, ()), h16))
def L1_heap_Heap_api_Hit_first (a0_h : Option Addr) (a1_i : Int) (K : Int → Hp → Prop) (sL1 : (Int × Int × Unit) × Hp) (R1 : (Int × Int × Unit) × Hp → Prop) : Prop :=
Jn (J1_heap_Heap_api_Hit_first a0_h sL1 R1) fun (J1 : Unit → Hp → Prop) =>
Let (IntKind.wrap .i64 ((2 : Int) * a1_i) : Int) fun (t19 : Int) =>
Let (IntKind.wrap .i64 (t19 + 2) : Int) fun (t20 : Int) =>
cnd (decide (sL1.1.2.1 ≤ t20)) (
someA a0_h fun (p21 : Addr) =>
ldA .sl sL1.2 (Addr.add p21 1) fun (t22 : Sl) =>
cnd (decide (sL1.1.2.1 < (t22.len : Int))) (
J1 (()) sL1.2) (
K sL1.1.1 sL1.2)) (
K sL1.1.1 sL1.2)
def F_heap_Heap_api_Hit_first (a0_h : Option Addr) (a1_i : Int) (h : Hp) (K : Int → Hp → Prop) : Prop :=
Let (IntKind.wrap .i64 ((2 : Int) * a1_i) : Int) fun (t1 : Int) =>
Let (IntKind.wrap .i64 (t1 + 1) : Int) fun (t2 : Int) =>
∃ n, Lp (L1_heap_Heap_api_Hit_first a0_h a1_i K) n ((a1_i, t2, ()), h)

theorem F_heap_Heap_api_Hit_first_ok (a0_h : Option Addr) (a1_i : Int) (h : Hp) (K : Int → Hp → Prop) (hF : F_heap_Heap_api_Hit_first a0_h a1_i h K) : C_heap_Heap_api_Hit_first a0_h a1_i h K := by
  have e : bodyVC Try.prog Try.f79 (.seq .no (.seq .no (.seq (.seq .no (.block (.loop [(5, .at (.int .i64)), (6, .at (.int .i64))] (.join [] (.seq .no (.cond .no .no)) (.seq (.block (.seq .no (.cond .no .no))) .no))))) (.seq .no .no)))) (Option.getD Try.f79.body .skip) [.pointer a0_h, .int .i64 a1_i] h [.at (.int .i64)] (fun s h => K s.1 h) = F_heap_Heap_api_Hit_first a0_h a1_i h K := by kernel_rfl
  exact fun_sound mixed Try.func79 rfl (e.mpr hF)

def L1_lone_places_1 (a0_yield : Value) (a1_t : Option Addr) (a2_t : Option Addr) (K : Hp → Prop) (t5 : Int) (sL1 : (Int × Unit) × Hp) (R1 : (Int × Unit) × Hp → Prop) : Prop :=
cnd (decide (sL1.1.1 < t5)) (
someA a1_t fun (p6 : Addr) =>
ldA .sl sL1.2 p6 fun (t7 : Sl) =>
C_lone_at t7 sL1.1.1 sL1.2 fun (t8 : Int) (h9 : Hp) =>
Ext sL1.2 h9 ∧ (
someA a2_t fun (p10 : Addr) =>
ldA .sl sL1.2 p10 fun (t11 : Sl) =>
C_lone_at t11 sL1.1.1 h9 fun (t12 : Int) (h13 : Hp) =>
C_lone_apart t8 t12 h13 fun (t14 : Int) (h15 : Hp) =>
callV Try.prog a0_yield [.int .i64 t14] [.at .bool] h15 fun (s : Bool × Unit) (h17 : Hp) =>
cnd (!s.1) (
K h17) (
Let (IntKind.wrap .i64 (sL1.1.1 + 1) : Int) fun (t18 : Int) =>
R1 ((t18, ()), h17)))) (
K sL1.2)
def F_lone_places_1 (a0_yield : Value) (a1_t : Option Addr) (a2_t : Option Addr) (h : Hp) (K : Hp → Prop) : Prop :=
someA a1_t fun (p1 : Addr) =>
ldA .sl h p1 fun (t2 : Sl) =>
someA a2_t fun (p3 : Addr) =>
ldA .sl h p3 fun (t4 : Sl) =>
Let (if (t4.len : Int) > (t2.len : Int) then (t4.len : Int) else (t2.len : Int) : Int) fun (t5 : Int) =>
∃ n, Lp (L1_lone_places_1 a0_yield a1_t a2_t K t5) n ((0, ()), h)

theorem F_lone_places_1_ok (a0_yield : Value) (a1_t : Option Addr) (a2_t : Option Addr) (h : Hp) (K : Hp → Prop) (hF : F_lone_places_1 a0_yield a1_t a2_t h K) : C_lone_places_1 a0_yield a1_t a2_t h K := by
  have e : bodyVC Try.prog Try.f80 (.seq .no (.block (.loop [(10, .at (.int .i64))] (.seq .no (.seq (.cond .no .no) (.seq (.block (.seq .no (.seq .no (.cond .no .no)))) .no)))))) (Option.getD Try.f80.body .skip) [a0_yield, .pointer a1_t, .pointer a2_t] h [] (fun s h => K h) = F_lone_places_1 a0_yield a1_t a2_t h K := by kernel_rfl
  exact fun_sound mixed Try.func80 rfl (e.mpr hF)

def F_lone_apart (a0_x : Int) (a1_y : Int) (h : Hp) (K : Int → Hp → Prop) : Prop :=
Let (IntKind.wrap .i64 (a0_x) : Int) fun (t1 : Int) =>
Let (IntKind.wrap .i64 (a1_y) : Int) fun (t2 : Int) =>
Let (IntKind.wrap .i64 (t1 - t2) : Int) fun (t3 : Int) =>
Let (IntKind.wrap .i64 (0 - t3) : Int) fun (t4 : Int) =>
Let (if t4 > t3 then t4 else t3 : Int) fun (t5 : Int) =>
K t5 h

theorem F_lone_apart_ok (a0_x : Int) (a1_y : Int) (h : Hp) (K : Int → Hp → Prop) (hF : F_lone_apart a0_x a1_y h K) : C_lone_apart a0_x a1_y h K := by
  have e : bodyVC Try.prog Try.f81 (.seq .no (.seq .no (.seq .no .no))) (Option.getD Try.f81.body .skip) [.int .i32 a0_x, .int .i32 a1_y] h [.at (.int .i64)] (fun s h => K s.1 h) = F_lone_apart a0_x a1_y h K := by kernel_rfl
  exact fun_sound mixed Try.func81 rfl (e.mpr hF)

def F_lone_at (a0_a : Sl) (a1_i : Int) (h : Hp) (K : Int → Hp → Prop) : Prop :=
cnd (decide (a1_i < (a0_a.len : Int))) (
idxS a0_a.a a0_a.len a1_i 1 fun (p1 : Addr) =>
ldA (.int .i32) h p1 fun (t2 : Int) =>
K t2 h) (
K 0 h)

theorem F_lone_at_ok (a0_a : Sl) (a1_i : Int) (h : Hp) (K : Int → Hp → Prop) (hF : F_lone_at a0_a a1_i h K) : C_lone_at a0_a a1_i h K := by
  have e : bodyVC Try.prog Try.f82 (.seq .no (.seq (.seq .no (.cond (.seq .no .no) .no)) (.seq .no .no))) (Option.getD Try.f82.body .skip) [.slice a0_a.a a0_a.len a0_a.cap, .int .i64 a1_i] h [.at (.int .i32)] (fun s h => K s.1 h) = F_lone_at a0_a a1_i h K := by kernel_rfl
  exact fun_sound mixed Try.func82 rfl (e.mpr hF)

def J1_slices_siftDownCmpFunc_api_Hit (a0_data : Sl) (a3_first : Int) (a4_cmp : Value) (K : Hp → Prop) (sL1 : (Int × Unit) × Hp) (R1 : (Int × Unit) × Hp → Prop) (sJ1 : Int × Unit) (hJ1 : Hp) : Prop :=
Let (IntKind.wrap .i64 (a3_first + sL1.1.1) : Int) fun (t3 : Int) =>
idxS a0_data.a a0_data.len t3 2 fun (p4 : Addr) =>
ldA (.int .u64) hJ1 p4 fun (t5 : Int) =>
ldA (.int .i64) hJ1 (Addr.add p4 1) fun (t6 : Int) =>
Let (IntKind.wrap .i64 (a3_first + sJ1.1) : Int) fun (t7 : Int) =>
idxS a0_data.a a0_data.len t7 2 fun (p8 : Addr) =>
ldA (.int .u64) hJ1 p8 fun (t9 : Int) =>
ldA (.int .i64) hJ1 (Addr.add p8 1) fun (t10 : Int) =>
callV Try.prog a4_cmp [.agg #[.int .u64 t5, .int .i64 t6], .agg #[.int .u64 t9, .int .i64 t10]] [.at (.int .i64)] hJ1 fun (s : Int × Unit) (h12 : Hp) =>
cnd (!(decide (s.1 < 0))) (
K h12) (
Let (IntKind.wrap .i64 (a3_first + sL1.1.1) : Int) fun (t13 : Int) =>
Let (IntKind.wrap .i64 (a3_first + sJ1.1) : Int) fun (t14 : Int) =>
Let (IntKind.wrap .i64 (a3_first + sJ1.1) : Int) fun (t15 : Int) =>
idxS a0_data.a a0_data.len t15 2 fun (p16 : Addr) =>
ldA (.int .u64) h12 p16 fun (t17 : Int) =>
ldA (.int .i64) h12 (Addr.add p16 1) fun (t18 : Int) =>
Let (IntKind.wrap .i64 (a3_first + sL1.1.1) : Int) fun (t19 : Int) =>
idxS a0_data.a a0_data.len t19 2 fun (p20 : Addr) =>
ldA (.int .u64) h12 p20 fun (t21 : Int) =>
ldA (.int .i64) h12 (Addr.add p20 1) fun (t22 : Int) =>
idxS a0_data.a a0_data.len t13 2 fun (p23 : Addr) =>
stC h12 p23 (
Let (hset h12 p23 (.int .u64 t17)) fun (h24 : Hp) =>
stC h24 (Addr.add p23 1) (
Let (hset h24 (Addr.add p23 1) (.int .i64 t18)) fun (h25 : Hp) =>
idxS a0_data.a a0_data.len t14 2 fun (p26 : Addr) =>
stC h25 p26 (
Let (hset h25 p26 (.int .u64 t21)) fun (h27 : Hp) =>
stC h27 (Addr.add p26 1) (
Let (hset h27 (Addr.add p26 1) (.int .i64 t22)) fun (h28 : Hp) =>
R1 ((sJ1.1, ()), h28))))))
def J2_slices_siftDownCmpFunc_api_Hit (t2 : Int) (J1 : Int × Unit → Hp → Prop) (sJ2 : Bool × Unit) (hJ2 : Hp) : Prop :=
cnd sJ2.1 (
Let (IntKind.wrap .i64 (t2 + 1) : Int) fun (t29 : Int) =>
J1 (t29, ()) hJ2) (
J1 (t2, ()) hJ2)
def L1_slices_siftDownCmpFunc_api_Hit (a0_data : Sl) (a2_hi : Int) (a3_first : Int) (a4_cmp : Value) (K : Hp → Prop) (sL1 : (Int × Unit) × Hp) (R1 : (Int × Unit) × Hp → Prop) : Prop :=
Let (IntKind.wrap .i64 ((2 : Int) * sL1.1.1) : Int) fun (t1 : Int) =>
Let (IntKind.wrap .i64 (t1 + 1) : Int) fun (t2 : Int) =>
cnd (decide (t2 ≥ a2_hi)) (
K sL1.2) (
Jn (J1_slices_siftDownCmpFunc_api_Hit a0_data a3_first a4_cmp K sL1 R1) fun (J1 : Int × Unit → Hp → Prop) =>
Jn (J2_slices_siftDownCmpFunc_api_Hit t2 J1) fun (J2 : Bool × Unit → Hp → Prop) =>
Let (IntKind.wrap .i64 (t2 + 1) : Int) fun (t30 : Int) =>
cnd (decide (t30 < a2_hi)) (
Let (IntKind.wrap .i64 (a3_first + t2) : Int) fun (t31 : Int) =>
idxS a0_data.a a0_data.len t31 2 fun (p32 : Addr) =>
ldA (.int .u64) sL1.2 p32 fun (t33 : Int) =>
ldA (.int .i64) sL1.2 (Addr.add p32 1) fun (t34 : Int) =>
Let (IntKind.wrap .i64 (a3_first + t2) : Int) fun (t35 : Int) =>
Let (IntKind.wrap .i64 (t35 + 1) : Int) fun (t36 : Int) =>
idxS a0_data.a a0_data.len t36 2 fun (p37 : Addr) =>
ldA (.int .u64) sL1.2 p37 fun (t38 : Int) =>
ldA (.int .i64) sL1.2 (Addr.add p37 1) fun (t39 : Int) =>
callV Try.prog a4_cmp [.agg #[.int .u64 t33, .int .i64 t34], .agg #[.int .u64 t38, .int .i64 t39]] [.at (.int .i64)] sL1.2 fun (s : Int × Unit) (h41 : Hp) =>
J2 (decide (s.1 < 0), ()) h41) (
J2 (false, ()) sL1.2))
def F_slices_siftDownCmpFunc_api_Hit (a0_data : Sl) (a1_lo : Int) (a2_hi : Int) (a3_first : Int) (a4_cmp : Value) (h : Hp) (K : Hp → Prop) : Prop :=
∃ n, Lp (L1_slices_siftDownCmpFunc_api_Hit a0_data a2_hi a3_first a4_cmp K) n ((a1_lo, ()), h)

theorem F_slices_siftDownCmpFunc_api_Hit_ok (a0_data : Sl) (a1_lo : Int) (a2_hi : Int) (a3_first : Int) (a4_cmp : Value) (h : Hp) (K : Hp → Prop) (hF : F_slices_siftDownCmpFunc_api_Hit a0_data a1_lo a2_hi a3_first a4_cmp h K) : C_slices_siftDownCmpFunc_api_Hit a0_data a1_lo a2_hi a3_first a4_cmp h K := by
  have e : bodyVC Try.prog Try.f83 (.seq .no (.block (.loop [(10, .at (.int .i64))] (.block (.seq .no (.seq (.seq .no (.cond .no .no)) (.join [(11, .at (.int .i64))] (.join [(40, .at .bool)] .no (.cond .no .no)) (.seq (.seq .no (.cond .no .no)) (.seq .no .no))))))))) (Option.getD Try.f83.body .skip) [.slice a0_data.a a0_data.len a0_data.cap, .int .i64 a1_lo, .int .i64 a2_hi, .int .i64 a3_first, a4_cmp] h [] (fun s h => K h) = F_slices_siftDownCmpFunc_api_Hit a0_data a1_lo a2_hi a3_first a4_cmp h K := by kernel_rfl
  exact fun_sound mixed Try.func83 rfl (e.mpr hF)

def F_slices_nextPowerOfTwo (a0_length : Int) (h : Hp) (K : Int → Hp → Prop) : Prop :=
Let (IntKind.wrap .u64 (a0_length) : Int) fun (t1 : Int) =>
C_math_bits_Len t1 h fun (t2 : Int) (h3 : Hp) =>
((0 : Int) ≤ t2) ∧ (
Let (IntKind.wrap .u64 (1 * 2 ^ min (Int.toNat t2) (IntKind.bits .u64)) : Int) fun (t4 : Int) =>
K t4 h3)

theorem F_slices_nextPowerOfTwo_ok (a0_length : Int) (h : Hp) (K : Int → Hp → Prop) (hF : F_slices_nextPowerOfTwo a0_length h K) : C_slices_nextPowerOfTwo a0_length h K := by
  have e : bodyVC Try.prog Try.f84 (.seq .no (.seq .no .no)) (Option.getD Try.f84.body .skip) [.int .i64 a0_length] h [.at (.int .u64)] (fun s h => K s.1 h) = F_slices_nextPowerOfTwo a0_length h K := by kernel_rfl
  exact fun_sound mixed Try.func84 rfl (e.mpr hF)

def F_slices_xorshift_Next (a0_r : Option Addr) (h : Hp) (K : Int → Hp → Prop) : Prop :=
someA a0_r fun (p1 : Addr) =>
ldA (.int .u64) h p1 fun (t2 : Int) =>
someA a0_r fun (p3 : Addr) =>
ldA (.int .u64) h p3 fun (t4 : Int) =>
((0 : Int) ≤ 13) ∧ (
Let (IntKind.wrap .u64 (t4 * 2 ^ min (Int.toNat 13) (IntKind.bits .u64)) : Int) fun (t5 : Int) =>
Let (ibXor .u64 t2 t5 : Int) fun (t6 : Int) =>
someA a0_r fun (p7 : Addr) =>
((1 : Nat) = 1) ∧ (
stC h p7 (
Let (hset h p7 (.int .u64 t6)) fun (h8 : Hp) =>
someA a0_r fun (p9 : Addr) =>
ldA (.int .u64) h8 p9 fun (t10 : Int) =>
someA a0_r fun (p11 : Addr) =>
ldA (.int .u64) h8 p11 fun (t12 : Int) =>
((0 : Int) ≤ 7) ∧ (
Let (Int.fdiv t12 (2 ^ min (Int.toNat 7) (IntKind.bits .u64)) : Int) fun (t13 : Int) =>
Let (ibXor .u64 t10 t13 : Int) fun (t14 : Int) =>
someA a0_r fun (p15 : Addr) =>
((1 : Nat) = 1) ∧ (
stC h8 p15 (
Let (hset h8 p15 (.int .u64 t14)) fun (h16 : Hp) =>
someA a0_r fun (p17 : Addr) =>
ldA (.int .u64) h16 p17 fun (t18 : Int) =>
someA a0_r fun (p19 : Addr) =>
ldA (.int .u64) h16 p19 fun (t20 : Int) =>
((0 : Int) ≤ 17) ∧ (
Let (IntKind.wrap .u64 (t20 * 2 ^ min (Int.toNat 17) (IntKind.bits .u64)) : Int) fun (t21 : Int) =>
Let (ibXor .u64 t18 t21 : Int) fun (t22 : Int) =>
someA a0_r fun (p23 : Addr) =>
((1 : Nat) = 1) ∧ (
stC h16 p23 (
Let (hset h16 p23 (.int .u64 t22)) fun (h24 : Hp) =>
someA a0_r fun (p25 : Addr) =>
ldA (.int .u64) h24 p25 fun (t26 : Int) =>
K t26 h24)))))))))

theorem F_slices_xorshift_Next_ok (a0_r : Option Addr) (h : Hp) (K : Int → Hp → Prop) (hF : F_slices_xorshift_Next a0_r h K) : C_slices_xorshift_Next a0_r h K := by
  have e : bodyVC Try.prog Try.f85 (.seq .no (.seq .no (.seq .no (.seq .no (.seq .no .no))))) (Option.getD Try.f85.body .skip) [.pointer a0_r] h [.at (.int .u64)] (fun s h => K s.1 h) = F_slices_xorshift_Next a0_r h K := by kernel_rfl
  exact fun_sound mixed Try.func85 rfl (e.mpr hF)

def F_slices_medianAdjacentCmpFunc_api_Hit (a0_data : Sl) (a1_a : Int) (a2_swaps : Option Addr) (a3_cmp : Value) (h : Hp) (K : Int → Hp → Prop) : Prop :=
Let (IntKind.wrap .i64 (a1_a - 1) : Int) fun (t1 : Int) =>
Let (IntKind.wrap .i64 (a1_a + 1) : Int) fun (t2 : Int) =>
C_slices_medianCmpFunc_api_Hit a0_data t1 a1_a t2 a2_swaps a3_cmp h fun (t3 : Int) (h4 : Hp) =>
K t3 h4

theorem F_slices_medianAdjacentCmpFunc_api_Hit_ok (a0_data : Sl) (a1_a : Int) (a2_swaps : Option Addr) (a3_cmp : Value) (h : Hp) (K : Int → Hp → Prop) (hF : F_slices_medianAdjacentCmpFunc_api_Hit a0_data a1_a a2_swaps a3_cmp h K) : C_slices_medianAdjacentCmpFunc_api_Hit a0_data a1_a a2_swaps a3_cmp h K := by
  have e : bodyVC Try.prog Try.f86 (.seq .no (.seq .no .no)) (Option.getD Try.f86.body .skip) [.slice a0_data.a a0_data.len a0_data.cap, .int .i64 a1_a, .pointer a2_swaps, a3_cmp] h [.at (.int .i64)] (fun s h => K s.1 h) = F_slices_medianAdjacentCmpFunc_api_Hit a0_data a1_a a2_swaps a3_cmp h K := by kernel_rfl
  exact fun_sound mixed Try.func86 rfl (e.mpr hF)

def F_slices_medianCmpFunc_api_Hit (a0_data : Sl) (a1_a : Int) (a2_b : Int) (a3_c : Int) (a4_swaps : Option Addr) (a5_cmp : Value) (h : Hp) (K : Int → Hp → Prop) : Prop :=
C_slices_order2CmpFunc_api_Hit a0_data a1_a a2_b a4_swaps a5_cmp h fun (t1 : Int) (t2 : Int) (h3 : Hp) =>
C_slices_order2CmpFunc_api_Hit a0_data t2 a3_c a4_swaps a5_cmp h3 fun (t4 : Int) (t5 : Int) (h6 : Hp) =>
C_slices_order2CmpFunc_api_Hit a0_data t1 t4 a4_swaps a5_cmp h6 fun (t7 : Int) (t8 : Int) (h9 : Hp) =>
K t8 h9

theorem F_slices_medianCmpFunc_api_Hit_ok (a0_data : Sl) (a1_a : Int) (a2_b : Int) (a3_c : Int) (a4_swaps : Option Addr) (a5_cmp : Value) (h : Hp) (K : Int → Hp → Prop) (hF : F_slices_medianCmpFunc_api_Hit a0_data a1_a a2_b a3_c a4_swaps a5_cmp h K) : C_slices_medianCmpFunc_api_Hit a0_data a1_a a2_b a3_c a4_swaps a5_cmp h K := by
  have e : bodyVC Try.prog Try.f87 (.seq .no (.seq .no (.seq .no (.seq .no (.seq .no .no))))) (Option.getD Try.f87.body .skip) [.slice a0_data.a a0_data.len a0_data.cap, .int .i64 a1_a, .int .i64 a2_b, .int .i64 a3_c, .pointer a4_swaps, a5_cmp] h [.at (.int .i64)] (fun s h => K s.1 h) = F_slices_medianCmpFunc_api_Hit a0_data a1_a a2_b a3_c a4_swaps a5_cmp h K := by kernel_rfl
  exact fun_sound mixed Try.func87 rfl (e.mpr hF)

def F_slices_order2CmpFunc_api_Hit (a0_data : Sl) (a1_a : Int) (a2_b : Int) (a3_swaps : Option Addr) (a4_cmp : Value) (h : Hp) (K : Int → Int → Hp → Prop) : Prop :=
idxS a0_data.a a0_data.len a2_b 2 fun (p1 : Addr) =>
ldA (.int .u64) h p1 fun (t2 : Int) =>
ldA (.int .i64) h (Addr.add p1 1) fun (t3 : Int) =>
idxS a0_data.a a0_data.len a1_a 2 fun (p4 : Addr) =>
ldA (.int .u64) h p4 fun (t5 : Int) =>
ldA (.int .i64) h (Addr.add p4 1) fun (t6 : Int) =>
callV Try.prog a4_cmp [.agg #[.int .u64 t2, .int .i64 t3], .agg #[.int .u64 t5, .int .i64 t6]] [.at (.int .i64)] h fun (s : Int × Unit) (h8 : Hp) =>
cnd (decide (s.1 < 0)) (
someA a3_swaps fun (p9 : Addr) =>
ldA (.int .i64) h8 p9 fun (t10 : Int) =>
Let (IntKind.wrap .i64 (t10 + 1) : Int) fun (t11 : Int) =>
someA a3_swaps fun (p12 : Addr) =>
((1 : Nat) = 1) ∧ (
stC h8 p12 (
Let (hset h8 p12 (.int .i64 t11)) fun (h13 : Hp) =>
K a2_b a1_a h13))) (
K a1_a a2_b h8)

theorem F_slices_order2CmpFunc_api_Hit_ok (a0_data : Sl) (a1_a : Int) (a2_b : Int) (a3_swaps : Option Addr) (a4_cmp : Value) (h : Hp) (K : Int → Int → Hp → Prop) (hF : F_slices_order2CmpFunc_api_Hit a0_data a1_a a2_b a3_swaps a4_cmp h K) : C_slices_order2CmpFunc_api_Hit a0_data a1_a a2_b a3_swaps a4_cmp h K := by
  have e : bodyVC Try.prog Try.f88 (.seq .no (.seq (.seq .no (.cond (.seq .no (.seq .no .no)) .no)) (.seq .no .no))) (Option.getD Try.f88.body .skip) [.slice a0_data.a a0_data.len a0_data.cap, .int .i64 a1_a, .int .i64 a2_b, .pointer a3_swaps, a4_cmp] h [.at (.int .i64), .at (.int .i64)] (fun s h => K s.1 s.2.1 h) = F_slices_order2CmpFunc_api_Hit a0_data a1_a a2_b a3_swaps a4_cmp h K := by kernel_rfl
  exact fun_sound mixed Try.func88 rfl (e.mpr hF)

end Go.Proofs.YtlbpmophbmbfiaaF
