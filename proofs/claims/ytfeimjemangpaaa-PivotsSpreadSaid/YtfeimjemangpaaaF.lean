/- The formulas of the seat's functions and the proofs that they are enough, printed by gen.py of this session. No condition. -/
import Derived.Test.YtfeimjemangpaaaProg
import Derived.Test.YtfeimjemangpaaaK7
namespace Go.Proofs.YtfeimjemangpaaaF
open Go Go.Proofs.YtfeimjemangpaaaK Go.Proofs
set_option linter.unusedVariables false
set_option maxRecDepth 100000
theorem mixed : Try.prog.follows .mixedOrders = true := by kernel_rfl
def C_gosem_cut_init  (h : Hp) (K : Hp → Prop) : Prop :=
  CallT Try.prog 2 [] [] h fun s h => K h
def C_law19_PivotsApart (a0_x : Int) (a1_x : Int) (a2_x : Int) (a3_x : Sl) (h : Hp) (K : Bool → Hp → Prop) : Prop :=
  CallT Try.prog 3 [.agg #[.int .i64 a0_x, .int .i64 a1_x, .int .i64 a2_x, .slice a3_x.a a3_x.len a3_x.cap]] [.at .bool] h fun s h => K s.1 h
def C_law19_PivotsChoose (a0_x : Int) (a1_x : Int) (a2_x : Int) (a3_x : Sl) (h : Hp) (K : Bool → Hp → Prop) : Prop :=
  CallT Try.prog 4 [.agg #[.int .i64 a0_x, .int .i64 a1_x, .int .i64 a2_x, .slice a3_x.a a3_x.len a3_x.cap]] [.at .bool] h fun s h => K s.1 h
def C_law19_PivotsSpread (a0_x : Int) (a1_x : Int) (a2_x : Int) (a3_x : Sl) (a4_chosen : Sl) (h : Hp) (K : Bool → Hp → Prop) : Prop :=
  CallT Try.prog 5 [.agg #[.int .i64 a0_x, .int .i64 a1_x, .int .i64 a2_x, .slice a3_x.a a3_x.len a3_x.cap], .slice a4_chosen.a a4_chosen.len a4_chosen.cap] [.at .bool] h fun s h => K s.1 h
def C_ref09_Short (a0_l : Sl) (a1_most : Int) (h : Hp) (K : Bool → Hp → Prop) : Prop :=
  CallT Try.prog 6 [.slice a0_l.a a0_l.len a0_l.cap, .int .i64 a1_most] [.at .bool] h fun s h => K s.1 h
def C_law19_lives  (h : Hp) (K : Bool → Hp → Prop) : Prop :=
  CallT Try.prog 7 [] [.at .bool] h fun s h => K s.1 h
def C_pivots_Choose (a0_m : Option Addr) (a1_l : Sl) (a2_p : Int) (a3_first : Int) (h : Hp) (K : Sl → Hp → Prop) : Prop :=
  CallT Try.prog 8 [.pointer a0_m, .slice a1_l.a a1_l.len a1_l.cap, .int .i64 a2_p, .int .i64 a3_first] [.at .sl] h fun s h => K s.1 h
def C_metric_New (a0_metric : Int) (h : Hp) (K : Option Addr → Hp → Prop) : Prop :=
  CallT Try.prog 9 [.int .i64 a0_metric] [.at .ptr] h fun s h => K s.1 h
def C_ref19_Near (a0_metric : Int) (a1_l : Sl) (a2_chosen : Sl) (a3_x : Int) (a4_x : Sl) (a5_x : ByteArray) (h : Hp) (K : Int → Hp → Prop) : Prop :=
  CallT Try.prog 10 [.int .i64 a0_metric, .slice a1_l.a a1_l.len a1_l.cap, .slice a2_chosen.a a2_chosen.len a2_chosen.cap, .agg #[.int .i64 a3_x, .slice a4_x.a a4_x.len a4_x.cap, .string a5_x]] [.at (.int .i64)] h fun s h => K s.1 h
def C_ref09_Dist (a0_metric : Int) (a1_x : Int) (a2_x : Sl) (a3_x : ByteArray) (a4_y : Int) (a5_y : Sl) (a6_y : ByteArray) (h : Hp) (K : Int → Hp → Prop) : Prop :=
  CallT Try.prog 11 [.int .i64 a0_metric, .agg #[.int .i64 a1_x, .slice a2_x.a a2_x.len a2_x.cap, .string a3_x], .agg #[.int .i64 a4_y, .slice a5_y.a a5_y.len a5_y.cap, .string a6_y]] [.at (.int .i64)] h fun s h => K s.1 h
def C_ref07_Ints (a0_a : Sl) (a1_b : Sl) (h : Hp) (K : Bool → Hp → Prop) : Prop :=
  CallT Try.prog 12 [.slice a0_a.a a0_a.len a0_a.cap, .slice a1_b.a a1_b.len a1_b.cap] [.at .bool] h fun s h => K s.1 h
def C_ref19_Choose (a0_metric : Int) (a1_l : Sl) (a2_p : Int) (a3_first : Int) (h : Hp) (K : Sl → Hp → Prop) : Prop :=
  CallT Try.prog 13 [.int .i64 a0_metric, .slice a1_l.a a1_l.len a1_l.cap, .int .i64 a2_p, .int .i64 a3_first] [.at .sl] h fun s h => K s.1 h
def C_metric_Meter_Calls (a0_m : Option Addr) (h : Hp) (K : Int → Hp → Prop) : Prop :=
  CallT Try.prog 14 [.pointer a0_m] [.at (.int .i64)] h fun s h => K s.1 h
def C_pivots_Spread (a0_m : Option Addr) (a1_l : Sl) (a2_chosen : Sl) (h : Hp) (K : Int → Hp → Prop) : Prop :=
  CallT Try.prog 15 [.pointer a0_m, .slice a1_l.a a1_l.len a1_l.cap, .slice a2_chosen.a a2_chosen.len a2_chosen.cap] [.at (.int .i64)] h fun s h => K s.1 h
def C_law19_lives_1 (a0_n : Int) (h : Hp) (K : Int → Sl → ByteArray → Hp → Prop) : Prop :=
  CallT Try.prog 16 [.int .i32 a0_n] [.agg [(.int .i64), .sl, .str]] h fun s h => K s.1.1 s.1.2.1 s.1.2.2.1 h
def C_pivots_start (a0_n : Int) (h : Hp) (K : Sl → Hp → Prop) : Prop :=
  CallT Try.prog 17 [.int .i64 a0_n] [.at .sl] h fun s h => K s.1 h
def C_pivots_closer (a0_m : Option Addr) (a1_l : Sl) (a2_least : Sl) (a3_x : Int) (a4_x : Sl) (a5_x : ByteArray) (h : Hp) (K : Hp → Prop) : Prop :=
  CallT Try.prog 18 [.pointer a0_m, .slice a1_l.a a1_l.len a1_l.cap, .slice a2_least.a a2_least.len a2_least.cap, .agg #[.int .i64 a3_x, .slice a4_x.a a4_x.len a4_x.cap, .string a5_x]] [] h fun s h => K h
def C_pivots_farthest (a0_least : Sl) (h : Hp) (K : Int → Hp → Prop) : Prop :=
  CallT Try.prog 19 [.slice a0_least.a a0_least.len a0_least.cap] [.at (.int .i64)] h fun s h => K s.1 h
def C_ref06_Dist (a0_a : Sl) (a1_b : Sl) (h : Hp) (K : Int → Hp → Prop) : Prop :=
  CallT Try.prog 20 [.slice a0_a.a a0_a.len a0_a.cap, .slice a1_b.a a1_b.len a1_b.cap] [.at (.int .i64)] h fun s h => K s.1 h
def C_ref07_Dist (a0_a : ByteArray) (a1_b : ByteArray) (h : Hp) (K : Int → Hp → Prop) : Prop :=
  CallT Try.prog 21 [.string a0_a, .string a1_b] [.at (.int .i64)] h fun s h => K s.1 h
def C_ref08_Dist (a0_a : ByteArray) (a1_b : ByteArray) (h : Hp) (K : Int → Hp → Prop) : Prop :=
  CallT Try.prog 22 [.string a0_a, .string a1_b] [.at (.int .i64)] h fun s h => K s.1 h
def C_metric_Meter_Dist (a0_m : Option Addr) (a1_x : Int) (a2_x : Sl) (a3_x : ByteArray) (a4_y : Int) (a5_y : Sl) (a6_y : ByteArray) (h : Hp) (K : Int → Hp → Prop) : Prop :=
  CallT Try.prog 23 [.pointer a0_m, .agg #[.int .i64 a1_x, .slice a2_x.a a2_x.len a2_x.cap, .string a3_x], .agg #[.int .i64 a4_y, .slice a5_y.a a5_y.len a5_y.cap, .string a6_y]] [.at (.int .i64)] h fun s h => K s.1 h
def C_ref06_pad (a0_a : Sl) (a1_n : Int) (h : Hp) (K : Sl → Hp → Prop) : Prop :=
  CallT Try.prog 24 [.slice a0_a.a a0_a.len a0_a.cap, .int .i64 a1_n] [.at .sl] h fun s h => K s.1 h
def C_metric_Dist (a0_metric : Int) (a1_x : Int) (a2_x : Sl) (a3_x : ByteArray) (a4_y : Int) (a5_y : Sl) (a6_y : ByteArray) (h : Hp) (K : Int → Hp → Prop) : Prop :=
  CallT Try.prog 25 [.int .i64 a0_metric, .agg #[.int .i64 a1_x, .slice a2_x.a a2_x.len a2_x.cap, .string a3_x], .agg #[.int .i64 a4_y, .slice a5_y.a a5_y.len a5_y.cap, .string a6_y]] [.at (.int .i64)] h fun s h => K s.1 h
def C_lone_Dist (a0_a : Sl) (a1_b : Sl) (h : Hp) (K : Int → Hp → Prop) : Prop :=
  CallT Try.prog 26 [.slice a0_a.a a0_a.len a0_a.cap, .slice a1_b.a a1_b.len a1_b.cap] [.at (.int .i64)] h fun s h => K s.1 h
def C_ham_Dist (a0_a : ByteArray) (a1_b : ByteArray) (h : Hp) (K : Int → Hp → Prop) : Prop :=
  CallT Try.prog 27 [.string a0_a, .string a1_b] [.at (.int .i64)] h fun s h => K s.1 h
def C_lev_Dist (a0_a : ByteArray) (a1_b : ByteArray) (h : Hp) (K : Int → Hp → Prop) : Prop :=
  CallT Try.prog 28 [.string a0_a, .string a1_b] [.at (.int .i64)] h fun s h => K s.1 h
def C_lone_places (a0_a : Sl) (a1_b : Sl) (h : Hp) (K : Value → Hp → Prop) : Prop :=
  CallT Try.prog 29 [.slice a0_a.a a0_a.len a0_a.cap, .slice a1_b.a a1_b.len a1_b.cap] [.at .raw] h fun s h => K s.1 h
def C_ham_longer (a0_a : ByteArray) (a1_b : ByteArray) (h : Hp) (K : Int → Hp → Prop) : Prop :=
  CallT Try.prog 30 [.string a0_a, .string a1_b] [.at (.int .i64)] h fun s h => K s.1 h
def C_ham_Places (a0_a : ByteArray) (a1_b : ByteArray) (h : Hp) (K : Sl → Hp → Prop) : Prop :=
  CallT Try.prog 31 [.string a0_a, .string a1_b] [.at .sl] h fun s h => K s.1 h
def C_lev_Trim (a0_a : ByteArray) (a1_b : ByteArray) (h : Hp) (K : ByteArray → ByteArray → Hp → Prop) : Prop :=
  CallT Try.prog 32 [.string a0_a, .string a1_b] [.at .str, .at .str] h fun s h => K s.1 s.2.1 h
def C_lev_first (a0_n : Int) (h : Hp) (K : Sl → Hp → Prop) : Prop :=
  CallT Try.prog 33 [.int .i64 a0_n] [.at .sl] h fun s h => K s.1 h
def C_lev_next (a0_row : Sl) (a1_c : Int) (a2_b : ByteArray) (h : Hp) (K : Sl → Hp → Prop) : Prop :=
  CallT Try.prog 34 [.slice a0_row.a a0_row.len a0_row.cap, .int .u8 a1_c, .string a2_b] [.at .sl] h fun s h => K s.1 h
def C_lone_places_1 (a0_yield : Value) (a1_t : Option Addr) (a2_t : Option Addr) (h : Hp) (K : Hp → Prop) : Prop :=
  CallT Try.prog 35 [a0_yield, .pointer a1_t, .pointer a2_t] [] h fun s h => K h
def C_lone_apart (a0_x : Int) (a1_y : Int) (h : Hp) (K : Int → Hp → Prop) : Prop :=
  CallT Try.prog 36 [.int .i32 a0_x, .int .i32 a1_y] [.at (.int .i64)] h fun s h => K s.1 h
def C_lone_at (a0_a : Sl) (a1_i : Int) (h : Hp) (K : Int → Hp → Prop) : Prop :=
  CallT Try.prog 37 [.slice a0_a.a a0_a.len a0_a.cap, .int .i64 a1_i] [.at (.int .i32)] h fun s h => K s.1 h
def L1_law19_PivotsApart (K : Bool → Hp → Prop) (p2 : Addr) (t11 : Sl) (t29 : Int) (sL1 : (Int × Unit) × Hp) (R1 : (Int × Unit) × Hp → Prop) : Prop :=
ldA .sl sL1.2 (Addr.add p2 3) fun (t31 : Sl) =>
cnd (decide (sL1.1.1 < (t31.len : Int))) (
ldA (.int .i64) sL1.2 p2 fun (t32 : Int) =>
ldA .sl sL1.2 (Addr.add p2 3) fun (t33 : Sl) =>
ldA .sl sL1.2 (Addr.add p2 3) fun (t34 : Sl) =>
idxS t34.a t34.len sL1.1.1 3 fun (p35 : Addr) =>
ldA (.int .i64) sL1.2 p35 fun (t36 : Int) =>
ldA .sl sL1.2 (Addr.add p35 1) fun (t37 : Sl) =>
ldA .str sL1.2 (Addr.add p35 2) fun (t38 : ByteArray) =>
C_ref19_Near t32 t33 t11 t36 t37 t38 sL1.2 fun (t39 : Int) (h40 : Hp) =>
cnd (decide (t39 > t29)) (
K false h40) (
Let (IntKind.wrap .i64 (sL1.1.1 + 1) : Int) fun (t41 : Int) =>
R1 ((t41, ()), h40))) (
C_law19_lives  sL1.2 fun (t42 : Bool) (h43 : Hp) =>
K t42 h43)
def J2_law19_PivotsApart (K : Bool → Hp → Prop) (p2 : Addr) (t11 : Sl) (t29 : Int) (sJ2 : Unit) (hJ2 : Hp) : Prop :=
∃ n, Lp (L1_law19_PivotsApart K p2 t11 t29) n ((0, ()), hJ2)
def L3_law19_PivotsApart (K : Bool → Hp → Prop) (p2 : Addr) (t11 : Sl) (t29 : Int) (sL2 : (Int × Unit) × Hp) (R2 : (Int × Unit) × Hp → Prop) (sL3 : (Int × Unit) × Hp) (R3 : (Int × Unit) × Hp → Prop) : Prop :=
cnd (decide (sL3.1.1 < sL2.1.1)) (
ldA (.int .i64) sL3.2 p2 fun (t44 : Int) =>
ldA .sl sL3.2 (Addr.add p2 3) fun (t45 : Sl) =>
idxS t11.a t11.len sL2.1.1 1 fun (p46 : Addr) =>
ldA (.int .i64) sL3.2 p46 fun (t47 : Int) =>
idxS t45.a t45.len t47 3 fun (p48 : Addr) =>
ldA (.int .i64) sL3.2 p48 fun (t49 : Int) =>
ldA .sl sL3.2 (Addr.add p48 1) fun (t50 : Sl) =>
ldA .str sL3.2 (Addr.add p48 2) fun (t51 : ByteArray) =>
ldA .sl sL3.2 (Addr.add p2 3) fun (t52 : Sl) =>
idxS t11.a t11.len sL3.1.1 1 fun (p53 : Addr) =>
ldA (.int .i64) sL3.2 p53 fun (t54 : Int) =>
idxS t52.a t52.len t54 3 fun (p55 : Addr) =>
ldA (.int .i64) sL3.2 p55 fun (t56 : Int) =>
ldA .sl sL3.2 (Addr.add p55 1) fun (t57 : Sl) =>
ldA .str sL3.2 (Addr.add p55 2) fun (t58 : ByteArray) =>
C_ref09_Dist t44 t49 t50 t51 t56 t57 t58 sL3.2 fun (t59 : Int) (h60 : Hp) =>
cnd (decide (t59 < t29)) (
K false h60) (
Let (IntKind.wrap .i64 (sL3.1.1 + 1) : Int) fun (t61 : Int) =>
R3 ((t61, ()), h60))) (
Let (IntKind.wrap .i64 (sL2.1.1 + 1) : Int) fun (t62 : Int) =>
R2 ((t62, ()), sL3.2))
def L2_law19_PivotsApart (K : Bool → Hp → Prop) (p2 : Addr) (t11 : Sl) (t29 : Int) (J2 : Unit → Hp → Prop) (sL2 : (Int × Unit) × Hp) (R2 : (Int × Unit) × Hp → Prop) : Prop :=
cnd (decide (sL2.1.1 < (t11.len : Int))) (
∃ n, Lp (L3_law19_PivotsApart K p2 t11 t29 sL2 R2) n ((0, ()), sL2.2)) (
J2 (()) sL2.2)
def J1_law19_PivotsApart (K : Bool → Hp → Prop) (p2 : Addr) (sJ1 : Bool × Unit) (hJ1 : Hp) : Prop :=
cnd sJ1.1 (
C_law19_lives  hJ1 fun (t3 : Bool) (h4 : Hp) =>
K t3 h4) (
ldA (.int .i64) hJ1 p2 fun (t5 : Int) =>
C_metric_New t5 hJ1 fun (t6 : Option Addr) (h7 : Hp) =>
Ext hJ1 h7 ∧ (
ldA .sl hJ1 (Addr.add p2 3) fun (t8 : Sl) =>
ldA (.int .i64) hJ1 (Addr.add p2 1) fun (t9 : Int) =>
ldA (.int .i64) hJ1 (Addr.add p2 2) fun (t10 : Int) =>
C_pivots_Choose t6 t8 t9 t10 h7 fun (t11 : Sl) (h12 : Hp) =>
cnd (decide ((t11.len : Int) < 2)) (
C_law19_lives  h12 fun (t13 : Bool) (h14 : Hp) =>
K t13 h14) (
ldA (.int .i64) h12 p2 fun (t15 : Int) =>
ldA .sl h12 (Addr.add p2 3) fun (t16 : Sl) =>
Let (IntKind.wrap .i64 ((t11.len : Int) - 1) : Int) fun (t17 : Int) =>
slcS t11.a t11.len t11.cap none (some t17) 1 fun (t18 : Option Addr) (l19 c20 : Nat) =>
ldA .sl h12 (Addr.add p2 3) fun (t21 : Sl) =>
Let (IntKind.wrap .i64 ((t11.len : Int) - 1) : Int) fun (t22 : Int) =>
idxS t11.a t11.len t22 1 fun (p23 : Addr) =>
ldA (.int .i64) h12 p23 fun (t24 : Int) =>
idxS t21.a t21.len t24 3 fun (p25 : Addr) =>
ldA (.int .i64) h12 p25 fun (t26 : Int) =>
ldA .sl h12 (Addr.add p25 1) fun (t27 : Sl) =>
ldA .str h12 (Addr.add p25 2) fun (t28 : ByteArray) =>
C_ref19_Near t15 t16 (Sl.mk t18 l19 c20) t26 t27 t28 h12 fun (t29 : Int) (h30 : Hp) =>
Jn (J2_law19_PivotsApart K p2 t11 t29) fun (J2 : Unit → Hp → Prop) =>
∃ n, Lp (L2_law19_PivotsApart K p2 t11 t29 J2) n ((0, ()), h30))))
def F_law19_PivotsApart (a0_x : Int) (a1_x : Int) (a2_x : Int) (a3_x : Sl) (h : Hp) (K : Bool → Hp → Prop) : Prop :=
Let (Array.push h (Obj.cells #[.int .i64 a0_x, .int .i64 a1_x, .int .i64 a2_x, .slice a3_x.a a3_x.len a3_x.cap] 24)) fun (h1 : Hp) =>
Let (Addr.mk (Array.size h) 0 none) fun (p2 : Addr) =>
Jn (J1_law19_PivotsApart K p2) fun (J1 : Bool × Unit → Hp → Prop) =>
ldA .sl h1 (Addr.add p2 3) fun (t63 : Sl) =>
cnd (decide ((t63.len : Int) > 40)) (
J1 (true, ()) h1) (
ldA .sl h1 (Addr.add p2 3) fun (t64 : Sl) =>
C_ref09_Short t64 40 h1 fun (t65 : Bool) (h66 : Hp) =>
J1 (!t65, ()) h66)

theorem F_law19_PivotsApart_ok (a0_x : Int) (a1_x : Int) (a2_x : Int) (a3_x : Sl) (h : Hp) (K : Bool → Hp → Prop) (hF : F_law19_PivotsApart a0_x a1_x a2_x a3_x h K) : C_law19_PivotsApart a0_x a1_x a2_x a3_x h K := by
  have e : bodyVC Try.prog Try.f3 (.seq .no (.seq (.join [(17, .at .bool)] .no (.cond (.seq .no .no) .no)) (.seq .no (.seq (.seq .no (.cond (.seq .no .no) .no)) (.seq .no (.join [] (.seq .no (.block (.loop [(5, .at (.int .i64))] (.seq (.seq .no (.cond .no .no)) (.seq (.block (.seq .no (.block (.loop [(6, .at (.int .i64))] (.seq (.seq .no (.cond .no .no)) (.seq (.block (.seq .no (.cond (.seq .no .no) .no))) .no)))))) .no))))) (.seq (.seq .no (.block (.loop [(7, .at (.int .i64))] (.seq (.seq .no (.cond .no .no)) (.seq (.block (.seq .no (.cond (.seq .no .no) .no))) .no))))) (.seq .no .no)))))))) (Option.getD Try.f3.body .skip) [.agg #[.int .i64 a0_x, .int .i64 a1_x, .int .i64 a2_x, .slice a3_x.a a3_x.len a3_x.cap]] h [.at .bool] (fun s h => K s.1 h) = F_law19_PivotsApart a0_x a1_x a2_x a3_x h K := by kernel_rfl
  exact fun_sound mixed Try.func3 rfl (e.mpr hF)

def J1_law19_PivotsChoose (K : Bool → Hp → Prop) (p2 : Addr) (sJ1 : Bool × Unit) (hJ1 : Hp) : Prop :=
cnd sJ1.1 (
C_law19_lives  hJ1 fun (t3 : Bool) (h4 : Hp) =>
K t3 h4) (
ldA (.int .i64) hJ1 p2 fun (t5 : Int) =>
C_metric_New t5 hJ1 fun (t6 : Option Addr) (h7 : Hp) =>
ldA .sl h7 (Addr.add p2 3) fun (t8 : Sl) =>
ldA (.int .i64) h7 (Addr.add p2 1) fun (t9 : Int) =>
ldA (.int .i64) h7 (Addr.add p2 2) fun (t10 : Int) =>
C_pivots_Choose t6 t8 t9 t10 h7 fun (t11 : Sl) (h12 : Hp) =>
ldA (.int .i64) h12 p2 fun (t13 : Int) =>
ldA .sl h12 (Addr.add p2 3) fun (t14 : Sl) =>
ldA (.int .i64) h12 (Addr.add p2 1) fun (t15 : Int) =>
ldA (.int .i64) h12 (Addr.add p2 2) fun (t16 : Int) =>
C_ref19_Choose t13 t14 t15 t16 h12 fun (t17 : Sl) (h18 : Hp) =>
C_ref07_Ints t11 t17 h18 fun (t19 : Bool) (h20 : Hp) =>
cnd t19 (
C_metric_Meter_Calls t6 h20 fun (t21 : Int) (h22 : Hp) =>
Ext h20 h22 ∧ (
ldA .sl h20 (Addr.add p2 3) fun (t23 : Sl) =>
Let (IntKind.wrap .i64 ((t11.len : Int) * (t23.len : Int)) : Int) fun (t24 : Int) =>
cnd (t21 == t24) (
C_law19_lives  h22 fun (t25 : Bool) (h26 : Hp) =>
K t25 h26) (
K false h22))) (
K false h20))
def F_law19_PivotsChoose (a0_x : Int) (a1_x : Int) (a2_x : Int) (a3_x : Sl) (h : Hp) (K : Bool → Hp → Prop) : Prop :=
Let (Array.push h (Obj.cells #[.int .i64 a0_x, .int .i64 a1_x, .int .i64 a2_x, .slice a3_x.a a3_x.len a3_x.cap] 24)) fun (h1 : Hp) =>
Let (Addr.mk (Array.size h) 0 none) fun (p2 : Addr) =>
Jn (J1_law19_PivotsChoose K p2) fun (J1 : Bool × Unit → Hp → Prop) =>
ldA .sl h1 (Addr.add p2 3) fun (t27 : Sl) =>
cnd (decide ((t27.len : Int) > 40)) (
J1 (true, ()) h1) (
ldA .sl h1 (Addr.add p2 3) fun (t28 : Sl) =>
C_ref09_Short t28 40 h1 fun (t29 : Bool) (h30 : Hp) =>
J1 (!t29, ()) h30)

theorem F_law19_PivotsChoose_ok (a0_x : Int) (a1_x : Int) (a2_x : Int) (a3_x : Sl) (h : Hp) (K : Bool → Hp → Prop) (hF : F_law19_PivotsChoose a0_x a1_x a2_x a3_x h K) : C_law19_PivotsChoose a0_x a1_x a2_x a3_x h K := by
  have e : bodyVC Try.prog Try.f4 (.seq .no (.seq (.join [(14, .at .bool)] .no (.cond (.seq .no .no) .no)) (.seq .no (.seq .no (.seq .no .no))))) (Option.getD Try.f4.body .skip) [.agg #[.int .i64 a0_x, .int .i64 a1_x, .int .i64 a2_x, .slice a3_x.a a3_x.len a3_x.cap]] h [.at .bool] (fun s h => K s.1 h) = F_law19_PivotsChoose a0_x a1_x a2_x a3_x h K := by kernel_rfl
  exact fun_sound mixed Try.func4 rfl (e.mpr hF)

def J3_law19_PivotsSpread (a4_chosen : Sl) (K : Bool → Hp → Prop) (p2 : Addr) (sJ2 : Int × Unit) (sJ3 : Int × Unit) (hJ3 : Hp) : Prop :=
ldA (.int .i64) hJ3 p2 fun (t5 : Int) =>
C_metric_New t5 hJ3 fun (t6 : Option Addr) (h7 : Hp) =>
ldA .sl h7 (Addr.add p2 3) fun (t8 : Sl) =>
C_pivots_Spread t6 t8 a4_chosen h7 fun (t9 : Int) (h10 : Hp) =>
cnd (t9 == sJ3.1) (
C_metric_Meter_Calls t6 h10 fun (t11 : Int) (h12 : Hp) =>
Ext h10 h12 ∧ (
ldA .sl h10 (Addr.add p2 3) fun (t13 : Sl) =>
Let (IntKind.wrap .i64 (sJ2.1 * (t13.len : Int)) : Int) fun (t14 : Int) =>
cnd (t11 == t14) (
C_law19_lives  h12 fun (t15 : Bool) (h16 : Hp) =>
K t15 h16) (
K false h12))) (
K false h10)
def J4_law19_PivotsSpread (a4_chosen : Sl) (p2 : Addr) (sL1 : (Int × Int × Unit) × Hp) (R1 : (Int × Int × Unit) × Hp → Prop) (sJ4 : Unit) (hJ4 : Hp) : Prop :=
ldA (.int .i64) hJ4 p2 fun (t17 : Int) =>
ldA .sl hJ4 (Addr.add p2 3) fun (t18 : Sl) =>
ldA .sl hJ4 (Addr.add p2 3) fun (t19 : Sl) =>
idxS t19.a t19.len sL1.1.2.1 3 fun (p20 : Addr) =>
ldA (.int .i64) hJ4 p20 fun (t21 : Int) =>
ldA .sl hJ4 (Addr.add p20 1) fun (t22 : Sl) =>
ldA .str hJ4 (Addr.add p20 2) fun (t23 : ByteArray) =>
C_ref19_Near t17 t18 a4_chosen t21 t22 t23 hJ4 fun (t24 : Int) (h25 : Hp) =>
Let (if t24 > sL1.1.1 then t24 else sL1.1.1 : Int) fun (t26 : Int) =>
Let (IntKind.wrap .i64 (sL1.1.2.1 + 1) : Int) fun (t27 : Int) =>
R1 ((t26, t27, ()), h25)
def L1_law19_PivotsSpread (a4_chosen : Sl) (p2 : Addr) (sJ2 : Int × Unit) (J3 : Int × Unit → Hp → Prop) (sL1 : (Int × Int × Unit) × Hp) (R1 : (Int × Int × Unit) × Hp → Prop) : Prop :=
Jn (J4_law19_PivotsSpread a4_chosen p2 sL1 R1) fun (J4 : Unit → Hp → Prop) =>
ldA .sl sL1.2 (Addr.add p2 3) fun (t28 : Sl) =>
cnd (decide (sL1.1.2.1 < (t28.len : Int))) (
cnd (decide (sJ2.1 > 0)) (
J4 (()) sL1.2) (
J3 (sL1.1.1, ()) sL1.2)) (
J3 (sL1.1.1, ()) sL1.2)
def J2_law19_PivotsSpread (a4_chosen : Sl) (K : Bool → Hp → Prop) (p2 : Addr) (sJ2 : Int × Unit) (hJ2 : Hp) : Prop :=
Jn (J3_law19_PivotsSpread a4_chosen K p2 sJ2) fun (J3 : Int × Unit → Hp → Prop) =>
∃ n, Lp (L1_law19_PivotsSpread a4_chosen p2 sJ2 J3) n ((0, 0, ()), hJ2)
def J5_law19_PivotsSpread (sL2 : (Int × Int × Unit) × Hp) (R2 : (Int × Int × Unit) × Hp → Prop) (sJ5 : Bool × Unit) (hJ5 : Hp) : Prop :=
cnd sJ5.1 (
Let (IntKind.wrap .i64 (sL2.1.1 + 1) : Int) fun (t29 : Int) =>
Let (IntKind.wrap .i64 (sL2.1.2.1 + 1) : Int) fun (t30 : Int) =>
R2 ((t29, t30, ()), hJ5)) (
Let (IntKind.wrap .i64 (sL2.1.2.1 + 1) : Int) fun (t31 : Int) =>
R2 ((sL2.1.1, t31, ()), hJ5))
def L2_law19_PivotsSpread (a4_chosen : Sl) (p2 : Addr) (J2 : Int × Unit → Hp → Prop) (sL2 : (Int × Int × Unit) × Hp) (R2 : (Int × Int × Unit) × Hp → Prop) : Prop :=
cnd (decide (sL2.1.2.1 < (a4_chosen.len : Int))) (
Jn (J5_law19_PivotsSpread sL2 R2) fun (J5 : Bool × Unit → Hp → Prop) =>
idxS a4_chosen.a a4_chosen.len sL2.1.2.1 1 fun (p32 : Addr) =>
ldA (.int .i64) sL2.2 p32 fun (t33 : Int) =>
cnd (decide (t33 ≥ 0)) (
idxS a4_chosen.a a4_chosen.len sL2.1.2.1 1 fun (p34 : Addr) =>
ldA (.int .i64) sL2.2 p34 fun (t35 : Int) =>
ldA .sl sL2.2 (Addr.add p2 3) fun (t36 : Sl) =>
J5 (decide (t35 < (t36.len : Int)), ()) sL2.2) (
J5 (false, ()) sL2.2)) (
J2 (sL2.1.1, ()) sL2.2)
def J1_law19_PivotsSpread (a4_chosen : Sl) (K : Bool → Hp → Prop) (p2 : Addr) (sJ1 : Bool × Unit) (hJ1 : Hp) : Prop :=
cnd sJ1.1 (
C_law19_lives  hJ1 fun (t3 : Bool) (h4 : Hp) =>
K t3 h4) (
Jn (J2_law19_PivotsSpread a4_chosen K p2) fun (J2 : Int × Unit → Hp → Prop) =>
∃ n, Lp (L2_law19_PivotsSpread a4_chosen p2 J2) n ((0, 0, ()), hJ1))
def F_law19_PivotsSpread (a0_x : Int) (a1_x : Int) (a2_x : Int) (a3_x : Sl) (a4_chosen : Sl) (h : Hp) (K : Bool → Hp → Prop) : Prop :=
Let (Array.push h (Obj.cells #[.int .i64 a0_x, .int .i64 a1_x, .int .i64 a2_x, .slice a3_x.a a3_x.len a3_x.cap] 24)) fun (h1 : Hp) =>
Let (Addr.mk (Array.size h) 0 none) fun (p2 : Addr) =>
Jn (J1_law19_PivotsSpread a4_chosen K p2) fun (J1 : Bool × Unit → Hp → Prop) =>
ldA .sl h1 (Addr.add p2 3) fun (t37 : Sl) =>
cnd (decide ((t37.len : Int) > 40)) (
J1 (true, ()) h1) (
cnd (decide ((a4_chosen.len : Int) > 40)) (
J1 (true, ()) h1) (
ldA .sl h1 (Addr.add p2 3) fun (t38 : Sl) =>
C_ref09_Short t38 40 h1 fun (t39 : Bool) (h40 : Hp) =>
J1 (!t39, ()) h40))

theorem F_law19_PivotsSpread_ok (a0_x : Int) (a1_x : Int) (a2_x : Int) (a3_x : Sl) (a4_chosen : Sl) (h : Hp) (K : Bool → Hp → Prop) (hF : F_law19_PivotsSpread a0_x a1_x a2_x a3_x a4_chosen h K) : C_law19_PivotsSpread a0_x a1_x a2_x a3_x a4_chosen h K := by
  have e : bodyVC Try.prog Try.f5 (.seq .no (.seq (.join [(24, .at .bool)] .no (.cond (.seq .no .no) .no)) (.seq .no (.join [(6, .at (.int .i64))] (.seq .no (.block (.loop [(6, .at (.int .i64)), (7, .at (.int .i64))] (.seq (.seq .no (.cond .no .no)) (.seq (.block (.join [(46, .at .bool)] .no (.cond .no .no))) .no))))) (.join [(5, .at (.int .i64))] (.seq .no (.block (.loop [(5, .at (.int .i64)), (8, .at (.int .i64))] (.join [] (.seq .no (.cond .no .no)) (.seq (.block .no) .no))))) (.seq .no (.seq .no .no))))))) (Option.getD Try.f5.body .skip) [.agg #[.int .i64 a0_x, .int .i64 a1_x, .int .i64 a2_x, .slice a3_x.a a3_x.len a3_x.cap], .slice a4_chosen.a a4_chosen.len a4_chosen.cap] h [.at .bool] (fun s h => K s.1 h) = F_law19_PivotsSpread a0_x a1_x a2_x a3_x a4_chosen h K := by kernel_rfl
  exact fun_sound mixed Try.func5 rfl (e.mpr hF)

def L1_ref09_Short (a0_l : Sl) (a1_most : Int) (K : Bool → Hp → Prop) (sL1 : (Int × Unit) × Hp) (R1 : (Int × Unit) × Hp → Prop) : Prop :=
cnd (decide (sL1.1.1 < (a0_l.len : Int))) (
idxS a0_l.a a0_l.len sL1.1.1 3 fun (p1 : Addr) =>
ldA .str sL1.2 (Addr.add p1 2) fun (t2 : ByteArray) =>
cnd (decide ((ByteArray.size t2 : Int) > a1_most)) (
K false sL1.2) (
idxS a0_l.a a0_l.len sL1.1.1 3 fun (p3 : Addr) =>
ldA .sl sL1.2 (Addr.add p3 1) fun (t4 : Sl) =>
cnd (decide ((t4.len : Int) > a1_most)) (
K false sL1.2) (
Let (IntKind.wrap .i64 (sL1.1.1 + 1) : Int) fun (t5 : Int) =>
R1 ((t5, ()), sL1.2)))) (
K true sL1.2)
def F_ref09_Short (a0_l : Sl) (a1_most : Int) (h : Hp) (K : Bool → Hp → Prop) : Prop :=
∃ n, Lp (L1_ref09_Short a0_l a1_most K) n ((0, ()), h)

theorem F_ref09_Short_ok (a0_l : Sl) (a1_most : Int) (h : Hp) (K : Bool → Hp → Prop) (hF : F_ref09_Short a0_l a1_most h K) : C_ref09_Short a0_l a1_most h K := by
  have e : bodyVC Try.prog Try.f6 (.seq .no (.seq (.seq .no (.block (.loop [(5, .at (.int .i64))] (.seq (.seq .no (.cond .no .no)) (.seq (.block (.seq .no (.cond (.seq .no .no) .no))) .no))))) (.seq .no .no))) (Option.getD Try.f6.body .skip) [.slice a0_l.a a0_l.len a0_l.cap, .int .i64 a1_most] h [.at .bool] (fun s h => K s.1 h) = F_ref09_Short a0_l a1_most h K := by kernel_rfl
  exact fun_sound mixed Try.func6 rfl (e.mpr hF)

def F_law19_lives  (h : Hp) (K : Bool → Hp → Prop) : Prop :=
C_metric_New 1 h fun (t1 : Option Addr) (h2 : Hp) =>
C_law19_lives_1 0 h2 fun (t3 : Int) (t4 : Sl) (t5 : ByteArray) (h6 : Hp) =>
C_law19_lives_1 9 h6 fun (t7 : Int) (t8 : Sl) (t9 : ByteArray) (h10 : Hp) =>
C_law19_lives_1 4 h10 fun (t11 : Int) (t12 : Sl) (t13 : ByteArray) (h14 : Hp) =>
Let (Array.push h14 (Obj.cells #[.int .i64 t3, .slice t4.a t4.len t4.cap, .string t5, .int .i64 t7, .slice t8.a t8.len t8.cap, .string t9, .int .i64 t11, .slice t12.a t12.len t12.cap, .string t13] 34)) fun (h15 : Hp) =>
Let (Addr.mk (Array.size h14) 0 none) fun (p16 : Addr) =>
C_pivots_Choose t1 (Sl.mk (some p16) 3 3) 3 0 h15 fun (t17 : Sl) (h18 : Hp) =>
Let (Array.push h18 (Obj.cells #[.int .i64 0, .int .i64 1, .int .i64 2] 3)) fun (h19 : Hp) =>
Let (Addr.mk (Array.size h18) 0 none) fun (p20 : Addr) =>
C_ref07_Ints t17 (Sl.mk (some p20) 3 3) h19 fun (t21 : Bool) (h22 : Hp) =>
K t21 h22

theorem F_law19_lives_ok  (h : Hp) (K : Bool → Hp → Prop) (hF : F_law19_lives  h K) : C_law19_lives  h K := by
  have e : bodyVC Try.prog Try.f7 (.seq .no (.seq .no (.seq .no .no))) (Option.getD Try.f7.body .skip) [] h [.at .bool] (fun s h => K s.1 h) = F_law19_lives  h K := by kernel_rfl
  exact fun_sound mixed Try.func7 rfl (e.mpr hF)

def L1_pivots_Choose (a0_m : Option Addr) (a1_l : Sl) (a2_p : Int) (K : Sl → Hp → Prop) (t1 : Sl) (sL1 : (Int × Sl × Unit) × Hp) (R1 : (Int × Sl × Unit) × Hp → Prop) : Prop :=
cnd (decide ((sL1.1.2.1.len : Int) < a2_p)) (
Let (Array.push sL1.2 (Obj.cells #[.int .i64 sL1.1.1] 3)) fun (h6 : Hp) =>
Let (Addr.mk (Array.size sL1.2) 0 none) fun (p7 : Addr) =>
appS 3 1 8 [.int .i64 0] sL1.1.2.1.a sL1.1.2.1.len sL1.1.2.1.cap (.slice (some p7) 1 1) h6 fun (t8 : Sl) (h9 : Hp) =>
idxS a1_l.a a1_l.len sL1.1.1 3 fun (p10 : Addr) =>
ldA (.int .i64) h9 p10 fun (t11 : Int) =>
ldA .sl h9 (Addr.add p10 1) fun (t12 : Sl) =>
ldA .str h9 (Addr.add p10 2) fun (t13 : ByteArray) =>
C_pivots_closer a0_m a1_l t1 t11 t12 t13 h9 fun  (h14 : Hp) =>
C_pivots_farthest t1 h14 fun (t15 : Int) (h16 : Hp) =>
idxS t1.a t1.len t15 1 fun (p17 : Addr) =>
ldA (.int .i64) h16 p17 fun (t18 : Int) =>
cnd (t18 == 0) (
K t8 h16) (
R1 ((t15, t8, ()), h16))) (
K (Sl.mk sL1.1.2.1.a sL1.1.2.1.len sL1.1.2.1.cap) sL1.2)
def J1_pivots_Choose (a0_m : Option Addr) (a1_l : Sl) (a2_p : Int) (a3_first : Int) (K : Sl → Hp → Prop) (sJ1 : Unit) (hJ1 : Hp) : Prop :=
C_pivots_start (a1_l.len : Int) hJ1 fun (t1 : Sl) (h2 : Hp) =>
Let (IntKind.wrap .i64 ((a1_l.len : Int) - 1) : Int) fun (t3 : Int) =>
Let (if t3 < a3_first then t3 else a3_first : Int) fun (t4 : Int) =>
Let (if t4 > 0 then t4 else 0 : Int) fun (t5 : Int) =>
∃ n, Lp (L1_pivots_Choose a0_m a1_l a2_p K t1) n ((t5, (Sl.mk none 0 0), ()), h2)
def F_pivots_Choose (a0_m : Option Addr) (a1_l : Sl) (a2_p : Int) (a3_first : Int) (h : Hp) (K : Sl → Hp → Prop) : Prop :=
Jn (J1_pivots_Choose a0_m a1_l a2_p a3_first K) fun (J1 : Unit → Hp → Prop) =>
cnd ((a1_l.len : Int) == 0) (
K (Sl.mk none 0 0) h) (
cnd (decide (a2_p < 1)) (
K (Sl.mk none 0 0) h) (
J1 (()) h))

theorem F_pivots_Choose_ok (a0_m : Option Addr) (a1_l : Sl) (a2_p : Int) (a3_first : Int) (h : Hp) (K : Sl → Hp → Prop) (hF : F_pivots_Choose a0_m a1_l a2_p a3_first h K) : C_pivots_Choose a0_m a1_l a2_p a3_first h K := by
  have e : bodyVC Try.prog Try.f8 (.seq .no (.join [] (.seq .no (.cond (.seq .no .no) .no)) (.seq .no (.seq .no (.seq .no (.seq (.block (.loop [(10, .at (.int .i64)), (11, .at .sl)] (.seq (.seq .no (.cond .no .no)) (.block (.seq .no (.seq .no (.seq .no (.seq .no (.cond .no .no))))))))) (.seq .no .no))))))) (Option.getD Try.f8.body .skip) [.pointer a0_m, .slice a1_l.a a1_l.len a1_l.cap, .int .i64 a2_p, .int .i64 a3_first] h [.at .sl] (fun s h => K s.1 h) = F_pivots_Choose a0_m a1_l a2_p a3_first h K := by kernel_rfl
  exact fun_sound mixed Try.func8 rfl (e.mpr hF)

def F_metric_New (a0_metric : Int) (h : Hp) (K : Option Addr → Hp → Prop) : Prop :=
Let (Array.push h (Obj.cells #[.int .i64 a0_metric, .int .i64 0] 47)) fun (h1 : Hp) =>
Let (Addr.mk (Array.size h) 0 none) fun (p2 : Addr) =>
K (some p2) h1

theorem F_metric_New_ok (a0_metric : Int) (h : Hp) (K : Option Addr → Hp → Prop) (hF : F_metric_New a0_metric h K) : C_metric_New a0_metric h K := by
  have e : bodyVC Try.prog Try.f9 (.seq .no (.seq .no .no)) (Option.getD Try.f9.body .skip) [.int .i64 a0_metric] h [.at .ptr] (fun s h => K s.1 h) = F_metric_New a0_metric h K := by kernel_rfl
  exact fun_sound mixed Try.func9 rfl (e.mpr hF)

def J1_ref19_Near (a0_metric : Int) (a1_l : Sl) (a2_chosen : Sl) (p2 : Addr) (sL1 : (Int × Int × Unit) × Hp) (R1 : (Int × Int × Unit) × Hp → Prop) (sJ1 : Bool × Unit) (hJ1 : Hp) : Prop :=
cnd sJ1.1 (
idxS a2_chosen.a a2_chosen.len sL1.1.2.1 1 fun (p3 : Addr) =>
ldA (.int .i64) hJ1 p3 fun (t4 : Int) =>
idxS a1_l.a a1_l.len t4 3 fun (p5 : Addr) =>
ldA (.int .i64) hJ1 p5 fun (t6 : Int) =>
ldA .sl hJ1 (Addr.add p5 1) fun (t7 : Sl) =>
ldA .str hJ1 (Addr.add p5 2) fun (t8 : ByteArray) =>
ldA (.int .i64) hJ1 p2 fun (t9 : Int) =>
ldA .sl hJ1 (Addr.add p2 1) fun (t10 : Sl) =>
ldA .str hJ1 (Addr.add p2 2) fun (t11 : ByteArray) =>
C_ref09_Dist a0_metric t6 t7 t8 t9 t10 t11 hJ1 fun (t12 : Int) (h13 : Hp) =>
Let (if t12 < sL1.1.1 then t12 else sL1.1.1 : Int) fun (t14 : Int) =>
Let (IntKind.wrap .i64 (sL1.1.2.1 + 1) : Int) fun (t15 : Int) =>
R1 ((t14, t15, ()), h13)) (
Let (IntKind.wrap .i64 (sL1.1.2.1 + 1) : Int) fun (t16 : Int) =>
R1 ((sL1.1.1, t16, ()), hJ1))
def L1_ref19_Near (a0_metric : Int) (a1_l : Sl) (a2_chosen : Sl) (K : Int → Hp → Prop) (p2 : Addr) (sL1 : (Int × Int × Unit) × Hp) (R1 : (Int × Int × Unit) × Hp → Prop) : Prop :=
cnd (decide (sL1.1.2.1 < (a2_chosen.len : Int))) (
Jn (J1_ref19_Near a0_metric a1_l a2_chosen p2 sL1 R1) fun (J1 : Bool × Unit → Hp → Prop) =>
idxS a2_chosen.a a2_chosen.len sL1.1.2.1 1 fun (p17 : Addr) =>
ldA (.int .i64) sL1.2 p17 fun (t18 : Int) =>
cnd (decide (t18 ≥ 0)) (
idxS a2_chosen.a a2_chosen.len sL1.1.2.1 1 fun (p19 : Addr) =>
ldA (.int .i64) sL1.2 p19 fun (t20 : Int) =>
J1 (decide (t20 < (a1_l.len : Int)), ()) sL1.2) (
J1 (false, ()) sL1.2)) (
K sL1.1.1 sL1.2)
def F_ref19_Near (a0_metric : Int) (a1_l : Sl) (a2_chosen : Sl) (a3_x : Int) (a4_x : Sl) (a5_x : ByteArray) (h : Hp) (K : Int → Hp → Prop) : Prop :=
Let (Array.push h (Obj.cells #[.int .i64 a3_x, .slice a4_x.a a4_x.len a4_x.cap, .string a5_x] 34)) fun (h1 : Hp) =>
Let (Addr.mk (Array.size h) 0 none) fun (p2 : Addr) =>
∃ n, Lp (L1_ref19_Near a0_metric a1_l a2_chosen K p2) n ((1125899906842624, 0, ()), h1)

theorem F_ref19_Near_ok (a0_metric : Int) (a1_l : Sl) (a2_chosen : Sl) (a3_x : Int) (a4_x : Sl) (a5_x : ByteArray) (h : Hp) (K : Int → Hp → Prop) (hF : F_ref19_Near a0_metric a1_l a2_chosen a3_x a4_x a5_x h K) : C_ref19_Near a0_metric a1_l a2_chosen a3_x a4_x a5_x h K := by
  have e : bodyVC Try.prog Try.f10 (.seq .no (.seq .no (.seq (.seq .no (.block (.loop [(9, .at (.int .i64)), (10, .at (.int .i64))] (.seq (.seq .no (.cond .no .no)) (.seq (.block (.join [(30, .at .bool)] .no (.cond .no .no))) .no))))) (.seq .no .no)))) (Option.getD Try.f10.body .skip) [.int .i64 a0_metric, .slice a1_l.a a1_l.len a1_l.cap, .slice a2_chosen.a a2_chosen.len a2_chosen.cap, .agg #[.int .i64 a3_x, .slice a4_x.a a4_x.len a4_x.cap, .string a5_x]] h [.at (.int .i64)] (fun s h => K s.1 h) = F_ref19_Near a0_metric a1_l a2_chosen a3_x a4_x a5_x h K := by kernel_rfl
  exact fun_sound mixed Try.func10 rfl (e.mpr hF)

def F_ref09_Dist (a0_metric : Int) (a1_x : Int) (a2_x : Sl) (a3_x : ByteArray) (a4_y : Int) (a5_y : Sl) (a6_y : ByteArray) (h : Hp) (K : Int → Hp → Prop) : Prop :=
Let (Array.push h (Obj.cells #[.int .i64 a1_x, .slice a2_x.a a2_x.len a2_x.cap, .string a3_x] 34)) fun (h1 : Hp) =>
Let (Addr.mk (Array.size h) 0 none) fun (p2 : Addr) =>
Let (Array.push h1 (Obj.cells #[.int .i64 a4_y, .slice a5_y.a a5_y.len a5_y.cap, .string a6_y] 34)) fun (h3 : Hp) =>
Let (Addr.mk (Array.size h1) 0 none) fun (p4 : Addr) =>
cnd (a0_metric == 1) (
ldA .sl h3 (Addr.add p2 1) fun (t5 : Sl) =>
ldA .sl h3 (Addr.add p4 1) fun (t6 : Sl) =>
C_ref06_Dist t5 t6 h3 fun (t7 : Int) (h8 : Hp) =>
K t7 h8) (
cnd (a0_metric == 2) (
ldA .str h3 (Addr.add p2 2) fun (t9 : ByteArray) =>
ldA .str h3 (Addr.add p4 2) fun (t10 : ByteArray) =>
C_ref07_Dist t9 t10 h3 fun (t11 : Int) (h12 : Hp) =>
K t11 h12) (
cnd (a0_metric == 3) (
ldA .str h3 (Addr.add p2 2) fun (t13 : ByteArray) =>
ldA .str h3 (Addr.add p4 2) fun (t14 : ByteArray) =>
C_ref08_Dist t13 t14 h3 fun (t15 : Int) (h16 : Hp) =>
K t15 h16) (
K 0 h3)))

theorem F_ref09_Dist_ok (a0_metric : Int) (a1_x : Int) (a2_x : Sl) (a3_x : ByteArray) (a4_y : Int) (a5_y : Sl) (a6_y : ByteArray) (h : Hp) (K : Int → Hp → Prop) (hF : F_ref09_Dist a0_metric a1_x a2_x a3_x a4_y a5_y a6_y h K) : C_ref09_Dist a0_metric a1_x a2_x a3_x a4_y a5_y a6_y h K := by
  have e : bodyVC Try.prog Try.f11 (.seq .no (.seq (.seq .no (.cond (.seq .no .no) .no)) (.seq (.seq .no (.cond (.seq .no .no) .no)) (.seq (.seq .no (.cond (.seq .no .no) .no)) (.seq .no .no))))) (Option.getD Try.f11.body .skip) [.int .i64 a0_metric, .agg #[.int .i64 a1_x, .slice a2_x.a a2_x.len a2_x.cap, .string a3_x], .agg #[.int .i64 a4_y, .slice a5_y.a a5_y.len a5_y.cap, .string a6_y]] h [.at (.int .i64)] (fun s h => K s.1 h) = F_ref09_Dist a0_metric a1_x a2_x a3_x a4_y a5_y a6_y h K := by kernel_rfl
  exact fun_sound mixed Try.func11 rfl (e.mpr hF)

def L1_ref07_Ints (a0_a : Sl) (a1_b : Sl) (K : Bool → Hp → Prop) (sL1 : (Int × Unit) × Hp) (R1 : (Int × Unit) × Hp → Prop) : Prop :=
cnd (decide (sL1.1.1 < (a0_a.len : Int))) (
idxS a0_a.a a0_a.len sL1.1.1 1 fun (p1 : Addr) =>
ldA (.int .i64) sL1.2 p1 fun (t2 : Int) =>
idxS a1_b.a a1_b.len sL1.1.1 1 fun (p3 : Addr) =>
ldA (.int .i64) sL1.2 p3 fun (t4 : Int) =>
cnd (t2 != t4) (
K false sL1.2) (
Let (IntKind.wrap .i64 (sL1.1.1 + 1) : Int) fun (t5 : Int) =>
R1 ((t5, ()), sL1.2))) (
K true sL1.2)
def F_ref07_Ints (a0_a : Sl) (a1_b : Sl) (h : Hp) (K : Bool → Hp → Prop) : Prop :=
cnd ((a0_a.len : Int) != (a1_b.len : Int)) (
K false h) (
∃ n, Lp (L1_ref07_Ints a0_a a1_b K) n ((0, ()), h))

theorem F_ref07_Ints_ok (a0_a : Sl) (a1_b : Sl) (h : Hp) (K : Bool → Hp → Prop) (hF : F_ref07_Ints a0_a a1_b h K) : C_ref07_Ints a0_a a1_b h K := by
  have e : bodyVC Try.prog Try.f12 (.seq .no (.seq (.seq .no (.cond (.seq .no .no) .no)) (.seq (.seq .no (.block (.loop [(5, .at (.int .i64))] (.seq (.seq .no (.cond .no .no)) (.seq (.block (.seq .no (.cond (.seq .no .no) .no))) .no))))) (.seq .no .no)))) (Option.getD Try.f12.body .skip) [.slice a0_a.a a0_a.len a0_a.cap, .slice a1_b.a a1_b.len a1_b.cap] h [.at .bool] (fun s h => K s.1 h) = F_ref07_Ints a0_a a1_b h K := by kernel_rfl
  exact fun_sound mixed Try.func12 rfl (e.mpr hF)

def J2_ref19_Choose (K : Sl → Hp → Prop) (sL1 : (Sl × Unit) × Hp) (R1 : (Sl × Unit) × Hp → Prop) (sJ2 : Int × Int × Unit) (hJ2 : Hp) : Prop :=
cnd (decide ((sL1.1.1.len : Int) > 0)) (
cnd (sJ2.2.1 == 0) (
K (Sl.mk sL1.1.1.a sL1.1.1.len sL1.1.1.cap) hJ2) (
Let (Array.push hJ2 (Obj.cells #[.int .i64 sJ2.1] 3)) fun (h4 : Hp) =>
Let (Addr.mk (Array.size hJ2) 0 none) fun (p5 : Addr) =>
appS 3 1 8 [.int .i64 0] sL1.1.1.a sL1.1.1.len sL1.1.1.cap (.slice (some p5) 1 1) h4 fun (t6 : Sl) (h7 : Hp) =>
R1 ((t6, ()), h7))) (
Let (Array.push hJ2 (Obj.cells #[.int .i64 sJ2.1] 3)) fun (h8 : Hp) =>
Let (Addr.mk (Array.size hJ2) 0 none) fun (p9 : Addr) =>
appS 3 1 8 [.int .i64 0] sL1.1.1.a sL1.1.1.len sL1.1.1.cap (.slice (some p9) 1 1) h8 fun (t10 : Sl) (h11 : Hp) =>
R1 ((t10, ()), h11))
def J3_ref19_Choose (a0_metric : Int) (a1_l : Sl) (sL1 : (Sl × Unit) × Hp) (sL2 : (Int × Int × Int × Unit) × Hp) (R2 : (Int × Int × Int × Unit) × Hp → Prop) (sJ3 : Unit) (hJ3 : Hp) : Prop :=
idxS a1_l.a a1_l.len sL2.1.2.2.1 3 fun (p12 : Addr) =>
ldA (.int .i64) hJ3 p12 fun (t13 : Int) =>
ldA .sl hJ3 (Addr.add p12 1) fun (t14 : Sl) =>
ldA .str hJ3 (Addr.add p12 2) fun (t15 : ByteArray) =>
C_ref19_Near a0_metric a1_l (Sl.mk sL1.1.1.a sL1.1.1.len sL1.1.1.cap) t13 t14 t15 hJ3 fun (t16 : Int) (h17 : Hp) =>
cnd (decide (t16 > sL2.1.2.1)) (
Let (IntKind.wrap .i64 (sL2.1.2.2.1 + 1) : Int) fun (t18 : Int) =>
R2 ((sL2.1.2.2.1, t16, t18, ()), h17)) (
Let (IntKind.wrap .i64 (sL2.1.2.2.1 + 1) : Int) fun (t19 : Int) =>
R2 ((sL2.1.1, sL2.1.2.1, t19, ()), h17))
def L2_ref19_Choose (a0_metric : Int) (a1_l : Sl) (sL1 : (Sl × Unit) × Hp) (J2 : Int × Int × Unit → Hp → Prop) (sL2 : (Int × Int × Int × Unit) × Hp) (R2 : (Int × Int × Int × Unit) × Hp → Prop) : Prop :=
Jn (J3_ref19_Choose a0_metric a1_l sL1 sL2 R2) fun (J3 : Unit → Hp → Prop) =>
cnd (decide (sL2.1.2.2.1 < (a1_l.len : Int))) (
cnd (decide ((sL1.1.1.len : Int) > 0)) (
J3 (()) sL2.2) (
J2 (sL2.1.1, sL2.1.2.1, ()) sL2.2)) (
J2 (sL2.1.1, sL2.1.2.1, ()) sL2.2)
def J1_ref19_Choose (a0_metric : Int) (a1_l : Sl) (a3_first : Int) (K : Sl → Hp → Prop) (sL1 : (Sl × Unit) × Hp) (R1 : (Sl × Unit) × Hp → Prop) (sJ1 : Unit) (hJ1 : Hp) : Prop :=
Let (if 0 > a3_first then 0 else a3_first : Int) fun (t1 : Int) =>
Let (IntKind.wrap .i64 ((a1_l.len : Int) - 1) : Int) fun (t2 : Int) =>
Let (if t2 < t1 then t2 else t1 : Int) fun (t3 : Int) =>
Jn (J2_ref19_Choose K sL1 R1) fun (J2 : Int × Int × Unit → Hp → Prop) =>
∃ n, Lp (L2_ref19_Choose a0_metric a1_l sL1 J2) n ((t3, 0, 0, ()), hJ1)
def L1_ref19_Choose (a0_metric : Int) (a1_l : Sl) (a2_p : Int) (a3_first : Int) (K : Sl → Hp → Prop) (sL1 : (Sl × Unit) × Hp) (R1 : (Sl × Unit) × Hp → Prop) : Prop :=
Jn (J1_ref19_Choose a0_metric a1_l a3_first K sL1 R1) fun (J1 : Unit → Hp → Prop) =>
cnd (decide ((sL1.1.1.len : Int) < a2_p)) (
cnd (decide ((a1_l.len : Int) > 0)) (
J1 (()) sL1.2) (
K (Sl.mk sL1.1.1.a sL1.1.1.len sL1.1.1.cap) sL1.2)) (
K (Sl.mk sL1.1.1.a sL1.1.1.len sL1.1.1.cap) sL1.2)
def F_ref19_Choose (a0_metric : Int) (a1_l : Sl) (a2_p : Int) (a3_first : Int) (h : Hp) (K : Sl → Hp → Prop) : Prop :=
∃ n, Lp (L1_ref19_Choose a0_metric a1_l a2_p a3_first K) n (((Sl.mk none 0 0), ()), h)

theorem F_ref19_Choose_ok (a0_metric : Int) (a1_l : Sl) (a2_p : Int) (a3_first : Int) (h : Hp) (K : Sl → Hp → Prop) (hF : F_ref19_Choose a0_metric a1_l a2_p a3_first h K) : C_ref19_Choose a0_metric a1_l a2_p a3_first h K := by
  have e : bodyVC Try.prog Try.f13 (.seq .no (.seq .no (.seq (.block (.loop [(9, .at .sl)] (.join [] (.seq .no (.cond .no .no)) (.block (.seq .no (.join [(10, .at (.int .i64)), (11, .at (.int .i64))] (.seq .no (.block (.loop [(10, .at (.int .i64)), (11, .at (.int .i64)), (12, .at (.int .i64))] (.join [] (.seq .no (.cond .no .no)) (.seq (.block (.seq .no (.seq .no (.cond (.seq .no .no) .no)))) .no))))) (.seq (.seq .no (.cond (.seq .no .no) .no)) .no))))))) (.seq .no .no)))) (Option.getD Try.f13.body .skip) [.int .i64 a0_metric, .slice a1_l.a a1_l.len a1_l.cap, .int .i64 a2_p, .int .i64 a3_first] h [.at .sl] (fun s h => K s.1 h) = F_ref19_Choose a0_metric a1_l a2_p a3_first h K := by kernel_rfl
  exact fun_sound mixed Try.func13 rfl (e.mpr hF)

def F_metric_Meter_Calls (a0_m : Option Addr) (h : Hp) (K : Int → Hp → Prop) : Prop :=
cnd (Option.isNone a0_m) (
K 0 h) (
someA a0_m fun (p1 : Addr) =>
ldA (.int .i64) h (Addr.add p1 1) fun (t2 : Int) =>
K t2 h)

theorem F_metric_Meter_Calls_ok (a0_m : Option Addr) (h : Hp) (K : Int → Hp → Prop) (hF : F_metric_Meter_Calls a0_m h K) : C_metric_Meter_Calls a0_m h K := by
  have e : bodyVC Try.prog Try.f14 (.seq .no (.seq (.seq .no (.cond (.seq .no .no) .no)) (.seq .no .no))) (Option.getD Try.f14.body .skip) [.pointer a0_m] h [.at (.int .i64)] (fun s h => K s.1 h) = F_metric_Meter_Calls a0_m h K := by kernel_rfl
  exact fun_sound mixed Try.func14 rfl (e.mpr hF)

def J1_pivots_Spread (K : Int → Hp → Prop) (t1 : Sl) (sJ1 : Bool × Unit) (hJ1 : Hp) : Prop :=
cnd sJ1.1 (
K 0 hJ1) (
C_pivots_farthest t1 hJ1 fun (t3 : Int) (h4 : Hp) =>
idxS t1.a t1.len t3 1 fun (p5 : Addr) =>
ldA (.int .i64) h4 p5 fun (t6 : Int) =>
K t6 h4)
def J2_pivots_Spread (a0_m : Option Addr) (a1_l : Sl) (t1 : Sl) (sL1 : (Bool × Int × Unit) × Hp) (R1 : (Bool × Int × Unit) × Hp → Prop) (t8 : Int) (sJ2 : Bool × Unit) (hJ2 : Hp) : Prop :=
cnd sJ2.1 (
idxS a1_l.a a1_l.len t8 3 fun (p9 : Addr) =>
ldA (.int .i64) hJ2 p9 fun (t10 : Int) =>
ldA .sl hJ2 (Addr.add p9 1) fun (t11 : Sl) =>
ldA .str hJ2 (Addr.add p9 2) fun (t12 : ByteArray) =>
C_pivots_closer a0_m a1_l t1 t10 t11 t12 hJ2 fun  (h13 : Hp) =>
Let (IntKind.wrap .i64 (sL1.1.2.1 + 1) : Int) fun (t14 : Int) =>
R1 ((false, t14, ()), h13)) (
Let (IntKind.wrap .i64 (sL1.1.2.1 + 1) : Int) fun (t15 : Int) =>
R1 ((sL1.1.1, t15, ()), hJ2))
def L1_pivots_Spread (a0_m : Option Addr) (a1_l : Sl) (a2_chosen : Sl) (t1 : Sl) (J1 : Bool × Unit → Hp → Prop) (sL1 : (Bool × Int × Unit) × Hp) (R1 : (Bool × Int × Unit) × Hp → Prop) : Prop :=
cnd (decide (sL1.1.2.1 < (a2_chosen.len : Int))) (
idxS a2_chosen.a a2_chosen.len sL1.1.2.1 1 fun (p7 : Addr) =>
ldA (.int .i64) sL1.2 p7 fun (t8 : Int) =>
Jn (J2_pivots_Spread a0_m a1_l t1 sL1 R1 t8) fun (J2 : Bool × Unit → Hp → Prop) =>
cnd (decide (t8 ≥ 0)) (
J2 (decide (t8 < (a1_l.len : Int)), ()) sL1.2) (
J2 (false, ()) sL1.2)) (
J1 (sL1.1.1, ()) sL1.2)
def F_pivots_Spread (a0_m : Option Addr) (a1_l : Sl) (a2_chosen : Sl) (h : Hp) (K : Int → Hp → Prop) : Prop :=
C_pivots_start (a1_l.len : Int) h fun (t1 : Sl) (h2 : Hp) =>
Jn (J1_pivots_Spread K t1) fun (J1 : Bool × Unit → Hp → Prop) =>
∃ n, Lp (L1_pivots_Spread a0_m a1_l a2_chosen t1 J1) n ((true, 0, ()), h2)

theorem F_pivots_Spread_ok (a0_m : Option Addr) (a1_l : Sl) (a2_chosen : Sl) (h : Hp) (K : Int → Hp → Prop) (hF : F_pivots_Spread a0_m a1_l a2_chosen h K) : C_pivots_Spread a0_m a1_l a2_chosen h K := by
  have e : bodyVC Try.prog Try.f15 (.seq .no (.seq .no (.seq .no (.join [(8, .at .bool)] (.seq .no (.block (.loop [(8, .at .bool), (16, .at (.int .i64))] (.seq .no (.seq (.cond .no .no) (.seq (.block (.seq .no (.join [(27, .at .bool)] .no (.cond (.seq .no .no) .no)))) .no)))))) (.seq (.seq .no (.cond (.seq .no .no) .no)) (.seq .no .no)))))) (Option.getD Try.f15.body .skip) [.pointer a0_m, .slice a1_l.a a1_l.len a1_l.cap, .slice a2_chosen.a a2_chosen.len a2_chosen.cap] h [.at (.int .i64)] (fun s h => K s.1 h) = F_pivots_Spread a0_m a1_l a2_chosen h K := by kernel_rfl
  exact fun_sound mixed Try.func15 rfl (e.mpr hF)

def F_law19_lives_1 (a0_n : Int) (h : Hp) (K : Int → Sl → ByteArray → Hp → Prop) : Prop :=
Let (Array.push h (Obj.cells #[.int .i64 0, .slice none 0 0, .string (ByteArray.mk #[])] 34)) fun (h1 : Hp) =>
Let (Addr.mk (Array.size h) 0 none) fun (p2 : Addr) =>
Let (Array.push h1 (Obj.cells #[.int .i32 a0_n] 21)) fun (h3 : Hp) =>
Let (Addr.mk (Array.size h1) 0 none) fun (p4 : Addr) =>
stC h3 p2 (
Let (hset h3 p2 (.int .i64 1)) fun (h5 : Hp) =>
stC h5 (Addr.add p2 1) (
Let (hset h5 (Addr.add p2 1) (.slice (some p4) 1 1)) fun (h6 : Hp) =>
stC h6 (Addr.add p2 2) (
Let (hset h6 (Addr.add p2 2) (.string (ByteArray.mk #[]))) fun (h7 : Hp) =>
ldA (.int .i64) h7 p2 fun (r8 : Int) =>
ldA .sl h7 (Addr.add p2 1) fun (r9 : Sl) =>
ldA .str h7 (Addr.add p2 2) fun (r10 : ByteArray) =>
K r8 r9 r10 h7)))

theorem F_law19_lives_1_ok (a0_n : Int) (h : Hp) (K : Int → Sl → ByteArray → Hp → Prop) (hF : F_law19_lives_1 a0_n h K) : C_law19_lives_1 a0_n h K := by
  have e : bodyVC Try.prog Try.f16 (.seq .no (.seq .no .no)) (Option.getD Try.f16.body .skip) [.int .i32 a0_n] h [.agg [(.int .i64), .sl, .str]] (fun s h => K s.1.1 s.1.2.1 s.1.2.2.1 h) = F_law19_lives_1 a0_n h K := by kernel_rfl
  exact fun_sound mixed Try.func16 rfl (e.mpr hF)

def L1_pivots_start (K : Sl → Hp → Prop) (t1 : Sl) (sL1 : (Int × Unit) × Hp) (R1 : (Int × Unit) × Hp → Prop) : Prop :=
cnd (decide (sL1.1.1 < (t1.len : Int))) (
idxS t1.a t1.len sL1.1.1 1 fun (p3 : Addr) =>
((1 : Nat) = 1) ∧ (
stC sL1.2 p3 (
Let (hset sL1.2 p3 (.int .i64 1125899906842624)) fun (h4 : Hp) =>
Let (IntKind.wrap .i64 (sL1.1.1 + 1) : Int) fun (t5 : Int) =>
R1 ((t5, ()), h4)))) (
K t1 sL1.2)
def F_pivots_start (a0_n : Int) (h : Hp) (K : Sl → Hp → Prop) : Prop :=
mkS 3 1 8 [.int .i64 0] a0_n a0_n h fun (t1 : Sl) (h2 : Hp) =>
∃ n, Lp (L1_pivots_start K t1) n ((0, ()), h2)

theorem F_pivots_start_ok (a0_n : Int) (h : Hp) (K : Sl → Hp → Prop) (hF : F_pivots_start a0_n h K) : C_pivots_start a0_n h K := by
  have e : bodyVC Try.prog Try.f17 (.seq .no (.seq .no (.seq (.seq .no (.block (.loop [(9, .at (.int .i64))] (.seq .no (.seq (.cond .no .no) (.seq (.block (.seq .no .no)) .no)))))) (.seq .no .no)))) (Option.getD Try.f17.body .skip) [.int .i64 a0_n] h [.at .sl] (fun s h => K s.1 h) = F_pivots_start a0_n h K := by kernel_rfl
  exact fun_sound mixed Try.func17 rfl (e.mpr hF)

def L1_pivots_closer (a0_m : Option Addr) (a1_l : Sl) (a2_least : Sl) (K : Hp → Prop) (p2 : Addr) (sL1 : (Int × Unit) × Hp) (R1 : (Int × Unit) × Hp → Prop) : Prop :=
cnd (decide (sL1.1.1 < (a1_l.len : Int))) (
idxS a1_l.a a1_l.len sL1.1.1 3 fun (p3 : Addr) =>
ldA (.int .i64) sL1.2 p3 fun (t4 : Int) =>
ldA .sl sL1.2 (Addr.add p3 1) fun (t5 : Sl) =>
ldA .str sL1.2 (Addr.add p3 2) fun (t6 : ByteArray) =>
Let (Array.push sL1.2 (Obj.cells #[.int .i64 0, .slice none 0 0, .string (ByteArray.mk #[])] 34)) fun (h7 : Hp) =>
Let (Addr.mk (Array.size sL1.2) 0 none) fun (p8 : Addr) =>
stC h7 p8 (
Let (hset h7 p8 (.int .i64 t4)) fun (h9 : Hp) =>
stC h9 (Addr.add p8 1) (
Let (hset h9 (Addr.add p8 1) (.slice t5.a t5.len t5.cap)) fun (h10 : Hp) =>
stC h10 (Addr.add p8 2) (
Let (hset h10 (Addr.add p8 2) (.string t6)) fun (h11 : Hp) =>
∃ (S12 : List Nat),
idxS a2_least.a a2_least.len sL1.1.1 1 fun (p13 : Addr) =>
(Addr.block p13 ∉ S12) ∧ (
ldA (.int .i64) h11 p13 fun (t14 : Int) =>
(Addr.block p2 ∉ S12) ∧ (
ldA (.int .i64) h11 p2 fun (t15 : Int) =>
ldA .sl h11 (Addr.add p2 1) fun (t16 : Sl) =>
ldA .str h11 (Addr.add p2 2) fun (t17 : ByteArray) =>
(Addr.block p8 ∉ S12) ∧ (
ldA (.int .i64) h11 p8 fun (t18 : Int) =>
ldA .sl h11 (Addr.add p8 1) fun (t19 : Sl) =>
ldA .str h11 (Addr.add p8 2) fun (t20 : ByteArray) =>
C_metric_Meter_Dist a0_m t15 t16 t17 t18 t19 t20 h11 fun (t21 : Int) (h22 : Hp) =>
ExtS S12 h11 h22 ∧ (
Let (if t21 < t14 then t21 else t14 : Int) fun (t23 : Int) =>
idxS a2_least.a a2_least.len sL1.1.1 1 fun (p24 : Addr) =>
((1 : Nat) = 1) ∧ (
stC h22 p24 (
Let (hset h22 p24 (.int .i64 t23)) fun (h25 : Hp) =>
Let (IntKind.wrap .i64 (sL1.1.1 + 1) : Int) fun (t26 : Int) =>
R1 ((t26, ()), h25))))))))))) (
K sL1.2)
def F_pivots_closer (a0_m : Option Addr) (a1_l : Sl) (a2_least : Sl) (a3_x : Int) (a4_x : Sl) (a5_x : ByteArray) (h : Hp) (K : Hp → Prop) : Prop :=
Let (Array.push h (Obj.cells #[.int .i64 a3_x, .slice a4_x.a a4_x.len a4_x.cap, .string a5_x] 34)) fun (h1 : Hp) =>
Let (Addr.mk (Array.size h) 0 none) fun (p2 : Addr) =>
∃ n, Lp (L1_pivots_closer a0_m a1_l a2_least K p2) n ((0, ()), h1)

theorem F_pivots_closer_ok (a0_m : Option Addr) (a1_l : Sl) (a2_least : Sl) (a3_x : Int) (a4_x : Sl) (a5_x : ByteArray) (h : Hp) (K : Hp → Prop) (hF : F_pivots_closer a0_m a1_l a2_least a3_x a4_x a5_x h K) : C_pivots_closer a0_m a1_l a2_least a3_x a4_x a5_x h K := by
  have e : bodyVC Try.prog Try.f18 (.seq .no (.seq .no (.block (.loop [(12, .at (.int .i64))] (.seq .no (.seq (.cond .no .no) (.seq (.block (.seq .no .dr)) .no))))))) (Option.getD Try.f18.body .skip) [.pointer a0_m, .slice a1_l.a a1_l.len a1_l.cap, .slice a2_least.a a2_least.len a2_least.cap, .agg #[.int .i64 a3_x, .slice a4_x.a a4_x.len a4_x.cap, .string a5_x]] h [] (fun s h => K h) = F_pivots_closer a0_m a1_l a2_least a3_x a4_x a5_x h K := by kernel_rfl
  exact fun_sound mixed Try.func18 rfl (e.mpr hF)

def L1_pivots_farthest (a0_least : Sl) (K : Int → Hp → Prop) (sL1 : (Int × Int × Unit) × Hp) (R1 : (Int × Int × Unit) × Hp → Prop) : Prop :=
cnd (decide (sL1.1.2.1 < (a0_least.len : Int))) (
idxS a0_least.a a0_least.len sL1.1.2.1 1 fun (p1 : Addr) =>
ldA (.int .i64) sL1.2 p1 fun (t2 : Int) =>
idxS a0_least.a a0_least.len sL1.1.1 1 fun (p3 : Addr) =>
ldA (.int .i64) sL1.2 p3 fun (t4 : Int) =>
cnd (decide (t2 > t4)) (
Let (IntKind.wrap .i64 (sL1.1.2.1 + 1) : Int) fun (t5 : Int) =>
R1 ((sL1.1.2.1, t5, ()), sL1.2)) (
Let (IntKind.wrap .i64 (sL1.1.2.1 + 1) : Int) fun (t6 : Int) =>
R1 ((sL1.1.1, t6, ()), sL1.2))) (
K sL1.1.1 sL1.2)
def F_pivots_farthest (a0_least : Sl) (h : Hp) (K : Int → Hp → Prop) : Prop :=
∃ n, Lp (L1_pivots_farthest a0_least K) n ((0, 0, ()), h)

theorem F_pivots_farthest_ok (a0_least : Sl) (h : Hp) (K : Int → Hp → Prop) (hF : F_pivots_farthest a0_least h K) : C_pivots_farthest a0_least h K := by
  have e : bodyVC Try.prog Try.f19 (.seq .no (.seq .no (.seq (.seq .no (.block (.loop [(3, .at (.int .i64)), (8, .at (.int .i64))] (.seq .no (.seq (.cond .no .no) (.seq (.block (.seq .no (.seq .no (.cond .no .no)))) .no)))))) (.seq .no .no)))) (Option.getD Try.f19.body .skip) [.slice a0_least.a a0_least.len a0_least.cap] h [.at (.int .i64)] (fun s h => K s.1 h) = F_pivots_farthest a0_least h K := by kernel_rfl
  exact fun_sound mixed Try.func19 rfl (e.mpr hF)

def L1_ref06_Dist (K : Int → Hp → Prop) (t1 : Sl) (t3 : Sl) (sL1 : (Int × Int × Unit) × Hp) (R1 : (Int × Int × Unit) × Hp → Prop) : Prop :=
cnd (decide (sL1.1.2.1 < (t1.len : Int))) (
idxS t1.a t1.len sL1.1.2.1 1 fun (p5 : Addr) =>
ldA (.int .i32) sL1.2 p5 fun (t6 : Int) =>
idxS t3.a t3.len sL1.1.2.1 1 fun (p7 : Addr) =>
ldA (.int .i32) sL1.2 p7 fun (t8 : Int) =>
cnd (decide (t6 > t8)) (
idxS t1.a t1.len sL1.1.2.1 1 fun (p9 : Addr) =>
ldA (.int .i32) sL1.2 p9 fun (t10 : Int) =>
Let (IntKind.wrap .i64 (t10) : Int) fun (t11 : Int) =>
idxS t3.a t3.len sL1.1.2.1 1 fun (p12 : Addr) =>
ldA (.int .i32) sL1.2 p12 fun (t13 : Int) =>
Let (IntKind.wrap .i64 (t13) : Int) fun (t14 : Int) =>
Let (IntKind.wrap .i64 (t11 - t14) : Int) fun (t15 : Int) =>
Let (IntKind.wrap .i64 (sL1.1.1 + t15) : Int) fun (t16 : Int) =>
Let (IntKind.wrap .i64 (sL1.1.2.1 + 1) : Int) fun (t17 : Int) =>
R1 ((t16, t17, ()), sL1.2)) (
idxS t3.a t3.len sL1.1.2.1 1 fun (p18 : Addr) =>
ldA (.int .i32) sL1.2 p18 fun (t19 : Int) =>
Let (IntKind.wrap .i64 (t19) : Int) fun (t20 : Int) =>
idxS t1.a t1.len sL1.1.2.1 1 fun (p21 : Addr) =>
ldA (.int .i32) sL1.2 p21 fun (t22 : Int) =>
Let (IntKind.wrap .i64 (t22) : Int) fun (t23 : Int) =>
Let (IntKind.wrap .i64 (t20 - t23) : Int) fun (t24 : Int) =>
Let (IntKind.wrap .i64 (sL1.1.1 + t24) : Int) fun (t25 : Int) =>
Let (IntKind.wrap .i64 (sL1.1.2.1 + 1) : Int) fun (t26 : Int) =>
R1 ((t25, t26, ()), sL1.2))) (
K sL1.1.1 sL1.2)
def F_ref06_Dist (a0_a : Sl) (a1_b : Sl) (h : Hp) (K : Int → Hp → Prop) : Prop :=
C_ref06_pad a0_a (a1_b.len : Int) h fun (t1 : Sl) (h2 : Hp) =>
C_ref06_pad a1_b (t1.len : Int) h2 fun (t3 : Sl) (h4 : Hp) =>
∃ n, Lp (L1_ref06_Dist K t1 t3) n ((0, 0, ()), h4)

theorem F_ref06_Dist_ok (a0_a : Sl) (a1_b : Sl) (h : Hp) (K : Int → Hp → Prop) (hF : F_ref06_Dist a0_a a1_b h K) : C_ref06_Dist a0_a a1_b h K := by
  have e : bodyVC Try.prog Try.f20 (.seq .no (.seq .no (.seq .no (.seq .no (.seq (.seq .no (.block (.loop [(5, .at (.int .i64)), (6, .at (.int .i64))] (.seq (.seq .no (.cond .no .no)) (.seq (.block (.seq .no (.cond .no .no))) .no))))) (.seq .no .no)))))) (Option.getD Try.f20.body .skip) [.slice a0_a.a a0_a.len a0_a.cap, .slice a1_b.a a1_b.len a1_b.cap] h [.at (.int .i64)] (fun s h => K s.1 h) = F_ref06_Dist a0_a a1_b h K := by kernel_rfl
  exact fun_sound mixed Try.func20 rfl (e.mpr hF)

def J2_ref07_Dist (sL1 : (Int × Int × Unit) × Hp) (R1 : (Int × Int × Unit) × Hp → Prop) (sJ2 : Bool × Unit) (hJ2 : Hp) : Prop :=
cnd sJ2.1 (
Let (IntKind.wrap .i64 (sL1.1.1 + 1) : Int) fun (t1 : Int) =>
Let (IntKind.wrap .i64 (sL1.1.2.1 + 1) : Int) fun (t2 : Int) =>
R1 ((t1, t2, ()), hJ2)) (
Let (IntKind.wrap .i64 (sL1.1.2.1 + 1) : Int) fun (t3 : Int) =>
R1 ((sL1.1.1, t3, ()), hJ2))
def J1_ref07_Dist (a0_a : ByteArray) (a1_b : ByteArray) (sL1 : (Int × Int × Unit) × Hp) (R1 : (Int × Int × Unit) × Hp → Prop) (sJ1 : Unit) (hJ1 : Hp) : Prop :=
Jn (J2_ref07_Dist sL1 R1) fun (J2 : Bool × Unit → Hp → Prop) =>
cnd (decide (sL1.1.2.1 ≥ (ByteArray.size a0_a : Int))) (
J2 (true, ()) hJ1) (
cnd (decide (sL1.1.2.1 ≥ (ByteArray.size a1_b : Int))) (
J2 (true, ()) hJ1) (
idxStr a0_a sL1.1.2.1 fun (t4 : Int) =>
idxStr a1_b sL1.1.2.1 fun (t5 : Int) =>
J2 ((t4 != t5), ()) hJ1))
def L1_ref07_Dist (a0_a : ByteArray) (a1_b : ByteArray) (K : Int → Hp → Prop) (sL1 : (Int × Int × Unit) × Hp) (R1 : (Int × Int × Unit) × Hp → Prop) : Prop :=
Jn (J1_ref07_Dist a0_a a1_b sL1 R1) fun (J1 : Unit → Hp → Prop) =>
cnd (decide (sL1.1.2.1 < (ByteArray.size a0_a : Int))) (
J1 (()) sL1.2) (
cnd (decide (sL1.1.2.1 < (ByteArray.size a1_b : Int))) (
J1 (()) sL1.2) (
K sL1.1.1 sL1.2))
def F_ref07_Dist (a0_a : ByteArray) (a1_b : ByteArray) (h : Hp) (K : Int → Hp → Prop) : Prop :=
∃ n, Lp (L1_ref07_Dist a0_a a1_b K) n ((0, 0, ()), h)

theorem F_ref07_Dist_ok (a0_a : ByteArray) (a1_b : ByteArray) (h : Hp) (K : Int → Hp → Prop) (hF : F_ref07_Dist a0_a a1_b h K) : C_ref07_Dist a0_a a1_b h K := by
  have e : bodyVC Try.prog Try.f21 (.seq .no (.seq .no (.seq (.seq .no (.block (.loop [(5, .at (.int .i64)), (6, .at (.int .i64))] (.join [] (.seq .no (.cond .no .no)) (.seq (.block (.join [(37, .at .bool)] .no (.cond .no .no))) .no))))) (.seq .no .no)))) (Option.getD Try.f21.body .skip) [.string a0_a, .string a1_b] h [.at (.int .i64)] (fun s h => K s.1 h) = F_ref07_Dist a0_a a1_b h K := by kernel_rfl
  exact fun_sound mixed Try.func21 rfl (e.mpr hF)

def J1_ref08_Dist (a0_a : ByteArray) (a1_b : ByteArray) (K : Int → Hp → Prop) (sJ1 : Sl × Unit) (hJ1 : Hp) : Prop :=
idxS sJ1.1.a sJ1.1.len (ByteArray.size a0_a : Int) 1 fun (p1 : Addr) =>
ldA .sl hJ1 p1 fun (t2 : Sl) =>
idxS t2.a t2.len (ByteArray.size a1_b : Int) 1 fun (p3 : Addr) =>
ldA (.int .i64) hJ1 p3 fun (t4 : Int) =>
K t4 hJ1
def J3_ref08_Dist (sL1 : (Sl × Int × Unit) × Hp) (sL2 : (Sl × Int × Unit) × Hp) (R2 : (Sl × Int × Unit) × Hp → Prop) (sJ3 : Int × Unit) (hJ3 : Hp) : Prop :=
Let (IntKind.wrap .i64 (sL1.1.2.1 - 1) : Int) fun (t12 : Int) =>
idxS sL1.1.1.a sL1.1.1.len t12 1 fun (p13 : Addr) =>
ldA .sl hJ3 p13 fun (t14 : Sl) =>
idxS t14.a t14.len sL2.1.2.1 1 fun (p15 : Addr) =>
ldA (.int .i64) hJ3 p15 fun (t16 : Int) =>
Let (IntKind.wrap .i64 (t16 + 1) : Int) fun (t17 : Int) =>
Let (IntKind.wrap .i64 (sL2.1.2.1 - 1) : Int) fun (t18 : Int) =>
idxS sL2.1.1.a sL2.1.1.len t18 1 fun (p19 : Addr) =>
ldA (.int .i64) hJ3 p19 fun (t20 : Int) =>
Let (IntKind.wrap .i64 (t20 + 1) : Int) fun (t21 : Int) =>
Let (if t17 < sJ3.1 then t17 else sJ3.1 : Int) fun (t22 : Int) =>
Let (if t21 < t22 then t21 else t22 : Int) fun (t23 : Int) =>
Let (Array.push hJ3 (Obj.cells #[.int .i64 t23] 3)) fun (h24 : Hp) =>
Let (Addr.mk (Array.size hJ3) 0 none) fun (p25 : Addr) =>
appS 3 1 8 [.int .i64 0] sL2.1.1.a sL2.1.1.len sL2.1.1.cap (.slice (some p25) 1 1) h24 fun (t26 : Sl) (h27 : Hp) =>
Let (IntKind.wrap .i64 (sL2.1.2.1 + 1) : Int) fun (t28 : Int) =>
R2 ((t26, t28, ()), h27)
def J2_ref08_Dist (a0_a : ByteArray) (a1_b : ByteArray) (sL1 : (Sl × Int × Unit) × Hp) (sL2 : (Sl × Int × Unit) × Hp) (R2 : (Sl × Int × Unit) × Hp → Prop) (t5 : Int) (sJ2 : Bool × Unit) (hJ2 : Hp) : Prop :=
cnd sJ2.1 (
Let (IntKind.wrap .i64 (sL1.1.2.1 - 1) : Int) fun (t6 : Int) =>
idxS sL1.1.1.a sL1.1.1.len t6 1 fun (p7 : Addr) =>
ldA .sl hJ2 p7 fun (t8 : Sl) =>
Let (IntKind.wrap .i64 (sL2.1.2.1 - 1) : Int) fun (t9 : Int) =>
idxS t8.a t8.len t9 1 fun (p10 : Addr) =>
ldA (.int .i64) hJ2 p10 fun (t11 : Int) =>
Jn (J3_ref08_Dist sL1 sL2 R2) fun (J3 : Int × Unit → Hp → Prop) =>
Let (IntKind.wrap .i64 (sL1.1.2.1 - 1) : Int) fun (t29 : Int) =>
idxStr a0_a t29 fun (t30 : Int) =>
Let (IntKind.wrap .i64 (sL2.1.2.1 - 1) : Int) fun (t31 : Int) =>
idxStr a1_b t31 fun (t32 : Int) =>
cnd (t30 != t32) (
Let (IntKind.wrap .i64 (t11 + 1) : Int) fun (t33 : Int) =>
J3 (t33, ()) hJ2) (
J3 (t11, ()) hJ2)) (
Let (Array.push hJ2 (Obj.cells #[.int .i64 t5] 3)) fun (h34 : Hp) =>
Let (Addr.mk (Array.size hJ2) 0 none) fun (p35 : Addr) =>
appS 3 1 8 [.int .i64 0] sL2.1.1.a sL2.1.1.len sL2.1.1.cap (.slice (some p35) 1 1) h34 fun (t36 : Sl) (h37 : Hp) =>
Let (IntKind.wrap .i64 (sL2.1.2.1 + 1) : Int) fun (t38 : Int) =>
R2 ((t36, t38, ()), h37))
def L2_ref08_Dist (a0_a : ByteArray) (a1_b : ByteArray) (sL1 : (Sl × Int × Unit) × Hp) (R1 : (Sl × Int × Unit) × Hp → Prop) (sL2 : (Sl × Int × Unit) × Hp) (R2 : (Sl × Int × Unit) × Hp → Prop) : Prop :=
cnd (decide (sL2.1.2.1 ≤ (ByteArray.size a1_b : Int))) (
Let (IntKind.wrap .i64 (sL1.1.2.1 + sL2.1.2.1) : Int) fun (t5 : Int) =>
Jn (J2_ref08_Dist a0_a a1_b sL1 sL2 R2 t5) fun (J2 : Bool × Unit → Hp → Prop) =>
cnd (decide (sL1.1.2.1 > 0)) (
J2 (decide (sL2.1.2.1 > 0), ()) sL2.2) (
J2 (false, ()) sL2.2)) (
Let (Array.push sL2.2 (Obj.cells #[.slice sL2.1.1.a sL2.1.1.len sL2.1.1.cap] 27)) fun (h39 : Hp) =>
Let (Addr.mk (Array.size sL2.2) 0 none) fun (p40 : Addr) =>
appS 27 1 24 [.slice none 0 0] sL1.1.1.a sL1.1.1.len sL1.1.1.cap (.slice (some p40) 1 1) h39 fun (t41 : Sl) (h42 : Hp) =>
Let (IntKind.wrap .i64 (sL1.1.2.1 + 1) : Int) fun (t43 : Int) =>
R1 ((t41, t43, ()), h42))
def L1_ref08_Dist (a0_a : ByteArray) (a1_b : ByteArray) (J1 : Sl × Unit → Hp → Prop) (sL1 : (Sl × Int × Unit) × Hp) (R1 : (Sl × Int × Unit) × Hp → Prop) : Prop :=
cnd (decide (sL1.1.2.1 ≤ (ByteArray.size a0_a : Int))) (
∃ n, Lp (L2_ref08_Dist a0_a a1_b sL1 R1) n (((Sl.mk none 0 0), 0, ()), sL1.2)) (
J1 ((Sl.mk sL1.1.1.a sL1.1.1.len sL1.1.1.cap), ()) sL1.2)
def F_ref08_Dist (a0_a : ByteArray) (a1_b : ByteArray) (h : Hp) (K : Int → Hp → Prop) : Prop :=
Jn (J1_ref08_Dist a0_a a1_b K) fun (J1 : Sl × Unit → Hp → Prop) =>
∃ n, Lp (L1_ref08_Dist a0_a a1_b J1) n (((Sl.mk none 0 0), 0, ()), h)

theorem F_ref08_Dist_ok (a0_a : ByteArray) (a1_b : ByteArray) (h : Hp) (K : Int → Hp → Prop) (hF : F_ref08_Dist a0_a a1_b h K) : C_ref08_Dist a0_a a1_b h K := by
  have e : bodyVC Try.prog Try.f22 (.seq .no (.seq .no (.join [(5, .at .sl)] (.seq .no (.block (.loop [(5, .at .sl), (6, .at (.int .i64))] (.seq (.seq .no (.cond .no .no)) (.seq (.block (.seq .no (.seq (.seq .no (.block (.loop [(7, .at .sl), (8, .at (.int .i64))] (.seq (.seq .no (.cond .no .no)) (.seq (.block (.seq .no (.seq (.join [(30, .at .bool)] .no (.cond (.seq .no (.join [(9, .at (.int .i64))] (.seq .no (.cond .no .no)) .no)) .no)) .no))) .no))))) .no))) .no))))) (.seq .no .no)))) (Option.getD Try.f22.body .skip) [.string a0_a, .string a1_b] h [.at (.int .i64)] (fun s h => K s.1 h) = F_ref08_Dist a0_a a1_b h K := by kernel_rfl
  exact fun_sound mixed Try.func22 rfl (e.mpr hF)

def F_metric_Meter_Dist (a0_m : Option Addr) (a1_x : Int) (a2_x : Sl) (a3_x : ByteArray) (a4_y : Int) (a5_y : Sl) (a6_y : ByteArray) (h : Hp) (K : Int → Hp → Prop) : Prop :=
Let (Array.push h (Obj.cells #[.int .i64 a1_x, .slice a2_x.a a2_x.len a2_x.cap, .string a3_x] 34)) fun (h1 : Hp) =>
Let (Addr.mk (Array.size h) 0 none) fun (p2 : Addr) =>
Let (Array.push h1 (Obj.cells #[.int .i64 a4_y, .slice a5_y.a a5_y.len a5_y.cap, .string a6_y] 34)) fun (h3 : Hp) =>
Let (Addr.mk (Array.size h1) 0 none) fun (p4 : Addr) =>
cnd (Option.isNone a0_m) (
K 0 h3) (
someA a0_m fun (p5 : Addr) =>
ldA (.int .i64) h3 (Addr.add p5 1) fun (t6 : Int) =>
Let (IntKind.wrap .i64 (t6 + 1) : Int) fun (t7 : Int) =>
someA a0_m fun (p8 : Addr) =>
((1 : Nat) = 1) ∧ (
stC h3 (Addr.add p8 1) (
Let (hset h3 (Addr.add p8 1) (.int .i64 t7)) fun (h9 : Hp) =>
someA a0_m fun (p10 : Addr) =>
ldA (.int .i64) h9 p10 fun (t11 : Int) =>
ldA (.int .i64) h9 p2 fun (t12 : Int) =>
ldA .sl h9 (Addr.add p2 1) fun (t13 : Sl) =>
ldA .str h9 (Addr.add p2 2) fun (t14 : ByteArray) =>
ldA (.int .i64) h9 p4 fun (t15 : Int) =>
ldA .sl h9 (Addr.add p4 1) fun (t16 : Sl) =>
ldA .str h9 (Addr.add p4 2) fun (t17 : ByteArray) =>
C_metric_Dist t11 t12 t13 t14 t15 t16 t17 h9 fun (t18 : Int) (h19 : Hp) =>
K t18 h19)))

theorem F_metric_Meter_Dist_ok (a0_m : Option Addr) (a1_x : Int) (a2_x : Sl) (a3_x : ByteArray) (a4_y : Int) (a5_y : Sl) (a6_y : ByteArray) (h : Hp) (K : Int → Hp → Prop) (hF : F_metric_Meter_Dist a0_m a1_x a2_x a3_x a4_y a5_y a6_y h K) : C_metric_Meter_Dist a0_m a1_x a2_x a3_x a4_y a5_y a6_y h K := by
  have e : bodyVC Try.prog Try.f23 (.seq .no (.seq (.seq .no (.cond (.seq .no .no) .no)) (.seq .no (.seq .no .no)))) (Option.getD Try.f23.body .skip) [.pointer a0_m, .agg #[.int .i64 a1_x, .slice a2_x.a a2_x.len a2_x.cap, .string a3_x], .agg #[.int .i64 a4_y, .slice a5_y.a a5_y.len a5_y.cap, .string a6_y]] h [.at (.int .i64)] (fun s h => K s.1 h) = F_metric_Meter_Dist a0_m a1_x a2_x a3_x a4_y a5_y a6_y h K := by kernel_rfl
  exact fun_sound mixed Try.func23 rfl (e.mpr hF)

def L1_ref06_pad (a1_n : Int) (K : Sl → Hp → Prop) (sL1 : (Sl × Unit) × Hp) (R1 : (Sl × Unit) × Hp → Prop) : Prop :=
cnd (decide ((sL1.1.1.len : Int) < a1_n)) (
Let (Array.push sL1.2 (Obj.cells #[.int .i32 0] 21)) fun (h3 : Hp) =>
Let (Addr.mk (Array.size sL1.2) 0 none) fun (p4 : Addr) =>
appS 21 1 4 [.int .i32 0] sL1.1.1.a sL1.1.1.len sL1.1.1.cap (.slice (some p4) 1 1) h3 fun (t5 : Sl) (h6 : Hp) =>
R1 ((t5, ()), h6)) (
K (Sl.mk sL1.1.1.a sL1.1.1.len sL1.1.1.cap) sL1.2)
def F_ref06_pad (a0_a : Sl) (a1_n : Int) (h : Hp) (K : Sl → Hp → Prop) : Prop :=
appS 21 1 4 [.int .i32 0] none 0 0 (.slice a0_a.a a0_a.len a0_a.cap) h fun (t1 : Sl) (h2 : Hp) =>
∃ n, Lp (L1_ref06_pad a1_n K) n ((t1, ()), h2)

theorem F_ref06_pad_ok (a0_a : Sl) (a1_n : Int) (h : Hp) (K : Sl → Hp → Prop) (hF : F_ref06_pad a0_a a1_n h K) : C_ref06_pad a0_a a1_n h K := by
  have e : bodyVC Try.prog Try.f24 (.seq .no (.seq .no (.seq (.block (.loop [(5, .at .sl)] (.seq (.seq .no (.cond .no .no)) (.block .no)))) (.seq .no .no)))) (Option.getD Try.f24.body .skip) [.slice a0_a.a a0_a.len a0_a.cap, .int .i64 a1_n] h [.at .sl] (fun s h => K s.1 h) = F_ref06_pad a0_a a1_n h K := by kernel_rfl
  exact fun_sound mixed Try.func24 rfl (e.mpr hF)

def F_metric_Dist (a0_metric : Int) (a1_x : Int) (a2_x : Sl) (a3_x : ByteArray) (a4_y : Int) (a5_y : Sl) (a6_y : ByteArray) (h : Hp) (K : Int → Hp → Prop) : Prop :=
Let (Array.push h (Obj.cells #[.int .i64 a1_x, .slice a2_x.a a2_x.len a2_x.cap, .string a3_x] 34)) fun (h1 : Hp) =>
Let (Addr.mk (Array.size h) 0 none) fun (p2 : Addr) =>
Let (Array.push h1 (Obj.cells #[.int .i64 a4_y, .slice a5_y.a a5_y.len a5_y.cap, .string a6_y] 34)) fun (h3 : Hp) =>
Let (Addr.mk (Array.size h1) 0 none) fun (p4 : Addr) =>
cnd (a0_metric == 1) (
ldA .sl h3 (Addr.add p2 1) fun (t5 : Sl) =>
ldA .sl h3 (Addr.add p4 1) fun (t6 : Sl) =>
C_lone_Dist t5 t6 h3 fun (t7 : Int) (h8 : Hp) =>
K t7 h8) (
cnd (a0_metric == 2) (
ldA .str h3 (Addr.add p2 2) fun (t9 : ByteArray) =>
ldA .str h3 (Addr.add p4 2) fun (t10 : ByteArray) =>
C_ham_Dist t9 t10 h3 fun (t11 : Int) (h12 : Hp) =>
K t11 h12) (
cnd (a0_metric == 3) (
ldA .str h3 (Addr.add p2 2) fun (t13 : ByteArray) =>
ldA .str h3 (Addr.add p4 2) fun (t14 : ByteArray) =>
C_lev_Dist t13 t14 h3 fun (t15 : Int) (h16 : Hp) =>
K t15 h16) (
K 0 h3)))

theorem F_metric_Dist_ok (a0_metric : Int) (a1_x : Int) (a2_x : Sl) (a3_x : ByteArray) (a4_y : Int) (a5_y : Sl) (a6_y : ByteArray) (h : Hp) (K : Int → Hp → Prop) (hF : F_metric_Dist a0_metric a1_x a2_x a3_x a4_y a5_y a6_y h K) : C_metric_Dist a0_metric a1_x a2_x a3_x a4_y a5_y a6_y h K := by
  have e : bodyVC Try.prog Try.f25 (.seq .no (.seq (.seq .no (.block (.seq .no (.cond (.seq .no .no) (.seq .no (.cond (.seq .no .no) (.seq .no (.cond (.seq .no .no) .no)))))))) (.seq .no .no))) (Option.getD Try.f25.body .skip) [.int .i64 a0_metric, .agg #[.int .i64 a1_x, .slice a2_x.a a2_x.len a2_x.cap, .string a3_x], .agg #[.int .i64 a4_y, .slice a5_y.a a5_y.len a5_y.cap, .string a6_y]] h [.at (.int .i64)] (fun s h => K s.1 h) = F_metric_Dist a0_metric a1_x a2_x a3_x a4_y a5_y a6_y h K := by kernel_rfl
  exact fun_sound mixed Try.func25 rfl (e.mpr hF)

def F_lone_Dist (a0_a : Sl) (a1_b : Sl) (h : Hp) (K : Int → Hp → Prop) : Prop :=
Let (Array.push h (Obj.cells #[.int .i64 0] 3)) fun (h1 : Hp) =>
Let (Addr.mk (Array.size h) 0 none) fun (p2 : Addr) =>
((1 : Nat) = 1) ∧ (
stC h1 p2 (
Let (hset h1 p2 (.int .i64 0)) fun (h3 : Hp) =>
C_lone_places a0_a a1_b h3 fun (t4 : Value) (h5 : Hp) =>
rngF Try.prog t4 (.at (.int .i64)) h5 (fun (t6 : Int) (h7 : Hp) (Kn8 : Hp → Prop) (Kx9 : Option Nat → Hp → Prop) =>
Rb (Array.size h5) h7 h7 fun (h10 : Hp) =>
ldA (.int .i64) h10 p2 fun (t11 : Int) =>
Let (IntKind.wrap .i64 (t11 + t6) : Int) fun (t12 : Int) =>
((1 : Nat) = 1) ∧ (
stC h10 p2 (
Let (hset h10 p2 (.int .i64 t12)) fun (h13 : Hp) =>
RKeep h10 h13 ∧ Kn8 h13))) (fun (h14 : Hp) =>
ldA (.int .i64) h14 p2 fun (t15 : Int) =>
∀ (h16 : Hp), Stp (Array.size h) h14 h16 → (
K t15 h16)) (StopL (fun (h17 : Hp) =>
∀ (h18 : Hp), Stp (Array.size h) h17 h18 → (
K 0 h18)) [(0, fun (h19 : Hp) =>
ldA (.int .i64) h19 p2 fun (t20 : Int) =>
∀ (h21 : Hp), Stp (Array.size h) h19 h21 → (
K t20 h21))])))

theorem F_lone_Dist_ok (a0_a : Sl) (a1_b : Sl) (h : Hp) (K : Int → Hp → Prop) (hF : F_lone_Dist a0_a a1_b h K) : C_lone_Dist a0_a a1_b h K := by
  have e : bodyVC Try.prog Try.f26 (.seq .no (.seq .no (.seq (.seq .no (.block (.rng (10, .at (.int .i64)) .no (.block .no)))) (.seq .no .no)))) (Option.getD Try.f26.body .skip) [.slice a0_a.a a0_a.len a0_a.cap, .slice a1_b.a a1_b.len a1_b.cap] h [.at (.int .i64)] (fun s h => K s.1 h) = F_lone_Dist a0_a a1_b h K := by kernel_rfl
  exact fun_sound mixed Try.func26 rfl (e.mpr hF)

def F_ham_Dist (a0_a : ByteArray) (a1_b : ByteArray) (h : Hp) (K : Int → Hp → Prop) : Prop :=
C_ham_longer a0_a a1_b h fun (t1 : Int) (h2 : Hp) =>
C_ham_Places a0_a a1_b h2 fun (t3 : Sl) (h4 : Hp) =>
Let (IntKind.wrap .i64 (t1 + (t3.len : Int)) : Int) fun (t5 : Int) =>
K t5 h4

theorem F_ham_Dist_ok (a0_a : ByteArray) (a1_b : ByteArray) (h : Hp) (K : Int → Hp → Prop) (hF : F_ham_Dist a0_a a1_b h K) : C_ham_Dist a0_a a1_b h K := by
  have e : bodyVC Try.prog Try.f27 (.seq .no (.seq .no .no)) (Option.getD Try.f27.body .skip) [.string a0_a, .string a1_b] h [.at (.int .i64)] (fun s h => K s.1 h) = F_ham_Dist a0_a a1_b h K := by kernel_rfl
  exact fun_sound mixed Try.func27 rfl (e.mpr hF)

def J1_lev_Dist (K : Int → Hp → Prop) (t2 : ByteArray) (sJ1 : Sl × Unit) (hJ1 : Hp) : Prop :=
idxS sJ1.1.a sJ1.1.len (ByteArray.size t2 : Int) 1 fun (p6 : Addr) =>
ldA (.int .i64) hJ1 p6 fun (t7 : Int) =>
K t7 hJ1
def L1_lev_Dist (t1 : ByteArray) (t2 : ByteArray) (J1 : Sl × Unit → Hp → Prop) (sL1 : (Sl × Int × Unit) × Hp) (R1 : (Sl × Int × Unit) × Hp → Prop) : Prop :=
cnd (decide (sL1.1.2.1 < (ByteArray.size t1 : Int))) (
idxStr t1 sL1.1.2.1 fun (t8 : Int) =>
C_lev_next (Sl.mk sL1.1.1.a sL1.1.1.len sL1.1.1.cap) t8 t2 sL1.2 fun (t9 : Sl) (h10 : Hp) =>
Let (IntKind.wrap .i64 (sL1.1.2.1 + 1) : Int) fun (t11 : Int) =>
R1 ((t9, t11, ()), h10)) (
J1 ((Sl.mk sL1.1.1.a sL1.1.1.len sL1.1.1.cap), ()) sL1.2)
def F_lev_Dist (a0_a : ByteArray) (a1_b : ByteArray) (h : Hp) (K : Int → Hp → Prop) : Prop :=
C_lev_Trim a0_a a1_b h fun (t1 : ByteArray) (t2 : ByteArray) (h3 : Hp) =>
C_lev_first (ByteArray.size t2 : Int) h3 fun (t4 : Sl) (h5 : Hp) =>
Jn (J1_lev_Dist K t2) fun (J1 : Sl × Unit → Hp → Prop) =>
∃ n, Lp (L1_lev_Dist t1 t2 J1) n ((t4, 0, ()), h5)

theorem F_lev_Dist_ok (a0_a : ByteArray) (a1_b : ByteArray) (h : Hp) (K : Int → Hp → Prop) (hF : F_lev_Dist a0_a a1_b h K) : C_lev_Dist a0_a a1_b h K := by
  have e : bodyVC Try.prog Try.f28 (.seq .no (.seq .no (.seq .no (.join [(5, .at .sl)] (.seq .no (.block (.loop [(5, .at .sl), (18, .at (.int .i64))] (.seq .no (.seq (.cond .no .no) (.seq (.block (.seq .no .no)) .no)))))) (.seq .no .no))))) (Option.getD Try.f28.body .skip) [.string a0_a, .string a1_b] h [.at (.int .i64)] (fun s h => K s.1 h) = F_lev_Dist a0_a a1_b h K := by kernel_rfl
  exact fun_sound mixed Try.func28 rfl (e.mpr hF)

def F_lone_places (a0_a : Sl) (a1_b : Sl) (h : Hp) (K : Value → Hp → Prop) : Prop :=
Let (Array.push h (Obj.cells #[.slice a0_a.a a0_a.len a0_a.cap] 32)) fun (h1 : Hp) =>
Let (Addr.mk (Array.size h) 0 none) fun (p2 : Addr) =>
Let (Array.push h1 (Obj.cells #[.slice a1_b.a a1_b.len a1_b.cap] 32)) fun (h3 : Hp) =>
Let (Addr.mk (Array.size h1) 0 none) fun (p4 : Addr) =>
K (.func (.func 35) #[] #[.pointer (some p2), .pointer (some p4)]) h3

theorem F_lone_places_ok (a0_a : Sl) (a1_b : Sl) (h : Hp) (K : Value → Hp → Prop) (hF : F_lone_places a0_a a1_b h K) : C_lone_places a0_a a1_b h K := by
  have e : bodyVC Try.prog Try.f29 (.seq .no (.seq .no .no)) (Option.getD Try.f29.body .skip) [.slice a0_a.a a0_a.len a0_a.cap, .slice a1_b.a a1_b.len a1_b.cap] h [.at .raw] (fun s h => K s.1 h) = F_lone_places a0_a a1_b h K := by kernel_rfl
  exact fun_sound mixed Try.func29 rfl (e.mpr hF)

def F_ham_longer (a0_a : ByteArray) (a1_b : ByteArray) (h : Hp) (K : Int → Hp → Prop) : Prop :=
Let (IntKind.wrap .i64 ((ByteArray.size a0_a : Int) - (ByteArray.size a1_b : Int)) : Int) fun (t1 : Int) =>
Let (IntKind.wrap .i64 ((ByteArray.size a1_b : Int) - (ByteArray.size a0_a : Int)) : Int) fun (t2 : Int) =>
Let (if t2 > t1 then t2 else t1 : Int) fun (t3 : Int) =>
K t3 h

theorem F_ham_longer_ok (a0_a : ByteArray) (a1_b : ByteArray) (h : Hp) (K : Int → Hp → Prop) (hF : F_ham_longer a0_a a1_b h K) : C_ham_longer a0_a a1_b h K := by
  have e : bodyVC Try.prog Try.f30 (.seq .no (.seq .no .no)) (Option.getD Try.f30.body .skip) [.string a0_a, .string a1_b] h [.at (.int .i64)] (fun s h => K s.1 h) = F_ham_longer a0_a a1_b h K := by kernel_rfl
  exact fun_sound mixed Try.func30 rfl (e.mpr hF)

def L1_ham_Places (a0_a : ByteArray) (a1_b : ByteArray) (K : Sl → Hp → Prop) (t1 : Int) (sL1 : (Sl × Int × Unit) × Hp) (R1 : (Sl × Int × Unit) × Hp → Prop) : Prop :=
cnd (decide (sL1.1.2.1 < t1)) (
idxStr a0_a sL1.1.2.1 fun (t2 : Int) =>
idxStr a1_b sL1.1.2.1 fun (t3 : Int) =>
cnd (t2 != t3) (
Let (Array.push sL1.2 (Obj.cells #[.int .i64 sL1.1.2.1] 3)) fun (h4 : Hp) =>
Let (Addr.mk (Array.size sL1.2) 0 none) fun (p5 : Addr) =>
appS 3 1 8 [.int .i64 0] sL1.1.1.a sL1.1.1.len sL1.1.1.cap (.slice (some p5) 1 1) h4 fun (t6 : Sl) (h7 : Hp) =>
Let (IntKind.wrap .i64 (sL1.1.2.1 + 1) : Int) fun (t8 : Int) =>
R1 ((t6, t8, ()), h7)) (
Let (IntKind.wrap .i64 (sL1.1.2.1 + 1) : Int) fun (t9 : Int) =>
R1 (((Sl.mk sL1.1.1.a sL1.1.1.len sL1.1.1.cap), t9, ()), sL1.2))) (
K (Sl.mk sL1.1.1.a sL1.1.1.len sL1.1.1.cap) sL1.2)
def F_ham_Places (a0_a : ByteArray) (a1_b : ByteArray) (h : Hp) (K : Sl → Hp → Prop) : Prop :=
Let (if (ByteArray.size a1_b : Int) < (ByteArray.size a0_a : Int) then (ByteArray.size a1_b : Int) else (ByteArray.size a0_a : Int) : Int) fun (t1 : Int) =>
∃ n, Lp (L1_ham_Places a0_a a1_b K t1) n (((Sl.mk none 0 0), 0, ()), h)

theorem F_ham_Places_ok (a0_a : ByteArray) (a1_b : ByteArray) (h : Hp) (K : Sl → Hp → Prop) (hF : F_ham_Places a0_a a1_b h K) : C_ham_Places a0_a a1_b h K := by
  have e : bodyVC Try.prog Try.f31 (.seq .no (.seq .no (.seq (.seq .no (.block (.loop [(5, .at .sl), (12, .at (.int .i64))] (.seq .no (.seq (.cond .no .no) (.seq (.block (.seq .no (.seq .no (.cond .no .no)))) .no)))))) (.seq .no .no)))) (Option.getD Try.f31.body .skip) [.string a0_a, .string a1_b] h [.at .sl] (fun s h => K s.1 h) = F_ham_Places a0_a a1_b h K := by kernel_rfl
  exact fun_sound mixed Try.func31 rfl (e.mpr hF)

def J2_lev_Trim (K : ByteArray → ByteArray → Hp → Prop) (t1 : ByteArray) (t2 : ByteArray) (sJ2 : Int × Unit) (hJ2 : Hp) : Prop :=
Let (IntKind.wrap .i64 ((ByteArray.size t1 : Int) - sJ2.1) : Int) fun (t3 : Int) =>
slcStr t1 none (some t3) fun (t4 : ByteArray) =>
Let (IntKind.wrap .i64 ((ByteArray.size t2 : Int) - sJ2.1) : Int) fun (t5 : Int) =>
slcStr t2 none (some t5) fun (t6 : ByteArray) =>
K t4 t6 hJ2
def L1_lev_Trim (t1 : ByteArray) (t2 : ByteArray) (J2 : Int × Unit → Hp → Prop) (sL1 : (Int × Unit) × Hp) (R1 : (Int × Unit) × Hp → Prop) : Prop :=
Let (if (ByteArray.size t2 : Int) < (ByteArray.size t1 : Int) then (ByteArray.size t2 : Int) else (ByteArray.size t1 : Int) : Int) fun (t7 : Int) =>
cnd (decide (sL1.1.1 < t7)) (
Let (IntKind.wrap .i64 ((ByteArray.size t1 : Int) - 1) : Int) fun (t8 : Int) =>
Let (IntKind.wrap .i64 (t8 - sL1.1.1) : Int) fun (t9 : Int) =>
idxStr t1 t9 fun (t10 : Int) =>
Let (IntKind.wrap .i64 ((ByteArray.size t2 : Int) - 1) : Int) fun (t11 : Int) =>
Let (IntKind.wrap .i64 (t11 - sL1.1.1) : Int) fun (t12 : Int) =>
idxStr t2 t12 fun (t13 : Int) =>
cnd (t10 == t13) (
Let (IntKind.wrap .i64 (sL1.1.1 + 1) : Int) fun (t14 : Int) =>
R1 ((t14, ()), sL1.2)) (
J2 (sL1.1.1, ()) sL1.2)) (
J2 (sL1.1.1, ()) sL1.2)
def J1_lev_Trim (a0_a : ByteArray) (a1_b : ByteArray) (K : ByteArray → ByteArray → Hp → Prop) (sJ1 : Int × Unit) (hJ1 : Hp) : Prop :=
slcStr a0_a (some sJ1.1) none fun (t1 : ByteArray) =>
slcStr a1_b (some sJ1.1) none fun (t2 : ByteArray) =>
Jn (J2_lev_Trim K t1 t2) fun (J2 : Int × Unit → Hp → Prop) =>
∃ n, Lp (L1_lev_Trim t1 t2 J2) n ((0, ()), hJ1)
def L2_lev_Trim (a0_a : ByteArray) (a1_b : ByteArray) (J1 : Int × Unit → Hp → Prop) (sL2 : (Int × Unit) × Hp) (R2 : (Int × Unit) × Hp → Prop) : Prop :=
Let (if (ByteArray.size a1_b : Int) < (ByteArray.size a0_a : Int) then (ByteArray.size a1_b : Int) else (ByteArray.size a0_a : Int) : Int) fun (t15 : Int) =>
cnd (decide (sL2.1.1 < t15)) (
idxStr a0_a sL2.1.1 fun (t16 : Int) =>
idxStr a1_b sL2.1.1 fun (t17 : Int) =>
cnd (t16 == t17) (
Let (IntKind.wrap .i64 (sL2.1.1 + 1) : Int) fun (t18 : Int) =>
R2 ((t18, ()), sL2.2)) (
J1 (sL2.1.1, ()) sL2.2)) (
J1 (sL2.1.1, ()) sL2.2)
def F_lev_Trim (a0_a : ByteArray) (a1_b : ByteArray) (h : Hp) (K : ByteArray → ByteArray → Hp → Prop) : Prop :=
Jn (J1_lev_Trim a0_a a1_b K) fun (J1 : Int × Unit → Hp → Prop) =>
∃ n, Lp (L2_lev_Trim a0_a a1_b J1) n ((0, ()), h)

theorem F_lev_Trim_ok (a0_a : ByteArray) (a1_b : ByteArray) (h : Hp) (K : ByteArray → ByteArray → Hp → Prop) (hF : F_lev_Trim a0_a a1_b h K) : C_lev_Trim a0_a a1_b h K := by
  have e : bodyVC Try.prog Try.f32 (.seq .no (.seq .no (.join [(6, .at (.int .i64))] (.block (.loop [(6, .at (.int .i64))] (.seq (.seq .no (.cond .no .no)) (.block .no)))) (.seq .no (.seq .no (.join [(6, .at (.int .i64))] (.block (.loop [(6, .at (.int .i64))] (.seq (.seq .no (.cond .no .no)) (.block .no)))) (.seq .no .no))))))) (Option.getD Try.f32.body .skip) [.string a0_a, .string a1_b] h [.at .str, .at .str] (fun s h => K s.1 s.2.1 h) = F_lev_Trim a0_a a1_b h K := by kernel_rfl
  exact fun_sound mixed Try.func32 rfl (e.mpr hF)

def L1_lev_first (K : Sl → Hp → Prop) (t2 : Sl) (sL1 : (Int × Unit) × Hp) (R1 : (Int × Unit) × Hp → Prop) : Prop :=
cnd (decide (sL1.1.1 < (t2.len : Int))) (
idxS t2.a t2.len sL1.1.1 1 fun (p4 : Addr) =>
((1 : Nat) = 1) ∧ (
stC sL1.2 p4 (
Let (hset sL1.2 p4 (.int .i64 sL1.1.1)) fun (h5 : Hp) =>
Let (IntKind.wrap .i64 (sL1.1.1 + 1) : Int) fun (t6 : Int) =>
R1 ((t6, ()), h5)))) (
K t2 sL1.2)
def F_lev_first (a0_n : Int) (h : Hp) (K : Sl → Hp → Prop) : Prop :=
Let (IntKind.wrap .i64 (a0_n + 1) : Int) fun (t1 : Int) =>
mkS 3 1 8 [.int .i64 0] t1 t1 h fun (t2 : Sl) (h3 : Hp) =>
∃ n, Lp (L1_lev_first K t2) n ((0, ()), h3)

theorem F_lev_first_ok (a0_n : Int) (h : Hp) (K : Sl → Hp → Prop) (hF : F_lev_first a0_n h K) : C_lev_first a0_n h K := by
  have e : bodyVC Try.prog Try.f33 (.seq .no (.seq .no (.seq (.seq .no (.block (.loop [(10, .at (.int .i64))] (.seq .no (.seq (.cond .no .no) (.seq (.block (.seq .no .no)) .no)))))) (.seq .no .no)))) (Option.getD Try.f33.body .skip) [.int .i64 a0_n] h [.at .sl] (fun s h => K s.1 h) = F_lev_first a0_n h K := by kernel_rfl
  exact fun_sound mixed Try.func33 rfl (e.mpr hF)

def J1_lev_next (a0_row : Sl) (sL1 : (Int × Unit) × Hp) (R1 : (Int × Unit) × Hp → Prop) (sJ1 : Int × Unit) (hJ1 : Hp) : Prop :=
Let (IntKind.wrap .i64 (sL1.1.1 + 1) : Int) fun (t12 : Int) =>
idxS a0_row.a a0_row.len t12 1 fun (p13 : Addr) =>
((1 : Nat) = 1) ∧ (
stC hJ1 p13 (
Let (hset hJ1 p13 (.int .i64 sJ1.1)) fun (h14 : Hp) =>
Let (IntKind.wrap .i64 (sL1.1.1 + 1) : Int) fun (t15 : Int) =>
R1 ((t15, ()), h14)))
def L1_lev_next (a0_row : Sl) (a1_c : Int) (a2_b : ByteArray) (K : Sl → Hp → Prop) (t1 : Sl) (sL1 : (Int × Unit) × Hp) (R1 : (Int × Unit) × Hp → Prop) : Prop :=
cnd (decide (sL1.1.1 < (ByteArray.size a2_b : Int))) (
idxS t1.a t1.len sL1.1.1 1 fun (p10 : Addr) =>
ldA (.int .i64) sL1.2 p10 fun (t11 : Int) =>
Jn (J1_lev_next a0_row sL1 R1) fun (J1 : Int × Unit → Hp → Prop) =>
idxStr a2_b sL1.1.1 fun (t16 : Int) =>
cnd (t16 != a1_c) (
Let (IntKind.wrap .i64 (sL1.1.1 + 1) : Int) fun (t17 : Int) =>
idxS t1.a t1.len t17 1 fun (p18 : Addr) =>
ldA (.int .i64) sL1.2 p18 fun (t19 : Int) =>
idxS a0_row.a a0_row.len sL1.1.1 1 fun (p20 : Addr) =>
ldA (.int .i64) sL1.2 p20 fun (t21 : Int) =>
Let (if t19 < t11 then t19 else t11 : Int) fun (t22 : Int) =>
Let (if t21 < t22 then t21 else t22 : Int) fun (t23 : Int) =>
Let (IntKind.wrap .i64 ((1 : Int) + t23) : Int) fun (t24 : Int) =>
J1 (t24, ()) sL1.2) (
J1 (t11, ()) sL1.2)) (
K a0_row sL1.2)
def F_lev_next (a0_row : Sl) (a1_c : Int) (a2_b : ByteArray) (h : Hp) (K : Sl → Hp → Prop) : Prop :=
mkS 3 1 8 [.int .i64 0] (a0_row.len : Int) (a0_row.len : Int) h fun (t1 : Sl) (h2 : Hp) =>
cpS 1 t1.a t1.len (.slice a0_row.a a0_row.len a0_row.cap) h2 fun (t3 : Nat) (h4 : Hp) =>
idxS a0_row.a a0_row.len 0 1 fun (p5 : Addr) =>
ldA (.int .i64) h4 p5 fun (t6 : Int) =>
Let (IntKind.wrap .i64 (t6 + 1) : Int) fun (t7 : Int) =>
idxS a0_row.a a0_row.len 0 1 fun (p8 : Addr) =>
((1 : Nat) = 1) ∧ (
stC h4 p8 (
Let (hset h4 p8 (.int .i64 t7)) fun (h9 : Hp) =>
∃ n, Lp (L1_lev_next a0_row a1_c a2_b K t1) n ((0, ()), h9)))

theorem F_lev_next_ok (a0_row : Sl) (a1_c : Int) (a2_b : ByteArray) (h : Hp) (K : Sl → Hp → Prop) (hF : F_lev_next a0_row a1_c a2_b h K) : C_lev_next a0_row a1_c a2_b h K := by
  have e : bodyVC Try.prog Try.f34 (.seq .no (.seq .no (.seq .no (.seq .no (.seq (.seq .no (.block (.loop [(23, .at (.int .i64))] (.seq .no (.seq (.cond .no .no) (.seq (.block (.seq .no (.seq .no (.join [(9, .at (.int .i64))] (.seq .no (.cond .no .no)) .no)))) .no)))))) (.seq .no .no)))))) (Option.getD Try.f34.body .skip) [.slice a0_row.a a0_row.len a0_row.cap, .int .u8 a1_c, .string a2_b] h [.at .sl] (fun s h => K s.1 h) = F_lev_next a0_row a1_c a2_b h K := by kernel_rfl
  exact fun_sound mixed Try.func34 rfl (e.mpr hF)

def L1_lone_places_1 (a0_yield : Value) (a1_t : Option Addr) (a2_t : Option Addr) (K : Hp → Prop) (t5 : Int) (sL1 : (Int × Unit) × Hp) (R1 : (Int × Unit) × Hp → Prop) : Prop :=
cnd (decide (sL1.1.1 < t5)) (
someA a1_t fun (p6 : Addr) =>
ldA .sl sL1.2 p6 fun (t7 : Sl) =>
C_lone_at t7 sL1.1.1 sL1.2 fun (t8 : Int) (h9 : Hp) =>
Ext sL1.2 h9 ∧ (
someA a2_t fun (p10 : Addr) =>
ldA .sl sL1.2 p10 fun (t11 : Sl) =>
C_lone_at t11 sL1.1.1 h9 fun (t12 : Int) (h13 : Hp) =>
C_lone_apart t8 t12 h13 fun (t14 : Int) (h15 : Hp) =>
callV Try.prog a0_yield [.int .i64 t14] [.at .bool] h15 fun (s : Bool × Unit) (h17 : Hp) =>
cnd (!s.1) (
K h17) (
Let (IntKind.wrap .i64 (sL1.1.1 + 1) : Int) fun (t18 : Int) =>
R1 ((t18, ()), h17)))) (
K sL1.2)
def F_lone_places_1 (a0_yield : Value) (a1_t : Option Addr) (a2_t : Option Addr) (h : Hp) (K : Hp → Prop) : Prop :=
someA a1_t fun (p1 : Addr) =>
ldA .sl h p1 fun (t2 : Sl) =>
someA a2_t fun (p3 : Addr) =>
ldA .sl h p3 fun (t4 : Sl) =>
Let (if (t4.len : Int) > (t2.len : Int) then (t4.len : Int) else (t2.len : Int) : Int) fun (t5 : Int) =>
∃ n, Lp (L1_lone_places_1 a0_yield a1_t a2_t K t5) n ((0, ()), h)

theorem F_lone_places_1_ok (a0_yield : Value) (a1_t : Option Addr) (a2_t : Option Addr) (h : Hp) (K : Hp → Prop) (hF : F_lone_places_1 a0_yield a1_t a2_t h K) : C_lone_places_1 a0_yield a1_t a2_t h K := by
  have e : bodyVC Try.prog Try.f35 (.seq .no (.block (.loop [(10, .at (.int .i64))] (.seq .no (.seq (.cond .no .no) (.seq (.block (.seq .no (.seq .no (.cond .no .no)))) .no)))))) (Option.getD Try.f35.body .skip) [a0_yield, .pointer a1_t, .pointer a2_t] h [] (fun s h => K h) = F_lone_places_1 a0_yield a1_t a2_t h K := by kernel_rfl
  exact fun_sound mixed Try.func35 rfl (e.mpr hF)

def F_lone_apart (a0_x : Int) (a1_y : Int) (h : Hp) (K : Int → Hp → Prop) : Prop :=
Let (IntKind.wrap .i64 (a0_x) : Int) fun (t1 : Int) =>
Let (IntKind.wrap .i64 (a1_y) : Int) fun (t2 : Int) =>
Let (IntKind.wrap .i64 (t1 - t2) : Int) fun (t3 : Int) =>
Let (IntKind.wrap .i64 (0 - t3) : Int) fun (t4 : Int) =>
Let (if t4 > t3 then t4 else t3 : Int) fun (t5 : Int) =>
K t5 h

theorem F_lone_apart_ok (a0_x : Int) (a1_y : Int) (h : Hp) (K : Int → Hp → Prop) (hF : F_lone_apart a0_x a1_y h K) : C_lone_apart a0_x a1_y h K := by
  have e : bodyVC Try.prog Try.f36 (.seq .no (.seq .no (.seq .no .no))) (Option.getD Try.f36.body .skip) [.int .i32 a0_x, .int .i32 a1_y] h [.at (.int .i64)] (fun s h => K s.1 h) = F_lone_apart a0_x a1_y h K := by kernel_rfl
  exact fun_sound mixed Try.func36 rfl (e.mpr hF)

def F_lone_at (a0_a : Sl) (a1_i : Int) (h : Hp) (K : Int → Hp → Prop) : Prop :=
cnd (decide (a1_i < (a0_a.len : Int))) (
idxS a0_a.a a0_a.len a1_i 1 fun (p1 : Addr) =>
ldA (.int .i32) h p1 fun (t2 : Int) =>
K t2 h) (
K 0 h)

theorem F_lone_at_ok (a0_a : Sl) (a1_i : Int) (h : Hp) (K : Int → Hp → Prop) (hF : F_lone_at a0_a a1_i h K) : C_lone_at a0_a a1_i h K := by
  have e : bodyVC Try.prog Try.f37 (.seq .no (.seq (.seq .no (.cond (.seq .no .no) .no)) (.seq .no .no))) (Option.getD Try.f37.body .skip) [.slice a0_a.a a0_a.len a0_a.cap, .int .i64 a1_i] h [.at (.int .i32)] (fun s h => K s.1 h) = F_lone_at a0_a a1_i h K := by kernel_rfl
  exact fun_sound mixed Try.func37 rfl (e.mpr hF)

end Go.Proofs.YtfeimjemangpaaaF
