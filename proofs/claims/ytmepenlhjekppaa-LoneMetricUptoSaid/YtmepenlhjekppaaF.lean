/- The formulas of the seat's functions and the proofs that they are enough, printed by gen.py of this session. No condition. -/
import Derived.Test.YtmepenlhjekppaaProg
import Derived.Test.YtmepenlhjekppaaK7
namespace Go.Proofs.YtmepenlhjekppaaF
open Go Go.Proofs.YtmepenlhjekppaaK Go.Proofs
set_option linter.unusedVariables false
set_option maxRecDepth 100000
theorem mixed : Try.prog.follows .mixedOrders = true := by kernel_rfl
def C_gosem_cut_init  (h : Hp) (K : Hp → Prop) : Prop :=
  CallT Try.prog 2 [] [] h fun s h => K h
def C_law01_BoundHolds (a0_f : Int) (a1_f : Int) (a2_f : Int) (a3_f : Int) (a4_f : Int) (h : Hp) (K : Bool → Hp → Prop) : Prop :=
  CallT Try.prog 3 [.agg #[.int .i64 a0_f, .int .i64 a1_f, .int .i64 a2_f, .int .i64 a3_f, .int .i64 a4_f]] [.at .bool] h fun s h => K s.1 h
def C_law01_BoundTells (a0_a : Int) (a1_b : Int) (a2_c : Int) (h : Hp) (K : Bool → Hp → Prop) : Prop :=
  CallT Try.prog 4 [.int .i64 a0_a, .int .i64 a1_b, .int .i64 a2_c] [.at .bool] h fun s h => K s.1 h
def C_law06_LoneMetric (a0_a : Sl) (a1_b : Sl) (a2_c : Sl) (h : Hp) (K : Bool → Hp → Prop) : Prop :=
  CallT Try.prog 5 [.slice a0_a.a a0_a.len a0_a.cap, .slice a1_b.a a1_b.len a1_b.cap, .slice a2_c.a a2_c.len a2_c.cap] [.at .bool] h fun s h => K s.1 h
def C_law06_LoneTells (a0_a : Sl) (a1_b : Sl) (a2_most : Int) (h : Hp) (K : Bool → Hp → Prop) : Prop :=
  CallT Try.prog 6 [.slice a0_a.a a0_a.len a0_a.cap, .slice a1_b.a a1_b.len a1_b.cap, .int .i64 a2_most] [.at .bool] h fun s h => K s.1 h
def C_ref01_In (a0_n : Int) (h : Hp) (K : Int → Hp → Prop) : Prop :=
  CallT Try.prog 7 [.int .i64 a0_n] [.at (.int .i64)] h fun s h => K s.1 h
def C_law01_lives  (h : Hp) (K : Bool → Hp → Prop) : Prop :=
  CallT Try.prog 8 [] [.at .bool] h fun s h => K s.1 h
def C_bound_Apart (a0_a : Int) (a1_b : Int) (h : Hp) (K : Int → Hp → Prop) : Prop :=
  CallT Try.prog 9 [.int .i64 a0_a, .int .i64 a1_b] [.at (.int .i64)] h fun s h => K s.1 h
def C_bound_Sum (a0_a : Int) (a1_b : Int) (h : Hp) (K : Int → Hp → Prop) : Prop :=
  CallT Try.prog 10 [.int .i64 a0_a, .int .i64 a1_b] [.at (.int .i64)] h fun s h => K s.1 h
def C_bound_Ring (a0_q : Int) (a1_low : Int) (a2_high : Int) (h : Hp) (K : Int → Hp → Prop) : Prop :=
  CallT Try.prog 11 [.int .i64 a0_q, .int .i64 a1_low, .int .i64 a2_high] [.at (.int .i64)] h fun s h => K s.1 h
def C_bound_Ball (a0_q : Int) (a1_radius : Int) (h : Hp) (K : Int → Hp → Prop) : Prop :=
  CallT Try.prog 12 [.int .i64 a0_q, .int .i64 a1_radius] [.at (.int .i64)] h fun s h => K s.1 h
def C_bound_Widen (a0_low : Int) (a1_high : Int) (a2_d : Int) (h : Hp) (K : Int → Int → Hp → Prop) : Prop :=
  CallT Try.prog 13 [.int .i64 a0_low, .int .i64 a1_high, .int .i64 a2_d] [.at (.int .i64), .at (.int .i64)] h fun s h => K s.1 s.2.1 h
def C_ref01_Apart (a0_a : Int) (a1_b : Int) (h : Hp) (K : Int → Hp → Prop) : Prop :=
  CallT Try.prog 14 [.int .i64 a0_a, .int .i64 a1_b] [.at (.int .i64)] h fun s h => K s.1 h
def C_ref01_Ring (a0_q : Int) (a1_low : Int) (a2_high : Int) (h : Hp) (K : Int → Hp → Prop) : Prop :=
  CallT Try.prog 15 [.int .i64 a0_q, .int .i64 a1_low, .int .i64 a2_high] [.at (.int .i64)] h fun s h => K s.1 h
def C_bound_Cut (a0_low : Int) (a1_r : Int) (h : Hp) (K : Bool → Hp → Prop) : Prop :=
  CallT Try.prog 16 [.int .i64 a0_low, .int .i64 a1_r] [.at .bool] h fun s h => K s.1 h
def C_lone_Dist (a0_a : Sl) (a1_b : Sl) (h : Hp) (K : Int → Hp → Prop) : Prop :=
  CallT Try.prog 17 [.slice a0_a.a a0_a.len a0_a.cap, .slice a1_b.a a1_b.len a1_b.cap] [.at (.int .i64)] h fun s h => K s.1 h
def C_lone_Least (a0_a : Sl) (a1_b : Sl) (h : Hp) (K : Int → Hp → Prop) : Prop :=
  CallT Try.prog 18 [.slice a0_a.a a0_a.len a0_a.cap, .slice a1_b.a a1_b.len a1_b.cap] [.at (.int .i64)] h fun s h => K s.1 h
def C_law06_lives  (h : Hp) (K : Bool → Hp → Prop) : Prop :=
  CallT Try.prog 19 [] [.at .bool] h fun s h => K s.1 h
def C_ref06_Dist (a0_a : Sl) (a1_b : Sl) (h : Hp) (K : Int → Hp → Prop) : Prop :=
  CallT Try.prog 20 [.slice a0_a.a a0_a.len a0_a.cap, .slice a1_b.a a1_b.len a1_b.cap] [.at (.int .i64)] h fun s h => K s.1 h
def C_lone_Upto (a0_a : Sl) (a1_b : Sl) (a2_most : Int) (h : Hp) (K : Int → Bool → Hp → Prop) : Prop :=
  CallT Try.prog 21 [.slice a0_a.a a0_a.len a0_a.cap, .slice a1_b.a a1_b.len a1_b.cap, .int .i64 a2_most] [.at (.int .i64), .at .bool] h fun s h => K s.1 s.2.1 h
def C_lone_Norm (a0_a : Sl) (h : Hp) (K : Int → Hp → Prop) : Prop :=
  CallT Try.prog 22 [.slice a0_a.a a0_a.len a0_a.cap] [.at (.int .i64)] h fun s h => K s.1 h
def C_bound_in (a0_n : Int) (h : Hp) (K : Int → Hp → Prop) : Prop :=
  CallT Try.prog 23 [.int .i64 a0_n] [.at (.int .i64)] h fun s h => K s.1 h
def C_lone_places (a0_a : Sl) (a1_b : Sl) (h : Hp) (K : Value → Hp → Prop) : Prop :=
  CallT Try.prog 24 [.slice a0_a.a a0_a.len a0_a.cap, .slice a1_b.a a1_b.len a1_b.cap] [.at .raw] h fun s h => K s.1 h
def C_ref06_pad (a0_a : Sl) (a1_n : Int) (h : Hp) (K : Sl → Hp → Prop) : Prop :=
  CallT Try.prog 25 [.slice a0_a.a a0_a.len a0_a.cap, .int .i64 a1_n] [.at .sl] h fun s h => K s.1 h
def C_lone_places_1 (a0_yield : Value) (a1_t : Option Addr) (a2_t : Option Addr) (h : Hp) (K : Hp → Prop) : Prop :=
  CallT Try.prog 26 [a0_yield, .pointer a1_t, .pointer a2_t] [] h fun s h => K h
def C_lone_apart (a0_x : Int) (a1_y : Int) (h : Hp) (K : Int → Hp → Prop) : Prop :=
  CallT Try.prog 27 [.int .i32 a0_x, .int .i32 a1_y] [.at (.int .i64)] h fun s h => K s.1 h
def C_lone_at (a0_a : Sl) (a1_i : Int) (h : Hp) (K : Int → Hp → Prop) : Prop :=
  CallT Try.prog 28 [.slice a0_a.a a0_a.len a0_a.cap, .int .i64 a1_i] [.at (.int .i32)] h fun s h => K s.1 h
def J2_law01_BoundHolds (K : Bool → Hp → Prop) (t4 : Int) (t7 : Int) (t21 : Int) (t22 : Int) (sJ2 : Unit) (hJ2 : Hp) : Prop :=
C_bound_Ring t4 t21 t22 hJ2 fun (t23 : Int) (h24 : Hp) =>
C_bound_Ring t4 t7 t7 h24 fun (t25 : Int) (h26 : Hp) =>
cnd (decide (t23 ≤ t25)) (
C_bound_Ball t4 t22 h26 fun (t27 : Int) (h28 : Hp) =>
C_bound_Ball t4 t7 h28 fun (t29 : Int) (h30 : Hp) =>
cnd (decide (t27 ≤ t29)) (
C_law01_lives  h30 fun (t31 : Bool) (h32 : Hp) =>
K t31 h32) (
K false h30)) (
K false h26)
def J1_law01_BoundHolds (K : Bool → Hp → Prop) (t4 : Int) (t7 : Int) (t10 : Int) (t13 : Int) (t16 : Int) (sJ1 : Bool × Unit) (hJ1 : Hp) : Prop :=
cnd sJ1.1 (
C_law01_lives  hJ1 fun (t18 : Bool) (h19 : Hp) =>
K t18 h19) (
Let (IntKind.wrap .i64 (t7 - t13) : Int) fun (t20 : Int) =>
Let (if 0 > t20 then 0 else t20 : Int) fun (t21 : Int) =>
Let (IntKind.wrap .i64 (t7 + t16) : Int) fun (t22 : Int) =>
Jn (J2_law01_BoundHolds K t4 t7 t21 t22) fun (J2 : Unit → Hp → Prop) =>
C_bound_Apart t4 t7 hJ1 fun (t33 : Int) (h34 : Hp) =>
cnd (decide (t33 > t10)) (
K false h34) (
C_bound_Sum t4 t7 h34 fun (t35 : Int) (h36 : Hp) =>
cnd (decide (t10 > t35)) (
K false h36) (
C_bound_Ring t4 t21 t22 h36 fun (t37 : Int) (h38 : Hp) =>
cnd (decide (t37 > t10)) (
K false h38) (
C_bound_Ball t4 t22 h38 fun (t39 : Int) (h40 : Hp) =>
cnd (decide (t39 > t10)) (
K false h40) (
C_bound_Apart t4 t7 h40 fun (t41 : Int) (h42 : Hp) =>
C_bound_Sum t4 t7 h42 fun (t43 : Int) (h44 : Hp) =>
cnd (decide (t41 > t43)) (
K false h44) (
J2 (()) h44))))))
def F_law01_BoundHolds (a0_f : Int) (a1_f : Int) (a2_f : Int) (a3_f : Int) (a4_f : Int) (h : Hp) (K : Bool → Hp → Prop) : Prop :=
Let (Array.push h (Obj.cells #[.int .i64 a0_f, .int .i64 a1_f, .int .i64 a2_f, .int .i64 a3_f, .int .i64 a4_f] 23)) fun (h1 : Hp) =>
Let (Addr.mk (Array.size h) 0 none) fun (p2 : Addr) =>
ldA (.int .i64) h1 p2 fun (t3 : Int) =>
C_ref01_In t3 h1 fun (t4 : Int) (h5 : Hp) =>
Ext h1 h5 ∧ (
ldA (.int .i64) h1 (Addr.add p2 1) fun (t6 : Int) =>
C_ref01_In t6 h5 fun (t7 : Int) (h8 : Hp) =>
Ext h5 h8 ∧ (
ldA (.int .i64) h1 (Addr.add p2 2) fun (t9 : Int) =>
C_ref01_In t9 h8 fun (t10 : Int) (h11 : Hp) =>
ldA (.int .i64) h11 (Addr.add p2 3) fun (t12 : Int) =>
C_ref01_In t12 h11 fun (t13 : Int) (h14 : Hp) =>
Ext h11 h14 ∧ (
ldA (.int .i64) h11 (Addr.add p2 4) fun (t15 : Int) =>
C_ref01_In t15 h14 fun (t16 : Int) (h17 : Hp) =>
Jn (J1_law01_BoundHolds K t4 t7 t10 t13 t16) fun (J1 : Bool × Unit → Hp → Prop) =>
Let (IntKind.wrap .i64 (t7 + t10) : Int) fun (t45 : Int) =>
cnd (decide (t4 > t45)) (
J1 (true, ()) h17) (
Let (IntKind.wrap .i64 (t4 + t10) : Int) fun (t46 : Int) =>
cnd (decide (t7 > t46)) (
J1 (true, ()) h17) (
Let (IntKind.wrap .i64 (t4 + t7) : Int) fun (t47 : Int) =>
J1 (decide (t10 > t47), ()) h17)))))

theorem F_law01_BoundHolds_ok (a0_f : Int) (a1_f : Int) (a2_f : Int) (a3_f : Int) (a4_f : Int) (h : Hp) (K : Bool → Hp → Prop) (hF : F_law01_BoundHolds a0_f a1_f a2_f a3_f a4_f h K) : C_law01_BoundHolds a0_f a1_f a2_f a3_f a4_f h K := by
  have e : bodyVC Try.prog Try.f3 (.seq .no (.seq .no (.seq .no (.seq (.join [(43, .at .bool)] .no (.cond (.seq .no .no) .no)) (.seq .no (.join [] (.seq .no (.cond (.seq .no .no) .no)) (.seq .no .no))))))) (Option.getD Try.f3.body .skip) [.agg #[.int .i64 a0_f, .int .i64 a1_f, .int .i64 a2_f, .int .i64 a3_f, .int .i64 a4_f]] h [.at .bool] (fun s h => K s.1 h) = F_law01_BoundHolds a0_f a1_f a2_f a3_f a4_f h K := by kernel_rfl
  exact fun_sound mixed Try.func3 rfl (e.mpr hF)

def J1_law01_BoundTells (a0_a : Int) (a1_b : Int) (a2_c : Int) (K : Bool → Hp → Prop) (t1 : Int) (t2 : Int) (sJ1 : Int × Int × Unit) (hJ1 : Hp) : Prop :=
C_ref01_In a2_c hJ1 fun (t8 : Int) (h9 : Hp) =>
Let (if t8 < sJ1.1 then t8 else sJ1.1 : Int) fun (t10 : Int) =>
C_ref01_In a2_c h9 fun (t11 : Int) (h12 : Hp) =>
Let (if t11 > sJ1.2.1 then t11 else sJ1.2.1 : Int) fun (t13 : Int) =>
C_bound_Apart a0_a a1_b h12 fun (t14 : Int) (h15 : Hp) =>
C_ref01_Apart a0_a a1_b h15 fun (t16 : Int) (h17 : Hp) =>
cnd (t14 == t16) (
C_bound_Sum a0_a a1_b h17 fun (t18 : Int) (h19 : Hp) =>
C_ref01_In a0_a h19 fun (t20 : Int) (h21 : Hp) =>
C_ref01_In a1_b h21 fun (t22 : Int) (h23 : Hp) =>
Let (IntKind.wrap .i64 (t20 + t22) : Int) fun (t24 : Int) =>
cnd (t18 == t24) (
C_bound_Ring a0_a a1_b a2_c h23 fun (t25 : Int) (h26 : Hp) =>
C_ref01_Ring a0_a a1_b a2_c h26 fun (t27 : Int) (h28 : Hp) =>
cnd (t25 == t27) (
C_bound_Ball a0_a a1_b h28 fun (t29 : Int) (h30 : Hp) =>
C_ref01_Ring a0_a 0 a1_b h30 fun (t31 : Int) (h32 : Hp) =>
cnd (t29 == t31) (
C_bound_Cut a0_a a1_b h32 fun (t33 : Bool) (h34 : Hp) =>
C_ref01_In a0_a h34 fun (t35 : Int) (h36 : Hp) =>
cnd (t33 == (decide (t35 > a1_b))) (
cnd (t1 == t10) (
cnd (t2 == t13) (
C_law01_lives  h36 fun (t37 : Bool) (h38 : Hp) =>
K t37 h38) (
K false h36)) (
K false h36)) (
K false h36)) (
K false h32)) (
K false h28)) (
K false h23)) (
K false h17)
def F_law01_BoundTells (a0_a : Int) (a1_b : Int) (a2_c : Int) (h : Hp) (K : Bool → Hp → Prop) : Prop :=
C_bound_Widen a0_a a1_b a2_c h fun (t1 : Int) (t2 : Int) (h3 : Hp) =>
C_ref01_In a0_a h3 fun (t4 : Int) (h5 : Hp) =>
C_ref01_In a1_b h5 fun (t6 : Int) (h7 : Hp) =>
Jn (J1_law01_BoundTells a0_a a1_b a2_c K t1 t2) fun (J1 : Int × Int × Unit → Hp → Prop) =>
cnd (decide (t4 > t6)) (
C_ref01_In a2_c h7 fun (t39 : Int) (h40 : Hp) =>
J1 (t39, t39, ()) h40) (
J1 (t4, t6, ()) h7)

theorem F_law01_BoundTells_ok (a0_a : Int) (a1_b : Int) (a2_c : Int) (h : Hp) (K : Bool → Hp → Prop) (hF : F_law01_BoundTells a0_a a1_b a2_c h K) : C_law01_BoundTells a0_a a1_b a2_c h K := by
  have e : bodyVC Try.prog Try.f4 (.seq .no (.seq .no (.seq .no (.join [(9, .at (.int .i64)), (10, .at (.int .i64))] (.seq .no (.cond (.seq .no .no) .no)) (.seq .no (.seq .no (.seq .no .no))))))) (Option.getD Try.f4.body .skip) [.int .i64 a0_a, .int .i64 a1_b, .int .i64 a2_c] h [.at .bool] (fun s h => K s.1 h) = F_law01_BoundTells a0_a a1_b a2_c h K := by kernel_rfl
  exact fun_sound mixed Try.func4 rfl (e.mpr hF)

def J1_law06_LoneMetric (a0_a : Sl) (a1_b : Sl) (a2_c : Sl) (K : Bool → Hp → Prop) (sJ1 : Bool × Unit) (hJ1 : Hp) : Prop :=
C_lone_Dist a0_a a1_b hJ1 fun (t1 : Int) (h2 : Hp) =>
cnd ((t1 == 0) == sJ1.1) (
cnd (decide (t1 ≥ 0)) (
C_lone_Dist a1_b a0_a h2 fun (t3 : Int) (h4 : Hp) =>
cnd (t1 == t3) (
C_lone_Dist a0_a a2_c h4 fun (t5 : Int) (h6 : Hp) =>
C_lone_Dist a2_c a1_b h6 fun (t7 : Int) (h8 : Hp) =>
Let (IntKind.wrap .i64 (t5 + t7) : Int) fun (t9 : Int) =>
cnd (decide (t1 ≤ t9)) (
C_lone_Least a0_a a1_b h8 fun (t10 : Int) (h11 : Hp) =>
cnd (decide (t10 ≤ t1)) (
C_law06_lives  h11 fun (t12 : Bool) (h13 : Hp) =>
K t12 h13) (
K false h11)) (
K false h8)) (
K false h4)) (
K false h2)) (
K false h2)
def J3_law06_LoneMetric (a1_b : Sl) (sL1 : (Bool × Int × Unit) × Hp) (R1 : (Bool × Int × Unit) × Hp → Prop) (sJ3 : Int × Unit) (hJ3 : Hp) : Prop :=
cnd (decide (sL1.1.2.1 < (a1_b.len : Int))) (
idxS a1_b.a a1_b.len sL1.1.2.1 1 fun (p14 : Addr) =>
ldA (.int .i32) hJ3 p14 fun (t15 : Int) =>
cnd sL1.1.1 (
Let (IntKind.wrap .i64 (sL1.1.2.1 + 1) : Int) fun (t16 : Int) =>
R1 (((sJ3.1 == t15), t16, ()), hJ3)) (
Let (IntKind.wrap .i64 (sL1.1.2.1 + 1) : Int) fun (t17 : Int) =>
R1 ((false, t17, ()), hJ3))) (
cnd sL1.1.1 (
Let (IntKind.wrap .i64 (sL1.1.2.1 + 1) : Int) fun (t18 : Int) =>
R1 (((sJ3.1 == 0), t18, ()), hJ3)) (
Let (IntKind.wrap .i64 (sL1.1.2.1 + 1) : Int) fun (t19 : Int) =>
R1 ((false, t19, ()), hJ3)))
def J2_law06_LoneMetric (a0_a : Sl) (a1_b : Sl) (sL1 : (Bool × Int × Unit) × Hp) (R1 : (Bool × Int × Unit) × Hp → Prop) (sJ2 : Unit) (hJ2 : Hp) : Prop :=
Jn (J3_law06_LoneMetric a1_b sL1 R1) fun (J3 : Int × Unit → Hp → Prop) =>
cnd (decide (sL1.1.2.1 < (a0_a.len : Int))) (
idxS a0_a.a a0_a.len sL1.1.2.1 1 fun (p20 : Addr) =>
ldA (.int .i32) hJ2 p20 fun (t21 : Int) =>
J3 (t21, ()) hJ2) (
J3 (0, ()) hJ2)
def L1_law06_LoneMetric (a0_a : Sl) (a1_b : Sl) (J1 : Bool × Unit → Hp → Prop) (sL1 : (Bool × Int × Unit) × Hp) (R1 : (Bool × Int × Unit) × Hp → Prop) : Prop :=
Jn (J2_law06_LoneMetric a0_a a1_b sL1 R1) fun (J2 : Unit → Hp → Prop) =>
cnd (decide (sL1.1.2.1 < (a0_a.len : Int))) (
J2 (()) sL1.2) (
cnd (decide (sL1.1.2.1 < (a1_b.len : Int))) (
J2 (()) sL1.2) (
J1 (sL1.1.1, ()) sL1.2))
def F_law06_LoneMetric (a0_a : Sl) (a1_b : Sl) (a2_c : Sl) (h : Hp) (K : Bool → Hp → Prop) : Prop :=
Jn (J1_law06_LoneMetric a0_a a1_b a2_c K) fun (J1 : Bool × Unit → Hp → Prop) =>
∃ n, Lp (L1_law06_LoneMetric a0_a a1_b J1) n ((true, 0, ()), h)

theorem F_law06_LoneMetric_ok (a0_a : Sl) (a1_b : Sl) (a2_c : Sl) (h : Hp) (K : Bool → Hp → Prop) (hF : F_law06_LoneMetric a0_a a1_b a2_c h K) : C_law06_LoneMetric a0_a a1_b a2_c h K := by
  have e : bodyVC Try.prog Try.f5 (.seq .no (.seq .no (.join [(7, .at .bool)] (.seq .no (.block (.loop [(7, .at .bool), (8, .at (.int .i64))] (.join [] (.seq .no (.cond .no .no)) (.seq (.block (.seq .no (.join [(9, .at (.int .i32))] (.seq .no (.cond .no .no)) (.seq (.seq .no (.cond .no .no)) .no)))) .no))))) (.seq .no (.seq .no .no))))) (Option.getD Try.f5.body .skip) [.slice a0_a.a a0_a.len a0_a.cap, .slice a1_b.a a1_b.len a1_b.cap, .slice a2_c.a a2_c.len a2_c.cap] h [.at .bool] (fun s h => K s.1 h) = F_law06_LoneMetric a0_a a1_b a2_c h K := by kernel_rfl
  exact fun_sound mixed Try.func5 rfl (e.mpr hF)

def J2_law06_LoneTells (a0_a : Sl) (a1_b : Sl) (K : Bool → Hp → Prop) (t1 : Int) (sJ1 : Int × Unit) (sJ2 : Unit) (hJ2 : Hp) : Prop :=
C_lone_Dist a0_a a1_b hJ2 fun (t11 : Int) (h12 : Hp) =>
cnd (t11 == t1) (
C_lone_Norm a0_a h12 fun (t13 : Int) (h14 : Hp) =>
C_ref06_Dist a0_a (Sl.mk none 0 0) h14 fun (t15 : Int) (h16 : Hp) =>
cnd (t13 == t15) (
C_lone_Least a0_a a1_b h16 fun (t17 : Int) (h18 : Hp) =>
cnd (t17 == sJ1.1) (
C_law06_lives  h18 fun (t19 : Bool) (h20 : Hp) =>
K t19 h20) (
K false h18)) (
K false h16)) (
K false h12)
def J1_law06_LoneTells (a0_a : Sl) (a1_b : Sl) (a2_most : Int) (K : Bool → Hp → Prop) (t1 : Int) (t3 : Int) (t4 : Bool) (sJ1 : Int × Unit) (hJ1 : Hp) : Prop :=
Jn (J2_law06_LoneTells a0_a a1_b K t1 sJ1) fun (J2 : Unit → Hp → Prop) =>
cnd (!(t4 == (decide (t1 ≤ a2_most)))) (
K false hJ1) (
cnd t4 (
cnd (t3 != t1) (
K false hJ1) (
cnd (!t4) (
cnd (t3 != 0) (
K false hJ1) (
J2 (()) hJ1)) (
J2 (()) hJ1))) (
cnd (!t4) (
cnd (t3 != 0) (
K false hJ1) (
J2 (()) hJ1)) (
J2 (()) hJ1)))
def F_law06_LoneTells (a0_a : Sl) (a1_b : Sl) (a2_most : Int) (h : Hp) (K : Bool → Hp → Prop) : Prop :=
C_ref06_Dist a0_a a1_b h fun (t1 : Int) (h2 : Hp) =>
C_lone_Upto a0_a a1_b a2_most h2 fun (t3 : Int) (t4 : Bool) (h5 : Hp) =>
C_ref06_Dist a0_a (Sl.mk none 0 0) h5 fun (t6 : Int) (h7 : Hp) =>
C_ref06_Dist a1_b (Sl.mk none 0 0) h7 fun (t8 : Int) (h9 : Hp) =>
Let (IntKind.wrap .i64 (t6 - t8) : Int) fun (t10 : Int) =>
Jn (J1_law06_LoneTells a0_a a1_b a2_most K t1 t3 t4) fun (J1 : Int × Unit → Hp → Prop) =>
cnd (decide (t10 < 0)) (
Let (IntKind.wrap .i64 (0 - t10) : Int) fun (t21 : Int) =>
J1 (t21, ()) h9) (
J1 (t10, ()) h9)

theorem F_law06_LoneTells_ok (a0_a : Sl) (a1_b : Sl) (a2_most : Int) (h : Hp) (K : Bool → Hp → Prop) (hF : F_law06_LoneTells a0_a a1_b a2_most h K) : C_law06_LoneTells a0_a a1_b a2_most h K := by
  have e : bodyVC Try.prog Try.f6 (.seq .no (.seq .no (.seq .no (.seq .no (.join [(10, .at (.int .i64))] (.seq .no (.cond .no .no)) (.join [] (.seq .no (.cond (.seq .no .no) .no)) (.seq .no .no))))))) (Option.getD Try.f6.body .skip) [.slice a0_a.a a0_a.len a0_a.cap, .slice a1_b.a a1_b.len a1_b.cap, .int .i64 a2_most] h [.at .bool] (fun s h => K s.1 h) = F_law06_LoneTells a0_a a1_b a2_most h K := by kernel_rfl
  exact fun_sound mixed Try.func6 rfl (e.mpr hF)

def F_ref01_In (a0_n : Int) (h : Hp) (K : Int → Hp → Prop) : Prop :=
cnd (decide (a0_n < 0)) (
K 0 h) (
cnd (decide (a0_n > 1125899906842624)) (
K 1125899906842624 h) (
K a0_n h))

theorem F_ref01_In_ok (a0_n : Int) (h : Hp) (K : Int → Hp → Prop) (hF : F_ref01_In a0_n h K) : C_ref01_In a0_n h K := by
  have e : bodyVC Try.prog Try.f7 (.seq .no (.seq (.seq .no (.cond (.seq .no .no) .no)) (.seq (.seq .no (.cond (.seq .no .no) .no)) (.seq .no .no)))) (Option.getD Try.f7.body .skip) [.int .i64 a0_n] h [.at (.int .i64)] (fun s h => K s.1 h) = F_ref01_In a0_n h K := by kernel_rfl
  exact fun_sound mixed Try.func7 rfl (e.mpr hF)

def F_law01_lives  (h : Hp) (K : Bool → Hp → Prop) : Prop :=
C_bound_Apart 3 10 h fun (t1 : Int) (h2 : Hp) =>
cnd (t1 == 7) (
C_bound_Ring 5 8 9 h2 fun (t3 : Int) (h4 : Hp) =>
cnd (t3 == 3) (
C_bound_Ball 5 2 h4 fun (t5 : Int) (h6 : Hp) =>
cnd (t5 == 3) (
C_bound_Cut 4 3 h6 fun (t7 : Bool) (h8 : Hp) =>
cnd t7 (
C_bound_Cut 3 3 h8 fun (t9 : Bool) (h10 : Hp) =>
K (!t9) h10) (
K false h8)) (
K false h6)) (
K false h4)) (
K false h2)

theorem F_law01_lives_ok  (h : Hp) (K : Bool → Hp → Prop) (hF : F_law01_lives  h K) : C_law01_lives  h K := by
  have e : bodyVC Try.prog Try.f8 (.seq .no (.seq .no .no)) (Option.getD Try.f8.body .skip) [] h [.at .bool] (fun s h => K s.1 h) = F_law01_lives  h K := by kernel_rfl
  exact fun_sound mixed Try.func8 rfl (e.mpr hF)

def F_bound_Apart (a0_a : Int) (a1_b : Int) (h : Hp) (K : Int → Hp → Prop) : Prop :=
C_bound_in a0_a h fun (t1 : Int) (h2 : Hp) =>
C_bound_in a1_b h2 fun (t3 : Int) (h4 : Hp) =>
Let (IntKind.wrap .i64 (t1 - t3) : Int) fun (t5 : Int) =>
Let (IntKind.wrap .i64 (t3 - t1) : Int) fun (t6 : Int) =>
Let (if t6 > t5 then t6 else t5 : Int) fun (t7 : Int) =>
K t7 h4

theorem F_bound_Apart_ok (a0_a : Int) (a1_b : Int) (h : Hp) (K : Int → Hp → Prop) (hF : F_bound_Apart a0_a a1_b h K) : C_bound_Apart a0_a a1_b h K := by
  have e : bodyVC Try.prog Try.f9 (.seq .no (.seq .no (.seq .no .no))) (Option.getD Try.f9.body .skip) [.int .i64 a0_a, .int .i64 a1_b] h [.at (.int .i64)] (fun s h => K s.1 h) = F_bound_Apart a0_a a1_b h K := by kernel_rfl
  exact fun_sound mixed Try.func9 rfl (e.mpr hF)

def F_bound_Sum (a0_a : Int) (a1_b : Int) (h : Hp) (K : Int → Hp → Prop) : Prop :=
C_bound_in a0_a h fun (t1 : Int) (h2 : Hp) =>
C_bound_in a1_b h2 fun (t3 : Int) (h4 : Hp) =>
Let (IntKind.wrap .i64 (t1 + t3) : Int) fun (t5 : Int) =>
K t5 h4

theorem F_bound_Sum_ok (a0_a : Int) (a1_b : Int) (h : Hp) (K : Int → Hp → Prop) (hF : F_bound_Sum a0_a a1_b h K) : C_bound_Sum a0_a a1_b h K := by
  have e : bodyVC Try.prog Try.f10 (.seq .no (.seq .no .no)) (Option.getD Try.f10.body .skip) [.int .i64 a0_a, .int .i64 a1_b] h [.at (.int .i64)] (fun s h => K s.1 h) = F_bound_Sum a0_a a1_b h K := by kernel_rfl
  exact fun_sound mixed Try.func10 rfl (e.mpr hF)

def J1_bound_Ring (K : Int → Hp → Prop) (t1 : Int) (sJ1 : Int × Int × Unit) (hJ1 : Hp) : Prop :=
Let (IntKind.wrap .i64 (sJ1.1 - t1) : Int) fun (t7 : Int) =>
Let (IntKind.wrap .i64 (t1 - sJ1.2.1) : Int) fun (t8 : Int) =>
Let (if t8 > t7 then t8 else t7 : Int) fun (t9 : Int) =>
Let (if 0 > t9 then 0 else t9 : Int) fun (t10 : Int) =>
K t10 hJ1
def F_bound_Ring (a0_q : Int) (a1_low : Int) (a2_high : Int) (h : Hp) (K : Int → Hp → Prop) : Prop :=
C_bound_in a0_q h fun (t1 : Int) (h2 : Hp) =>
C_bound_in a1_low h2 fun (t3 : Int) (h4 : Hp) =>
C_bound_in a2_high h4 fun (t5 : Int) (h6 : Hp) =>
Jn (J1_bound_Ring K t1) fun (J1 : Int × Int × Unit → Hp → Prop) =>
cnd (decide (t3 > t5)) (
J1 (t5, t3, ()) h6) (
J1 (t3, t5, ()) h6)

theorem F_bound_Ring_ok (a0_q : Int) (a1_low : Int) (a2_high : Int) (h : Hp) (K : Int → Hp → Prop) (hF : F_bound_Ring a0_q a1_low a2_high h K) : C_bound_Ring a0_q a1_low a2_high h K := by
  have e : bodyVC Try.prog Try.f11 (.seq .no (.seq .no (.join [(1, .at (.int .i64)), (2, .at (.int .i64))] (.seq .no (.cond .no .no)) (.seq .no .no)))) (Option.getD Try.f11.body .skip) [.int .i64 a0_q, .int .i64 a1_low, .int .i64 a2_high] h [.at (.int .i64)] (fun s h => K s.1 h) = F_bound_Ring a0_q a1_low a2_high h K := by kernel_rfl
  exact fun_sound mixed Try.func11 rfl (e.mpr hF)

def F_bound_Ball (a0_q : Int) (a1_radius : Int) (h : Hp) (K : Int → Hp → Prop) : Prop :=
C_bound_Ring a0_q 0 a1_radius h fun (t1 : Int) (h2 : Hp) =>
K t1 h2

theorem F_bound_Ball_ok (a0_q : Int) (a1_radius : Int) (h : Hp) (K : Int → Hp → Prop) (hF : F_bound_Ball a0_q a1_radius h K) : C_bound_Ball a0_q a1_radius h K := by
  have e : bodyVC Try.prog Try.f12 (.seq .no (.seq .no .no)) (Option.getD Try.f12.body .skip) [.int .i64 a0_q, .int .i64 a1_radius] h [.at (.int .i64)] (fun s h => K s.1 h) = F_bound_Ball a0_q a1_radius h K := by kernel_rfl
  exact fun_sound mixed Try.func12 rfl (e.mpr hF)

def F_bound_Widen (a0_low : Int) (a1_high : Int) (a2_d : Int) (h : Hp) (K : Int → Int → Hp → Prop) : Prop :=
C_bound_in a0_low h fun (t1 : Int) (h2 : Hp) =>
C_bound_in a1_high h2 fun (t3 : Int) (h4 : Hp) =>
C_bound_in a2_d h4 fun (t5 : Int) (h6 : Hp) =>
cnd (decide (t1 > t3)) (
K t5 t5 h6) (
Let (if t5 < t1 then t5 else t1 : Int) fun (t7 : Int) =>
Let (if t5 > t3 then t5 else t3 : Int) fun (t8 : Int) =>
K t7 t8 h6)

theorem F_bound_Widen_ok (a0_low : Int) (a1_high : Int) (a2_d : Int) (h : Hp) (K : Int → Int → Hp → Prop) (hF : F_bound_Widen a0_low a1_high a2_d h K) : C_bound_Widen a0_low a1_high a2_d h K := by
  have e : bodyVC Try.prog Try.f13 (.seq .no (.seq .no (.seq (.seq .no (.cond (.seq .no .no) .no)) (.seq .no .no)))) (Option.getD Try.f13.body .skip) [.int .i64 a0_low, .int .i64 a1_high, .int .i64 a2_d] h [.at (.int .i64), .at (.int .i64)] (fun s h => K s.1 s.2.1 h) = F_bound_Widen a0_low a1_high a2_d h K := by kernel_rfl
  exact fun_sound mixed Try.func13 rfl (e.mpr hF)

def F_ref01_Apart (a0_a : Int) (a1_b : Int) (h : Hp) (K : Int → Hp → Prop) : Prop :=
C_ref01_In a0_a h fun (t1 : Int) (h2 : Hp) =>
C_ref01_In a1_b h2 fun (t3 : Int) (h4 : Hp) =>
cnd (decide (t1 < t3)) (
Let (IntKind.wrap .i64 (t3 - t1) : Int) fun (t5 : Int) =>
K t5 h4) (
Let (IntKind.wrap .i64 (t1 - t3) : Int) fun (t6 : Int) =>
K t6 h4)

theorem F_ref01_Apart_ok (a0_a : Int) (a1_b : Int) (h : Hp) (K : Int → Hp → Prop) (hF : F_ref01_Apart a0_a a1_b h K) : C_ref01_Apart a0_a a1_b h K := by
  have e : bodyVC Try.prog Try.f14 (.seq .no (.seq .no (.seq .no (.seq (.seq .no (.cond (.seq .no .no) .no)) (.seq .no .no))))) (Option.getD Try.f14.body .skip) [.int .i64 a0_a, .int .i64 a1_b] h [.at (.int .i64)] (fun s h => K s.1 h) = F_ref01_Apart a0_a a1_b h K := by kernel_rfl
  exact fun_sound mixed Try.func14 rfl (e.mpr hF)

def J1_ref01_Ring (K : Int → Hp → Prop) (t1 : Int) (sJ1 : Int × Int × Unit) (hJ1 : Hp) : Prop :=
cnd (decide (t1 < sJ1.1)) (
Let (IntKind.wrap .i64 (sJ1.1 - t1) : Int) fun (t7 : Int) =>
K t7 hJ1) (
cnd (decide (t1 > sJ1.2.1)) (
Let (IntKind.wrap .i64 (t1 - sJ1.2.1) : Int) fun (t8 : Int) =>
K t8 hJ1) (
K 0 hJ1))
def F_ref01_Ring (a0_q : Int) (a1_low : Int) (a2_high : Int) (h : Hp) (K : Int → Hp → Prop) : Prop :=
C_ref01_In a0_q h fun (t1 : Int) (h2 : Hp) =>
C_ref01_In a1_low h2 fun (t3 : Int) (h4 : Hp) =>
C_ref01_In a2_high h4 fun (t5 : Int) (h6 : Hp) =>
Jn (J1_ref01_Ring K t1) fun (J1 : Int × Int × Unit → Hp → Prop) =>
cnd (decide (t3 > t5)) (
J1 (t5, t3, ()) h6) (
J1 (t3, t5, ()) h6)

theorem F_ref01_Ring_ok (a0_q : Int) (a1_low : Int) (a2_high : Int) (h : Hp) (K : Int → Hp → Prop) (hF : F_ref01_Ring a0_q a1_low a2_high h K) : C_ref01_Ring a0_q a1_low a2_high h K := by
  have e : bodyVC Try.prog Try.f15 (.seq .no (.seq .no (.seq .no (.seq .no (.join [(7, .at (.int .i64)), (8, .at (.int .i64))] (.seq .no (.cond .no .no)) (.seq (.seq .no (.cond (.seq .no .no) .no)) (.seq (.seq .no (.cond (.seq .no .no) .no)) (.seq .no .no)))))))) (Option.getD Try.f15.body .skip) [.int .i64 a0_q, .int .i64 a1_low, .int .i64 a2_high] h [.at (.int .i64)] (fun s h => K s.1 h) = F_ref01_Ring a0_q a1_low a2_high h K := by kernel_rfl
  exact fun_sound mixed Try.func15 rfl (e.mpr hF)

def F_bound_Cut (a0_low : Int) (a1_r : Int) (h : Hp) (K : Bool → Hp → Prop) : Prop :=
C_bound_in a0_low h fun (t1 : Int) (h2 : Hp) =>
K (decide (t1 > a1_r)) h2

theorem F_bound_Cut_ok (a0_low : Int) (a1_r : Int) (h : Hp) (K : Bool → Hp → Prop) (hF : F_bound_Cut a0_low a1_r h K) : C_bound_Cut a0_low a1_r h K := by
  have e : bodyVC Try.prog Try.f16 (.seq .no (.seq .no .no)) (Option.getD Try.f16.body .skip) [.int .i64 a0_low, .int .i64 a1_r] h [.at .bool] (fun s h => K s.1 h) = F_bound_Cut a0_low a1_r h K := by kernel_rfl
  exact fun_sound mixed Try.func16 rfl (e.mpr hF)

def F_lone_Dist (a0_a : Sl) (a1_b : Sl) (h : Hp) (K : Int → Hp → Prop) : Prop :=
Let (Array.push h (Obj.cells #[.int .i64 0] 3)) fun (h1 : Hp) =>
Let (Addr.mk (Array.size h) 0 none) fun (p2 : Addr) =>
((1 : Nat) = 1) ∧ (
stC h1 p2 (
Let (hset h1 p2 (.int .i64 0)) fun (h3 : Hp) =>
C_lone_places a0_a a1_b h3 fun (t4 : Value) (h5 : Hp) =>
rngF Try.prog t4 (.at (.int .i64)) h5 (fun (t6 : Int) (h7 : Hp) (Kn8 : Hp → Prop) (Kx9 : Option Nat → Hp → Prop) =>
Rb (Array.size h5) h7 h7 fun (h10 : Hp) =>
ldA (.int .i64) h10 p2 fun (t11 : Int) =>
Let (IntKind.wrap .i64 (t11 + t6) : Int) fun (t12 : Int) =>
((1 : Nat) = 1) ∧ (
stC h10 p2 (
Let (hset h10 p2 (.int .i64 t12)) fun (h13 : Hp) =>
RKeep h10 h13 ∧ Kn8 h13))) (fun (h14 : Hp) =>
ldA (.int .i64) h14 p2 fun (t15 : Int) =>
∀ (h16 : Hp), Stp (Array.size h) h14 h16 → (
K t15 h16)) (StopL (fun (h17 : Hp) =>
∀ (h18 : Hp), Stp (Array.size h) h17 h18 → (
K 0 h18)) [(0, fun (h19 : Hp) =>
ldA (.int .i64) h19 p2 fun (t20 : Int) =>
∀ (h21 : Hp), Stp (Array.size h) h19 h21 → (
K t20 h21))])))

theorem F_lone_Dist_ok (a0_a : Sl) (a1_b : Sl) (h : Hp) (K : Int → Hp → Prop) (hF : F_lone_Dist a0_a a1_b h K) : C_lone_Dist a0_a a1_b h K := by
  have e : bodyVC Try.prog Try.f17 (.seq .no (.seq .no (.seq (.seq .no (.block (.rng (10, .at (.int .i64)) .no (.block .no)))) (.seq .no .no)))) (Option.getD Try.f17.body .skip) [.slice a0_a.a a0_a.len a0_a.cap, .slice a1_b.a a1_b.len a1_b.cap] h [.at (.int .i64)] (fun s h => K s.1 h) = F_lone_Dist a0_a a1_b h K := by kernel_rfl
  exact fun_sound mixed Try.func17 rfl (e.mpr hF)

def F_lone_Least (a0_a : Sl) (a1_b : Sl) (h : Hp) (K : Int → Hp → Prop) : Prop :=
C_lone_Norm a0_a h fun (t1 : Int) (h2 : Hp) =>
C_lone_Norm a1_b h2 fun (t3 : Int) (h4 : Hp) =>
Let (IntKind.wrap .i64 (t1 - t3) : Int) fun (t5 : Int) =>
Let (IntKind.wrap .i64 (0 - t5) : Int) fun (t6 : Int) =>
Let (if t6 > t5 then t6 else t5 : Int) fun (t7 : Int) =>
K t7 h4

theorem F_lone_Least_ok (a0_a : Sl) (a1_b : Sl) (h : Hp) (K : Int → Hp → Prop) (hF : F_lone_Least a0_a a1_b h K) : C_lone_Least a0_a a1_b h K := by
  have e : bodyVC Try.prog Try.f18 (.seq .no (.seq .no (.seq .no .no))) (Option.getD Try.f18.body .skip) [.slice a0_a.a a0_a.len a0_a.cap, .slice a1_b.a a1_b.len a1_b.cap] h [.at (.int .i64)] (fun s h => K s.1 h) = F_lone_Least a0_a a1_b h K := by kernel_rfl
  exact fun_sound mixed Try.func18 rfl (e.mpr hF)

def F_law06_lives  (h : Hp) (K : Bool → Hp → Prop) : Prop :=
Let (Array.push h (Obj.cells #[.int .i32 1, .int .i32 2] 21)) fun (h1 : Hp) =>
Let (Addr.mk (Array.size h) 0 none) fun (p2 : Addr) =>
Let (Array.push h1 (Obj.cells #[.int .i32 4, .int .i32 (-2)] 21)) fun (h3 : Hp) =>
Let (Addr.mk (Array.size h1) 0 none) fun (p4 : Addr) =>
C_lone_Dist (Sl.mk (some p2) 2 2) (Sl.mk (some p4) 2 2) h3 fun (t5 : Int) (h6 : Hp) =>
K (t5 == 7) h6

theorem F_law06_lives_ok  (h : Hp) (K : Bool → Hp → Prop) (hF : F_law06_lives  h K) : C_law06_lives  h K := by
  have e : bodyVC Try.prog Try.f19 (.seq .no (.seq .no .no)) (Option.getD Try.f19.body .skip) [] h [.at .bool] (fun s h => K s.1 h) = F_law06_lives  h K := by kernel_rfl
  exact fun_sound mixed Try.func19 rfl (e.mpr hF)

def L1_ref06_Dist (K : Int → Hp → Prop) (t1 : Sl) (t3 : Sl) (sL1 : (Int × Int × Unit) × Hp) (R1 : (Int × Int × Unit) × Hp → Prop) : Prop :=
cnd (decide (sL1.1.2.1 < (t1.len : Int))) (
idxS t1.a t1.len sL1.1.2.1 1 fun (p5 : Addr) =>
ldA (.int .i32) sL1.2 p5 fun (t6 : Int) =>
idxS t3.a t3.len sL1.1.2.1 1 fun (p7 : Addr) =>
ldA (.int .i32) sL1.2 p7 fun (t8 : Int) =>
cnd (decide (t6 > t8)) (
idxS t1.a t1.len sL1.1.2.1 1 fun (p9 : Addr) =>
ldA (.int .i32) sL1.2 p9 fun (t10 : Int) =>
Let (IntKind.wrap .i64 (t10) : Int) fun (t11 : Int) =>
idxS t3.a t3.len sL1.1.2.1 1 fun (p12 : Addr) =>
ldA (.int .i32) sL1.2 p12 fun (t13 : Int) =>
Let (IntKind.wrap .i64 (t13) : Int) fun (t14 : Int) =>
Let (IntKind.wrap .i64 (t11 - t14) : Int) fun (t15 : Int) =>
Let (IntKind.wrap .i64 (sL1.1.1 + t15) : Int) fun (t16 : Int) =>
Let (IntKind.wrap .i64 (sL1.1.2.1 + 1) : Int) fun (t17 : Int) =>
R1 ((t16, t17, ()), sL1.2)) (
idxS t3.a t3.len sL1.1.2.1 1 fun (p18 : Addr) =>
ldA (.int .i32) sL1.2 p18 fun (t19 : Int) =>
Let (IntKind.wrap .i64 (t19) : Int) fun (t20 : Int) =>
idxS t1.a t1.len sL1.1.2.1 1 fun (p21 : Addr) =>
ldA (.int .i32) sL1.2 p21 fun (t22 : Int) =>
Let (IntKind.wrap .i64 (t22) : Int) fun (t23 : Int) =>
Let (IntKind.wrap .i64 (t20 - t23) : Int) fun (t24 : Int) =>
Let (IntKind.wrap .i64 (sL1.1.1 + t24) : Int) fun (t25 : Int) =>
Let (IntKind.wrap .i64 (sL1.1.2.1 + 1) : Int) fun (t26 : Int) =>
R1 ((t25, t26, ()), sL1.2))) (
K sL1.1.1 sL1.2)
def F_ref06_Dist (a0_a : Sl) (a1_b : Sl) (h : Hp) (K : Int → Hp → Prop) : Prop :=
C_ref06_pad a0_a (a1_b.len : Int) h fun (t1 : Sl) (h2 : Hp) =>
C_ref06_pad a1_b (t1.len : Int) h2 fun (t3 : Sl) (h4 : Hp) =>
∃ n, Lp (L1_ref06_Dist K t1 t3) n ((0, 0, ()), h4)

theorem F_ref06_Dist_ok (a0_a : Sl) (a1_b : Sl) (h : Hp) (K : Int → Hp → Prop) (hF : F_ref06_Dist a0_a a1_b h K) : C_ref06_Dist a0_a a1_b h K := by
  have e : bodyVC Try.prog Try.f20 (.seq .no (.seq .no (.seq .no (.seq .no (.seq (.seq .no (.block (.loop [(5, .at (.int .i64)), (6, .at (.int .i64))] (.seq (.seq .no (.cond .no .no)) (.seq (.block (.seq .no (.cond .no .no))) .no))))) (.seq .no .no)))))) (Option.getD Try.f20.body .skip) [.slice a0_a.a a0_a.len a0_a.cap, .slice a1_b.a a1_b.len a1_b.cap] h [.at (.int .i64)] (fun s h => K s.1 h) = F_ref06_Dist a0_a a1_b h K := by kernel_rfl
  exact fun_sound mixed Try.func20 rfl (e.mpr hF)

def J1_lone_Upto (h : Hp) (K : Int → Bool → Hp → Prop) (p2 : Addr) (p4 : Addr) (p6 : Addr) (p8 : Addr) (sJ1 : Unit) (hJ1 : Hp) : Prop :=
∃ (S10 : List Nat),
(Addr.block p8 ∉ S10) ∧ (
ldA (.int .i64) hJ1 p8 fun (t11 : Int) =>
(Addr.block p8 ∉ S10) ∧ (
ldA (.int .i64) hJ1 p8 fun (t12 : Int) =>
(Addr.block p2 ∉ S10) ∧ (
ldA (.int .i64) hJ1 p2 fun (t13 : Int) =>
((1 : Nat) = 1) ∧ (
stC hJ1 p4 (
Let (hset hJ1 p4 (.int .i64 t11)) fun (h14 : Hp) =>
ExtS S10 hJ1 h14 ∧ (
((1 : Nat) = 1) ∧ (
stC h14 p6 (
Let (hset h14 p6 (.bool (decide (t12 ≤ t13)))) fun (h15 : Hp) =>
∀ (h16 : Hp), Stp (Array.size h) h15 h16 → (
ldA (.int .i64) h16 p4 fun (r17 : Int) =>
ldA .bool h16 p6 fun (r18 : Bool) =>
K r17 r18 h16)))))))))
def F_lone_Upto (a0_a : Sl) (a1_b : Sl) (a2_most : Int) (h : Hp) (K : Int → Bool → Hp → Prop) : Prop :=
Let (Array.push h (Obj.cells #[.int .i64 a2_most] 3)) fun (h1 : Hp) =>
Let (Addr.mk (Array.size h) 0 none) fun (p2 : Addr) =>
Let (Array.push h1 (Obj.cells #[.int .i64 0] 3)) fun (h3 : Hp) =>
Let (Addr.mk (Array.size h1) 0 none) fun (p4 : Addr) =>
Let (Array.push h3 (Obj.cells #[.bool false] 4)) fun (h5 : Hp) =>
Let (Addr.mk (Array.size h3) 0 none) fun (p6 : Addr) =>
Let (Array.push h5 (Obj.cells #[.int .i64 0] 3)) fun (h7 : Hp) =>
Let (Addr.mk (Array.size h5) 0 none) fun (p8 : Addr) =>
((1 : Nat) = 1) ∧ (
stC h7 p8 (
Let (hset h7 p8 (.int .i64 0)) fun (h9 : Hp) =>
Jn (J1_lone_Upto h K p2 p4 p6 p8) fun (J1 : Unit → Hp → Prop) =>
C_lone_places a0_a a1_b h9 fun (t19 : Value) (h20 : Hp) =>
rngF Try.prog t19 (.at (.int .i64)) h20 (fun (t21 : Int) (h22 : Hp) (Kn23 : Hp → Prop) (Kx24 : Option Nat → Hp → Prop) =>
Rb (Array.size h20) h22 h22 fun (h25 : Hp) =>
ldA (.int .i64) h25 p8 fun (t26 : Int) =>
Let (IntKind.wrap .i64 (t26 + t21) : Int) fun (t27 : Int) =>
((1 : Nat) = 1) ∧ (
stC h25 p8 (
Let (hset h25 p8 (.int .i64 t27)) fun (h28 : Hp) =>
ldA (.int .i64) h28 p8 fun (t29 : Int) =>
ldA (.int .i64) h28 p2 fun (t30 : Int) =>
cnd (decide (t29 > t30)) (
((1 : Nat) = 1) ∧ (
stC h28 p4 (
Let (hset h28 p4 (.int .i64 0)) fun (h31 : Hp) =>
((1 : Nat) = 1) ∧ (
stC h31 p6 (
Let (hset h31 p6 (.bool false)) fun (h32 : Hp) =>
RKeep h25 h32 ∧ Kx24 none h32))))) (
RKeep h25 h28 ∧ Kn23 h28)))) (fun (h33 : Hp) =>
J1 (()) h33) (StopL (fun (h34 : Hp) =>
∀ (h35 : Hp), Stp (Array.size h) h34 h35 → (
ldA (.int .i64) h35 p4 fun (r36 : Int) =>
ldA .bool h35 p6 fun (r37 : Bool) =>
K r36 r37 h35)) [(0, fun (h38 : Hp) =>
J1 (()) h38)])))

theorem F_lone_Upto_ok (a0_a : Sl) (a1_b : Sl) (a2_most : Int) (h : Hp) (K : Int → Bool → Hp → Prop) (hF : F_lone_Upto a0_a a1_b a2_most h K) : C_lone_Upto a0_a a1_b a2_most h K := by
  have e : bodyVC Try.prog Try.f21 (.seq .no (.seq .no (.join [] (.seq .no (.block (.rng (13, .at (.int .i64)) .no (.block (.seq .no (.seq .no (.cond (.seq .no .no) .no))))))) (.seq .dr .no)))) (Option.getD Try.f21.body .skip) [.slice a0_a.a a0_a.len a0_a.cap, .slice a1_b.a a1_b.len a1_b.cap, .int .i64 a2_most] h [.at (.int .i64), .at .bool] (fun s h => K s.1 s.2.1 h) = F_lone_Upto a0_a a1_b a2_most h K := by kernel_rfl
  exact fun_sound mixed Try.func21 rfl (e.mpr hF)

def F_lone_Norm (a0_a : Sl) (h : Hp) (K : Int → Hp → Prop) : Prop :=
C_lone_Dist a0_a (Sl.mk none 0 0) h fun (t1 : Int) (h2 : Hp) =>
K t1 h2

theorem F_lone_Norm_ok (a0_a : Sl) (h : Hp) (K : Int → Hp → Prop) (hF : F_lone_Norm a0_a h K) : C_lone_Norm a0_a h K := by
  have e : bodyVC Try.prog Try.f22 (.seq .no (.seq .no .no)) (Option.getD Try.f22.body .skip) [.slice a0_a.a a0_a.len a0_a.cap] h [.at (.int .i64)] (fun s h => K s.1 h) = F_lone_Norm a0_a h K := by kernel_rfl
  exact fun_sound mixed Try.func22 rfl (e.mpr hF)

def F_bound_in (a0_n : Int) (h : Hp) (K : Int → Hp → Prop) : Prop :=
Let (if 1125899906842624 < a0_n then 1125899906842624 else a0_n : Int) fun (t1 : Int) =>
Let (if t1 > 0 then t1 else 0 : Int) fun (t2 : Int) =>
K t2 h

theorem F_bound_in_ok (a0_n : Int) (h : Hp) (K : Int → Hp → Prop) (hF : F_bound_in a0_n h K) : C_bound_in a0_n h K := by
  have e : bodyVC Try.prog Try.f23 (.seq .no (.seq .no .no)) (Option.getD Try.f23.body .skip) [.int .i64 a0_n] h [.at (.int .i64)] (fun s h => K s.1 h) = F_bound_in a0_n h K := by kernel_rfl
  exact fun_sound mixed Try.func23 rfl (e.mpr hF)

def F_lone_places (a0_a : Sl) (a1_b : Sl) (h : Hp) (K : Value → Hp → Prop) : Prop :=
Let (Array.push h (Obj.cells #[.slice a0_a.a a0_a.len a0_a.cap] 33)) fun (h1 : Hp) =>
Let (Addr.mk (Array.size h) 0 none) fun (p2 : Addr) =>
Let (Array.push h1 (Obj.cells #[.slice a1_b.a a1_b.len a1_b.cap] 33)) fun (h3 : Hp) =>
Let (Addr.mk (Array.size h1) 0 none) fun (p4 : Addr) =>
K (.func (.func 26) #[] #[.pointer (some p2), .pointer (some p4)]) h3

theorem F_lone_places_ok (a0_a : Sl) (a1_b : Sl) (h : Hp) (K : Value → Hp → Prop) (hF : F_lone_places a0_a a1_b h K) : C_lone_places a0_a a1_b h K := by
  have e : bodyVC Try.prog Try.f24 (.seq .no (.seq .no .no)) (Option.getD Try.f24.body .skip) [.slice a0_a.a a0_a.len a0_a.cap, .slice a1_b.a a1_b.len a1_b.cap] h [.at .raw] (fun s h => K s.1 h) = F_lone_places a0_a a1_b h K := by kernel_rfl
  exact fun_sound mixed Try.func24 rfl (e.mpr hF)

def L1_ref06_pad (a1_n : Int) (K : Sl → Hp → Prop) (sL1 : (Sl × Unit) × Hp) (R1 : (Sl × Unit) × Hp → Prop) : Prop :=
cnd (decide ((sL1.1.1.len : Int) < a1_n)) (
Let (Array.push sL1.2 (Obj.cells #[.int .i32 0] 21)) fun (h3 : Hp) =>
Let (Addr.mk (Array.size sL1.2) 0 none) fun (p4 : Addr) =>
appS 21 1 4 [.int .i32 0] sL1.1.1.a sL1.1.1.len sL1.1.1.cap (.slice (some p4) 1 1) h3 fun (t5 : Sl) (h6 : Hp) =>
R1 ((t5, ()), h6)) (
K (Sl.mk sL1.1.1.a sL1.1.1.len sL1.1.1.cap) sL1.2)
def F_ref06_pad (a0_a : Sl) (a1_n : Int) (h : Hp) (K : Sl → Hp → Prop) : Prop :=
appS 21 1 4 [.int .i32 0] none 0 0 (.slice a0_a.a a0_a.len a0_a.cap) h fun (t1 : Sl) (h2 : Hp) =>
∃ n, Lp (L1_ref06_pad a1_n K) n ((t1, ()), h2)

theorem F_ref06_pad_ok (a0_a : Sl) (a1_n : Int) (h : Hp) (K : Sl → Hp → Prop) (hF : F_ref06_pad a0_a a1_n h K) : C_ref06_pad a0_a a1_n h K := by
  have e : bodyVC Try.prog Try.f25 (.seq .no (.seq .no (.seq (.block (.loop [(5, .at .sl)] (.seq (.seq .no (.cond .no .no)) (.block .no)))) (.seq .no .no)))) (Option.getD Try.f25.body .skip) [.slice a0_a.a a0_a.len a0_a.cap, .int .i64 a1_n] h [.at .sl] (fun s h => K s.1 h) = F_ref06_pad a0_a a1_n h K := by kernel_rfl
  exact fun_sound mixed Try.func25 rfl (e.mpr hF)

def L1_lone_places_1 (a0_yield : Value) (a1_t : Option Addr) (a2_t : Option Addr) (K : Hp → Prop) (t5 : Int) (sL1 : (Int × Unit) × Hp) (R1 : (Int × Unit) × Hp → Prop) : Prop :=
cnd (decide (sL1.1.1 < t5)) (
someA a1_t fun (p6 : Addr) =>
ldA .sl sL1.2 p6 fun (t7 : Sl) =>
C_lone_at t7 sL1.1.1 sL1.2 fun (t8 : Int) (h9 : Hp) =>
Ext sL1.2 h9 ∧ (
someA a2_t fun (p10 : Addr) =>
ldA .sl sL1.2 p10 fun (t11 : Sl) =>
C_lone_at t11 sL1.1.1 h9 fun (t12 : Int) (h13 : Hp) =>
C_lone_apart t8 t12 h13 fun (t14 : Int) (h15 : Hp) =>
callV Try.prog a0_yield [.int .i64 t14] [.at .bool] h15 fun (s : Bool × Unit) (h17 : Hp) =>
cnd (!s.1) (
K h17) (
Let (IntKind.wrap .i64 (sL1.1.1 + 1) : Int) fun (t18 : Int) =>
R1 ((t18, ()), h17)))) (
K sL1.2)
def F_lone_places_1 (a0_yield : Value) (a1_t : Option Addr) (a2_t : Option Addr) (h : Hp) (K : Hp → Prop) : Prop :=
someA a1_t fun (p1 : Addr) =>
ldA .sl h p1 fun (t2 : Sl) =>
someA a2_t fun (p3 : Addr) =>
ldA .sl h p3 fun (t4 : Sl) =>
Let (if (t4.len : Int) > (t2.len : Int) then (t4.len : Int) else (t2.len : Int) : Int) fun (t5 : Int) =>
∃ n, Lp (L1_lone_places_1 a0_yield a1_t a2_t K t5) n ((0, ()), h)

theorem F_lone_places_1_ok (a0_yield : Value) (a1_t : Option Addr) (a2_t : Option Addr) (h : Hp) (K : Hp → Prop) (hF : F_lone_places_1 a0_yield a1_t a2_t h K) : C_lone_places_1 a0_yield a1_t a2_t h K := by
  have e : bodyVC Try.prog Try.f26 (.seq .no (.block (.loop [(10, .at (.int .i64))] (.seq .no (.seq (.cond .no .no) (.seq (.block (.seq .no (.seq .no (.cond .no .no)))) .no)))))) (Option.getD Try.f26.body .skip) [a0_yield, .pointer a1_t, .pointer a2_t] h [] (fun s h => K h) = F_lone_places_1 a0_yield a1_t a2_t h K := by kernel_rfl
  exact fun_sound mixed Try.func26 rfl (e.mpr hF)

def F_lone_apart (a0_x : Int) (a1_y : Int) (h : Hp) (K : Int → Hp → Prop) : Prop :=
Let (IntKind.wrap .i64 (a0_x) : Int) fun (t1 : Int) =>
Let (IntKind.wrap .i64 (a1_y) : Int) fun (t2 : Int) =>
Let (IntKind.wrap .i64 (t1 - t2) : Int) fun (t3 : Int) =>
Let (IntKind.wrap .i64 (0 - t3) : Int) fun (t4 : Int) =>
Let (if t4 > t3 then t4 else t3 : Int) fun (t5 : Int) =>
K t5 h

theorem F_lone_apart_ok (a0_x : Int) (a1_y : Int) (h : Hp) (K : Int → Hp → Prop) (hF : F_lone_apart a0_x a1_y h K) : C_lone_apart a0_x a1_y h K := by
  have e : bodyVC Try.prog Try.f27 (.seq .no (.seq .no (.seq .no .no))) (Option.getD Try.f27.body .skip) [.int .i32 a0_x, .int .i32 a1_y] h [.at (.int .i64)] (fun s h => K s.1 h) = F_lone_apart a0_x a1_y h K := by kernel_rfl
  exact fun_sound mixed Try.func27 rfl (e.mpr hF)

def F_lone_at (a0_a : Sl) (a1_i : Int) (h : Hp) (K : Int → Hp → Prop) : Prop :=
cnd (decide (a1_i < (a0_a.len : Int))) (
idxS a0_a.a a0_a.len a1_i 1 fun (p1 : Addr) =>
ldA (.int .i32) h p1 fun (t2 : Int) =>
K t2 h) (
K 0 h)

theorem F_lone_at_ok (a0_a : Sl) (a1_i : Int) (h : Hp) (K : Int → Hp → Prop) (hF : F_lone_at a0_a a1_i h K) : C_lone_at a0_a a1_i h K := by
  have e : bodyVC Try.prog Try.f28 (.seq .no (.seq (.seq .no (.cond (.seq .no .no) .no)) (.seq .no .no))) (Option.getD Try.f28.body .skip) [.slice a0_a.a a0_a.len a0_a.cap, .int .i64 a1_i] h [.at (.int .i32)] (fun s h => K s.1 h) = F_lone_at a0_a a1_i h K := by kernel_rfl
  exact fun_sound mixed Try.func28 rfl (e.mpr hF)

end Go.Proofs.YtmepenlhjekppaaF
