/- The formulas of the seat's functions and the proofs that they are enough, printed by gen.py of this session. No condition. -/
import Derived.Test.YtaakopekdpopnaaProg
import Derived.Test.YtaakopekdpopnaaK7
namespace Go.Proofs.YtaakopekdpopnaaF
open Go Go.Proofs.YtaakopekdpopnaaK Go.Proofs
set_option linter.unusedVariables false
set_option maxRecDepth 100000
theorem mixed : Try.prog.follows .mixedOrders = true := by kernel_rfl
def C_gosem_cut_init  (h : Hp) (K : Hp → Prop) : Prop :=
  CallT Try.prog 2 [] [] h fun s h => K h
def C_law45_ReportShape (a0_x : Sl) (a1_x : Sl) (a2_x : Sl) (a3_x : Int) (a4_x : Sl) (a5_x : Sl) (h : Hp) (K : Bool → Hp → Prop) : Prop :=
  CallT Try.prog 3 [.agg #[.slice a0_x.a a0_x.len a0_x.cap, .slice a1_x.a a1_x.len a1_x.cap, .slice a2_x.a a2_x.len a2_x.cap, .int .i64 a3_x, .slice a4_x.a a4_x.len a4_x.cap, .slice a5_x.a a5_x.len a5_x.cap]] [.at .bool] h fun s h => K s.1 h
def C_ref07_Ints (a0_a : Sl) (a1_b : Sl) (h : Hp) (K : Bool → Hp → Prop) : Prop :=
  CallT Try.prog 4 [.slice a0_a.a a0_a.len a0_a.cap, .slice a1_b.a a1_b.len a1_b.cap] [.at .bool] h fun s h => K s.1 h
def C_law45_figures (a0_f : Int) (a1_f : Int) (a2_f : Int) (a3_f : Int) (a4_f : Int) (h : Hp) (K : Sl → Hp → Prop) : Prop :=
  CallT Try.prog 5 [.agg #[.int .i64 a0_f, .int .i64 a1_f, .int .i64 a2_f, .int .i64 a3_f, .int .i64 a4_f]] [.at .sl] h fun s h => K s.1 h
def C_report_Shape (a0_x : Sl) (a1_x : Sl) (a2_x : Sl) (a3_x : Int) (a4_x : Sl) (a5_x : Sl) (h : Hp) (K : Int → Int → Int → Int → Int → Hp → Prop) : Prop :=
  CallT Try.prog 6 [.agg #[.slice a0_x.a a0_x.len a0_x.cap, .slice a1_x.a a1_x.len a1_x.cap, .slice a2_x.a a2_x.len a2_x.cap, .int .i64 a3_x, .slice a4_x.a a4_x.len a4_x.cap, .slice a5_x.a a5_x.len a5_x.cap]] [.agg [(.int .i64), (.int .i64), (.int .i64), (.int .i64), (.int .i64)]] h fun s h => K s.1.1 s.1.2.1 s.1.2.2.1 s.1.2.2.2.1 s.1.2.2.2.2.1 h
def C_ref45_Shape (a0_x : Sl) (a1_x : Sl) (a2_x : Sl) (a3_x : Int) (a4_x : Sl) (a5_x : Sl) (h : Hp) (K : Sl → Hp → Prop) : Prop :=
  CallT Try.prog 7 [.agg #[.slice a0_x.a a0_x.len a0_x.cap, .slice a1_x.a a1_x.len a1_x.cap, .slice a2_x.a a2_x.len a2_x.cap, .int .i64 a3_x, .slice a4_x.a a4_x.len a4_x.cap, .slice a5_x.a a5_x.len a5_x.cap]] [.at .sl] h fun s h => K s.1 h
def C_law45_lives  (h : Hp) (K : Bool → Hp → Prop) : Prop :=
  CallT Try.prog 8 [] [.at .bool] h fun s h => K s.1 h
def C_report_deep (a0_parents : Sl) (h : Hp) (K : Int → Hp → Prop) : Prop :=
  CallT Try.prog 9 [.slice a0_parents.a a0_parents.len a0_parents.cap] [.at (.int .i64)] h fun s h => K s.1 h
def C_ref45_parents (a0_x : Sl) (a1_x : Sl) (a2_x : Sl) (a3_x : Int) (a4_x : Sl) (a5_x : Sl) (h : Hp) (K : Sl → Hp → Prop) : Prop :=
  CallT Try.prog 10 [.agg #[.slice a0_x.a a0_x.len a0_x.cap, .slice a1_x.a a1_x.len a1_x.cap, .slice a2_x.a a2_x.len a2_x.cap, .int .i64 a3_x, .slice a4_x.a a4_x.len a4_x.cap, .slice a5_x.a a5_x.len a5_x.cap]] [.at .sl] h fun s h => K s.1 h
def C_report_Buckets (a0_l : Sl) (a1_width : Int) (a2_many : Int) (h : Hp) (K : Sl → Hp → Prop) : Prop :=
  CallT Try.prog 11 [.slice a0_l.a a0_l.len a0_l.cap, .int .i64 a1_width, .int .i64 a2_many] [.at .sl] h fun s h => K s.1 h
def F_law45_ReportShape (a0_x : Sl) (a1_x : Sl) (a2_x : Sl) (a3_x : Int) (a4_x : Sl) (a5_x : Sl) (h : Hp) (K : Bool → Hp → Prop) : Prop :=
Let (Array.push h (Obj.cells #[.slice a0_x.a a0_x.len a0_x.cap, .slice a1_x.a a1_x.len a1_x.cap, .slice a2_x.a a2_x.len a2_x.cap, .int .i64 a3_x, .slice a4_x.a a4_x.len a4_x.cap, .slice a5_x.a a5_x.len a5_x.cap] 28)) fun (h1 : Hp) =>
Let (Addr.mk (Array.size h) 0 none) fun (p2 : Addr) =>
ldA .sl h1 p2 fun (t3 : Sl) =>
ldA .sl h1 (Addr.add p2 1) fun (t4 : Sl) =>
ldA .sl h1 (Addr.add p2 2) fun (t5 : Sl) =>
ldA (.int .i64) h1 (Addr.add p2 3) fun (t6 : Int) =>
ldA .sl h1 (Addr.add p2 4) fun (t7 : Sl) =>
ldA .sl h1 (Addr.add p2 5) fun (t8 : Sl) =>
C_report_Shape t3 t4 t5 t6 t7 t8 h1 fun (t9 : Int) (t10 : Int) (t11 : Int) (t12 : Int) (t13 : Int) (h14 : Hp) =>
Ext h1 h14 ∧ (
C_law45_figures t9 t10 t11 t12 t13 h14 fun (t15 : Sl) (h16 : Hp) =>
Ext h14 h16 ∧ (
ldA .sl h1 p2 fun (t17 : Sl) =>
ldA .sl h1 (Addr.add p2 1) fun (t18 : Sl) =>
ldA .sl h1 (Addr.add p2 2) fun (t19 : Sl) =>
ldA (.int .i64) h1 (Addr.add p2 3) fun (t20 : Int) =>
ldA .sl h1 (Addr.add p2 4) fun (t21 : Sl) =>
ldA .sl h1 (Addr.add p2 5) fun (t22 : Sl) =>
C_ref45_Shape t17 t18 t19 t20 t21 t22 h16 fun (t23 : Sl) (h24 : Hp) =>
C_ref07_Ints t15 t23 h24 fun (t25 : Bool) (h26 : Hp) =>
cnd t25 (
C_law45_lives  h26 fun (t27 : Bool) (h28 : Hp) =>
K t27 h28) (
K false h26)))

theorem F_law45_ReportShape_ok (a0_x : Sl) (a1_x : Sl) (a2_x : Sl) (a3_x : Int) (a4_x : Sl) (a5_x : Sl) (h : Hp) (K : Bool → Hp → Prop) (hF : F_law45_ReportShape a0_x a1_x a2_x a3_x a4_x a5_x h K) : C_law45_ReportShape a0_x a1_x a2_x a3_x a4_x a5_x h K := by
  have e : bodyVC Try.prog Try.f3 (.seq .no (.seq .no .no)) (Option.getD Try.f3.body .skip) [.agg #[.slice a0_x.a a0_x.len a0_x.cap, .slice a1_x.a a1_x.len a1_x.cap, .slice a2_x.a a2_x.len a2_x.cap, .int .i64 a3_x, .slice a4_x.a a4_x.len a4_x.cap, .slice a5_x.a a5_x.len a5_x.cap]] h [.at .bool] (fun s h => K s.1 h) = F_law45_ReportShape a0_x a1_x a2_x a3_x a4_x a5_x h K := by kernel_rfl
  exact fun_sound mixed Try.func3 rfl (e.mpr hF)

def L1_ref07_Ints (a0_a : Sl) (a1_b : Sl) (K : Bool → Hp → Prop) (sL1 : (Int × Unit) × Hp) (R1 : (Int × Unit) × Hp → Prop) : Prop :=
cnd (decide (sL1.1.1 < (a0_a.len : Int))) (
idxS a0_a.a a0_a.len sL1.1.1 1 fun (p1 : Addr) =>
ldA (.int .i64) sL1.2 p1 fun (t2 : Int) =>
idxS a1_b.a a1_b.len sL1.1.1 1 fun (p3 : Addr) =>
ldA (.int .i64) sL1.2 p3 fun (t4 : Int) =>
cnd (t2 != t4) (
K false sL1.2) (
Let (IntKind.wrap .i64 (sL1.1.1 + 1) : Int) fun (t5 : Int) =>
R1 ((t5, ()), sL1.2))) (
K true sL1.2)
def F_ref07_Ints (a0_a : Sl) (a1_b : Sl) (h : Hp) (K : Bool → Hp → Prop) : Prop :=
cnd ((a0_a.len : Int) != (a1_b.len : Int)) (
K false h) (
∃ n, Lp (L1_ref07_Ints a0_a a1_b K) n ((0, ()), h))

theorem F_ref07_Ints_ok (a0_a : Sl) (a1_b : Sl) (h : Hp) (K : Bool → Hp → Prop) (hF : F_ref07_Ints a0_a a1_b h K) : C_ref07_Ints a0_a a1_b h K := by
  have e : bodyVC Try.prog Try.f4 (.seq .no (.seq (.seq .no (.cond (.seq .no .no) .no)) (.seq (.seq .no (.block (.loop [(5, .at (.int .i64))] (.seq (.seq .no (.cond .no .no)) (.seq (.block (.seq .no (.cond (.seq .no .no) .no))) .no))))) (.seq .no .no)))) (Option.getD Try.f4.body .skip) [.slice a0_a.a a0_a.len a0_a.cap, .slice a1_b.a a1_b.len a1_b.cap] h [.at .bool] (fun s h => K s.1 h) = F_ref07_Ints a0_a a1_b h K := by kernel_rfl
  exact fun_sound mixed Try.func4 rfl (e.mpr hF)

def F_law45_figures (a0_f : Int) (a1_f : Int) (a2_f : Int) (a3_f : Int) (a4_f : Int) (h : Hp) (K : Sl → Hp → Prop) : Prop :=
Let (Array.push h (Obj.cells #[.int .i64 a0_f, .int .i64 a1_f, .int .i64 a2_f, .int .i64 a3_f, .int .i64 a4_f] 33)) fun (h1 : Hp) =>
Let (Addr.mk (Array.size h) 0 none) fun (p2 : Addr) =>
ldA (.int .i64) h1 p2 fun (t3 : Int) =>
ldA (.int .i64) h1 (Addr.add p2 1) fun (t4 : Int) =>
ldA (.int .i64) h1 (Addr.add p2 2) fun (t5 : Int) =>
ldA (.int .i64) h1 (Addr.add p2 3) fun (t6 : Int) =>
ldA (.int .i64) h1 (Addr.add p2 4) fun (t7 : Int) =>
Let (Array.push h1 (Obj.cells #[.int .i64 t3, .int .i64 t4, .int .i64 t5, .int .i64 t6, .int .i64 t7] 3)) fun (h8 : Hp) =>
Let (Addr.mk (Array.size h1) 0 none) fun (p9 : Addr) =>
K (Sl.mk (some p9) 5 5) h8

theorem F_law45_figures_ok (a0_f : Int) (a1_f : Int) (a2_f : Int) (a3_f : Int) (a4_f : Int) (h : Hp) (K : Sl → Hp → Prop) (hF : F_law45_figures a0_f a1_f a2_f a3_f a4_f h K) : C_law45_figures a0_f a1_f a2_f a3_f a4_f h K := by
  have e : bodyVC Try.prog Try.f5 (.seq .no (.seq .no .no)) (Option.getD Try.f5.body .skip) [.agg #[.int .i64 a0_f, .int .i64 a1_f, .int .i64 a2_f, .int .i64 a3_f, .int .i64 a4_f]] h [.at .sl] (fun s h => K s.1 h) = F_law45_figures a0_f a1_f a2_f a3_f a4_f h K := by kernel_rfl
  exact fun_sound mixed Try.func5 rfl (e.mpr hF)

def J3_report_Shape (K : Int → Int → Int → Int → Int → Hp → Prop) (p4 : Addr) (p13 : Addr) (sJ1 : Sl × Unit) (sJ2 : Sl × Unit) (sJ3 : Sl × Unit) (hJ3 : Hp) : Prop :=
C_report_deep (Sl.mk sJ1.1.a sJ1.1.len sJ1.1.cap) hJ3 fun (t19 : Int) (h20 : Hp) =>
C_report_deep (Sl.mk sJ2.1.a sJ2.1.len sJ2.1.cap) h20 fun (t21 : Int) (h22 : Hp) =>
C_report_deep (Sl.mk sJ3.1.a sJ3.1.len sJ3.1.cap) h22 fun (t23 : Int) (h24 : Hp) =>
Let (if t21 > t19 then t21 else t19 : Int) fun (t25 : Int) =>
Let (if t23 > t25 then t23 else t25 : Int) fun (t26 : Int) =>
((1 : Nat) = 1) ∧ (
stC h24 (Addr.add p13 1) (
Let (hset h24 (Addr.add p13 1) (.int .i64 t26)) fun (h27 : Hp) =>
ldA (.int .i64) h27 p13 fun (t28 : Int) =>
ldA (.int .i64) h27 (Addr.add p13 1) fun (t29 : Int) =>
ldA (.int .i64) h27 (Addr.add p13 2) fun (t30 : Int) =>
ldA (.int .i64) h27 (Addr.add p13 3) fun (t31 : Int) =>
ldA (.int .i64) h27 (Addr.add p13 4) fun (t32 : Int) =>
stC h27 p4 (
Let (hset h27 p4 (.int .i64 t28)) fun (h33 : Hp) =>
stC h33 (Addr.add p4 1) (
Let (hset h33 (Addr.add p4 1) (.int .i64 t29)) fun (h34 : Hp) =>
stC h34 (Addr.add p4 2) (
Let (hset h34 (Addr.add p4 2) (.int .i64 t30)) fun (h35 : Hp) =>
stC h35 (Addr.add p4 3) (
Let (hset h35 (Addr.add p4 3) (.int .i64 t31)) fun (h36 : Hp) =>
stC h36 (Addr.add p4 4) (
Let (hset h36 (Addr.add p4 4) (.int .i64 t32)) fun (h37 : Hp) =>
ldA (.int .i64) h37 p4 fun (r38 : Int) =>
ldA (.int .i64) h37 (Addr.add p4 1) fun (r39 : Int) =>
ldA (.int .i64) h37 (Addr.add p4 2) fun (r40 : Int) =>
ldA (.int .i64) h37 (Addr.add p4 3) fun (r41 : Int) =>
ldA (.int .i64) h37 (Addr.add p4 4) fun (r42 : Int) =>
K r38 r39 r40 r41 r42 h37)))))))
def L1_report_Shape (J3 : Sl × Unit → Hp → Prop) (t43 : Sl) (sL1 : (Sl × Int × Unit) × Hp) (R1 : (Sl × Int × Unit) × Hp → Prop) : Prop :=
cnd (decide (sL1.1.2.1 < (t43.len : Int))) (
idxS t43.a t43.len sL1.1.2.1 3 fun (p44 : Addr) =>
ldA .bool sL1.2 p44 fun (t45 : Bool) =>
ldA (.int .i64) sL1.2 (Addr.add p44 1) fun (t46 : Int) =>
ldA .sl sL1.2 (Addr.add p44 2) fun (t47 : Sl) =>
Let (Array.push sL1.2 (Obj.cells #[.bool false, .int .i64 0, .slice none 0 0] 51)) fun (h48 : Hp) =>
Let (Addr.mk (Array.size sL1.2) 0 none) fun (p49 : Addr) =>
stC h48 p49 (
Let (hset h48 p49 (.bool t45)) fun (h50 : Hp) =>
stC h50 (Addr.add p49 1) (
Let (hset h50 (Addr.add p49 1) (.int .i64 t46)) fun (h51 : Hp) =>
stC h51 (Addr.add p49 2) (
Let (hset h51 (Addr.add p49 2) (.slice t47.a t47.len t47.cap)) fun (h52 : Hp) =>
ldA (.int .i64) h52 (Addr.add p49 1) fun (t53 : Int) =>
Let (Array.push h52 (Obj.cells #[.int .i64 t53] 3)) fun (h54 : Hp) =>
Let (Addr.mk (Array.size h52) 0 none) fun (p55 : Addr) =>
appS 3 1 8 [.int .i64 0] sL1.1.1.a sL1.1.1.len sL1.1.1.cap (.slice (some p55) 1 1) h54 fun (t56 : Sl) (h57 : Hp) =>
Let (IntKind.wrap .i64 (sL1.1.2.1 + 1) : Int) fun (t58 : Int) =>
R1 ((t56, t58, ()), h57))))) (
J3 ((Sl.mk sL1.1.1.a sL1.1.1.len sL1.1.1.cap), ()) sL1.2)
def J2_report_Shape (K : Int → Int → Int → Int → Int → Hp → Prop) (p2 : Addr) (p4 : Addr) (p13 : Addr) (sJ1 : Sl × Unit) (sJ2 : Sl × Unit) (hJ2 : Hp) : Prop :=
Jn (J3_report_Shape K p4 p13 sJ1 sJ2) fun (J3 : Sl × Unit → Hp → Prop) =>
ldA .sl hJ2 (Addr.add p2 2) fun (t43 : Sl) =>
∃ n, Lp (L1_report_Shape J3 t43) n (((Sl.mk none 0 0), 0, ()), hJ2)
def L2_report_Shape (p13 : Addr) (J2 : Sl × Unit → Hp → Prop) (t59 : Sl) (sL2 : (Sl × Int × Unit) × Hp) (R2 : (Sl × Int × Unit) × Hp → Prop) : Prop :=
cnd (decide (sL2.1.2.1 < (t59.len : Int))) (
idxS t59.a t59.len sL2.1.2.1 14 fun (p60 : Addr) =>
ldA .bool sL2.2 p60 fun (t61 : Bool) =>
ldA .sl sL2.2 (Addr.add p60 1) fun (t62 : Sl) =>
ldA (.int .u64) sL2.2 (Addr.add p60 2) fun (t63 : Int) =>
ldA (.int .i64) sL2.2 (Addr.add p60 3) fun (t64 : Int) =>
ldA .sl sL2.2 (Addr.add p60 4) fun (t65 : Sl) =>
ldA .str sL2.2 (Addr.add p60 5) fun (t66 : ByteArray) =>
ldA .bool sL2.2 (Addr.add p60 6) fun (t67 : Bool) =>
ldA (.int .i64) sL2.2 (Addr.add p60 7) fun (t68 : Int) =>
ldA (.int .i64) sL2.2 (Addr.add p60 8) fun (t69 : Int) =>
ldA (.int .i64) sL2.2 (Addr.add p60 9) fun (t70 : Int) =>
ldA (.int .i64) sL2.2 (Addr.add p60 10) fun (t71 : Int) =>
ldA (.int .i64) sL2.2 (Addr.add p60 11) fun (t72 : Int) =>
ldA (.int .i64) sL2.2 (Addr.add p60 12) fun (t73 : Int) =>
ldA (.int .i64) sL2.2 (Addr.add p60 13) fun (t74 : Int) =>
Let (Array.push sL2.2 (Obj.cells #[.bool false, .slice none 0 0, .int .u64 0, .int .i64 0, .slice none 0 0, .string (ByteArray.mk #[]), .bool false, .int .i64 0, .int .i64 0, .int .i64 0, .int .i64 0, .int .i64 0, .int .i64 0, .int .i64 0] 48)) fun (h75 : Hp) =>
Let (Addr.mk (Array.size sL2.2) 0 none) fun (p76 : Addr) =>
stC h75 p76 (
Let (hset h75 p76 (.bool t61)) fun (h77 : Hp) =>
stC h77 (Addr.add p76 1) (
Let (hset h77 (Addr.add p76 1) (.slice t62.a t62.len t62.cap)) fun (h78 : Hp) =>
stC h78 (Addr.add p76 2) (
Let (hset h78 (Addr.add p76 2) (.int .u64 t63)) fun (h79 : Hp) =>
stC h79 (Addr.add p76 3) (
Let (hset h79 (Addr.add p76 3) (.int .i64 t64)) fun (h80 : Hp) =>
stC h80 (Addr.add p76 4) (
Let (hset h80 (Addr.add p76 4) (.slice t65.a t65.len t65.cap)) fun (h81 : Hp) =>
stC h81 (Addr.add p76 5) (
Let (hset h81 (Addr.add p76 5) (.string t66)) fun (h82 : Hp) =>
stC h82 (Addr.add p76 6) (
Let (hset h82 (Addr.add p76 6) (.bool t67)) fun (h83 : Hp) =>
stC h83 (Addr.add p76 7) (
Let (hset h83 (Addr.add p76 7) (.int .i64 t68)) fun (h84 : Hp) =>
stC h84 (Addr.add p76 8) (
Let (hset h84 (Addr.add p76 8) (.int .i64 t69)) fun (h85 : Hp) =>
stC h85 (Addr.add p76 9) (
Let (hset h85 (Addr.add p76 9) (.int .i64 t70)) fun (h86 : Hp) =>
stC h86 (Addr.add p76 10) (
Let (hset h86 (Addr.add p76 10) (.int .i64 t71)) fun (h87 : Hp) =>
stC h87 (Addr.add p76 11) (
Let (hset h87 (Addr.add p76 11) (.int .i64 t72)) fun (h88 : Hp) =>
stC h88 (Addr.add p76 12) (
Let (hset h88 (Addr.add p76 12) (.int .i64 t73)) fun (h89 : Hp) =>
stC h89 (Addr.add p76 13) (
Let (hset h89 (Addr.add p76 13) (.int .i64 t74)) fun (h90 : Hp) =>
ldA (.int .i64) h90 (Addr.add p76 7) fun (t91 : Int) =>
Let (Array.push h90 (Obj.cells #[.int .i64 t91] 3)) fun (h92 : Hp) =>
Let (Addr.mk (Array.size h90) 0 none) fun (p93 : Addr) =>
appS 3 1 8 [.int .i64 0] sL2.1.1.a sL2.1.1.len sL2.1.1.cap (.slice (some p93) 1 1) h92 fun (t94 : Sl) (h95 : Hp) =>
ldA .bool h95 (Addr.add p76 6) fun (t96 : Bool) =>
cnd t96 (
ldA (.int .i64) h95 (Addr.add p13 2) fun (t97 : Int) =>
Let (IntKind.wrap .i64 (t97 + 1) : Int) fun (t98 : Int) =>
((1 : Nat) = 1) ∧ (
stC h95 (Addr.add p13 2) (
Let (hset h95 (Addr.add p13 2) (.int .i64 t98)) fun (h99 : Hp) =>
Let (IntKind.wrap .i64 (sL2.1.2.1 + 1) : Int) fun (t100 : Int) =>
R2 ((t94, t100, ()), h99)))) (
Let (IntKind.wrap .i64 (sL2.1.2.1 + 1) : Int) fun (t101 : Int) =>
R2 ((t94, t101, ()), h95))))))))))))))))) (
J2 ((Sl.mk sL2.1.1.a sL2.1.1.len sL2.1.1.cap), ()) sL2.2)
def J1_report_Shape (K : Int → Int → Int → Int → Int → Hp → Prop) (p2 : Addr) (p4 : Addr) (p13 : Addr) (sJ1 : Sl × Unit) (hJ1 : Hp) : Prop :=
Jn (J2_report_Shape K p2 p4 p13 sJ1) fun (J2 : Sl × Unit → Hp → Prop) =>
ldA .sl hJ1 (Addr.add p2 1) fun (t59 : Sl) =>
∃ n, Lp (L2_report_Shape p13 J2 t59) n (((Sl.mk none 0 0), 0, ()), hJ1)
def L3_report_Shape (p13 : Addr) (J1 : Sl × Unit → Hp → Prop) (t102 : Sl) (sL3 : (Sl × Int × Unit) × Hp) (R3 : (Sl × Int × Unit) × Hp → Prop) : Prop :=
cnd (decide (sL3.1.2.1 < (t102.len : Int))) (
idxS t102.a t102.len sL3.1.2.1 7 fun (p103 : Addr) =>
ldA (.int .u64) sL3.2 p103 fun (t104 : Int) =>
ldA (.int .i64) sL3.2 (Addr.add p103 1) fun (t105 : Int) =>
ldA .sl sL3.2 (Addr.add p103 2) fun (t106 : Sl) =>
ldA .str sL3.2 (Addr.add p103 3) fun (t107 : ByteArray) =>
ldA .bool sL3.2 (Addr.add p103 4) fun (t108 : Bool) =>
ldA (.int .i64) sL3.2 (Addr.add p103 5) fun (t109 : Int) =>
ldA (.int .i64) sL3.2 (Addr.add p103 6) fun (t110 : Int) =>
Let (Array.push sL3.2 (Obj.cells #[.int .u64 0, .int .i64 0, .slice none 0 0, .string (ByteArray.mk #[]), .bool false, .int .i64 0, .int .i64 0] 45)) fun (h111 : Hp) =>
Let (Addr.mk (Array.size sL3.2) 0 none) fun (p112 : Addr) =>
stC h111 p112 (
Let (hset h111 p112 (.int .u64 t104)) fun (h113 : Hp) =>
stC h113 (Addr.add p112 1) (
Let (hset h113 (Addr.add p112 1) (.int .i64 t105)) fun (h114 : Hp) =>
stC h114 (Addr.add p112 2) (
Let (hset h114 (Addr.add p112 2) (.slice t106.a t106.len t106.cap)) fun (h115 : Hp) =>
stC h115 (Addr.add p112 3) (
Let (hset h115 (Addr.add p112 3) (.string t107)) fun (h116 : Hp) =>
stC h116 (Addr.add p112 4) (
Let (hset h116 (Addr.add p112 4) (.bool t108)) fun (h117 : Hp) =>
stC h117 (Addr.add p112 5) (
Let (hset h117 (Addr.add p112 5) (.int .i64 t109)) fun (h118 : Hp) =>
stC h118 (Addr.add p112 6) (
Let (hset h118 (Addr.add p112 6) (.int .i64 t110)) fun (h119 : Hp) =>
ldA (.int .i64) h119 (Addr.add p112 5) fun (t120 : Int) =>
Let (Array.push h119 (Obj.cells #[.int .i64 t120] 3)) fun (h121 : Hp) =>
Let (Addr.mk (Array.size h119) 0 none) fun (p122 : Addr) =>
appS 3 1 8 [.int .i64 0] sL3.1.1.a sL3.1.1.len sL3.1.1.cap (.slice (some p122) 1 1) h121 fun (t123 : Sl) (h124 : Hp) =>
ldA .bool h124 (Addr.add p112 4) fun (t125 : Bool) =>
cnd t125 (
ldA (.int .i64) h124 (Addr.add p13 2) fun (t126 : Int) =>
Let (IntKind.wrap .i64 (t126 + 1) : Int) fun (t127 : Int) =>
((1 : Nat) = 1) ∧ (
stC h124 (Addr.add p13 2) (
Let (hset h124 (Addr.add p13 2) (.int .i64 t127)) fun (h128 : Hp) =>
Let (IntKind.wrap .i64 (sL3.1.2.1 + 1) : Int) fun (t129 : Int) =>
R3 ((t123, t129, ()), h128)))) (
Let (IntKind.wrap .i64 (sL3.1.2.1 + 1) : Int) fun (t130 : Int) =>
R3 ((t123, t130, ()), h124)))))))))) (
J1 ((Sl.mk sL3.1.1.a sL3.1.1.len sL3.1.1.cap), ()) sL3.2)
def F_report_Shape (a0_x : Sl) (a1_x : Sl) (a2_x : Sl) (a3_x : Int) (a4_x : Sl) (a5_x : Sl) (h : Hp) (K : Int → Int → Int → Int → Int → Hp → Prop) : Prop :=
Let (Array.push h (Obj.cells #[.slice a0_x.a a0_x.len a0_x.cap, .slice a1_x.a a1_x.len a1_x.cap, .slice a2_x.a a2_x.len a2_x.cap, .int .i64 a3_x, .slice a4_x.a a4_x.len a4_x.cap, .slice a5_x.a a5_x.len a5_x.cap] 28)) fun (h1 : Hp) =>
Let (Addr.mk (Array.size h) 0 none) fun (p2 : Addr) =>
Let (Array.push h1 (Obj.cells #[.int .i64 0, .int .i64 0, .int .i64 0, .int .i64 0, .int .i64 0] 33)) fun (h3 : Hp) =>
Let (Addr.mk (Array.size h1) 0 none) fun (p4 : Addr) =>
ldA .sl h3 p2 fun (t5 : Sl) =>
ldA .sl h3 (Addr.add p2 1) fun (t6 : Sl) =>
Let (IntKind.wrap .i64 ((t5.len : Int) + (t6.len : Int)) : Int) fun (t7 : Int) =>
ldA .sl h3 (Addr.add p2 2) fun (t8 : Sl) =>
Let (IntKind.wrap .i64 (t7 + (t8.len : Int)) : Int) fun (t9 : Int) =>
ldA .sl h3 (Addr.add p2 4) fun (t10 : Sl) =>
ldA .sl h3 (Addr.add p2 5) fun (t11 : Sl) =>
Let (Array.push h3 (Obj.cells #[.int .i64 0, .int .i64 0, .int .i64 0, .int .i64 0, .int .i64 0] 33)) fun (h12 : Hp) =>
Let (Addr.mk (Array.size h3) 0 none) fun (p13 : Addr) =>
stC h12 p13 (
Let (hset h12 p13 (.int .i64 t9)) fun (h14 : Hp) =>
stC h14 (Addr.add p13 1) (
Let (hset h14 (Addr.add p13 1) (.int .i64 0)) fun (h15 : Hp) =>
stC h15 (Addr.add p13 2) (
Let (hset h15 (Addr.add p13 2) (.int .i64 0)) fun (h16 : Hp) =>
stC h16 (Addr.add p13 3) (
Let (hset h16 (Addr.add p13 3) (.int .i64 (t10.len : Int))) fun (h17 : Hp) =>
stC h17 (Addr.add p13 4) (
Let (hset h17 (Addr.add p13 4) (.int .i64 (t11.len : Int))) fun (h18 : Hp) =>
Jn (J1_report_Shape K p2 p4 p13) fun (J1 : Sl × Unit → Hp → Prop) =>
ldA .sl h18 p2 fun (t102 : Sl) =>
∃ n, Lp (L3_report_Shape p13 J1 t102) n (((Sl.mk none 0 0), 0, ()), h18))))))

theorem F_report_Shape_ok (a0_x : Sl) (a1_x : Sl) (a2_x : Sl) (a3_x : Int) (a4_x : Sl) (a5_x : Sl) (h : Hp) (K : Int → Int → Int → Int → Int → Hp → Prop) (hF : F_report_Shape a0_x a1_x a2_x a3_x a4_x a5_x h K) : C_report_Shape a0_x a1_x a2_x a3_x a4_x a5_x h K := by
  have e : bodyVC Try.prog Try.f6 (.seq .no (.seq .no (.seq .no (.join [(4, .at .sl)] (.seq .no (.block (.loop [(4, .at .sl), (34, .at (.int .i64))] (.seq .no (.seq (.cond .no .no) (.seq (.block (.seq .no (.seq .no (.seq .no (.cond .no .no))))) .no)))))) (.join [(5, .at .sl)] (.seq .no (.block (.loop [(5, .at .sl), (53, .at (.int .i64))] (.seq .no (.seq (.cond .no .no) (.seq (.block (.seq .no (.seq .no (.seq .no (.cond .no .no))))) .no)))))) (.join [(6, .at .sl)] (.seq .no (.block (.loop [(6, .at .sl), (72, .at (.int .i64))] (.seq .no (.seq (.cond .no .no) (.seq (.block (.seq .no .no)) .no)))))) (.seq .no (.seq .no .no)))))))) (Option.getD Try.f6.body .skip) [.agg #[.slice a0_x.a a0_x.len a0_x.cap, .slice a1_x.a a1_x.len a1_x.cap, .slice a2_x.a a2_x.len a2_x.cap, .int .i64 a3_x, .slice a4_x.a a4_x.len a4_x.cap, .slice a5_x.a a5_x.len a5_x.cap]] h [.agg [(.int .i64), (.int .i64), (.int .i64), (.int .i64), (.int .i64)]] (fun s h => K s.1.1 s.1.2.1 s.1.2.2.1 s.1.2.2.2.1 s.1.2.2.2.2.1 h) = F_report_Shape a0_x a1_x a2_x a3_x a4_x a5_x h K := by kernel_rfl
  exact fun_sound mixed Try.func6 rfl (e.mpr hF)

def J3_ref45_Shape (K : Sl → Hp → Prop) (p2 : Addr) (t9 : Sl) (sJ1 : Int × Unit) (sJ3 : Int × Unit) (hJ3 : Hp) : Prop :=
idxS t9.a t9.len 0 1 fun (p11 : Addr) =>
ldA .sl hJ3 p11 fun (t12 : Sl) =>
idxS t9.a t9.len 1 1 fun (p13 : Addr) =>
ldA .sl hJ3 p13 fun (t14 : Sl) =>
Let (IntKind.wrap .i64 ((t12.len : Int) + (t14.len : Int)) : Int) fun (t15 : Int) =>
idxS t9.a t9.len 2 1 fun (p16 : Addr) =>
ldA .sl hJ3 p16 fun (t17 : Sl) =>
Let (IntKind.wrap .i64 (t15 + (t17.len : Int)) : Int) fun (t18 : Int) =>
ldA .sl hJ3 (Addr.add p2 4) fun (t19 : Sl) =>
ldA .sl hJ3 (Addr.add p2 5) fun (t20 : Sl) =>
Let (Array.push hJ3 (Obj.cells #[.int .i64 t18, .int .i64 sJ1.1, .int .i64 sJ3.1, .int .i64 (t19.len : Int), .int .i64 (t20.len : Int)] 3)) fun (h21 : Hp) =>
Let (Addr.mk (Array.size hJ3) 0 none) fun (p22 : Addr) =>
K (Sl.mk (some p22) 5 5) h21
def L1_ref45_Shape (p2 : Addr) (J3 : Int × Unit → Hp → Prop) (sL1 : (Int × Int × Unit) × Hp) (R1 : (Int × Int × Unit) × Hp → Prop) : Prop :=
ldA .sl sL1.2 (Addr.add p2 1) fun (t23 : Sl) =>
cnd (decide (sL1.1.2.1 < (t23.len : Int))) (
ldA .sl sL1.2 (Addr.add p2 1) fun (t24 : Sl) =>
idxS t24.a t24.len sL1.1.2.1 14 fun (p25 : Addr) =>
ldA .bool sL1.2 (Addr.add p25 6) fun (t26 : Bool) =>
cnd t26 (
Let (IntKind.wrap .i64 (sL1.1.1 + 1) : Int) fun (t27 : Int) =>
Let (IntKind.wrap .i64 (sL1.1.2.1 + 1) : Int) fun (t28 : Int) =>
R1 ((t27, t28, ()), sL1.2)) (
Let (IntKind.wrap .i64 (sL1.1.2.1 + 1) : Int) fun (t29 : Int) =>
R1 ((sL1.1.1, t29, ()), sL1.2))) (
J3 (sL1.1.1, ()) sL1.2)
def J2_ref45_Shape (K : Sl → Hp → Prop) (p2 : Addr) (t9 : Sl) (sJ1 : Int × Unit) (sJ2 : Int × Unit) (hJ2 : Hp) : Prop :=
Jn (J3_ref45_Shape K p2 t9 sJ1) fun (J3 : Int × Unit → Hp → Prop) =>
∃ n, Lp (L1_ref45_Shape p2 J3) n ((sJ2.1, 0, ()), hJ2)
def L2_ref45_Shape (p2 : Addr) (J2 : Int × Unit → Hp → Prop) (sL2 : (Int × Int × Unit) × Hp) (R2 : (Int × Int × Unit) × Hp → Prop) : Prop :=
ldA .sl sL2.2 p2 fun (t30 : Sl) =>
cnd (decide (sL2.1.2.1 < (t30.len : Int))) (
ldA .sl sL2.2 p2 fun (t31 : Sl) =>
idxS t31.a t31.len sL2.1.2.1 7 fun (p32 : Addr) =>
ldA .bool sL2.2 (Addr.add p32 4) fun (t33 : Bool) =>
cnd t33 (
Let (IntKind.wrap .i64 (sL2.1.1 + 1) : Int) fun (t34 : Int) =>
Let (IntKind.wrap .i64 (sL2.1.2.1 + 1) : Int) fun (t35 : Int) =>
R2 ((t34, t35, ()), sL2.2)) (
Let (IntKind.wrap .i64 (sL2.1.2.1 + 1) : Int) fun (t36 : Int) =>
R2 ((sL2.1.1, t36, ()), sL2.2))) (
J2 (sL2.1.1, ()) sL2.2)
def J1_ref45_Shape (K : Sl → Hp → Prop) (p2 : Addr) (t9 : Sl) (sJ1 : Int × Unit) (hJ1 : Hp) : Prop :=
Jn (J2_ref45_Shape K p2 t9 sJ1) fun (J2 : Int × Unit → Hp → Prop) =>
∃ n, Lp (L2_ref45_Shape p2 J2) n ((0, 0, ()), hJ1)
def J4_ref45_Shape (t9 : Sl) (sL3 : (Int × Int × Unit) × Hp) (sL5 : (Int × Int × Unit) × Hp) (R5 : (Int × Int × Unit) × Hp → Prop) (sJ4 : Unit) (hJ4 : Hp) : Prop :=
Let (IntKind.wrap .i64 (sL5.1.1 + 1) : Int) fun (t39 : Int) =>
idxS t9.a t9.len sL3.1.2.1 1 fun (p40 : Addr) =>
ldA .sl hJ4 p40 fun (t41 : Sl) =>
idxS t41.a t41.len sL5.1.2.1 1 fun (p42 : Addr) =>
ldA (.int .i64) hJ4 p42 fun (t43 : Int) =>
R5 ((t39, t43, ()), hJ4)
def L5_ref45_Shape (t9 : Sl) (sL3 : (Int × Int × Unit) × Hp) (sL4 : (Int × Int × Unit) × Hp) (R4 : (Int × Int × Unit) × Hp → Prop) (sL5 : (Int × Int × Unit) × Hp) (R5 : (Int × Int × Unit) × Hp → Prop) : Prop :=
Jn (J4_ref45_Shape t9 sL3 sL5 R5) fun (J4 : Unit → Hp → Prop) =>
idxS t9.a t9.len sL3.1.2.1 1 fun (p44 : Addr) =>
ldA .sl sL5.2 p44 fun (t45 : Sl) =>
idxS t45.a t45.len sL5.1.2.1 1 fun (p46 : Addr) =>
ldA (.int .i64) sL5.2 p46 fun (t47 : Int) =>
cnd (decide (t47 ≥ 0)) (
idxS t9.a t9.len sL3.1.2.1 1 fun (p48 : Addr) =>
ldA .sl sL5.2 p48 fun (t49 : Sl) =>
idxS t49.a t49.len sL5.1.2.1 1 fun (p50 : Addr) =>
ldA (.int .i64) sL5.2 p50 fun (t51 : Int) =>
cnd (decide (t51 < sL5.1.2.1)) (
J4 (()) sL5.2) (
Let (if sL5.1.1 > sL4.1.1 then sL5.1.1 else sL4.1.1 : Int) fun (t52 : Int) =>
Let (IntKind.wrap .i64 (sL4.1.2.1 + 1) : Int) fun (t53 : Int) =>
R4 ((t52, t53, ()), sL5.2))) (
Let (if sL5.1.1 > sL4.1.1 then sL5.1.1 else sL4.1.1 : Int) fun (t54 : Int) =>
Let (IntKind.wrap .i64 (sL4.1.2.1 + 1) : Int) fun (t55 : Int) =>
R4 ((t54, t55, ()), sL5.2))
def L4_ref45_Shape (t9 : Sl) (sL3 : (Int × Int × Unit) × Hp) (R3 : (Int × Int × Unit) × Hp → Prop) (sL4 : (Int × Int × Unit) × Hp) (R4 : (Int × Int × Unit) × Hp → Prop) : Prop :=
idxS t9.a t9.len sL3.1.2.1 1 fun (p37 : Addr) =>
ldA .sl sL4.2 p37 fun (t38 : Sl) =>
cnd (decide (sL4.1.2.1 < (t38.len : Int))) (
∃ n, Lp (L5_ref45_Shape t9 sL3 sL4 R4) n ((1, sL4.1.2.1, ()), sL4.2)) (
Let (IntKind.wrap .i64 (sL3.1.2.1 + 1) : Int) fun (t56 : Int) =>
R3 ((sL4.1.1, t56, ()), sL4.2))
def L3_ref45_Shape (t9 : Sl) (J1 : Int × Unit → Hp → Prop) (sL3 : (Int × Int × Unit) × Hp) (R3 : (Int × Int × Unit) × Hp → Prop) : Prop :=
cnd (decide (sL3.1.2.1 < 3)) (
∃ n, Lp (L4_ref45_Shape t9 sL3 R3) n ((sL3.1.1, 0, ()), sL3.2)) (
J1 (sL3.1.1, ()) sL3.2)
def F_ref45_Shape (a0_x : Sl) (a1_x : Sl) (a2_x : Sl) (a3_x : Int) (a4_x : Sl) (a5_x : Sl) (h : Hp) (K : Sl → Hp → Prop) : Prop :=
Let (Array.push h (Obj.cells #[.slice a0_x.a a0_x.len a0_x.cap, .slice a1_x.a a1_x.len a1_x.cap, .slice a2_x.a a2_x.len a2_x.cap, .int .i64 a3_x, .slice a4_x.a a4_x.len a4_x.cap, .slice a5_x.a a5_x.len a5_x.cap] 28)) fun (h1 : Hp) =>
Let (Addr.mk (Array.size h) 0 none) fun (p2 : Addr) =>
ldA .sl h1 p2 fun (t3 : Sl) =>
ldA .sl h1 (Addr.add p2 1) fun (t4 : Sl) =>
ldA .sl h1 (Addr.add p2 2) fun (t5 : Sl) =>
ldA (.int .i64) h1 (Addr.add p2 3) fun (t6 : Int) =>
ldA .sl h1 (Addr.add p2 4) fun (t7 : Sl) =>
ldA .sl h1 (Addr.add p2 5) fun (t8 : Sl) =>
C_ref45_parents t3 t4 t5 t6 t7 t8 h1 fun (t9 : Sl) (h10 : Hp) =>
Jn (J1_ref45_Shape K p2 t9) fun (J1 : Int × Unit → Hp → Prop) =>
∃ n, Lp (L3_ref45_Shape t9 J1) n ((0, 0, ()), h10)

theorem F_ref45_Shape_ok (a0_x : Sl) (a1_x : Sl) (a2_x : Sl) (a3_x : Int) (a4_x : Sl) (a5_x : Sl) (h : Hp) (K : Sl → Hp → Prop) (hF : F_ref45_Shape a0_x a1_x a2_x a3_x a4_x a5_x h K) : C_ref45_Shape a0_x a1_x a2_x a3_x a4_x a5_x h K := by
  have e : bodyVC Try.prog Try.f7 (.seq .no (.seq .no (.seq .no (.join [(4, .at (.int .i64))] (.seq .no (.block (.loop [(4, .at (.int .i64)), (6, .at (.int .i64))] (.seq (.seq .no (.cond .no .no)) (.seq (.block (.seq .no (.block (.loop [(4, .at (.int .i64)), (7, .at (.int .i64))] (.seq (.seq .no (.cond .no .no)) (.seq (.block (.seq .no (.seq (.seq .no (.block (.loop [(8, .at (.int .i64)), (9, .at (.int .i64))] (.join [] (.seq .no (.cond .no .no)) (.seq (.block .no) .no))))) .no))) .no)))))) .no))))) (.join [(5, .at (.int .i64))] (.seq .no (.block (.loop [(5, .at (.int .i64)), (10, .at (.int .i64))] (.seq (.seq .no (.cond .no .no)) (.seq (.block (.seq .no (.cond .no .no))) .no))))) (.join [(5, .at (.int .i64))] (.seq .no (.block (.loop [(5, .at (.int .i64)), (11, .at (.int .i64))] (.seq (.seq .no (.cond .no .no)) (.seq (.block (.seq .no (.cond .no .no))) .no))))) (.seq .no .no))))))) (Option.getD Try.f7.body .skip) [.agg #[.slice a0_x.a a0_x.len a0_x.cap, .slice a1_x.a a1_x.len a1_x.cap, .slice a2_x.a a2_x.len a2_x.cap, .int .i64 a3_x, .slice a4_x.a a4_x.len a4_x.cap, .slice a5_x.a a5_x.len a5_x.cap]] h [.at .sl] (fun s h => K s.1 h) = F_ref45_Shape a0_x a1_x a2_x a3_x a4_x a5_x h K := by kernel_rfl
  exact fun_sound mixed Try.func7 rfl (e.mpr hF)

def F_law45_lives  (h : Hp) (K : Bool → Hp → Prop) : Prop :=
Let (Array.push h (Obj.cells #[.int .u64 0, .int .i64 0, .int .u64 0, .int .i64 3, .int .u64 0, .int .i64 9] 57)) fun (h1 : Hp) =>
Let (Addr.mk (Array.size h) 0 none) fun (p2 : Addr) =>
C_report_Buckets (Sl.mk (some p2) 3 3) 4 2 h1 fun (t3 : Sl) (h4 : Hp) =>
Let (Array.push h4 (Obj.cells #[.int .i64 2, .int .i64 1] 3)) fun (h5 : Hp) =>
Let (Addr.mk (Array.size h4) 0 none) fun (p6 : Addr) =>
C_ref07_Ints t3 (Sl.mk (some p6) 2 2) h5 fun (t7 : Bool) (h8 : Hp) =>
K t7 h8

theorem F_law45_lives_ok  (h : Hp) (K : Bool → Hp → Prop) (hF : F_law45_lives  h K) : C_law45_lives  h K := by
  have e : bodyVC Try.prog Try.f8 (.seq .no (.seq .no .no)) (Option.getD Try.f8.body .skip) [] h [.at .bool] (fun s h => K s.1 h) = F_law45_lives  h K := by kernel_rfl
  exact fun_sound mixed Try.func8 rfl (e.mpr hF)

def J1_report_deep (t1 : Sl) (sL1 : (Int × Int × Unit) × Hp) (R1 : (Int × Int × Unit) × Hp → Prop) (sJ1 : Unit) (hJ1 : Hp) : Prop :=
idxS t1.a t1.len sL1.1.2.1 1 fun (p7 : Addr) =>
ldA (.int .i64) hJ1 p7 fun (t8 : Int) =>
Let (if t8 > sL1.1.1 then t8 else sL1.1.1 : Int) fun (t9 : Int) =>
Let (IntKind.wrap .i64 (sL1.1.2.1 + 1) : Int) fun (t10 : Int) =>
R1 ((t9, t10, ()), hJ1)
def J2_report_deep (t1 : Sl) (sL1 : (Int × Int × Unit) × Hp) (t4 : Int) (J1 : Unit → Hp → Prop) (sJ2 : Bool × Unit) (hJ2 : Hp) : Prop :=
cnd sJ2.1 (
idxS t1.a t1.len t4 1 fun (p11 : Addr) =>
ldA (.int .i64) hJ2 p11 fun (t12 : Int) =>
Let (IntKind.wrap .i64 (t12 + 1) : Int) fun (t13 : Int) =>
idxS t1.a t1.len sL1.1.2.1 1 fun (p14 : Addr) =>
((1 : Nat) = 1) ∧ (
stC hJ2 p14 (
Let (hset hJ2 p14 (.int .i64 t13)) fun (h15 : Hp) =>
J1 (()) h15))) (
J1 (()) hJ2)
def L1_report_deep (a0_parents : Sl) (K : Int → Hp → Prop) (t1 : Sl) (sL1 : (Int × Int × Unit) × Hp) (R1 : (Int × Int × Unit) × Hp → Prop) : Prop :=
cnd (decide (sL1.1.2.1 < (a0_parents.len : Int))) (
idxS a0_parents.a a0_parents.len sL1.1.2.1 1 fun (p3 : Addr) =>
ldA (.int .i64) sL1.2 p3 fun (t4 : Int) =>
idxS t1.a t1.len sL1.1.2.1 1 fun (p5 : Addr) =>
((1 : Nat) = 1) ∧ (
stC sL1.2 p5 (
Let (hset sL1.2 p5 (.int .i64 1)) fun (h6 : Hp) =>
Jn (J1_report_deep t1 sL1 R1) fun (J1 : Unit → Hp → Prop) =>
Jn (J2_report_deep t1 sL1 t4 J1) fun (J2 : Bool × Unit → Hp → Prop) =>
cnd (decide (t4 ≥ 0)) (
J2 (decide (t4 < sL1.1.2.1), ()) h6) (
J2 (false, ()) h6)))) (
K sL1.1.1 sL1.2)
def F_report_deep (a0_parents : Sl) (h : Hp) (K : Int → Hp → Prop) : Prop :=
mkS 3 1 8 [.int .i64 0] (a0_parents.len : Int) (a0_parents.len : Int) h fun (t1 : Sl) (h2 : Hp) =>
∃ n, Lp (L1_report_deep a0_parents K t1) n ((0, 0, ()), h2)

theorem F_report_deep_ok (a0_parents : Sl) (h : Hp) (K : Int → Hp → Prop) (hF : F_report_deep a0_parents h K) : C_report_deep a0_parents h K := by
  have e : bodyVC Try.prog Try.f9 (.seq .no (.seq .no (.seq .no (.seq (.seq .no (.block (.loop [(3, .at (.int .i64)), (12, .at (.int .i64))] (.seq .no (.seq (.cond .no .no) (.seq (.block (.seq .no (.seq .no (.join [] (.join [(26, .at .bool)] .no (.cond .no .no)) .no)))) .no)))))) (.seq .no .no))))) (Option.getD Try.f9.body .skip) [.slice a0_parents.a a0_parents.len a0_parents.cap] h [.at (.int .i64)] (fun s h => K s.1 h) = F_report_deep a0_parents h K := by kernel_rfl
  exact fun_sound mixed Try.func9 rfl (e.mpr hF)

def L1_ref45_parents (K : Sl → Hp → Prop) (p2 : Addr) (t3 : Sl) (sL1 : (Int × Unit) × Hp) (R1 : (Int × Unit) × Hp → Prop) : Prop :=
ldA .sl sL1.2 (Addr.add p2 2) fun (t5 : Sl) =>
cnd (decide (sL1.1.1 < (t5.len : Int))) (
idxS t3.a t3.len 2 1 fun (p6 : Addr) =>
ldA .sl sL1.2 p6 fun (t7 : Sl) =>
ldA .sl sL1.2 (Addr.add p2 2) fun (t8 : Sl) =>
idxS t8.a t8.len sL1.1.1 3 fun (p9 : Addr) =>
ldA (.int .i64) sL1.2 (Addr.add p9 1) fun (t10 : Int) =>
Let (Array.push sL1.2 (Obj.cells #[.int .i64 t10] 3)) fun (h11 : Hp) =>
Let (Addr.mk (Array.size sL1.2) 0 none) fun (p12 : Addr) =>
Ext sL1.2 h11 ∧ (
appS 3 1 8 [.int .i64 0] t7.a t7.len t7.cap (.slice (some p12) 1 1) h11 fun (t13 : Sl) (h14 : Hp) =>
idxS t3.a t3.len 2 1 fun (p15 : Addr) =>
((1 : Nat) = 1) ∧ (
stC h14 p15 (
Let (hset h14 p15 (.slice t13.a t13.len t13.cap)) fun (h16 : Hp) =>
Let (IntKind.wrap .i64 (sL1.1.1 + 1) : Int) fun (t17 : Int) =>
R1 ((t17, ()), h16))))) (
K t3 sL1.2)
def J2_ref45_parents (K : Sl → Hp → Prop) (p2 : Addr) (t3 : Sl) (sJ2 : Unit) (hJ2 : Hp) : Prop :=
∃ n, Lp (L1_ref45_parents K p2 t3) n ((0, ()), hJ2)
def L2_ref45_parents (p2 : Addr) (t3 : Sl) (J2 : Unit → Hp → Prop) (sL2 : (Int × Unit) × Hp) (R2 : (Int × Unit) × Hp → Prop) : Prop :=
ldA .sl sL2.2 (Addr.add p2 1) fun (t18 : Sl) =>
cnd (decide (sL2.1.1 < (t18.len : Int))) (
idxS t3.a t3.len 1 1 fun (p19 : Addr) =>
ldA .sl sL2.2 p19 fun (t20 : Sl) =>
ldA .sl sL2.2 (Addr.add p2 1) fun (t21 : Sl) =>
idxS t21.a t21.len sL2.1.1 14 fun (p22 : Addr) =>
ldA (.int .i64) sL2.2 (Addr.add p22 7) fun (t23 : Int) =>
Let (Array.push sL2.2 (Obj.cells #[.int .i64 t23] 3)) fun (h24 : Hp) =>
Let (Addr.mk (Array.size sL2.2) 0 none) fun (p25 : Addr) =>
Ext sL2.2 h24 ∧ (
appS 3 1 8 [.int .i64 0] t20.a t20.len t20.cap (.slice (some p25) 1 1) h24 fun (t26 : Sl) (h27 : Hp) =>
idxS t3.a t3.len 1 1 fun (p28 : Addr) =>
((1 : Nat) = 1) ∧ (
stC h27 p28 (
Let (hset h27 p28 (.slice t26.a t26.len t26.cap)) fun (h29 : Hp) =>
Let (IntKind.wrap .i64 (sL2.1.1 + 1) : Int) fun (t30 : Int) =>
R2 ((t30, ()), h29))))) (
J2 (()) sL2.2)
def J1_ref45_parents (K : Sl → Hp → Prop) (p2 : Addr) (t3 : Sl) (sJ1 : Unit) (hJ1 : Hp) : Prop :=
Jn (J2_ref45_parents K p2 t3) fun (J2 : Unit → Hp → Prop) =>
∃ n, Lp (L2_ref45_parents p2 t3 J2) n ((0, ()), hJ1)
def L3_ref45_parents (p2 : Addr) (t3 : Sl) (J1 : Unit → Hp → Prop) (sL3 : (Int × Unit) × Hp) (R3 : (Int × Unit) × Hp → Prop) : Prop :=
ldA .sl sL3.2 p2 fun (t31 : Sl) =>
cnd (decide (sL3.1.1 < (t31.len : Int))) (
idxS t3.a t3.len 0 1 fun (p32 : Addr) =>
ldA .sl sL3.2 p32 fun (t33 : Sl) =>
ldA .sl sL3.2 p2 fun (t34 : Sl) =>
idxS t34.a t34.len sL3.1.1 7 fun (p35 : Addr) =>
ldA (.int .i64) sL3.2 (Addr.add p35 5) fun (t36 : Int) =>
Let (Array.push sL3.2 (Obj.cells #[.int .i64 t36] 3)) fun (h37 : Hp) =>
Let (Addr.mk (Array.size sL3.2) 0 none) fun (p38 : Addr) =>
Ext sL3.2 h37 ∧ (
appS 3 1 8 [.int .i64 0] t33.a t33.len t33.cap (.slice (some p38) 1 1) h37 fun (t39 : Sl) (h40 : Hp) =>
idxS t3.a t3.len 0 1 fun (p41 : Addr) =>
((1 : Nat) = 1) ∧ (
stC h40 p41 (
Let (hset h40 p41 (.slice t39.a t39.len t39.cap)) fun (h42 : Hp) =>
Let (IntKind.wrap .i64 (sL3.1.1 + 1) : Int) fun (t43 : Int) =>
R3 ((t43, ()), h42))))) (
J1 (()) sL3.2)
def F_ref45_parents (a0_x : Sl) (a1_x : Sl) (a2_x : Sl) (a3_x : Int) (a4_x : Sl) (a5_x : Sl) (h : Hp) (K : Sl → Hp → Prop) : Prop :=
Let (Array.push h (Obj.cells #[.slice a0_x.a a0_x.len a0_x.cap, .slice a1_x.a a1_x.len a1_x.cap, .slice a2_x.a a2_x.len a2_x.cap, .int .i64 a3_x, .slice a4_x.a a4_x.len a4_x.cap, .slice a5_x.a a5_x.len a5_x.cap] 28)) fun (h1 : Hp) =>
Let (Addr.mk (Array.size h) 0 none) fun (p2 : Addr) =>
mkS 30 1 24 [.slice none 0 0] 3 3 h1 fun (t3 : Sl) (h4 : Hp) =>
Jn (J1_ref45_parents K p2 t3) fun (J1 : Unit → Hp → Prop) =>
∃ n, Lp (L3_ref45_parents p2 t3 J1) n ((0, ()), h4)

theorem F_ref45_parents_ok (a0_x : Sl) (a1_x : Sl) (a2_x : Sl) (a3_x : Int) (a4_x : Sl) (a5_x : Sl) (h : Hp) (K : Sl → Hp → Prop) (hF : F_ref45_parents a0_x a1_x a2_x a3_x a4_x a5_x h K) : C_ref45_parents a0_x a1_x a2_x a3_x a4_x a5_x h K := by
  have e : bodyVC Try.prog Try.f10 (.seq .no (.seq .no (.join [] (.seq .no (.block (.loop [(4, .at (.int .i64))] (.seq (.seq .no (.cond .no .no)) (.seq (.block .no) .no))))) (.join [] (.seq .no (.block (.loop [(5, .at (.int .i64))] (.seq (.seq .no (.cond .no .no)) (.seq (.block .no) .no))))) (.seq (.seq .no (.block (.loop [(6, .at (.int .i64))] (.seq (.seq .no (.cond .no .no)) (.seq (.block .no) .no))))) (.seq .no .no)))))) (Option.getD Try.f10.body .skip) [.agg #[.slice a0_x.a a0_x.len a0_x.cap, .slice a1_x.a a1_x.len a1_x.cap, .slice a2_x.a a2_x.len a2_x.cap, .int .i64 a3_x, .slice a4_x.a a4_x.len a4_x.cap, .slice a5_x.a a5_x.len a5_x.cap]] h [.at .sl] (fun s h => K s.1 h) = F_ref45_parents a0_x a1_x a2_x a3_x a4_x a5_x h K := by kernel_rfl
  exact fun_sound mixed Try.func10 rfl (e.mpr hF)

def L1_report_Buckets (a0_l : Sl) (a1_width : Int) (a2_many : Int) (K : Sl → Hp → Prop) (t1 : Sl) (sL1 : (Int × Unit) × Hp) (R1 : (Int × Unit) × Hp → Prop) : Prop :=
cnd (decide (sL1.1.1 < (a0_l.len : Int))) (
idxS a0_l.a a0_l.len sL1.1.1 2 fun (p3 : Addr) =>
ldA (.int .u64) sL1.2 p3 fun (t4 : Int) =>
ldA (.int .i64) sL1.2 (Addr.add p3 1) fun (t5 : Int) =>
Let (Array.push sL1.2 (Obj.cells #[.int .u64 0, .int .i64 0] 57)) fun (h6 : Hp) =>
Let (Addr.mk (Array.size sL1.2) 0 none) fun (p7 : Addr) =>
stC h6 p7 (
Let (hset h6 p7 (.int .u64 t4)) fun (h8 : Hp) =>
stC h8 (Addr.add p7 1) (
Let (hset h8 (Addr.add p7 1) (.int .i64 t5)) fun (h9 : Hp) =>
ldA (.int .i64) h9 (Addr.add p7 1) fun (t10 : Int) =>
Let (if 1 > a1_width then 1 else a1_width : Int) fun (t11 : Int) =>
(t11 ≠ (0 : Int)) ∧ (
Let (IntKind.wrap .i64 (Int.tdiv t10 t11) : Int) fun (t12 : Int) =>
Let (IntKind.wrap .i64 (a2_many - 1) : Int) fun (t13 : Int) =>
Let (if t13 < t12 then t13 else t12 : Int) fun (t14 : Int) =>
Let (if t14 > 0 then t14 else 0 : Int) fun (t15 : Int) =>
idxS t1.a t1.len t15 1 fun (p16 : Addr) =>
ldA (.int .i64) h9 p16 fun (t17 : Int) =>
Let (IntKind.wrap .i64 (t17 + 1) : Int) fun (t18 : Int) =>
idxS t1.a t1.len t15 1 fun (p19 : Addr) =>
((1 : Nat) = 1) ∧ (
stC h9 p19 (
Let (hset h9 p19 (.int .i64 t18)) fun (h20 : Hp) =>
Let (IntKind.wrap .i64 (sL1.1.1 + 1) : Int) fun (t21 : Int) =>
R1 ((t21, ()), h20))))))) (
K t1 sL1.2)
def J1_report_Buckets (a0_l : Sl) (a1_width : Int) (a2_many : Int) (K : Sl → Hp → Prop) (sJ1 : Unit) (hJ1 : Hp) : Prop :=
mkS 3 1 8 [.int .i64 0] a2_many a2_many hJ1 fun (t1 : Sl) (h2 : Hp) =>
∃ n, Lp (L1_report_Buckets a0_l a1_width a2_many K t1) n ((0, ()), h2)
def F_report_Buckets (a0_l : Sl) (a1_width : Int) (a2_many : Int) (h : Hp) (K : Sl → Hp → Prop) : Prop :=
Jn (J1_report_Buckets a0_l a1_width a2_many K) fun (J1 : Unit → Hp → Prop) =>
cnd (decide (a2_many < 1)) (
K (Sl.mk none 0 0) h) (
cnd (decide (a2_many > 1000)) (
K (Sl.mk none 0 0) h) (
J1 (()) h))

theorem F_report_Buckets_ok (a0_l : Sl) (a1_width : Int) (a2_many : Int) (h : Hp) (K : Sl → Hp → Prop) (hF : F_report_Buckets a0_l a1_width a2_many h K) : C_report_Buckets a0_l a1_width a2_many h K := by
  have e : bodyVC Try.prog Try.f11 (.seq .no (.join [] (.seq .no (.cond (.seq .no .no) .no)) (.seq .no (.seq (.seq .no (.block (.loop [(20, .at (.int .i64))] (.seq .no (.seq (.cond .no .no) (.seq (.block (.seq .no .no)) .no)))))) (.seq .no .no))))) (Option.getD Try.f11.body .skip) [.slice a0_l.a a0_l.len a0_l.cap, .int .i64 a1_width, .int .i64 a2_many] h [.at .sl] (fun s h => K s.1 h) = F_report_Buckets a0_l a1_width a2_many h K := by kernel_rfl
  exact fun_sound mixed Try.func11 rfl (e.mpr hF)

end Go.Proofs.YtaakopekdpopnaaF
