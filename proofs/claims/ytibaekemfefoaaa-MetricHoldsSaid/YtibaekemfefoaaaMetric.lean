/- Chapter 9: how far things are apart, by any metric; a meter. No condition. -/
import Derived.Test.YtibaekemfefoaaaLoneD
import Derived.Test.YtibaekemfefoaaaLevD
import Derived.Test.YtibaekemfefoaaaK18
namespace Go.Proofs.YtibaekemfefoaaaF
open Go Go.Proofs.YtibaekemfefoaaaK
set_option linter.unusedSimpArgs false
set_option linter.unusedVariables false

abbrev OT : List At := [.int .i64, .sl, .str]
theorem encOT : Enc (vsA OT) 3 := encA rfl
abbrev oTag (x : StA OT) : Int := x.1
abbrev oVec (x : StA OT) : Sl := x.2.1
abbrev oStr (x : StA OT) : ByteArray := x.2.2.1
abbrev Ob := List Int × ByteArray
/-- What a thing in memory is. -/
structure ObR (h : Hp) (x : StA OT) (o : Ob) : Prop where
  str : oStr x = o.2
  vec : R32 h (oVec x) o.1
  ok : Ok32 o.1
  vl : o.1.length ≤ 1048576
  sl : o.2.size ≤ 1048576
theorem ObR.ext {h h' : Hp} {x : StA OT} {o : Ob} (r : ObR h x o) (e : Ext h h') : ObR h' x o := ⟨r.str, r.vec.ext e, r.ok, r.vl, r.sl⟩
def od (m : Int) (x y : Ob) : Int := if m = 1 then ldist x.1 y.1 else if m = 2 then (hamd (bts x.2) (bts y.2) : Int) else if m = 3 then (ed (bts x.2) (bts y.2) : Int) else 0
theorem c_mDist {m : Int} {x y : StA OT} {a b : Ob} {h : Hp} {K : Int → Hp → Prop} (rx : ObR h x a) (ry : ObR h y b) (hK : ∀ h', Ext h h' → K (od m a b) h') : C_metric_Dist m (oTag x) (oVec x) (oStr x) (oTag y) (oVec y) (oStr y) h K := by
  refine F_metric_Dist_ok _ _ _ _ _ _ _ _ _ (push_to fun h1 b1 e1 z1 => let_to (push_to fun h2 b2 e2 z2 => let_to ?_))
  have c1 := b1.ext e2
  have x2 := e1.trans e2
  have qx := rx.ext x2
  have qy := ry.ext x2
  unfold od at hK
  refine cnd_beq.2 ⟨fun h1 => ?_, fun n1 => cnd_beq.2 ⟨fun h2 => ?_, fun n2 => cnd_beq.2 ⟨fun h3 => ?_, fun n3 => ?_⟩⟩⟩
  · rw [if_pos h1] at hK
    refine ldA_blk (s := .sl) (i := 1) (x := oVec x) c1 rfl (ldA_blk (s := .sl) (i := 1) (x := oVec y) b2 rfl ?_)
    exact lone_Dist qx.ok qy.ok qx.vl qy.vl qx.vec qy.vec fun h3 e3 => hK h3 (x2.trans e3)
  · rw [if_neg n1, if_pos h2] at hK
    refine ldA_blk (s := .str) (i := 2) (x := oStr x) c1 rfl (ldA_blk (s := .str) (i := 2) (x := oStr y) b2 rfl ?_)
    rw [← qx.str, ← qy.str] at hK
    exact ham_Dist (by rw [qx.str]; exact qx.sl) (by rw [qy.str]; exact qy.sl) fun h3 e3 => hK h3 (x2.trans e3)
  · rw [if_neg n1, if_neg n2, if_pos h3] at hK
    refine ldA_blk (s := .str) (i := 2) (x := oStr x) c1 rfl (ldA_blk (s := .str) (i := 2) (x := oStr y) b2 rfl ?_)
    rw [← qx.str, ← qy.str] at hK
    exact lev_Dist (by rw [qx.str]; exact qx.sl) (by rw [qy.str]; exact qy.sl) fun h3 e3 => hK h3 (x2.trans e3)
  · rw [if_neg n1, if_neg n2, if_neg n3] at hK
    exact hK _ x2
/-! A meter. -/
abbrev MQ (h : Hp) (p : Nat) (m c : Int) : Prop := Blk h p #[.int .i64 m, .int .i64 c]
theorem m_New {m : Int} {h : Hp} {K : Option Addr → Hp → Prop} (hK : ∀ h', Ext h h' → MQ h' h.size m 0 → K (some ⟨h.size, 0, none⟩) h') : C_metric_New m h K :=
  F_metric_New_ok _ _ _ (push_to fun h1 b1 e1 z1 => let_to (hK h1 e1 b1))
theorem m_Calls {p : Nat} {m c : Int} {h : Hp} {K : Int → Hp → Prop} (q : MQ h p m c) (hK : K c h) : C_metric_Meter_Calls (some ⟨p, 0, none⟩) h K :=
  F_metric_Meter_Calls_ok _ _ _ (ldA_blk (s := .int .i64) (i := 1) (x := c) q rfl hK)
structure ObA (p : Nat) (h : Hp) (x : StA OT) (o : Ob) : Prop where
  ob : ObR h x o
  na : NotAt p (oVec x) o.1
theorem ObA.only {p : Nat} {h h' : Hp} {x : StA OT} {o : Ob} (r : ObA p h x o) (u : Only p h h') : ObA p h' x o := ⟨⟨r.ob.str, isRow_only r.ob.vec u r.na, r.ob.ok, r.ob.vl, r.ob.sl⟩, r.na⟩
theorem ObR.apart {p : Nat} {h : Hp} {x : StA OT} {o : Ob} (r : ObR h x o) (hp : h.size ≤ p) : ObA p h x o := ⟨r, notAt_of (encI_ok _) (by decide) r.vec hp⟩
theorem m_Dist {p : Nat} {m c : Int} {x y : StA OT} {a b : Ob} {h : Hp} {K : Int → Hp → Prop} (q : MQ h p m c) (hc : 0 ≤ c ∧ c ≤ 4503599627370496) (rx : ObA p h x a) (ry : ObA p h y b)
    (hK : ∀ h', MQ h' p m (c + 1) → Only p h h' → K (od m a b) h') : C_metric_Meter_Dist (some ⟨p, 0, none⟩) (oTag x) (oVec x) (oStr x) (oTag y) (oVec y) (oStr y) h K := by
  refine F_metric_Meter_Dist_ok _ _ _ _ _ _ _ _ _ (push_to fun h1 b1 e1 z1 => let_to (push_to fun h2 b2 e2 z2 => let_to ?_))
  have hpl := q.lt
  have e12 := e1.trans e2
  have q2 := Blk.ext q e12
  refine cnd_no rfl (ldA_blk (s := .int .i64) (i := 1) (x := c) q2 rfl (let_to ⟨rfl, ?_⟩))
  rw [wrap_i64 (by omega) (by omega)]
  refine set_to q2 (i := 1) (by simp) fun h3 b3 u3 _ z3 => ?_
  simp only [List.setIfInBounds_toArray, List.set_cons_succ, List.set_cons_zero] at b3
  have c1 := (b1.ext e2).only u3 (by omega)
  have c2 := b2.only u3 (by omega)
  have x3 : Only p h h3 := (e12.only p).trans u3
  refine ldA_blk (s := .int .i64) (x := m) b3 rfl (ldA_blk (s := .int .i64) (x := oTag x) c1 rfl (ldA_blk (s := .sl) (i := 1) (x := oVec x) c1 rfl (ldA_blk (s := .str) (i := 2) (x := oStr x) c1 rfl (ldA_blk (s := .int .i64) (x := oTag y) c2 rfl (ldA_blk (s := .sl) (i := 1) (x := oVec y) c2 rfl (ldA_blk (s := .str) (i := 2) (x := oStr y) c2 rfl ?_))))))
  refine c_mDist (rx.only x3).ob (ry.only x3).ob fun h4 e4 => hK h4 (Blk.ext b3 e4) (x3.trans (e4.only p))

/-! How far things are apart: laws. -/
theorem hamd_comm (a b : List Int) : hamd a b = hamd b a := by
  unfold hamd dif
  rw [Nat.min_comm, Nat.max_comm]
  congr 2
  apply List.filter_congr
  intro i _
  exact congrArg (! ·) (Bool.eq_iff_iff.2 (by rw [beq_iff_eq, beq_iff_eq]; exact eq_comm))
theorem dif_self (a : List Int) (k : Nat) : dif a a k = [] := by unfold dif; simp
theorem ed_self : ∀ a : List Int, ed a a = 0
  | [] => rfl
  | x :: a => by rw [ed_same, ed_self a]
theorem aprt_comm' (x y : Int) : aprt x y = aprt y x := by unfold aprt; (repeat' split) <;> omega
theorem ldist_comm' (a b : List Int) : ldist a b = ldist b a := by
  unfold ldist dsts
  rw [Nat.max_comm]
  congr 1
  apply List.map_congr_left
  intro i _
  exact aprt_comm' _ _
theorem ldist_self (a : List Int) : ldist a a = 0 := by
  unfold ldist dsts
  have : ∀ n : Nat, ((List.range n).map fun i => aprt (zat a i) (zat a i)).sum = 0 := by
    intro n
    induction n with
    | zero => rfl
    | succ n ih => rw [List.range_succ, List.map_append, List.sum_append, ih]; simp [aprt]
  exact this _
theorem od_comm (m : Int) (x y : Ob) : od m x y = od m y x := by unfold od; rw [ldist_comm' x.1 y.1, hamd_comm (bts x.2), ed_comm (bts x.2)]
theorem od_self (m : Int) (x : Ob) : od m x x = 0 := by
  unfold od
  rw [ldist_self, ed_self]
  have : hamd (bts x.2) (bts x.2) = 0 := by unfold hamd; rw [dif_self]; simp
  rw [this]
  (repeat' split) <;> rfl
theorem od_nn (m : Int) (x y : Ob) : 0 ≤ od m x y := by
  unfold od
  have h1 : 0 ≤ ldist x.1 y.1 := by
    unfold ldist dsts
    have : ∀ n : Nat, 0 ≤ ((List.range n).map fun i => aprt (zat x.1 i) (zat y.1 i)).sum := by
      intro n
      induction n with
      | zero => exact Int.le_refl 0
      | succ n ih =>
        rw [List.range_succ, List.map_append, List.sum_append]
        have : 0 ≤ aprt (zat x.1 n) (zat y.1 n) := by unfold aprt; split <;> omega
        simp; omega
    exact this _
  (repeat' split) <;> omega
end Go.Proofs.YtibaekemfefoaaaF
