/- Chapter 9: Least; MetricTells. No condition of its own. -/
import Derived.Test.YthdoecmcbpmjgaaMetricLaw
import Derived.Test.YthdoecmcbpmjgaaLevLeast
import Derived.Test.YthdoecmcbpmjgaaLoneL
namespace Go.Proofs.YthdoecmcbpmjgaaF
open Go Go.Proofs.YthdoecmcbpmjgaaK
set_option linter.unusedSimpArgs false
set_option linter.unusedVariables false

def oleast (m : Int) (x y : Ob) : Int := if m = 1 then lleast x.1 y.1 else if m = 2 then (max x.2.size y.2.size - min x.2.size y.2.size : Nat) else if m = 3 then leastN (bts x.2) (bts y.2) else 0
theorem leastN_len (a b : ByteArray) : (a.size : Int) - b.size ≤ leastN (bts a) (bts b) ∧ (b.size : Int) - a.size ≤ leastN (bts a) (bts b) := by
  have la := bts_len a
  have lb := bts_len b
  unfold leastN
  omega
theorem c_mLeast {m : Int} {x y : StA OT} {a b : Ob} {h : Hp} {K : Int → Hp → Prop} (rx : ObR h x a) (ry : ObR h y b) (hK : ∀ h', Ext h h' → K (oleast m a b) h') : C_metric_Least m (oTag x) (oVec x) (oStr x) (oTag y) (oVec y) (oStr y) h K := by
  refine F_metric_Least_ok _ _ _ _ _ _ _ _ _ (push_to fun h1 b1 e1 z1 => let_to (push_to fun h2 b2 e2 z2 => let_to ?_))
  have c1 := b1.ext e2
  have x2 := e1.trans e2
  have qx := rx.ext x2
  have qy := ry.ext x2
  have sx := rx.sl
  have sy := ry.sl
  unfold oleast at hK
  rw [Jn_eq]
  have j1 : ∀ (d v : Int) (g : Hp), Ext h2 g → (max d (max ((a.2.size : Int) - b.2.size) ((b.2.size : Int) - a.2.size)) = v) → K v g → J1_metric_Least K ⟨h.size, 0, none⟩ ⟨h1.size, 0, none⟩ (d, ()) g := by
    intro d v g e hv hk
    unfold J1_metric_Least
    dsimp only
    refine ldA_blk (s := .str) (i := 2) (x := oStr x) (c1.ext e) rfl (ldA_blk (s := .str) (i := 2) (x := oStr y) (b2.ext e) rfl (let_to (ldA_blk (s := .str) (i := 2) (x := oStr y) (b2.ext e) rfl (ldA_blk (s := .str) (i := 2) (x := oStr x) (c1.ext e) rfl (let_to (let_to (let_to ?_)))))))
    rw [rx.str, ry.str, wrap_i64 (by omega) (by omega), wrap_i64 (by omega) (by omega)]
    refine at_val hk ?_
    (repeat' split) <;> omega
  refine cnd_beq.2 ⟨fun h1 => ?_, fun n1 => cnd_beq.2 ⟨fun h3 => ?_, fun n3 => cnd_beq.2 ⟨fun h2 => ?_, fun n2 => ?_⟩⟩⟩
  · rw [if_pos h1] at hK
    refine ldA_blk (s := .sl) (i := 1) (x := oVec x) c1 rfl (ldA_blk (s := .sl) (i := 1) (x := oVec y) b2 rfl ?_)
    exact lone_Least qx.ok qy.ok qx.vl qy.vl qx.vec qy.vec fun h3 e3 => hK h3 (x2.trans e3)
  · rw [if_neg n1, if_neg (by omega), if_pos h3] at hK
    refine ldA_blk (s := .str) (i := 2) (x := oStr x) c1 rfl (ldA_blk (s := .str) (i := 2) (x := oStr y) b2 rfl ?_)
    rw [rx.str, ry.str]
    refine lev_Least sx sy fun g e => j1 _ _ g e ?_ (hK g (x2.trans e))
    have := leastN_len a.2 b.2
    omega
  · rw [if_neg n1, if_pos h2] at hK
    exact j1 _ _ _ (Ext.refl _) (by omega) (hK _ x2)
  · rw [if_neg n1, if_neg n2, if_neg n3] at hK
    exact hK _ x2
theorem c_rLeast {m : Int} {x y : StA OT} {a b : Ob} {h : Hp} {K : Int → Hp → Prop} (rx : ObR h x a) (ry : ObR h y b) (hK : ∀ h', Ext h h' → K (oleast m a b) h') : C_ref09_Least m (oTag x) (oVec x) (oStr x) (oTag y) (oVec y) (oStr y) h K := by
  refine F_ref09_Least_ok _ _ _ _ _ _ _ _ _ (push_to fun h1 b1 e1 z1 => let_to (push_to fun h2 b2 e2 z2 => let_to ?_))
  have c1 := b1.ext e2
  have x2 := e1.trans e2
  have qx := rx.ext x2
  have qy := ry.ext x2
  have sx := rx.sl
  have sy := ry.sl
  unfold oleast at hK
  rw [Jn_eq]
  have j3 : ∀ (d : Int) (g : Hp), Ext h2 g → -9223372036854775807 ≤ d → K (if d < 0 then 0 - d else d) g → d ≤ 9223372036854775807 → J3_ref09_Least K (d, ()) g := by
    intro d g e hd hk hd2
    unfold J3_ref09_Least
    dsimp only
    refine cnd_dec.2 ⟨fun hlt => let_to ?_, fun hge => ?_⟩
    · rw [if_pos hlt] at hk
      rw [wrap_i64 (by omega) (by omega)]; exact hk
    · rw [if_neg hge] at hk; exact hk
  by_cases h1 : m = 1
  · rw [if_pos h1] at hK
    refine cnd_yes (by rw [h1]; rfl) (ldA_blk (s := .sl) (i := 1) (x := oVec x) c1 rfl ?_)
    have d1 := ldist_bd rx.ok ok_nil rx.vl (by simp)
    have d2 := ldist_bd ry.ok ok_nil ry.vl (by simp)
    refine ref06_Dist qx.ok ok_nil qx.vl (by simp) qx.vec (IsRow.nil _ _ _ _) fun h3 e3 => ⟨e3, ldA_blk (s := .sl) (i := 1) (x := oVec y) (b2) rfl ?_⟩
    refine ref06_Dist qy.ok ok_nil qy.vl (by simp) (qy.vec.ext e3) (IsRow.nil _ _ _ _) fun h4 e4 => let_to ?_
    rw [wrap_i64 (by omega) (by omega)]
    unfold J1_ref09_Least
    rw [Jn_eq]
    refine cnd_no (by rw [h1]; rfl) ?_
    unfold J2_ref09_Least
    rw [Jn_eq]
    refine cnd_no (by rw [h1]; rfl) (j3 _ _ (e3.trans e4) (by simp only; omega) ?_ (by simp only; omega))
    refine at_val (hK h4 (x2.trans (e3.trans e4))) ?_
    unfold lleast aprt
    simp only
    (repeat' split) <;> omega
  rw [if_neg h1] at hK
  refine cnd_no (by rw [beq_eq_false_iff_ne]; exact h1) ?_
  unfold J1_ref09_Least
  rw [Jn_eq]
  by_cases h2' : m = 2
  · rw [if_pos h2'] at hK
    refine cnd_yes (by rw [h2']; rfl) (ldA_blk (s := .str) (i := 2) (x := oStr x) c1 rfl (ldA_blk (s := .str) (i := 2) (x := oStr y) b2 rfl (let_to ?_)))
    rw [rx.str, ry.str, wrap_i64 (by omega) (by omega)]
    unfold J2_ref09_Least
    rw [Jn_eq]
    refine cnd_no (by rw [h2']; rfl) (j3 _ _ (Ext.refl _) (by simp only; omega) ?_ (by simp only; omega))
    refine at_val (hK _ x2) ?_
    simp only
    split <;> omega
  rw [if_neg h2'] at hK
  refine cnd_no (by rw [beq_eq_false_iff_ne]; exact h2') ?_
  unfold J2_ref09_Least
  rw [Jn_eq]
  by_cases h3' : m = 3
  · rw [if_pos h3'] at hK
    refine cnd_yes (by rw [h3']; rfl) (ldA_blk (s := .str) (i := 2) (x := oStr x) c1 rfl (ldA_blk (s := .str) (i := 2) (x := oStr y) b2 rfl ?_))
    rw [rx.str, ry.str]
    have hl := leastN_len a.2 b.2
    have m1 := more_bd (a := bts a.2) (b := bts b.2) (by rw [bts_len]; omega) (by rw [bts_len]; omega) 256
    have m2 := less_bd (a := bts a.2) (b := bts b.2) (by rw [bts_len]; omega) (by rw [bts_len]; omega) 256
    have hub : leastN (bts a.2) (bts b.2) ≤ 256 * 1048576 := by unfold leastN; rw [bts_len, bts_len]; omega
    refine ref_Least sx sy (j3 _ _ (Ext.refl _) (by omega) ?_ (by omega))
    refine at_val (hK _ x2) ?_
    rw [if_neg (by omega)]
  · rw [if_neg h3'] at hK
    refine cnd_no (by rw [beq_eq_false_iff_ne]; exact h3') (j3 _ _ (Ext.refl _) (by decide) (hK _ x2) (by decide))
theorem metricTells_ok {x : StA AT} {a b : Ob} {h : Hp} (ra : ObX h (aX x) a) (rb : ObX h (aY x) b) : C_law09_MetricTells (aM x) (oTag (aX x)) (oVec (aX x)) (oStr (aX x)) (oTag (aY x)) (oVec (aY x)) (oStr (aY x)) (aMost x) (aUp x) h fun b h' => b = true ∧ Ext h h' := by
  refine F_law09_MetricTells_ok _ _ _ _ _ _ _ _ _ _ _ (push_to fun h1 b1 e1 z1 => let_to ?_)
  have bx : Blk h1 h.size (askCells x) := b1
  refine ldA_blk (s := .int .i64) (i := 1) (x := oTag (aX x)) bx rfl (ldA_blk (s := .sl) (i := 2) (x := oVec (aX x)) bx rfl (ldA_blk (s := .str) (i := 3) (x := oStr (aX x)) bx rfl (ldA_blk (s := .int .i64) (i := 4) (x := oTag (aY x)) bx rfl (ldA_blk (s := .sl) (i := 5) (x := oVec (aY x)) bx rfl (ldA_blk (s := .str) (i := 6) (x := oStr (aY x)) bx rfl ?_)))))
  refine push_to fun h2 b2 e2 z2 => let_to ?_
  have x2 := e1.trans e2
  refine r_Short (two_row ra rb x2 b2 rfl) (by simp) fun t ht => ?_
  cases t with
  | false => exact cnd_yes rfl (l_lives09 fun h' e => ⟨rfl, x2.trans e⟩)
  | true =>
    have hs := ht rfl
    have qa := ra.small (hs a (by simp))
    have qb := rb.small (hs b (by simp))
    have b3 := bx.ext e2
    refine cnd_no rfl ?_
    refine ldA_blk (s := .int .i64) (x := aM x) b3 rfl (ldA_blk (s := .int .i64) (i := 1) (x := oTag (aX x)) b3 rfl (ldA_blk (s := .sl) (i := 2) (x := oVec (aX x)) b3 rfl (ldA_blk (s := .str) (i := 3) (x := oStr (aX x)) b3 rfl (ldA_blk (s := .int .i64) (i := 4) (x := oTag (aY x)) b3 rfl (ldA_blk (s := .sl) (i := 5) (x := oVec (aY x)) b3 rfl (ldA_blk (s := .str) (i := 6) (x := oStr (aY x)) b3 rfl ?_))))))
    refine c_rDist (qa.ext x2) (qb.ext x2) fun h4 e4 => ?_
    have x4 := x2.trans e4
    have b4 := b3.ext e4
    refine ldA_blk (s := .int .i64) (x := aM x) b4 rfl (ldA_blk (s := .int .i64) (i := 1) (x := oTag (aX x)) b4 rfl (ldA_blk (s := .sl) (i := 2) (x := oVec (aX x)) b4 rfl (ldA_blk (s := .str) (i := 3) (x := oStr (aX x)) b4 rfl (ldA_blk (s := .int .i64) (i := 4) (x := oTag (aY x)) b4 rfl (ldA_blk (s := .sl) (i := 5) (x := oVec (aY x)) b4 rfl (ldA_blk (s := .str) (i := 6) (x := oStr (aY x)) b4 rfl (ldA_blk (s := .int .i64) (i := 7) (x := aMost x) b4 rfl ?_)))))))
    refine c_mUpto (qa.ext x4) (qb.ext x4) fun h5 e5 => ?_
    have x5 := x4.trans e5
    have b5 := b4.ext e5
    rw [Jn_eq]
    have j1 : J1_law09_MetricTells (fun b h' => b = true ∧ Ext h h') ⟨h.size, 0, none⟩ (od (aM x) a b) () h5 := by
      unfold J1_law09_MetricTells
      refine ldA_blk (s := .int .i64) (x := aM x) b5 rfl (ldA_blk (s := .int .i64) (i := 1) (x := oTag (aX x)) b5 rfl (ldA_blk (s := .sl) (i := 2) (x := oVec (aX x)) b5 rfl (ldA_blk (s := .str) (i := 3) (x := oStr (aX x)) b5 rfl (ldA_blk (s := .int .i64) (i := 4) (x := oTag (aY x)) b5 rfl (ldA_blk (s := .sl) (i := 5) (x := oVec (aY x)) b5 rfl (ldA_blk (s := .str) (i := 6) (x := oStr (aY x)) b5 rfl ?_))))))
      refine c_mDist (qa.ext x5) (qb.ext x5) fun h6 e6 => cnd_yes (beq_self_eq_true _) ?_
      have x6 := x5.trans e6
      have b6 := b5.ext e6
      refine ldA_blk (s := .int .i64) (x := aM x) b6 rfl (ldA_blk (s := .int .i64) (i := 1) (x := oTag (aX x)) b6 rfl (ldA_blk (s := .sl) (i := 2) (x := oVec (aX x)) b6 rfl (ldA_blk (s := .str) (i := 3) (x := oStr (aX x)) b6 rfl (ldA_blk (s := .int .i64) (i := 4) (x := oTag (aY x)) b6 rfl (ldA_blk (s := .sl) (i := 5) (x := oVec (aY x)) b6 rfl (ldA_blk (s := .str) (i := 6) (x := oStr (aY x)) b6 rfl ?_))))))
      refine c_mLeast (qa.ext x6) (qb.ext x6) fun h7 e7 => ⟨e7, ?_⟩
      have x7 := x6.trans e7
      refine ldA_blk (s := .int .i64) (x := aM x) b6 rfl (ldA_blk (s := .int .i64) (i := 1) (x := oTag (aX x)) b6 rfl (ldA_blk (s := .sl) (i := 2) (x := oVec (aX x)) b6 rfl (ldA_blk (s := .str) (i := 3) (x := oStr (aX x)) b6 rfl (ldA_blk (s := .int .i64) (i := 4) (x := oTag (aY x)) b6 rfl (ldA_blk (s := .sl) (i := 5) (x := oVec (aY x)) b6 rfl (ldA_blk (s := .str) (i := 6) (x := oStr (aY x)) b6 rfl ?_))))))
      exact c_rLeast (qa.ext x7) (qb.ext x7) fun h8 e8 => cnd_yes (beq_self_eq_true _) (l_lives09 fun h' e => ⟨rfl, x7.trans (e8.trans e)⟩)
    refine ldA_blk (s := .int .i64) (i := 7) (x := aMost x) b5 rfl (cnd_no (by simp) ?_)
    by_cases hd : od (aM x) a b ≤ aMost x
    · rw [if_pos hd, decide_eq_true hd]
      exact cnd_yes rfl (cnd_bne.2 ⟨fun hne => absurd rfl hne, fun _ => cnd_no rfl j1⟩)
    · rw [if_neg hd, decide_eq_false hd]
      exact cnd_no rfl (cnd_yes rfl (cnd_bne.2 ⟨fun hne => absurd rfl hne, fun _ => j1⟩))
end Go.Proofs.YthdoecmcbpmjgaaF
