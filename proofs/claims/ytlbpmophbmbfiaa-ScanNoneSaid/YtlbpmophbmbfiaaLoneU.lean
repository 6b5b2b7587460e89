/- Chapter 6: Upto. No condition. -/
import Derived.Test.YtlbpmophbmbfiaaLoneD
namespace Go.Proofs.YtlbpmophbmbfiaaF
open Go Go.Proofs.YtlbpmophbmbfiaaK
set_option linter.unusedSimpArgs false
set_option linter.unusedVariables false

theorem lone_Upto {sa sb : Sl} {la lb : List Int} {most : Int} {h : Hp} {K : Int → Bool → Hp → Prop} (oka : Ok32 la) (okb : Ok32 lb) (hla : la.length ≤ 1048576) (hlb : lb.length ≤ 1048576) (ra : R32 h sa la) (rb : R32 h sb lb)
    (hk : ∀ h', Ext h h' → K (if ldist la lb ≤ most then ldist la lb else 0) (decide (ldist la lb ≤ most)) h') : C_lone_Upto sa sb most h K := by
  refine F_lone_Upto_ok _ _ _ _ _ (push_to fun h1 b1 e1 z1 => let_to (push_to fun h2 b2 e2 z2 => let_to (push_to fun h3 b3 e3 z3 => let_to (push_to fun h4 b4 e4 z4 => let_to ⟨rfl, set_to b4 (by simp) fun h5 b5 o5 _ z5 => ?_⟩))))
  have x4 : Ext h h4 := e1.trans (e2.trans (e3.trans e4))
  have x5 : Ext h h5 := x4.only_new o5 (by omega)
  have c1 : Blk h5 h.size _ := (b1.ext (e2.trans (e3.trans e4))).only o5 (by omega)
  have c2 : Blk h5 h1.size _ := (b2.ext (e3.trans e4)).only o5 (by omega)
  have c3 : Blk h5 h2.size _ := (b3.ext e4).only o5 (by omega)
  have c4 : Blk h5 h3.size #[.int .i64 0] := by simpa using b5
  rw [Jn_eq]
  refine lone_places oka okb hla hlb (ra.ext x5) (rb.ext x5) fun v h6 ba bb it e6 rd hba hbb => ?_
  have hsz6 := e6.size
  have bd := dsts_bd oka okb
  have hl : (dsts la lb).length ≤ 1048576 := by rw [dsts_len]; omega
  refine rngF_of it (fun pre h' => Blk h' h3.size #[.int .i64 pre.sum] ∧ (Blk h' h.size #[.int .i64 most] ∧ Blk h' h1.size #[.int .i64 0] ∧ Blk h' h2.size #[.bool false]) ∧ PRd ba bb sa sb la lb h' ∧ Ext h h' ∧ (pre = [] ∨ pre.sum ≤ most))
    (fun c pre h' => c = none ∧ (Blk h' h1.size #[.int .i64 0] ∧ Blk h' h2.size #[.bool false]) ∧ most < pre.sum ∧ Ext h h') ?_ ?_ (fun _ _ hj => hj.2.2.1) ⟨c4.ext e6, ⟨c1.ext e6, c2.ext e6, c3.ext e6⟩, rd, x5.trans e6, .inl rfl⟩ ?_ ?_ ?_
  · exact fun pre h3 h4 ⟨j1, ⟨j2, j3, j4⟩, j5, j6, j7⟩ st => ⟨j1.stp st, ⟨j2.stp st, j3.stp st, j4.stp st⟩, j5.stp st, st.ext j6 (by omega), j7⟩
  · exact fun c pre h3 h4 ⟨j0, ⟨j1, j2⟩, j3, j4⟩ st => ⟨j0, ⟨j1.stp st, j2.stp st⟩, j3, st.ext j4 (by omega)⟩
  · intro pre x h7 hp ⟨j1, ⟨j2, j3, j4⟩, j5, j6, j7⟩
    have hps := pre_sum bd hp hl
    have hps0 := pre_sum bd ((List.prefix_append pre [x]).trans hp) hl
    refine ⟨RKeep.refl _, fun h8 st => ldA_blk (s := .int .i64) (x := pre.sum) (j1.stp st) rfl (let_to ⟨rfl, set_to (j1.stp st) (by simp) fun h9 b9 o9 k9 z9 => ?_⟩)⟩
    rw [List.sum_append] at hps ⊢
    simp at hps
    rw [wrap_i64 (by omega) (by omega)] at b9
    obtain ⟨q1, q2, q3, q4⟩ := j5.stp st
    have ex : Ext h h9 := (st.ext j6 (by omega)).only_new o9 (by omega)
    have g1 := (j2.stp st).only o9 (by omega)
    have g2 := (j3.stp st).only o9 (by omega)
    have g3 := (j4.stp st).only o9 (by omega)
    refine ldA_blk (s := .int .i64) (x := pre.sum + x) b9 rfl (ldA_blk (s := .int .i64) (x := most) g1 rfl (cnd_dec.2 ⟨fun hgt => ?_, fun hle => ?_⟩))
    · refine ⟨rfl, set_to g2 (by simp) fun h10 b10 o10 k10 z10 => ⟨rfl, set_to (g3.only o10 (by omega)) (by simp) fun h11 b11 o11 k11 z11 => ?_⟩⟩
      have a1 := b10.only o11 (by omega)
      exact ⟨k9.trans (k10.trans k11), rfl, ⟨by simpa using a1, by simpa using b11⟩, by simp; omega, (ex.only_new o10 (by omega)).only_new o11 (by omega)⟩
    · exact ⟨k9, by simpa using b9, ⟨g1, g2, g3⟩, ⟨q1.only o9 (by omega), q2.only o9 (by omega), ra.ext ex, rb.ext ex⟩, ex, .inr (by simpa using Int.not_lt.1 hle)⟩
  · intro h7 ⟨j1, ⟨j2, j3, j4⟩, j5, j6, j7⟩
    refine ⟨[h1.size, h2.size], by simp; omega, ldA_blk (s := .int .i64) (x := (dsts la lb).sum) j1 rfl ⟨by simp; omega, ldA_blk (s := .int .i64) (x := (dsts la lb).sum) j1 rfl ⟨by simp; omega, ldA_blk (s := .int .i64) (x := most) j2 rfl ⟨rfl, ?_⟩⟩⟩⟩
    refine set_to j3 (by simp) fun h8 b8 o8 k8 z8 => ⟨⟨by omega, fun b hb hn => o8.get b hb fun e => hn (by simp [e])⟩, rfl, set_to (j4.only o8 (by omega)) (by simp) fun h9 b9 o9 k9 z9 => fun h10 st => ?_⟩
    have a1 := (b8.only o9 (by omega)).stp st
    have a2 := b9.stp st
    simp only [List.setIfInBounds_toArray, List.set_cons_zero] at a1 a2
    refine ldA_blk (s := .int .i64) (x := (dsts la lb).sum) a1 rfl (ldA_blk (s := .bool) (x := decide ((dsts la lb).sum ≤ most)) a2 rfl ?_)
    have := hk h10 (st.ext ((j6.only_new o8 (by omega)).only_new o9 (by omega)) (Nat.le_refl _))
    unfold ldist at this
    by_cases hle : (dsts la lb).sum ≤ most
    · rw [if_pos hle] at this; exact this
    · rw [if_neg hle] at this
      have e : (dsts la lb).sum = 0 := by
        rcases j7 with j7 | j7
        · rw [j7]; rfl
        · exact (hle j7).elim
      rw [e] at this ⊢; exact this
  · intro c pre h7 hp ⟨j0, ⟨j1, j2⟩, j3, j4⟩
    subst j0
    have := pre_le bd hp
    have hgt : ¬ ldist la lb ≤ most := by unfold ldist; omega
    rw [if_neg hgt, decide_eq_false hgt] at hk
    exact fun h8 st => ldA_blk (s := .int .i64) (x := 0) (j1.stp st) rfl (ldA_blk (s := .bool) (x := false) (j2.stp st) rfl (hk _ (st.ext j4 (Nat.le_refl _))))

end Go.Proofs.YtlbpmophbmbfiaaF
