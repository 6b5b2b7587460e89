/- Chapters 7 and 9: Upto. No condition. -/
import Derived.Test.YtlbpmophbmbfiaaLoneU
import Derived.Test.YtlbpmophbmbfiaaLevU
import Derived.Test.YtlbpmophbmbfiaaMetric
namespace Go.Proofs.YtlbpmophbmbfiaaF
open Go Go.Proofs.YtlbpmophbmbfiaaK
set_option linter.unusedSimpArgs false
set_option linter.unusedVariables false

theorem ham_longer {a b : ByteArray} {h : Hp} {K : Int → Hp → Prop} (ha : a.size ≤ 1048576) (hb : b.size ≤ 1048576) (hK : K ((max a.size b.size - min a.size b.size : Nat) : Int) h) : C_ham_longer a b h K := by
  refine F_ham_longer_ok _ _ _ _ (let_to (let_to (let_to ?_)))
  rw [wrap_i64 (by omega) (by omega), wrap_i64 (by omega) (by omega)]
  refine at_val hK ?_
  split <;> omega
theorem ham_Upto {a b : ByteArray} {most : Int} {h : Hp} {K : Int → Bool → Hp → Prop} (ha : a.size ≤ 1048576) (hb : b.size ≤ 1048576)
    (hK : K (if (hamd (bts a) (bts b) : Int) ≤ most then (hamd (bts a) (bts b) : Int) else 0) (decide ((hamd (bts a) (bts b) : Int) ≤ most)) h) : C_ham_Upto a b most h K := by
  have la := bts_len a
  have lb := bts_len b
  refine F_ham_Upto_ok _ _ _ _ _ (ham_longer ha hb ?_)
  rw [Jn_eq]
  refine let_to ?_
  have em : (if (b.size : Int) < (a.size : Int) then (b.size : Int) else (a.size : Int)) = ((min a.size b.size : Nat) : Int) := by split <;> omega
  rw [em]
  generalize hlg : max a.size b.size - min a.size b.size = lg
  have hd : hamd (bts a) (bts b) = (dif (bts a) (bts b) (min a.size b.size)).length + lg := by unfold hamd; rw [la, lb, hlg]
  have mono : ∀ k, k ≤ min a.size b.size → (dif (bts a) (bts b) k).length ≤ (dif (bts a) (bts b) (min a.size b.size)).length := by
    intro k hk
    obtain ⟨j, hj⟩ : ∃ j, min a.size b.size = k + j := ⟨min a.size b.size - k, by omega⟩
    rw [hj]
    clear hj hk hd em
    induction j with
    | zero => exact Nat.le_refl _
    | succ j ih => rw [show k + (j + 1) = (k + j) + 1 by omega, dif_succ, List.length_append]; omega
  have fin : ∀ n : Nat, (most < (n : Int) ∧ n ≤ hamd (bts a) (bts b)) ∨ n = hamd (bts a) (bts b) → J1_ham_Upto most K ((n : Int), ()) h := by
    intro n hn
    unfold J1_ham_Upto
    dsimp only
    refine cnd_dec.2 ⟨fun hgt => ?_, fun hng => ?_⟩
    · have hno : ¬ ((hamd (bts a) (bts b) : Int) ≤ most) := by omega
      rw [if_neg hno, decide_eq_false hno] at hK; exact hK
    · have hy : (hamd (bts a) (bts b) : Int) ≤ most := by omega
      rw [if_pos hy, decide_eq_true hy] at hK
      rw [show (n : Int) = (hamd (bts a) (bts b) : Int) by omega]; exact hK
  refine Lp.inv (fun st => st.2 = h ∧ ∃ k : Nat, st.1.2.1 = (k : Int) ∧ k ≤ min a.size b.size ∧ st.1.1 = ((lg + (dif (bts a) (bts b) k).length : Nat) : Int)) (fun st => min a.size b.size - st.1.2.1.toNat) ?_ ⟨rfl, 0, rfl, by omega, by simp [dif]⟩
  rintro ⟨⟨n', k', ⟨⟩⟩, g⟩ R ⟨rfl, k, rfl, hk, hn⟩ hR
  simp only at hn
  subst hn
  have hmk := mono k hk
  have hdl := dif_len (bts a) (bts b) k
  unfold L1_ham_Upto
  dsimp only
  refine cnd_dec.2 ⟨fun hlt => cnd_dec.2 ⟨fun hgt => fin _ (.inl ⟨hgt, by omega⟩), fun hng => ?_⟩, fun hge => ?_⟩
  · have hx := bts_get (s := a) (k := k) (by omega)
    have hy := bts_get (s := b) (k := k) (by omega)
    refine idx_str rfl hx (idx_str rfl hy (cnd_bne.2 ⟨fun hne => let_to (let_to ?_), fun he => let_to ?_⟩))
    · rw [wrap_i64 (by omega) (by omega), wrap_i64 (by omega) (by omega)]
      refine hR _ ⟨rfl, k + 1, by simp, by omega, ?_⟩ (by simp only; omega)
      rw [dif_succ, hx, hy, if_neg (by intro e; injection e with e; exact hne e)]
      simp; omega
    · rw [wrap_i64 (by omega) (by omega)]
      refine hR _ ⟨rfl, k + 1, by simp, by omega, ?_⟩ (by simp only; omega)
      rw [dif_succ, hx, hy, if_pos (by rw [he])]
      simp
  · obtain rfl : k = min a.size b.size := by omega
    exact fin _ (.inr (by omega))
theorem c_mUpto {m most : Int} {x y : StA OT} {a b : Ob} {h : Hp} {K : Int → Bool → Hp → Prop} (rx : ObR h x a) (ry : ObR h y b) (hK : ∀ h', Ext h h' → K (if od m a b ≤ most then od m a b else 0) (decide (od m a b ≤ most)) h') : C_metric_Upto m (oTag x) (oVec x) (oStr x) (oTag y) (oVec y) (oStr y) most h K := by
  refine F_metric_Upto_ok _ _ _ _ _ _ _ _ _ _ (push_to fun h1 b1 e1 z1 => let_to (push_to fun h2 b2 e2 z2 => let_to ?_))
  have c1 := b1.ext e2
  have x2 := e1.trans e2
  have qx := rx.ext x2
  have qy := ry.ext x2
  unfold od at hK
  refine cnd_beq.2 ⟨fun h1 => ?_, fun n1 => cnd_beq.2 ⟨fun h2 => ?_, fun n2 => cnd_beq.2 ⟨fun h3 => ?_, fun n3 => ?_⟩⟩⟩
  · simp only [if_pos h1] at hK
    refine ldA_blk (s := .sl) (i := 1) (x := oVec x) c1 rfl (ldA_blk (s := .sl) (i := 1) (x := oVec y) b2 rfl ?_)
    exact lone_Upto qx.ok qy.ok qx.vl qy.vl qx.vec qy.vec fun h3 e3 => hK h3 (x2.trans e3)
  · simp only [if_neg n1, if_pos h2] at hK
    refine ldA_blk (s := .str) (i := 2) (x := oStr x) c1 rfl (ldA_blk (s := .str) (i := 2) (x := oStr y) b2 rfl ?_)
    rw [← qx.str, ← qy.str] at hK
    exact ham_Upto (by rw [qx.str]; exact qx.sl) (by rw [qy.str]; exact qy.sl) (hK _ x2)
  · simp only [if_neg n1, if_neg n2, if_pos h3] at hK
    refine ldA_blk (s := .str) (i := 2) (x := oStr x) c1 rfl (ldA_blk (s := .str) (i := 2) (x := oStr y) b2 rfl ?_)
    rw [← qx.str, ← qy.str] at hK
    exact lev_Upto (by rw [qx.str]; exact qx.sl) (by rw [qy.str]; exact qy.sl) fun h3 e3 => hK h3 (x2.trans e3)
  · simp only [if_neg n1, if_neg n2, if_neg n3] at hK
    have := hK _ x2
    rw [ite_self] at this
    exact this
theorem m_Upto {p : Nat} {m c most : Int} {x y : StA OT} {a b : Ob} {h : Hp} {K : Int → Bool → Hp → Prop} (q : MQ h p m c) (hc : 0 ≤ c ∧ c ≤ 4503599627370496) (rx : ObA p h x a) (ry : ObA p h y b)
    (hK : ∀ h', MQ h' p m (c + 1) → Only p h h' → K (if od m a b ≤ most then od m a b else 0) (decide (od m a b ≤ most)) h') : C_metric_Meter_Upto (some ⟨p, 0, none⟩) (oTag x) (oVec x) (oStr x) (oTag y) (oVec y) (oStr y) most h K := by
  refine F_metric_Meter_Upto_ok _ _ _ _ _ _ _ _ _ _ (push_to fun h1 b1 e1 z1 => let_to (push_to fun h2 b2 e2 z2 => let_to ?_))
  have hpl := q.lt
  have e12 := e1.trans e2
  have q2 := Blk.ext q e12
  refine cnd_no rfl (ldA_blk (s := .int .i64) (i := 1) (x := c) q2 rfl (let_to ⟨rfl, ?_⟩))
  rw [wrap_i64 (by omega) (by omega)]
  refine set_to q2 (i := 1) (by simp) fun h3 b3 u3 _ z3 => ?_
  simp only [List.setIfInBounds_toArray, List.set_cons_succ, List.set_cons_zero] at b3
  have c1 := (b1.ext e2).only u3 (by omega)
  have c2 := b2.only u3 (by omega)
  have x3 : Only p h h3 := (e12.only p).trans u3
  refine ldA_blk (s := .int .i64) (x := m) b3 rfl (ldA_blk (s := .int .i64) (x := oTag x) c1 rfl (ldA_blk (s := .sl) (i := 1) (x := oVec x) c1 rfl (ldA_blk (s := .str) (i := 2) (x := oStr x) c1 rfl (ldA_blk (s := .int .i64) (x := oTag y) c2 rfl (ldA_blk (s := .sl) (i := 1) (x := oVec y) c2 rfl (ldA_blk (s := .str) (i := 2) (x := oStr y) c2 rfl ?_))))))
  refine c_mUpto (rx.only x3).ob (ry.only x3).ob fun h4 e4 => hK h4 (Blk.ext b3 e4) (x3.trans (e4.only p))
end Go.Proofs.YtlbpmophbmbfiaaF
