/- Chapter 6: the statements LoneMetric and LoneTells answer true. No condition. -/
import Derived.Test.YtmepenlhjekppaaLone
namespace Go.Proofs.YtmepenlhjekppaaF
open Go Go.Proofs.YtmepenlhjekppaaK
set_option linter.unusedSimpArgs false
set_option linter.unusedVariables false

/-! The plain law: a metric. -/
def sumN (a b : List Int) : Nat → Int
  | 0 => 0
  | n + 1 => sumN a b n + aprt (zat a n) (zat b n)
theorem sumN_range (a b : List Int) (n : Nat) : (((List.range n).map fun i => aprt (zat a i) (zat b i)).sum : Int) = sumN a b n := by
  induction n with
  | zero => rfl
  | succ n ih => rw [List.range_succ, List.map_append, List.sum_append, ih]; simp [sumN]
theorem zat_none {l : List Int} {i : Nat} (h : l.length ≤ i) : zat l i = 0 := by unfold zat; rw [List.getElem?_eq_none h]; rfl
theorem sumN_more (a b : List Int) (k : Nat) : sumN a b (max a.length b.length + k) = ldist a b := by
  induction k with
  | zero => exact (sumN_range a b _).symm
  | succ k ih => rw [show max a.length b.length + (k + 1) = (max a.length b.length + k) + 1 by omega, sumN, ih, zat_none (by omega), zat_none (by omega)]; simp [aprt]
theorem ldist_sumN {a b : List Int} {n : Nat} (h : max a.length b.length ≤ n) : ldist a b = sumN a b n := by
  obtain ⟨k, rfl⟩ := Nat.exists_eq_add_of_le h
  exact (sumN_more a b k).symm
theorem aprt_comm (x y : Int) : aprt x y = aprt y x := by unfold aprt; (repeat' split) <;> omega
theorem aprt_tri (x y z : Int) : aprt x y ≤ aprt x z + aprt z y := by unfold aprt; (repeat' split) <;> omega
theorem aprt_nn (x y : Int) : 0 ≤ aprt x y := by unfold aprt; split <;> omega
theorem aprt_zero {x y : Int} : aprt x y = 0 ↔ x = y := by unfold aprt; split <;> omega
theorem sumN_comm (a b : List Int) (n : Nat) : sumN a b n = sumN b a n := by
  induction n with
  | zero => rfl
  | succ n ih => simp only [sumN]; rw [ih, aprt_comm]
theorem sumN_tri (a b c : List Int) (n : Nat) : sumN a b n ≤ sumN a c n + sumN c b n := by
  induction n with
  | zero => simp [sumN]
  | succ n ih => simp only [sumN]; have := aprt_tri (zat a n) (zat b n) (zat c n); omega
theorem sumN_nn (a b : List Int) (n : Nat) : 0 ≤ sumN a b n := by
  induction n with
  | zero => simp [sumN]
  | succ n ih => simp only [sumN]; have := aprt_nn (zat a n) (zat b n); omega
theorem sumN_zero {a b : List Int} {n : Nat} : sumN a b n = 0 ↔ ∀ i, i < n → zat a i = zat b i := by
  induction n with
  | zero => simp [sumN]
  | succ n ih =>
    simp only [sumN]
    have h1 := sumN_nn a b n
    have h2 := aprt_nn (zat a n) (zat b n)
    constructor
    · intro h i hi
      by_cases e : i = n
      · subst e; exact aprt_zero.1 (by omega)
      · exact ih.1 (by omega) i (by omega)
    · intro h
      have := ih.2 fun i hi => h i (by omega)
      have := aprt_zero.2 (h n (by omega))
      omega
theorem ldist_comm (a b : List Int) : ldist a b = ldist b a := by
  rw [ldist_sumN (n := max a.length b.length) (Nat.le_refl _), ldist_sumN (a := b) (n := max a.length b.length) (by omega), sumN_comm]
theorem ldist_tri (a b c : List Int) : ldist a b ≤ ldist a c + ldist c b := by
  rw [ldist_sumN (n := max (max a.length b.length) c.length) (by omega), ldist_sumN (a := a) (b := c) (n := max (max a.length b.length) c.length) (by omega), ldist_sumN (a := c) (n := max (max a.length b.length) c.length) (by omega)]
  exact sumN_tri a b c _
theorem ldist_nn (a b : List Int) : 0 ≤ ldist a b := by rw [ldist_sumN (Nat.le_refl _)]; exact sumN_nn _ _ _
theorem lleast_le (a b : List Int) : lleast a b ≤ ldist a b := by
  have h1 := ldist_tri a [] b
  have h2 := ldist_tri b [] a
  rw [ldist_comm b a] at h2
  unfold lleast aprt
  split <;> omega

theorem lives06 {h : Hp} {K : Bool → Hp → Prop} (hk : ∀ h', Ext h h' → K true h') : C_law06_lives h K := by
  refine F_law06_lives_ok _ _ (push_to fun h1 b1 e1 z1 => let_to (push_to fun h2 b2 e2 z2 => let_to ?_))
  refine lone_Dist (sa := ⟨_, 2, 2⟩) (sb := ⟨_, 2, 2⟩) (la := [1, 2]) (lb := [4, -2]) ?_ ?_ (by simp) (by simp) (Blk.row (encI_ok _) (b1.ext e2) (l := [1, 2]) (cap := 2) (by simp) rfl) (Blk.row (encI_ok _) b2 (l := [4, -2]) (cap := 2) (by simp) rfl) fun h3 e3 => ?_
  · intro x hx; simp at hx; omega
  · intro x hx; simp at hx; omega
  · exact at_val (hk _ (e1.trans (e2.trans e3))) (by decide)

theorem loneTells_ok {sa sb : Sl} {la lb : List Int} {most : Int} {h : Hp} (oka : Ok32 la) (okb : Ok32 lb) (hla : la.length ≤ 1048576) (hlb : lb.length ≤ 1048576) (ra : R32 h sa la) (rb : R32 h sb lb) :
    C_law06_LoneTells sa sb most h fun r h' => r = true ∧ Ext h h' := by
  have bab := ldist_bd oka okb hla hlb
  have b1 := ldist_bd oka ok_nil hla (by simp)
  have b2 := ldist_bd okb ok_nil hlb (by simp)
  refine F_law06_LoneTells_ok _ _ _ _ _ (ref06_Dist oka okb hla hlb ra rb fun h1 e1 => lone_Upto oka okb hla hlb (ra.ext e1) (rb.ext e1) fun h2 e2 => ?_)
  have x2 := e1.trans e2
  refine ref06_Dist oka ok_nil hla (by simp) (ra.ext x2) (IsRow.nil _ _ _ 0) fun h3 e3 => ref06_Dist okb ok_nil hlb (by simp) (rb.ext (x2.trans e3)) (IsRow.nil _ _ _ 0) fun h4 e4 => let_to ?_
  have x4 := x2.trans (e3.trans e4)
  rw [wrap_i64 (by omega) (by omega), Jn_eq]
  have go : ∀ t : Int, t = lleast la lb → J1_law06_LoneTells sa sb most (fun r h' => r = true ∧ Ext h h') (ldist la lb) (if ldist la lb ≤ most then ldist la lb else 0) (decide (ldist la lb ≤ most)) (t, ()) h4 := by
    intro t ht
    unfold J1_law06_LoneTells
    refine cnd_no (by simp) ?_
    have go2 : J2_law06_LoneTells sa sb (fun r h' => r = true ∧ Ext h h') (ldist la lb) (t, ()) () h4 := by
      unfold J2_law06_LoneTells
      refine lone_Dist oka okb hla hlb (ra.ext x4) (rb.ext x4) fun h5 e5 => cnd_yes (by simp) (lone_Norm oka hla (ra.ext (x4.trans e5)) fun h6 e6 => ref06_Dist oka ok_nil hla (by simp) (ra.ext (x4.trans (e5.trans e6))) (IsRow.nil _ _ _ 0) fun h7 e7 => cnd_yes (by simp) ?_)
      have x7 := x4.trans (e5.trans (e6.trans e7))
      exact lone_Least oka okb hla hlb (ra.ext x7) (rb.ext x7) fun h8 e8 => cnd_yes (by simp [ht]) (lives06 fun h9 e9 => ⟨rfl, x7.trans (e8.trans e9)⟩)
    by_cases hle : ldist la lb ≤ most
    · refine cnd_yes (by simpa using hle) (cnd_no (by simp [hle]) (cnd_no (by simpa using hle) go2))
    · refine cnd_no (by simpa using hle) (cnd_yes (by simpa using hle) (cnd_no (by simp [hle]) go2))
  refine cnd_dec.2 ⟨fun hlt => let_to ?_, fun hge => ?_⟩
  · rw [wrap_i64 (by omega) (by omega)]
    exact go _ (by unfold lleast aprt; split <;> omega)
  · exact go _ (by unfold lleast aprt; split <;> omega)

theorem loneMetric_ok {sa sb sc : Sl} {la lb lc : List Int} {h : Hp} (oka : Ok32 la) (okb : Ok32 lb) (okc : Ok32 lc) (hla : la.length ≤ 1048576) (hlb : lb.length ≤ 1048576) (hlc : lc.length ≤ 1048576) (ra : R32 h sa la) (rb : R32 h sb lb) (rc : R32 h sc lc) :
    C_law06_LoneMetric sa sb sc h fun r h' => r = true ∧ Ext h h' := by
  refine F_law06_LoneMetric_ok _ _ _ _ _ ?_
  unfold F_law06_LoneMetric
  rw [Jn_eq]
  refine Lp.inv (fun s => ∃ k : Nat, s.1.2.1 = (k : Int) ∧ k ≤ max la.length lb.length ∧ s.2 = h ∧ (s.1.1 = true ↔ ∀ i, i < k → zat la i = zat lb i)) (fun s => max la.length lb.length - s.1.2.1.toNat) ?_ ⟨0, rfl, by omega, rfl, by simp⟩
  rintro ⟨⟨same, i, ⟨⟩⟩, h0⟩ R ⟨k, rfl, hk, rfl, hs⟩ hR
  simp only at hs hk
  unfold L1_law06_LoneMetric
  rw [Jn_eq]
  have body : k < max la.length lb.length → J2_law06_LoneMetric sa sb ((same, (k : Int), ()), h0) R () h0 := by
    intro hlt
    unfold J2_law06_LoneMetric
    rw [Jn_eq]
    have next : ∀ t : Bool, (t = true ↔ (same = true ∧ zat la k = zat lb k)) → R ((t, (k : Int) + 1, ()), h0) := by
      intro t ht
      refine hR _ ⟨k + 1, rfl, by omega, rfl, ?_⟩ (by simp only; omega)
      simp only
      rw [ht, hs]
      constructor
      · rintro ⟨h1, h2⟩ i hi
        by_cases e : i = k
        · subst e; exact h2
        · exact h1 i (by omega)
      · exact fun h => ⟨fun i hi => h i (by omega), h k (by omega)⟩
    have go3 : J3_law06_LoneMetric sb ((same, (k : Int), ()), h0) R (zat la k, ()) h0 := by
      unfold J3_law06_LoneMetric
      dsimp only
      refine cnd_dec.2 ⟨fun h1 => ?_, fun h1 => ?_⟩ <;> simp only [rb.len] at h1
      · have hx : lb[((k : Int)).toNat]? = some (zat lb k) := by rw [Int.toNat_natCast]; unfold zat; rw [List.getElem?_eq_getElem (by omega)]; rfl
        refine ld_int0 (i := (k : Int)) rb (by omega) hx ?_
        refine cnd_if (fun e => let_to ?_) fun e => let_to ?_
        · rw [wrap_i64 (by omega) (by omega)]
          exact next _ (by simp [show same = _ from e])
        · rw [wrap_i64 (by omega) (by omega)]
          exact next _ (by simp [show same = _ from e])
      · have hz : zat lb k = 0 := zat_none (by omega)
        refine cnd_if (fun e => let_to ?_) fun e => let_to ?_
        · rw [wrap_i64 (by omega) (by omega)]
          exact next _ (by simp [show same = _ from e, hz])
        · rw [wrap_i64 (by omega) (by omega)]
          exact next _ (by simp [show same = _ from e])
    refine cnd_dec.2 ⟨fun h1 => ?_, fun h1 => ?_⟩ <;> simp only [ra.len] at h1
    · have hx : la[((k : Int)).toNat]? = some (zat la k) := by rw [Int.toNat_natCast]; unfold zat; rw [List.getElem?_eq_getElem (by omega)]; rfl
      refine ld_int0 (i := (k : Int)) ra (by omega) hx ?_
      exact go3
    · rw [← zat_none (l := la) (i := k) (by omega)]; exact go3
  simp only [ra.len, rb.len]
  refine cnd_dec.2 ⟨fun h1 => body (by omega), fun h1 => cnd_dec.2 ⟨fun h2 => body (by omega), fun h2 => ?_⟩⟩
  have ek : k = max la.length lb.length := by omega
  have hz : (ldist la lb = 0) ↔ same = true := by rw [hs, ldist_sumN (n := k) (by omega), sumN_zero]
  have nn := ldist_nn la lb
  have bac := ldist_bd oka okc hla hlc
  have bcb := ldist_bd okc okb hlc hlb
  have tri := ldist_tri la lb lc
  have hle := lleast_le la lb
  unfold J1_law06_LoneMetric
  refine lone_Dist oka okb hla hlb ra rb fun h1 e1 => cnd_yes ?_ (cnd_yes (by simpa using nn) (lone_Dist okb oka hlb hla (rb.ext e1) (ra.ext e1) fun h2 e2 => cnd_yes (by simp [ldist_comm la lb]) ?_))
  · simp only
    cases hs2 : same with
    | true => rw [hz.2 hs2]; rfl
    | false =>
      have : ldist la lb ≠ 0 := fun e => by rw [hz.1 e] at hs2; cases hs2
      simpa using this
  · have x2 := e1.trans e2
    refine lone_Dist oka okc hla hlc (ra.ext x2) (rc.ext x2) fun h3 e3 => lone_Dist okc okb hlc hlb (rc.ext (x2.trans e3)) (rb.ext (x2.trans e3)) fun h4 e4 => let_to ?_
    have x4 := x2.trans (e3.trans e4)
    rw [wrap_i64 (by omega) (by omega)]
    exact cnd_yes (by simpa using tri) (lone_Least oka okb hla hlb (ra.ext x4) (rb.ext x4) fun h5 e5 => cnd_yes (by simpa using hle) (lives06 fun h6 e6 => ⟨rfl, x4.trans (e5.trans e6)⟩))

/-! From arguments. -/
theorem arg32 {h : Hp} {t e : TypeId} {m : Nat} {a : Option Addr} {len cap : Nat} (ht : Try.prog.underlying t = some (.slice e)) (he : Try.prog.underlying e = some (.int .i32)) (hC : Try.prog.cellsOf e = 1)
    (g : Arg Try.prog h t (.slice a len cap) m) : ∃ l : List Int, R32 h ⟨a, len, cap⟩ l ∧ Ok32 l ∧ l.length ≤ m := by
  obtain ⟨l, ms, r, _, hs, hg⟩ := arg_row (Good := fun x n => okI .i32 x ∧ 1 ≤ n) ht hC (fun n cs m r hl => rd_int he n cs m r hl) g
  refine ⟨l, r, fun x hx => ?_, ?_⟩
  · obtain ⟨i, hi⟩ := List.getElem?_of_mem hx
    exact okI_i32 (hg i x hi).1
  · have := sum_ones (n := l.length) (f := ms) fun i hi => (hg i _ (List.getElem?_eq_getElem hi)).2
    omega
end Go.Proofs.YtmepenlhjekppaaF
