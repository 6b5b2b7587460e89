/- Chapter 8: the laws. No condition. -/
import Derived.Test.YtbfjigemklbjfaaLevT
namespace Go.Proofs.YtbfjigemklbjfaaF
open Go Go.Proofs.YtbfjigemklbjfaaK
set_option linter.unusedSimpArgs false
set_option linter.unusedVariables false

theorem lives8 {h : Hp} {K : Bool → Hp → Prop} (hK : ∀ h', Ext h h' → K true h') : C_law08_lives h K := by
  refine F_law08_lives_ok _ _ (lev_Dist (by decide) (by decide) fun h1 e1 => ?_)
  have e : ed (bts (ByteArray.mk #[107, 105, 116, 116, 101, 110])) (bts (ByteArray.mk #[115, 105, 116, 116, 105, 110, 103])) = 3 := by decide +kernel
  rw [e]
  refine cnd_yes rfl (lev_Edits (by decide) (by decide) fun r h2 e2 hr => ?_)
  have e3 : way (bts (ByteArray.mk #[97, 98])) (bts (ByteArray.mk #[98])) = bts (ByteArray.mk #[45, 61]) := by decide +kernel
  rw [e3] at hr
  have : strEq r (ByteArray.mk #[45, 61]) = true := strEq_iff.2 hr
  rw [this]
  exact hK h2 (e1.trans e2)
theorem size_of {a : ByteArray} : (bts a).length = a.size := bts_len a
theorem levApplies_ok {a b e : ByteArray} {h : Hp} (ha : a.size ≤ reachBytes) (hb : b.size ≤ reachBytes) (he : e.size ≤ reachBytes) : C_law08_LevApplies a b e h fun r h' => r = true ∧ Ext h h' := by
  have hr : reachBytes ≤ 140737488355328 := by decide
  refine F_law08_LevApplies_ok _ _ _ _ _ (lev_Apply (by omega) (by omega) fun r ok h1 e1 h2 h3 => ref_Apply (by omega) (by omega) (by omega) fun r2 ok2 h4 h5 => ?_)
  rw [strEq_iff.2 (h3.trans h5.symm), show ok = ok2 from h2.trans h4.symm, beq_self_eq_true]
  exact lives8 (K := fun r h' => r = true ∧ Ext h h') fun h' e2 => ⟨rfl, e1.trans e2⟩
theorem ed_zero {a b : List Int} : ed a b = 0 ↔ a = b := by
  constructor
  · intro h
    have hw := way_count _ a b (Nat.le_refl _)
    have hr := runA_way _ a b [] (Nat.le_refl _)
    rw [h] at hw
    have key : ∀ (w : List Int) (a b out : List Int), wayc w = 0 → runA a b out w = some (out ++ b) → a = b := by
      intro w
      induction w with
      | nil =>
        intro a b out _ hr
        simp only [runA] at hr
        split at hr
        · rename_i h; rw [h.1, h.2]
        · cases hr
      | cons c w ih =>
        intro a b out hw hr
        rw [wayc_cons] at hw
        have hc : c = 61 := Classical.byContradiction fun hn => by rw [if_neg hn] at hw; omega
        subst hc
        simp only [runA] at hr
        rw [if_pos (by decide)] at hr
        split at hr
        · rename_i x xs y ys
          split at hr
          · rename_i hxy
            have hxy : x = y := hxy.2 trivial
            subst hxy
            have := ih xs ys (out ++ [x]) (by simpa using hw) (by rw [hr]; simp)
            rw [this]
          · cases hr
        · cases hr
    exact key _ a b [] hw.1 hr
  · intro h
    subst h
    induction a with
    | nil => rfl
    | cons x xs ih => rw [ed_same]; exact ih
theorem Al.join {a c b : List Int} {n m : Nat} (h1 : Al a c n) (h2 : Al c b m) : ∃ k, k ≤ n + m ∧ Al a b k := by
  induction h1 generalizing b m with
  | nil => exact ⟨m, by omega, h2⟩
  | del x h ih => obtain ⟨k, hk, h3⟩ := ih h2; exact ⟨k + 1, by omega, Al.del x h3⟩
  | @sub x y xs ys n h ih =>
    generalize e : y :: ys = zs at h2
    induction h2 with
    | nil => cases e
    | @sub y' z ys' zs' m h2 _ =>
      cases e
      obtain ⟨k, hk, h3⟩ := ih h2
      refine ⟨k + bne1 x z, ?_, Al.sub x z h3⟩
      have : bne1 x z ≤ bne1 x y + bne1 y z := by
        unfold bne1
        (repeat' split) <;> omega
      omega
    | @del y' ys' zs' m h2 _ => cases e; obtain ⟨k, hk, h3⟩ := ih h2; exact ⟨k + 1, by omega, Al.del x h3⟩
    | @ins z ys' zs' m h2 ih2 => obtain ⟨k, hk, h3⟩ := ih2 e; exact ⟨k + 1, by omega, Al.ins z h3⟩
  | @ins y xs ys n h ih =>
    generalize e : y :: ys = zs at h2
    induction h2 with
    | nil => cases e
    | @sub y' z ys' zs' m h2 _ => cases e; obtain ⟨k, hk, h3⟩ := ih h2; exact ⟨k + 1, by omega, Al.ins z h3⟩
    | @del y' ys' zs' m h2 _ => cases e; obtain ⟨k, hk, h3⟩ := ih h2; exact ⟨k, by omega, h3⟩
    | @ins z ys' zs' m h2 ih2 => obtain ⟨k, hk, h3⟩ := ih2 e; exact ⟨k + 1, by omega, Al.ins z h3⟩
theorem ed_tri (a b c : List Int) : ed a b ≤ ed a c + ed c b := by
  obtain ⟨k, hk, h⟩ := Al.join (al_ed a c) (al_ed c b)
  have := ed_le h
  omega
theorem sumN_le {g g' : Nat → Int} (h : ∀ k, g k ≤ g' k) : ∀ n, sumN g n ≤ sumN g' n
  | 0 => Int.le_refl _
  | n + 1 => by have := sumN_le h n; have := h n; unfold sumN; omega
theorem sumN_one {g g' : Nat → Int} {x : Int} (h : ∀ k : Nat, g' k ≤ g k + if (k : Int) = x then 1 else 0) : ∀ n : Nat, sumN g' n ≤ sumN g n + if 0 ≤ x ∧ x < n then 1 else 0
  | 0 => by simp [sumN]; omega
  | n + 1 => by
    have h1 := sumN_one h n
    have h2 := h n
    unfold sumN
    by_cases e : (n : Int) = x
    · rw [if_neg (by omega)] at h1
      rw [if_pos e] at h2
      rw [if_pos (by omega)]; omega
    · rw [if_neg e] at h2
      by_cases e2 : 0 ≤ x ∧ x < n
      · rw [if_pos e2] at h1; rw [if_pos (by omega)]; omega
      · rw [if_neg e2] at h1; rw [if_neg (by omega)]; omega
theorem cntN_cons (x : Int) (l : List Int) (k : Nat) : cntN (x :: l) k = cntN l k + if (k : Int) = x then 1 else 0 := by
  unfold cntN
  rw [List.count_cons]
  by_cases h : x = (k : Int)
  · rw [if_pos (c := (x == (k : Int)) = true) (by simpa using h), if_pos h.symm]; omega
  · rw [if_neg (c := (x == (k : Int)) = true) (by simpa using h), if_neg (fun e => h e.symm)]; omega
theorem more_del (x : Int) (xs ys : List Int) (n : Nat) : moreN (x :: xs) ys n ≤ moreN xs ys n + 1 := by
  have := sumN_one (g := fun k => max (difN xs ys k) 0) (g' := fun k => max (difN (x :: xs) ys k) 0) (x := x) (fun k => by
    simp only [difN, cntN_cons]; split <;> omega) n
  unfold moreN
  split at this <;> omega
theorem more_ins (y : Int) (xs ys : List Int) (n : Nat) : moreN xs (y :: ys) n ≤ moreN xs ys n :=
  sumN_le (fun k => by simp only [difN, cntN_cons]; split <;> omega) n
theorem more_same (x : Int) (xs ys : List Int) (n : Nat) : moreN (x :: xs) (x :: ys) n ≤ moreN xs ys n :=
  sumN_le (fun k => by simp only [difN, cntN_cons]; split <;> omega) n
theorem more_al {a b : List Int} {m : Nat} (h : Al a b m) (n : Nat) : moreN a b n ≤ m := by
  induction h with
  | nil =>
    have : ∀ n, moreN [] [] n ≤ 0 := fun n => by
      induction n with
      | zero => exact Int.le_refl _
      | succ n ih => show sumN _ n + _ ≤ 0; have : moreN [] [] n ≤ 0 := ih; unfold moreN at this; simp [difN, cntN] at *; exact this
    exact this n
  | @sub x y xs ys m h ih =>
    unfold bne1
    split
    · rename_i e; subst e; have := more_same x xs ys n; omega
    · have := more_ins y (x :: xs) ys n; have := more_del x xs ys n; omega
  | @del x xs ys m h ih => have := more_del x xs ys n; omega
  | @ins y xs ys m h ih => have := more_ins y xs ys n; omega
theorem less_more (a b : List Int) (n : Nat) : lessN a b n = moreN b a n := by
  unfold lessN moreN
  congr 1
  funext k
  unfold difN
  congr 1
  omega
theorem least_le (a b : List Int) : leastN a b ≤ ed a b := by
  have h1 := more_al (al_ed a b) 256
  have h2 := more_al (al_ed b a) 256
  rw [← less_more, ed_comm] at h2
  have h3 := ed_ge a b
  unfold leastN
  omega
theorem short8 {a b : ByteArray} {h : Hp} {K : Bool → Hp → Prop} (hK : K (decide (a.size ≤ 120 ∧ b.size ≤ 120)) h) : C_law08_short a b h K := by
  refine F_law08_short_ok _ _ _ _ (cnd_dec.2 ⟨fun h1 => at_val hK ?_, fun h1 => at_val hK ?_⟩)
  · rw [Bool.eq_iff_iff]; simp; omega
  · symm; rw [decide_eq_false_iff_not]; omega
theorem levMetric_ok {a b c : ByteArray} {h : Hp} : C_law08_LevMetric a b c h fun r h' => r = true ∧ Ext h h' := by
  refine F_law08_LevMetric_ok _ _ _ _ _ ?_
  unfold F_law08_LevMetric
  rw [Jn_eq]
  have no : J1_law08_LevMetric a b c (fun r h' => r = true ∧ Ext h h') (true, ()) h := by
    unfold J1_law08_LevMetric
    exact cnd_yes rfl (lives8 fun h' e => ⟨rfl, e⟩)
  refine short8 (cnd_not.2 (cnd_dec.2 ⟨fun h1 => short8 ?_, fun _ => no⟩))
  by_cases hc : c.size ≤ 120
  · rw [decide_eq_true (show c.size ≤ 120 ∧ c.size ≤ 120 from ⟨hc, hc⟩)]
    unfold J1_law08_LevMetric
    refine cnd_no rfl ?_
    have la := bts_len a
    have lb := bts_len b
    have lc := bts_len c
    have b1 := ed_max (bts a) (bts b)
    have b2 := ed_max (bts a) (bts c)
    have b3 := ed_max (bts c) (bts b)
    refine lev_Dist (by omega) (by omega) fun h1' e1 => cnd_yes ?_ (cnd_yes (decide_eq_true (by omega)) (lev_Dist (by omega) (by omega) fun h2 e2 => cnd_yes ?_ (lev_Dist (by omega) (by omega) fun h3 e3 => lev_Dist (by omega) (by omega) fun h4 e4 => let_to ?_)))
    · rw [beq_iff_eq, Bool.eq_iff_iff, beq_iff_eq, strEq_iff]
      rw [show ((ed (bts a) (bts b) : Int) = 0) = (ed (bts a) (bts b) = 0) by rw [eq_iff_iff]; omega]
      exact ed_zero
    · rw [ed_comm (bts b)]; exact beq_self_eq_true _
    · have tri := ed_tri (bts a) (bts b) (bts c)
      rw [wrap_i64 (by omega) (by omega)]
      refine cnd_yes (decide_eq_true (by omega)) (lev_Least (by omega) (by omega) fun h5 e5 => cnd_yes (decide_eq_true (least_le _ _)) (let_to (cnd_yes (decide_eq_true ?_) (lives8 fun h6 e6 => ⟨rfl, (((((e1.trans e2).trans e3).trans e4).trans e5).trans e6)⟩))))
      split <;> omega
  · rw [decide_eq_false (show ¬ (c.size ≤ 120 ∧ c.size ≤ 120) from fun h => hc h.1)]
    exact no
theorem levTells_ok {a b : ByteArray} {most : Int} {h : Hp} : C_law08_LevTells a b most h fun r h' => r = true ∧ Ext h h' := by
  refine F_law08_LevTells_ok _ _ _ _ _ (short8 (cnd_not.2 (cnd_dec.2 ⟨fun hs => ?_, fun _ => lives8 fun h' e => ⟨rfl, e⟩⟩)))
  have la := bts_len a
  have lb := bts_len b
  refine ref08_Dist (by omega) (by omega) fun h1 e1 => lev_Upto (by omega) (by omega) fun h2 e2 => lev_TrimX (by omega) (by omega) fun c d t1 => ref_Trim (by omega) (by omega) fun c2 d2 t2 => ?_
  obtain ⟨w1, w2⟩ := t1.one t2
  have hab : (bts c2).length ≤ a.size ∧ (bts d2).length ≤ b.size := by
    obtain ⟨p, q, e1, e2, _⟩ := t2.ex
    have h1 := congrArg List.length e1
    have h2 := congrArg List.length e2
    simp only [List.length_append] at h1 h2
    omega
  rw [bts_len, bts_len] at hab
  rw [Jn_eq]
  have J1 : J1_law08_LevTells a b (fun r h' => r = true ∧ Ext h h') (ed (bts a) (bts b)) c d c2 d2 () h2 := by
    unfold J1_law08_LevTells
    refine lev_Dist (by omega) (by omega) fun h3 e3 => cnd_yes (beq_self_eq_true _) (lev_Least (by omega) (by omega) fun h4 e4 => ref_Least (by omega) (by omega) (cnd_yes (beq_self_eq_true _) (cnd_yes (strEq_iff.2 w1) (cnd_yes (strEq_iff.2 w2) (ref08_Dist (by omega) (by omega) fun h5 e5 => cnd_yes ?_ (lives8 fun h6 e6 => ⟨rfl, (((((e1.trans e2).trans e3).trans e4).trans e5).trans e6)⟩))))))
    obtain ⟨p, q, f1, f2, _⟩ := t2.ex
    rw [f1, f2, List.append_assoc, List.append_assoc, ed_prefix, ed_suffix]
    exact beq_self_eq_true _
  by_cases hm : (ed (bts a) (bts b) : Int) ≤ most
  · rw [if_pos hm, decide_eq_true hm]
    exact cnd_no rfl (cnd_yes rfl (cnd_no (by simp) (cnd_no rfl J1)))
  · rw [if_neg hm, decide_eq_false hm]
    exact cnd_no rfl (cnd_no rfl (cnd_yes rfl (cnd_no rfl J1)))
theorem levEdits_ok {a b : ByteArray} {h : Hp} : C_law08_LevEdits a b h fun r h' => r = true ∧ Ext h h' := by
  refine F_law08_LevEdits_ok _ _ _ _ ?_
  unfold F_law08_LevEdits
  rw [Jn_eq]
  have no : J1_law08_LevEdits a b (fun r h' => r = true ∧ Ext h h') (true, ()) h := by
    unfold J1_law08_LevEdits
    exact cnd_yes rfl (lives8 fun h' e => ⟨rfl, e⟩)
  refine cnd_dec.2 ⟨fun _ => no, fun ha => ?_⟩
  by_cases hb : (b.size : Int) > 24
  · rw [decide_eq_true hb]; exact no
  rw [decide_eq_false hb]
  have la := bts_len a
  have lb := bts_len b
  unfold J1_law08_LevEdits
  refine cnd_no rfl (lev_Edits (by omega) (by omega) fun e h1 e1 he => ?_)
  have le := bts_len e
  obtain ⟨hc, hl⟩ := way_count _ (bts a) (bts b) (Nat.le_refl _)
  rw [← he] at hc hl
  have hr := runA_way _ (bts a) (bts b) [] (Nat.le_refl _)
  rw [← he] at hr
  refine lev_Apply (by omega) (by omega) fun s ok h2 e2 hok hs => ?_
  rw [hr] at hok hs
  simp at hok hs
  subst hok
  rw [Jn_eq]
  refine Lp.inv (fun st => st.2 = h2 ∧ ∃ i : Nat, st.1.2.1 = (i : Int) ∧ i ≤ e.size ∧ st.1.1 = (wayc ((bts e).take i) : Int)) (fun st => e.size - st.1.2.1.toNat) ?_ ⟨rfl, 0, rfl, by omega, by simp [wayc]⟩
  rintro ⟨⟨n', i', ⟨⟩⟩, g⟩ R ⟨rfl, i, rfl, hi, hn⟩ hR
  simp only at hn
  subst hn
  have wl : ∀ l : List Int, wayc l ≤ l.length := fun l => List.length_filter_le _ _
  have w1 := wl ((bts e).take i)
  rw [List.length_take] at w1
  unfold L1_law08_LevEdits
  dsimp only
  refine cnd_dec.2 ⟨fun hlt => ?_, fun hge => ?_⟩
  · have hc2 := bts_get (s := e) (k := i) (by omega)
    have ws : wayc ((bts e).take (i + 1)) = wayc ((bts e).take i) + if ((e[i]).toNat : Int) = 61 then 0 else 1 := by
      rw [List.take_add_one, hc2]
      unfold wayc
      rw [List.filter_append, List.length_append]
      congr 1
      by_cases h : ((e[i]).toNat : Int) = 61
      · rw [if_pos h]; simp [h]
      · rw [if_neg h]; simp [h]
    refine idx_str rfl hc2 (cnd_bne.2 ⟨fun hne => let_to (let_to ?_), fun heq => let_to ?_⟩)
    · rw [wrap_i64 (by omega) (by omega), wrap_i64 (by omega) (by omega)]
      refine hR _ ⟨rfl, i + 1, by simp, by omega, by rw [ws, if_neg hne]; simp⟩ (by simp only; omega)
    · rw [wrap_i64 (by omega) (by omega)]
      refine hR _ ⟨rfl, i + 1, by simp, by omega, by rw [ws, if_pos heq]; simp⟩ (by simp only; omega)
  · obtain rfl : i = e.size := by omega
    have et : (bts e).take e.size = bts e := List.take_of_length_le (by omega)
    rw [et, hc]
    unfold J2_law08_LevEdits
    refine ref_Edits (by omega) (by omega) fun r h3 e3 hr3 => cnd_yes (strEq_iff.2 (he.trans hr3.symm)) (cnd_yes rfl (cnd_yes (strEq_iff.2 hs) (ref08_Dist (by omega) (by omega) fun h4 e4 => cnd_yes (beq_self_eq_true _) (lives8 fun h5 e5 => ⟨rfl, ((((e1.trans e2).trans e3).trans e4).trans e5)⟩))))
end Go.Proofs.YtbfjigemklbjfaaF
