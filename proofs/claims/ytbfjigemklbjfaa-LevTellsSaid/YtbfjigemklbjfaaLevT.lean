/- Chapter 8: Trim, told in full. No condition. -/
import Derived.Test.YtbfjigemklbjfaaLevW
import Derived.Test.YtbfjigemklbjfaaLevLeast
namespace Go.Proofs.YtbfjigemklbjfaaF
open Go Go.Proofs.YtbfjigemklbjfaaK
set_option linter.unusedSimpArgs false
set_option linter.unusedVariables false

theorem head_drop {l : List Int} {k : Nat} : (l.drop k).head? = l[k]? := by simp
theorem lev_TrimX {a b : ByteArray} {h : Hp} {K : ByteArray → ByteArray → Hp → Prop} (ha : a.size ≤ 1048576) (hb : b.size ≤ 1048576)
    (hK : ∀ c d, TrimOf (bts a) (bts b) (bts c) (bts d) → K c d h) : C_lev_Trim a b h K := by
  have la := bts_len a
  have lb := bts_len b
  have mn : ∀ x y : Nat, (if (y : Int) < (x : Int) then (y : Int) else (x : Int)) = ((min x y : Nat) : Int) := fun x y => by split <;> omega
  refine F_lev_Trim_ok _ _ _ _ ?_
  unfold F_lev_Trim
  rw [Jn_eq]
  refine Lp.inv (fun st => ∃ k : Nat, st.1.1 = (k : Int) ∧ k ≤ min a.size b.size ∧ (bts a).take k = (bts b).take k ∧ st.2 = h) (fun st => min a.size b.size - st.1.1.toNat) ?_ ⟨0, rfl, by omega, rfl, rfl⟩
  rintro ⟨⟨i, ⟨⟩⟩, g⟩ R ⟨k, rfl, hk, ht, rfl⟩ hR
  -- behind the first loop
  have J1 : (∀ x, ¬ ((bts a)[k]? = some x ∧ (bts b)[k]? = some x)) → J1_lev_Trim a b K ((k : Int), ()) g := by
    intro hno
    unfold J1_lev_Trim
    dsimp only
    refine slc_str (m := k) (n := a.size) rfl rfl (by omega) (Nat.le_refl _) fun c hc => slc_str (m := k) (n := b.size) rfl rfl (by omega) (Nat.le_refl _) fun d hd => ?_
    rw [← la, List.take_length] at hc
    rw [← lb, List.take_length] at hd
    have lc : c.size = a.size - k := by rw [← bts_len, hc, List.length_drop, la]
    have ld : d.size = b.size - k := by rw [← bts_len, hd, List.length_drop, lb]
    have lc' := bts_len c
    have ld' := bts_len d
    rw [Jn_eq]
    refine Lp.inv (fun st => ∃ n : Nat, st.1.1 = (n : Int) ∧ n ≤ min c.size d.size ∧ (bts c).drop (c.size - n) = (bts d).drop (d.size - n) ∧ st.2 = g) (fun st => min c.size d.size - st.1.1.toNat) ?_
      ⟨0, rfl, by omega, by rw [Nat.sub_zero, Nat.sub_zero, ← bts_len c, ← bts_len d, List.drop_length, List.drop_length], rfl⟩
    rintro ⟨⟨j, ⟨⟩⟩, g2⟩ R2 ⟨n, rfl, hn, hs, rfl⟩ hR2
    have J2 : (∀ x, ¬ (n < c.size ∧ n < d.size ∧ (bts c)[c.size - 1 - n]? = some x ∧ (bts d)[d.size - 1 - n]? = some x)) → J2_lev_Trim K c d ((n : Int), ()) g2 := by
      intro hno2
      unfold J2_lev_Trim
      dsimp only
      refine let_to ?_
      rw [wrap_i64 (by omega) (by omega)]
      refine slc_str (lo := none) (hi := some ((c.size : Int) - n)) (m := 0) (n := c.size - n) rfl (by simp only [Option.getD_some]; omega) (by omega) (by omega) fun c2 hc2 => let_to ?_
      rw [wrap_i64 (by omega) (by omega)]
      refine slc_str (lo := none) (hi := some ((d.size : Int) - n)) (m := 0) (n := d.size - n) rfl (by simp only [Option.getD_some]; omega) (by omega) (by omega) fun d2 hd2 => ?_
      rw [List.drop_zero] at hc2 hd2
      have e1 : bts c2 ++ (bts c).drop (c.size - n) = bts c := by rw [hc2, List.take_append_drop]
      have e2 : bts d2 ++ (bts c).drop (c.size - n) = bts d := by rw [hd2, hs, List.take_append_drop]
      refine hK c2 d2 ⟨(bts a).take k, (bts c).drop (c.size - n), ?_, ?_, ?_, ?_⟩
      · rw [List.append_assoc, e1, hc, List.take_append_drop]
      · rw [List.append_assoc, e2, hd, ht, List.take_append_drop]
      · intro x
        rw [e1, e2, hc, hd, head_drop, head_drop]; exact hno x
      · intro x ⟨h1, h2⟩
        rw [hc2, List.getLast?_eq_getElem?, List.length_take, lc'] at h1
        rw [hd2, List.getLast?_eq_getElem?, List.length_take, ld'] at h2
        rw [List.getElem?_take] at h1 h2
        split at h1
        · split at h2
          · refine hno2 x ⟨by omega, by omega, ?_, ?_⟩
            · rw [← h1]; congr 1; omega
            · rw [← h2]; congr 1; omega
          · cases h2
        · cases h1
    unfold L1_lev_Trim
    dsimp only
    refine let_to ?_
    rw [mn]
    refine cnd_dec.2 ⟨fun hlt => let_to (let_to ?_), fun hge => J2 fun x hx => by omega⟩
    rw [wrap_i64 (x := (c.size : Int) - 1) (by omega) (by omega), wrap_i64 (by omega) (by omega)]
    have h1 := bts_get (s := c) (k := c.size - 1 - n) (by omega)
    have h2 := bts_get (s := d) (k := d.size - 1 - n) (by omega)
    refine idx_str (k := c.size - 1 - n) (by omega) h1 (let_to (let_to ?_))
    rw [wrap_i64 (x := (d.size : Int) - 1) (by omega) (by omega), wrap_i64 (by omega) (by omega)]
    refine idx_str (k := d.size - 1 - n) (by omega) h2 (cnd_beq.2 ⟨fun he => let_to ?_, fun hne => J2 fun x hx => hne (by
      have := hx.2.2.1; have h4 := hx.2.2.2
      rw [h1] at this; rw [h2] at h4
      cases this; exact (Option.some.inj h4).symm)⟩)
    rw [wrap_i64 (by omega) (by omega)]
    refine hR2 _ ⟨n + 1, by simp, by omega, ?_, rfl⟩ (by simp only; omega)
    have e1 : (bts c).drop (c.size - (n + 1)) = ((c[c.size - 1 - n]).toNat : Int) :: (bts c).drop (c.size - n) := by
      have := drop_at h1
      rw [show c.size - (n + 1) = c.size - 1 - n by omega, this, show c.size - 1 - n + 1 = c.size - n by omega]
    have e2 : (bts d).drop (d.size - (n + 1)) = ((d[d.size - 1 - n]).toNat : Int) :: (bts d).drop (d.size - n) := by
      have := drop_at h2
      rw [show d.size - (n + 1) = d.size - 1 - n by omega, this, show d.size - 1 - n + 1 = d.size - n by omega]
    rw [e1, e2, he, hs]
  unfold L2_lev_Trim
  dsimp only
  refine let_to ?_
  rw [mn]
  refine cnd_dec.2 ⟨fun hlt => ?_, fun hge => J1 fun x hx => ?_⟩
  · have h1 := bts_get (s := a) (k := k) (by omega)
    have h2 := bts_get (s := b) (k := k) (by omega)
    refine idx_str rfl h1 (idx_str rfl h2 (cnd_beq.2 ⟨fun he => let_to ?_, fun hne => J1 fun x hx => hne (by
      have h3 := hx.1; have h4 := hx.2
      rw [h1] at h3; rw [h2] at h4
      cases h3; exact (Option.some.inj h4).symm)⟩))
    rw [wrap_i64 (by omega) (by omega)]
    refine hR _ ⟨k + 1, by simp, by omega, ?_, rfl⟩ (by simp only; omega)
    rw [List.take_add_one, List.take_add_one, h1, h2, ht, he]
  · have h1 := (List.getElem?_eq_some_iff.1 hx.1).1
    have h2 := (List.getElem?_eq_some_iff.1 hx.2).1
    omega
theorem take_last {l : List Int} {n : Nat} {x : Int} (h : l[n]? = some x) (hl : l.length = n + 1) : l = l.take n ++ [x] := by
  conv => lhs; rw [← List.take_append_drop n l, drop_at h, List.drop_eq_nil_of_le (by omega)]
theorem ref_Trim {a b : ByteArray} {h : Hp} {K : ByteArray → ByteArray → Hp → Prop} (ha : a.size ≤ 1048576) (hb : b.size ≤ 1048576)
    (hK : ∀ c d, TrimOf (bts a) (bts b) (bts c) (bts d) → K c d h) : C_ref08_Trim a b h K := by
  refine F_ref08_Trim_ok _ _ _ _ ?_
  unfold F_ref08_Trim
  rw [Jn_eq]
  refine Lp.inv (fun st => st.2 = h ∧ st.1.1.size ≤ a.size ∧ st.1.2.1.size ≤ b.size ∧ ∃ p, bts a = p ++ bts st.1.1 ∧ bts b = p ++ bts st.1.2.1) (fun st => st.1.1.size) ?_ ⟨rfl, Nat.le_refl _, Nat.le_refl _, [], rfl, rfl⟩
  rintro ⟨⟨c, d, ⟨⟩⟩, g⟩ R ⟨rfl, hc0, hd0, p, e1, e2⟩ hR
  simp only at hc0 hd0 e1 e2
  have nz : ∀ {s : ByteArray}, 0 < s.size → ∃ e l, bts s = e :: l := fun {s} hs => cons_of fun hn => by have := bts_len s; rw [hn] at this; simp at this; omega
  have z0 : ∀ {s : ByteArray}, ¬ 0 < s.size → bts s = [] := fun {s} hs => List.length_eq_zero_iff.1 (by rw [bts_len]; omega)
  have J1 : (∀ x, ¬ ((bts c).head? = some x ∧ (bts d).head? = some x)) → J1_ref08_Trim K (c, d, ()) g := by
    intro hno
    unfold J1_ref08_Trim
    dsimp only
    refine Lp.inv (fun st => st.2 = g ∧ st.1.1.size ≤ a.size ∧ st.1.2.1.size ≤ b.size ∧ ∃ q, bts c = bts st.1.1 ++ q ∧ bts d = bts st.1.2.1 ++ q) (fun st => st.1.1.size) ?_ ⟨rfl, hc0, hd0, [], by simp, by simp⟩
    rintro ⟨⟨c2, d2, ⟨⟩⟩, g2⟩ R2 ⟨rfl, hc2, hd2, q, e3, e4⟩ hR2
    simp only at hc2 hd2 e3 e4
    have lc := bts_len c2
    have ld := bts_len d2
    have fin : (∀ x, ¬ ((bts c2).getLast? = some x ∧ (bts d2).getLast? = some x)) → K c2 d2 g2 := fun hl => hK c2 d2 ⟨p, q, by rw [e1, e3, List.append_assoc], by rw [e2, e4, List.append_assoc], by rw [← e3, ← e4]; exact hno, hl⟩
    unfold L1_ref08_Trim
    dsimp only
    rw [Jn_eq]
    refine cnd_dec.2 ⟨fun hc => cnd_dec.2 ⟨fun hd => let_to ?_, fun hd => fin fun x hx => ?_⟩, fun hc => fin fun x hx => ?_⟩
    · rw [wrap_i64 (by omega) (by omega)]
      have h1 := bts_get (s := c2) (k := c2.size - 1) (by omega)
      have h2 := bts_get (s := d2) (k := d2.size - 1) (by omega)
      have g1 : (bts c2).getLast? = some ((c2[c2.size - 1]).toNat : Int) := by rw [List.getLast?_eq_getElem?, lc]; exact h1
      have g3 : (bts d2).getLast? = some ((d2[d2.size - 1]).toNat : Int) := by rw [List.getLast?_eq_getElem?, ld]; exact h2
      refine idx_str (k := c2.size - 1) (by omega) h1 (let_to ?_)
      rw [wrap_i64 (by omega) (by omega)]
      refine idx_str (k := d2.size - 1) (by omega) h2 (cnd_beq.2 ⟨fun he => ?_, fun hne => fin fun x hx => hne ?_⟩)
      · unfold J2_ref08_Trim
        dsimp only
        refine let_to ?_
        rw [wrap_i64 (by omega) (by omega)]
        refine slc_str (lo := none) (hi := some ((c2.size : Int) - 1)) (m := 0) (n := c2.size - 1) rfl (by simp only [Option.getD_some]; omega) (by omega) (by omega) fun c3 hc3 => let_to ?_
        rw [wrap_i64 (by omega) (by omega)]
        refine slc_str (lo := none) (hi := some ((d2.size : Int) - 1)) (m := 0) (n := d2.size - 1) rfl (by simp only [Option.getD_some]; omega) (by omega) (by omega) fun d3 hd3 => ?_
        rw [List.drop_zero] at hc3 hd3
        have lc3 := bts_len c3
        have ld3 := bts_len d3
        rw [hc3, List.length_take, lc] at lc3
        rw [hd3, List.length_take, ld] at ld3
        refine hR2 _ ⟨rfl, by simp only; omega, by simp only; omega, ((c2[c2.size - 1]).toNat : Int) :: q, ?_, ?_⟩ (by simp only; omega)
        · simp only
          rw [hc3, e3]
          conv => lhs; rw [take_last h1 (by omega)]
          simp
        · simp only
          rw [hd3, e4, he]
          conv => lhs; rw [take_last h2 (by omega)]
          simp
      · rw [g1] at hx; rw [g3] at hx
        cases hx.1; exact (Option.some.inj hx.2).symm
    · rw [z0 (s := d2) (by omega)] at hx; cases hx.2
    · rw [z0 (s := c2) (by omega)] at hx; cases hx.1
  unfold L2_ref08_Trim
  dsimp only
  rw [Jn_eq]
  refine cnd_dec.2 ⟨fun hc => cnd_dec.2 ⟨fun hd => ?_, fun hd => J1 fun x hx => ?_⟩, fun hc => J1 fun x hx => ?_⟩
  · obtain ⟨x, xs, hx⟩ := nz (s := c) (by omega)
    obtain ⟨y, ys, hy⟩ := nz (s := d) (by omega)
    have lc := bts_len c
    have ld := bts_len d
    rw [hx] at lc; rw [hy] at ld
    simp at lc ld
    refine idx_head hx (idx_head hy (cnd_beq.2 ⟨fun he => ?_, fun hne => J1 fun z hz => hne ?_⟩))
    · unfold J3_ref08_Trim
      dsimp only
      refine slc_tail hx fun c2 hc2 => slc_tail hy fun d2 hd2 => ?_
      have lc2 := bts_len c2
      have ld2 := bts_len d2
      rw [hc2] at lc2; rw [hd2] at ld2
      refine hR _ ⟨rfl, by simp only; omega, by simp only; omega, p ++ [x], ?_, ?_⟩ (by simp only; omega)
      · simp only; rw [hc2, e1, hx]; simp
      · simp only; rw [hd2, e2, hy, he]; simp
    · rw [hx, hy] at hz
      have h1 := hz.1; have h2 := hz.2
      simp at h1 h2
      rw [h1, h2]
  · rw [z0 (s := d) (by omega)] at hx; cases hx.2
  · rw [z0 (s := c) (by omega)] at hx; cases hx.1
end Go.Proofs.YtbfjigemklbjfaaF
