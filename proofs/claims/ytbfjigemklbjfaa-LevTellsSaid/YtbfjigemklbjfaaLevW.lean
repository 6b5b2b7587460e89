/- Chapter 8: Edits, both ways. No condition. -/
import Derived.Test.YtbfjigemklbjfaaLevE
import Derived.Test.YtbfjigemklbjfaaLevU
namespace Go.Proofs.YtbfjigemklbjfaaF
open Go Go.Proofs.YtbfjigemklbjfaaK
set_option linter.unusedSimpArgs false
set_option linter.unusedVariables false

theorem drop_nil {l : List Int} {k : Nat} (h : l.length ≤ k) : l.drop k = [] := List.drop_eq_nil_of_le h
theorem lev_Edits {a b : ByteArray} {h : Hp} {K : ByteArray → Hp → Prop} (ha : a.size ≤ 1000000) (hb : b.size ≤ 1000000) (hK : ∀ r h', Ext h h' → bts r = way (bts a) (bts b) → K r h') : C_lev_Edits a b h K := by
  have la := bts_len a
  have lb := bts_len b
  refine F_lev_Edits_ok _ _ _ _ (lev_table ha hb fun t ss h2 rt hsl rr tl x2 => push_toT fun h3 b3 e3 z3 => let_to ?_)
  refine Lp.inv (fun st => ∃ (i k : Nat) (out : List Int) (s : Sl), st.1.1 = (i : Int) ∧ st.1.2.1 = (k : Int) ∧ i ≤ a.size ∧ k ≤ b.size ∧ BW st.2 h2.size s out ∧ Bel h2.size h2 st.2 ∧ out.length ≤ i + k ∧
      way (bts a) (bts b) = out ++ way ((bts a).drop i) ((bts b).drop k)) (fun st => a.size + b.size - st.1.1.toNat - st.1.2.1.toNat) ?_
    ⟨0, 0, [], ⟨none, 0, 0⟩, rfl, rfl, by omega, by omega, BW.new b3, e3.bel, Nat.le_refl _, rfl⟩
  rintro ⟨⟨i', k', ⟨⟩⟩, g⟩ R ⟨i, k, out, s, rfl, rfl, hi, hk, q, bl, ho, hw⟩ hR
  simp only at q bl hw
  have rtg : IsRow eS 1 g t ss := rt.bel tl bl
  have rrg : TabR (bts a) (bts b) g t ss 0 := rr.only bl.size fun j s' x hj hs' hx => bl.get _ ((rr j s' hj hs').2 x hx).1
  have row : ∀ {j : Nat}, j ≤ a.size → ∃ s', ss[j]? = some s' ∧ IsRow eJ 1 g s' (rowE (bts a) (bts b) j) := fun {j} hj => by
    have : ss[j]? = some (ss[j]'(by omega)) := List.getElem?_eq_getElem (by omega)
    exact ⟨_, this, (rrg j _ (Nat.zero_le _) this).1⟩
  have eb := fun i k => E_le (bts a) (bts b) i k
  have wr : ∀ {c : Int} {i2 k2 : Nat} {K2 : Value → Hp → Prop}, 0 ≤ c ∧ c ≤ 255 → i2 ≤ a.size → k2 ≤ b.size → i + k < i2 + k2 → way ((bts a).drop i) ((bts b).drop k) = c :: way ((bts a).drop i2) ((bts b).drop k2) →
      (∀ v g2, R (((i2 : Int), (k2 : Int), ()), g2) → K2 v g2) → C_strings_Builder_WriteByte (some ⟨h2.size, 0, none⟩) c g K2 := by
    intro c i2 k2 K2 hc h1 h2' h3' he hk2
    refine sb_byte q hc (by omega) fun s2 g2 q2 u2 v => hk2 v g2 (hR _ ⟨i2, k2, out ++ [c], s2, rfl, rfl, h1, h2', q2, bl.trans (q.onlyBel u2.1), by simp; omega, ?_⟩ (by simp only; omega))
    rw [hw, he]; simp
  have wi : IntKind.wrap .i64 ((i : Int) + 1) = ((i + 1 : Nat) : Int) := by rw [wrap_i64 (by omega) (by omega)]; rfl
  have wk : IntKind.wrap .i64 ((k : Int) + 1) = ((k + 1 : Nat) : Int) := by rw [wrap_i64 (by omega) (by omega)]; rfl
  have J1 : i < a.size ∨ k < b.size → J1_lev_Edits a b t ⟨h2.size, 0, none⟩ (((i : Int), (k : Int), ()), g) R () g := by
    intro hlt
    unfold J1_lev_Edits
    dsimp only
    rw [Jn_eq]
    obtain ⟨s1, hs1, r1⟩ := row hi
    have J5 : ∀ f : Bool, (f = true → i < a.size ∧ way ((bts a).drop i) ((bts b).drop k) = 45 :: way ((bts a).drop (i + 1)) ((bts b).drop k)) → (f = false → k < b.size ∧ way ((bts a).drop i) ((bts b).drop k) = 43 :: way ((bts a).drop i) ((bts b).drop (k + 1))) →
        J5_lev_Edits ⟨h2.size, 0, none⟩ (((i : Int), (k : Int), ()), g) R (f, ()) g := by
      intro f h1 h2'
      unfold J5_lev_Edits
      dsimp only
      rw [wi, wk]
      refine cnd_if (fun hf => ?_) fun hf => ?_
      · obtain ⟨h3', h4⟩ := h1 hf
        exact wr (by decide) h3' hk (by omega) h4 fun v g2 hr => hr
      · obtain ⟨h3', h4⟩ := h2' hf
        exact wr (by decide) hi h3' (by omega) h4 fun v g2 hr => hr
    have J4F : ∀ (both : Bool), (both = true ↔ i < a.size ∧ k < b.size) → (∀ x y, (bts a)[i]? = some x → (bts b)[k]? = some y → x ≠ y ∧ E (bts a) (bts b) (i + 1) (k + 1) + 1 ≠ E (bts a) (bts b) i k) →
        J4_lev_Edits a t ⟨h2.size, 0, none⟩ (((i : Int), (k : Int), ()), g) R (false, ()) g := by
      intro both hboth hne
      unfold J4_lev_Edits
      refine cnd_no rfl ?_
      rw [Jn_eq]
      dsimp only
      rw [wi]
      refine cnd_dec.2 ⟨fun hia => ?_, fun hia => J5 _ (fun h => by cases h) fun _ => ?_⟩
      · have hia : i < a.size := by omega
        obtain ⟨s2, hs2, r2⟩ := row (j := i + 1) hia
        have ga := bts_get hia
        refine ld_sl (k := i) rtg rfl hs1 (ld_int0 (i := (k : Int)) (x := (E (bts a) (bts b) i k : Int)) r1 (by omega) (rowE_get (by omega)) (let_to ?_))
        refine ld_sl (k := i + 1) rtg rfl hs2 (ld_int0 (i := (k : Int)) (x := (E (bts a) (bts b) (i + 1) k : Int)) r2 (by omega) (rowE_get (by omega)) (let_to ?_))
        have e1 := eb (i + 1) k
        rw [wrap_i64 (by omega) (by omega)]
        have hf : ((E (bts a) (bts b) i k : Int) == 1 + (E (bts a) (bts b) (i + 1) k : Int)) = decide (E (bts a) (bts b) (i + 1) k + 1 = E (bts a) (bts b) i k) := by
          rw [Bool.eq_iff_iff]; simp; omega
        rw [hf]
        by_cases hkb : k < b.size
        · have gb := bts_get hkb
          obtain ⟨hxy, hn2⟩ := hne _ _ ga gb
          have hc := way_cons (a[i].toNat : Int) (b[k].toNat : Int) ((bts a).drop (i + 1)) ((bts b).drop (k + 1))
          rw [if_neg hxy] at hc
          rw [← drop_at ga, ← drop_at gb] at hc
          rw [if_neg (show ¬ ed ((bts a).drop (i + 1)) ((bts b).drop (k + 1)) + 1 = ed ((bts a).drop i) ((bts b).drop k) from hn2)] at hc
          refine J5 _ (fun h => ⟨hia, ?_⟩) fun h => ⟨hkb, ?_⟩
          · have h := of_decide_eq_true h
            rw [hc, if_pos (show ed ((bts a).drop (i + 1)) ((bts b).drop k) + 1 = ed ((bts a).drop i) ((bts b).drop k) from h)]
          · have h := of_decide_eq_false h
            rw [hc, if_neg (show ¬ ed ((bts a).drop (i + 1)) ((bts b).drop k) + 1 = ed ((bts a).drop i) ((bts b).drop k) from h)]
        · have hkb : k = b.size := by omega
          have hbd : (bts b).drop k = [] := drop_nil (by omega)
          have e0 : E (bts a) (bts b) (i + 1) k + 1 = E (bts a) (bts b) i k := by rw [hkb, ← lb, E_endB, E_endB]; omega
          refine J5 _ (fun h => ⟨hia, ?_⟩) fun h => (of_decide_eq_false h e0).elim
          rw [hbd, drop_at ga, way_left]
      · have hkb : k < b.size := by omega
        have gb := bts_get hkb
        refine ⟨hkb, ?_⟩
        rw [drop_nil (l := bts a) (by omega), drop_at gb, way_right]
    have J3F : ∀ (both : Bool), (both = true ↔ i < a.size ∧ k < b.size) → (∀ x y, (bts a)[i]? = some x → (bts b)[k]? = some y → x ≠ y) → J3_lev_Edits a b t ⟨h2.size, 0, none⟩ (((i : Int), (k : Int), ()), g) R (both, ()) (false, ()) g := by
      intro both hboth hne
      unfold J3_lev_Edits
      refine cnd_no rfl ?_
      rw [Jn_eq]
      dsimp only
      rw [wi, wk]
      refine cnd_if (fun hb1 => ?_) fun hb1 => J4F both hboth fun x y hx hy => ?_
      · obtain ⟨hia, hkb⟩ := hboth.1 hb1
        obtain ⟨s2, hs2, r2⟩ := row (j := i + 1) hia
        have ga := bts_get hia
        have gb := bts_get hkb
        have hxy := hne _ _ ga gb
        refine ld_sl (k := i) rtg rfl hs1 (ld_int0 (i := (k : Int)) (x := (E (bts a) (bts b) i k : Int)) r1 (by omega) (rowE_get (by omega)) (let_to ?_))
        refine ld_sl (k := i + 1) rtg rfl hs2 (let_to ?_)
        refine ld_int0 (i := ((k + 1 : Nat) : Int)) (x := (E (bts a) (bts b) (i + 1) (k + 1) : Int)) r2 (by omega) (rowE_get (by omega)) (let_to ?_)
        have e1 := eb (i + 1) (k + 1)
        rw [wrap_i64 (by omega) (by omega)]
        refine cnd_beq.2 ⟨fun he => idx_str rfl ga (idx_str rfl gb ?_), fun hn => J4F both hboth fun x y hx hy => ?_⟩
        · have : ((a[i].toNat : Int) != (b[k].toNat : Int)) = true := by simpa using hxy
          rw [this]
          unfold J4_lev_Edits
          refine cnd_yes rfl ?_
          dsimp only
          rw [wi, wk]
          refine wr (by decide) hia hkb (by omega) ?_ fun v g2 hr => hr
          rw [drop_at ga, drop_at gb, way_cons, if_neg hxy, if_pos]
          have : E (bts a) (bts b) (i + 1) (k + 1) + 1 = E (bts a) (bts b) i k := by omega
          unfold E at this
          rw [drop_at (k := i) ga, drop_at (k := k) gb] at this
          exact this
        · exact ⟨hne x y hx hy, fun h => hn (by omega)⟩
      · have h1 := (List.getElem?_eq_some_iff.1 hx).1
        have h2' := (List.getElem?_eq_some_iff.1 hy).1
        exfalso
        have := hboth.2 ⟨by omega, by omega⟩
        rw [this] at hb1; cases hb1
    have J2 : ∀ (both : Bool), (both = true ↔ i < a.size ∧ k < b.size) → J2_lev_Edits a b t ⟨h2.size, 0, none⟩ (((i : Int), (k : Int), ()), g) R (both, ()) g := by
      intro both hboth
      unfold J2_lev_Edits
      dsimp only
      rw [Jn_eq, wi, wk]
      refine cnd_if (fun hb1 => ?_) fun hb1 => J3F both hboth fun x y hx hy => ?_
      · obtain ⟨hia, hkb⟩ := hboth.1 hb1
        obtain ⟨s2, hs2, r2⟩ := row (j := i + 1) hia
        have ga := bts_get hia
        have gb := bts_get hkb
        refine idx_str rfl ga (idx_str rfl gb (cnd_beq.2 ⟨fun he => ?_, fun hn => J3F both hboth fun x y hx hy => ?_⟩))
        · refine ld_sl (k := i) rtg rfl hs1 (ld_int0 (i := (k : Int)) (x := (E (bts a) (bts b) i k : Int)) r1 (by omega) (rowE_get (by omega)) (let_to ?_))
          refine ld_sl (k := i + 1) rtg rfl hs2 (let_to ?_)
          refine ld_int0 (i := ((k + 1 : Nat) : Int)) (x := (E (bts a) (bts b) (i + 1) (k + 1) : Int)) r2 (by omega) (rowE_get (by omega)) ?_
          rw [← he] at gb
          rw [E_same ga gb, beq_self_eq_true]
          unfold J3_lev_Edits
          refine cnd_yes rfl ?_
          dsimp only
          rw [wi, wk]
          refine wr (by decide) hia hkb (by omega) ?_ fun v g2 hr => hr
          rw [drop_at ga, drop_at gb, way_cons, if_pos rfl]
        · rw [ga] at hx; rw [gb] at hy
          cases hx; cases hy; exact hn
      · have h1 := (List.getElem?_eq_some_iff.1 hx).1
        have h2' := (List.getElem?_eq_some_iff.1 hy).1
        exfalso
        have := hboth.2 ⟨by omega, by omega⟩
        rw [this] at hb1; cases hb1
    refine cnd_dec.2 ⟨fun h1 => J2 _ (by rw [decide_eq_true_iff]; omega), fun h1 => J2 _ (by constructor; (intro h; cases h); intro h; omega)⟩
  unfold L1_lev_Edits
  dsimp only
  rw [Jn_eq]
  refine cnd_dec.2 ⟨fun h1 => J1 (by omega), fun h1 => cnd_dec.2 ⟨fun h2' => J1 (by omega), fun h2' => ?_⟩⟩
  have e1 : (bts a).drop i = [] := drop_nil (by omega)
  have e2 : (bts b).drop k = [] := drop_nil (by omega)
  rw [e1, e2, way_nil, List.append_nil] at hw
  refine sb_string q (by omega) fun r g2 hr u2 _ z2 => hK r g2 (x2.bel.trans ((bl.trans (q.onlyBel u2)).mono x2.size)).ext (by rw [hr, hw])
theorem ref_Edits {a b : ByteArray} {h : Hp} {K : ByteArray → Hp → Prop} (ha : a.size ≤ 1000000) (hb : b.size ≤ 1000000) (hK : ∀ r h', Ext h h' → bts r = way (bts a) (bts b) → K r h') : C_ref08_Edits a b h K := by
  refine F_ref08_Edits_ok _ _ _ _ ?_
  refine Lp.inv (fun st => st.1.1.size ≤ a.size ∧ st.1.2.1.size ≤ b.size ∧ Ext h st.2 ∧ st.1.2.2.1.size + st.1.1.size + st.1.2.1.size ≤ a.size + b.size ∧ way (bts a) (bts b) = bts st.1.2.2.1 ++ way (bts st.1.1) (bts st.1.2.1)) (fun st => st.1.1.size + st.1.2.1.size) ?_
    ⟨Nat.le_refl _, Nat.le_refl _, Ext.refl _, by show 0 + a.size + b.size ≤ a.size + b.size; omega, rfl⟩
  rintro ⟨⟨c, d, out, ⟨⟩⟩, g⟩ R ⟨h1, h2, x, h3, hw⟩ hR
  simp only at h1 h2 x h3 hw
  have lc := bts_len c
  have ld := bts_len d
  have lo := bts_len out
  -- one more letter of the way
  have wr : ∀ {m : ByteArray} {e : Int} {c2 d2 : ByteArray} {g2 : Hp} (K2 : ByteArray → Prop), bts m = [e] → Ext h g2 → c2.size ≤ c.size → d2.size ≤ d.size → c2.size + d2.size < c.size + d.size → way (bts c) (bts d) = e :: way (bts c2) (bts d2) →
      (∀ r, R ((c2, d2, r, ()), g2) → K2 r) → catS out m K2 := by
    intro m e c2 d2 g2 K2 hm x2 hc hd hlt he hk2
    have lm := bts_len m
    rw [hm] at lm
    simp at lm
    refine cat_to (by omega) fun r hr => hk2 r (hR _ ⟨by simp only; omega, by simp only; omega, x2, ?_, ?_⟩ (by simp only; omega))
    · have lr := bts_len r
      rw [hr, List.length_append, lo, hm] at lr
      simp at lr
      simp only; omega
    · simp only
      rw [hw, hr, hm, he]; simp
  have tl : ∀ {s : ByteArray} {e : Int} {l : List Int}, bts s = e :: l → ∃ t : ByteArray, bts t = l ∧ t.size + 1 = s.size := fun {s e l} hs => by
    refine ⟨s.extract 1 s.size, ?_, ?_⟩
    · rw [bts_extract, ← bts_len, List.take_length, hs]; rfl
    · have : bts (s.extract 1 s.size) = l := by rw [bts_extract, ← bts_len, List.take_length, hs]; rfl
      rw [← bts_len, this, ← bts_len s, hs]; rfl
  have slc : ∀ {s t : ByteArray} {e : Int} {l : List Int} {K2 : ByteArray → Prop}, bts s = e :: l → bts t = l → K2 t → slcStr s (some 1) none K2 := fun hs ht hk => slc_tail hs fun t' ht' => by
    rw [bts_inj (ht'.trans ht.symm)]; exact hk
  have nz : ∀ {s : ByteArray}, 0 < s.size → ∃ e l, bts s = e :: l := fun {s} hs => cons_of fun hn => by have := bts_len s; rw [hn] at this; simp at this; omega
  have J1 : 0 < c.size ∨ 0 < d.size → J1_ref08_Edits ((c, d, out, ()), g) R () g := by
    intro hpos
    unfold J1_ref08_Edits
    refine ref08_Dist (by dsimp only; omega) (by dsimp only; omega) fun g1 x1 => ?_
    dsimp only
    rw [Jn_eq]
    have xg := x.trans x1
    have eb : ∀ u v : ByteArray, u.size ≤ 1000000 → v.size ≤ 1000000 → (ed (bts u) (bts v) : Int) + 1 ≤ 3000000 := fun u v hu hv => by
      have := ed_max (bts u) (bts v)
      rw [bts_len, bts_len] at this
      omega
    have J5 : ∀ (f : Bool) (g2 : Hp), Ext h g2 → (f = true → ∃ e l, bts c = e :: l ∧ way (bts c) (bts d) = 45 :: way l (bts d)) → (f = false → ∃ e l, bts d = e :: l ∧ way (bts c) (bts d) = 43 :: way (bts c) l) → J5_ref08_Edits ((c, d, out, ()), g) R (f, ()) g2 := by
      intro f g2 x2 h1' h2'
      unfold J5_ref08_Edits
      dsimp only
      refine cnd_if (fun hf => ?_) fun hf => ?_
      · obtain ⟨e, l, hc, he⟩ := h1' hf
        obtain ⟨t, ht, hs⟩ := tl hc
        exact wr (e := 45) (c2 := t) (d2 := d) (g2 := g2) _ rfl x2 (by omega) (Nat.le_refl _) (by omega) (by rw [ht]; exact he) fun r hr => slc hc ht hr
      · obtain ⟨e, l, hc, he⟩ := h2' hf
        obtain ⟨t, ht, hs⟩ := tl hc
        exact wr (e := 43) (c2 := c) (d2 := t) (g2 := g2) _ rfl x2 (Nat.le_refl _) (by omega) (by omega) (by rw [ht]; exact he) fun r hr => slc hc ht hr
    have J4F : ∀ (g2 : Hp), Ext h g2 → (∀ x y xs ys, bts c = x :: xs → bts d = y :: ys → x ≠ y ∧ ed xs ys + 1 ≠ ed (bts c) (bts d)) → J4_ref08_Edits ((c, d, out, ()), g) R (ed (bts c) (bts d)) (false, ()) g2 := by
      intro g2 x2 hne
      unfold J4_ref08_Edits
      refine cnd_no rfl ?_
      rw [Jn_eq]
      dsimp only
      refine cnd_dec.2 ⟨fun hc => ?_, fun hc => J5 _ g2 x2 (fun h => by cases h) fun _ => ?_⟩
      · obtain ⟨e, l, hce⟩ := nz (s := c) (by omega)
        obtain ⟨t, ht, hs⟩ := tl hce
        refine slc hce ht (ref08_Dist (by omega) (by omega) fun g3 x3 => let_to ?_)
        have := eb t d (by omega) (by omega)
        rw [wrap_i64 (by omega) (by omega)]
        have hf : ((ed (bts t) (bts d) : Int) + 1 == (ed (bts c) (bts d) : Int)) = decide (ed (bts t) (bts d) + 1 = ed (bts c) (bts d)) := by
          rw [Bool.eq_iff_iff]; simp; omega
        rw [hf]
        by_cases hd : 0 < d.size
        · obtain ⟨y, ys, hdy⟩ := nz hd
          obtain ⟨n1, n2⟩ := hne _ _ _ _ hce hdy
          have hc2 := way_cons e y l ys
          rw [← hce, ← hdy, if_neg n1, if_neg n2] at hc2
          refine J5 _ g3 (x2.trans x3) (fun h => ⟨e, l, hce, ?_⟩) fun h => ⟨y, ys, hdy, ?_⟩
          · have h := of_decide_eq_true h
            rw [ht] at h
            rw [hc2, if_pos h]
          · have h := of_decide_eq_false h
            rw [ht] at h
            rw [hc2, if_neg h]
        · have hd0 : bts d = [] := List.length_eq_zero_iff.1 (by omega)
          refine J5 _ g3 (x2.trans x3) (fun h => ⟨e, l, hce, by rw [hce, hd0, way_left]⟩) fun h => (of_decide_eq_false h ?_).elim
          rw [ht, hce, hd0, ed_left, ed_left]; rfl
      · obtain ⟨y, ys, hdy⟩ := nz (s := d) (by omega)
        have hc0 : bts c = [] := List.length_eq_zero_iff.1 (by omega)
        exact ⟨y, ys, hdy, by rw [hc0, hdy, way_right]⟩
    have J3F : ∀ (both : Bool) (g2 : Hp), Ext h g2 → (both = true ↔ 0 < c.size ∧ 0 < d.size) → (∀ x y xs ys, bts c = x :: xs → bts d = y :: ys → x ≠ y) → J3_ref08_Edits ((c, d, out, ()), g) R (ed (bts c) (bts d)) (both, ()) (false, ()) g2 := by
      intro both g2 x2 hboth hne
      unfold J3_ref08_Edits
      refine cnd_no rfl ?_
      rw [Jn_eq]
      dsimp only
      refine cnd_if (fun hb1 => ?_) fun hb1 => J4F g2 x2 fun x y xs ys hx hy => ?_
      · obtain ⟨hc, hd⟩ := hboth.1 hb1
        obtain ⟨e, l, hce⟩ := nz hc
        obtain ⟨y, ys, hdy⟩ := nz hd
        obtain ⟨t, ht, hs⟩ := tl hce
        obtain ⟨u, hu, hsu⟩ := tl hdy
        have hxy := hne _ _ _ _ hce hdy
        refine idx_head hce (idx_head hdy (cnd_bne.2 ⟨fun _ => slc hce ht (slc hdy hu (ref08_Dist (by omega) (by omega) fun g3 x3 => let_to ?_)), fun h => (hxy h).elim⟩))
        have := eb t u (by omega) (by omega)
        rw [wrap_i64 (by omega) (by omega)]
        by_cases hf : ed l ys + 1 = ed (bts c) (bts d)
        · have hb2 : ((ed (bts t) (bts u) : Int) + 1 == (ed (bts c) (bts d) : Int)) = true := by rw [ht, hu, ← hf]; simp
          rw [hb2]
          unfold J4_ref08_Edits
          refine cnd_yes rfl ?_
          dsimp only
          have hc2 := way_cons e y l ys
          rw [← hce, ← hdy, if_neg hxy, if_pos hf] at hc2
          exact wr (e := 33) (c2 := t) (d2 := u) (g2 := g3) _ rfl (x2.trans x3) (by omega) (by omega) (by omega) (by rw [ht, hu]; exact hc2) fun r hr => slc hce ht (slc hdy hu hr)
        · have hb2 : ((ed (bts t) (bts u) : Int) + 1 == (ed (bts c) (bts d) : Int)) = false := by rw [ht, hu, beq_eq_false_iff_ne]; omega
          rw [hb2]
          refine J4F g3 (x2.trans x3) fun x y' xs ys' hx hy => ?_
          rw [hce] at hx; rw [hdy] at hy
          cases hx; cases hy
          exact ⟨hxy, hf⟩
      · exfalso
        have h1' := bts_len c
        have h2' := bts_len d
        rw [hx] at h1'; rw [hy] at h2'
        simp at h1' h2'
        have := hboth.2 ⟨by omega, by omega⟩
        rw [this] at hb1; cases hb1
    have J2 : ∀ (both : Bool) (g2 : Hp), Ext h g2 → (both = true ↔ 0 < c.size ∧ 0 < d.size) → J2_ref08_Edits ((c, d, out, ()), g) R (ed (bts c) (bts d)) (both, ()) g2 := by
      intro both g2 x2 hboth
      unfold J2_ref08_Edits
      dsimp only
      rw [Jn_eq]
      refine cnd_if (fun hb1 => ?_) fun hb1 => J3F both g2 x2 hboth fun x y xs ys hx hy => ?_
      · obtain ⟨hc, hd⟩ := hboth.1 hb1
        obtain ⟨e, l, hce⟩ := nz hc
        obtain ⟨y, ys, hdy⟩ := nz hd
        obtain ⟨t, ht, hs⟩ := tl hce
        obtain ⟨u, hu, hsu⟩ := tl hdy
        refine idx_head hce (idx_head hdy (cnd_beq.2 ⟨fun he => slc hce ht (slc hdy hu (ref08_Dist (by omega) (by omega) fun g3 x3 => ?_)), fun h => J3F both g2 x2 hboth fun x y' xs ys' hx hy => ?_⟩))
        · subst he
          have hb2 : ((ed (bts t) (bts u) : Int) == (ed (bts c) (bts d) : Int)) = true := by rw [ht, hu, hce, hdy, ed_same]; simp
          rw [hb2]
          unfold J3_ref08_Edits
          refine cnd_yes rfl ?_
          dsimp only
          have hc2 := way_cons e e l ys
          rw [← hce, ← hdy, if_pos rfl] at hc2
          exact wr (e := 61) (c2 := t) (d2 := u) (g2 := g3) _ rfl (x2.trans x3) (by omega) (by omega) (by omega) (by rw [ht, hu]; exact hc2) fun r hr => slc hce ht (slc hdy hu hr)
        · rw [hce] at hx; rw [hdy] at hy
          cases hx; cases hy; exact h
      · exfalso
        have h1' := bts_len c
        have h2' := bts_len d
        rw [hx] at h1'; rw [hy] at h2'
        simp at h1' h2'
        have := hboth.2 ⟨by omega, by omega⟩
        rw [this] at hb1; cases hb1
    refine cnd_dec.2 ⟨fun hc => J2 _ g1 xg (by rw [decide_eq_true_iff]; omega), fun hc => J2 _ g1 xg (by constructor; (intro h; cases h); intro h; omega)⟩
  unfold L1_ref08_Edits
  dsimp only
  rw [Jn_eq]
  refine cnd_dec.2 ⟨fun hc => J1 (by omega), fun hc => cnd_dec.2 ⟨fun hd => J1 (by omega), fun hd => ?_⟩⟩
  have e1 : bts c = [] := List.length_eq_zero_iff.1 (by omega)
  have e2 : bts d = [] := List.length_eq_zero_iff.1 (by omega)
  rw [e1, e2, way_nil, List.append_nil] at hw
  exact hK out g x hw.symm
end Go.Proofs.YtbfjigemklbjfaaF
