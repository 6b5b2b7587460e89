/- Chapter 8: Apply. No condition. -/
import Derived.Test.YtbfjigemklbjfaaLevD
import Derived.Test.YtbfjigemklbjfaaSB
import Derived.Test.YtbfjigemklbjfaaK20
import Derived.Test.YtbfjigemklbjfaaWayPure
namespace Go.Proofs.YtbfjigemklbjfaaF
open Go Go.Proofs.YtbfjigemklbjfaaK
set_option linter.unusedSimpArgs false
set_option linter.unusedVariables false

theorem bts_four : bts (ByteArray.mk #[61, 33, 45, 43]) = [61, 33, 45, 43] := by decide
theorem bts_none : bts (ByteArray.mk #[]) = [] := rfl
theorem idxB_neg {l : List Int} {c : Int} : (idxB l c < 0) ↔ c ∉ l := by
  unfold idxB
  by_cases h : c ∈ l
  · rw [if_pos h]; simp [h]
  · rw [if_neg h]; simp [h]
theorem lev_Apply {a b e : ByteArray} {h : Hp} {K : ByteArray → Bool → Hp → Prop} (hb : b.size ≤ 140737488355328) (he : e.size ≤ 140737488355328)
    (hK : ∀ r ok h', Ext h h' → (ok = (runA (bts a) (bts b) [] (bts e)).isSome) → bts r = (runA (bts a) (bts b) [] (bts e)).getD [] → K r ok h') : C_lev_Apply a b e h K := by
  have lb := bts_len b
  have le := bts_len e
  refine F_lev_Apply_ok _ _ _ _ _ (push_toT fun h1 b1 e1 z1 => let_to ?_)
  rw [Jn_eq]
  have nope : ∀ g, Ext h g → runA (bts a) (bts b) [] (bts e) = none → K (ByteArray.mk #[]) false g := fun g x hn => hK _ _ g x (by rw [hn]; rfl) (by rw [hn]; rfl)
  refine Lp.inv (fun st => ∃ (k : Nat) (out : List Int) (s : Sl), st.1.2.2.1 = (k : Int) ∧ k ≤ e.size ∧ BW st.2 h.size s out ∧ Ext h st.2 ∧ out.length + st.1.2.1.size ≤ b.size ∧
      runA (bts a) (bts b) [] (bts e) = runA (bts st.1.1) (bts st.1.2.1) out ((bts e).drop k)) (fun st => e.size - st.1.2.2.1.toNat) ?_
    ⟨0, [], ⟨none, 0, 0⟩, rfl, by omega, BW.new b1, e1, by simp, rfl⟩
  rintro ⟨⟨a', b', i, ⟨⟩⟩, g⟩ R ⟨k, out, s, rfl, hk, q, x, hsz, hrun⟩ hR
  simp only at hk q x hsz hrun
  have lb' := bts_len b'
  unfold L1_lev_Apply
  dsimp only
  refine cnd_dec.2 ⟨fun hlt => ?_, fun hge => ?_⟩
  · have hke : k < e.size := by omega
    have hc := bts_get hke
    generalize hcv : ((e[k]).toNat : Int) = c at hc
    have hmem : c ∈ bts e := List.mem_of_getElem? hc
    have hdrop : (bts e).drop k = c :: (bts e).drop (k + 1) := by
      rw [List.drop_eq_getElem_cons (by rw [le]; exact hke)]
      congr 1
      exact (List.getElem?_eq_some_iff.1 hc).2
    rw [hdrop] at hrun
    simp only [runA] at hrun
    refine idx_str rfl hc (idx_str rfl hc ?_)
    rw [Jn_eq]
    refine idx_str rfl hc (sb_index (bts_byte255 hmem) (cnd_dec.2 ⟨fun hneg => ?_, fun hpos => ?_⟩))
    · rw [bts_four, idxB_neg] at hneg
      simp only [List.mem_cons, List.not_mem_nil, or_false, not_or] at hneg
      refine nope g x ?_
      rw [hrun, if_neg (by omega), if_neg (by omega), if_neg (by omega)]
    · rw [bts_four, idxB_neg] at hpos
      simp only [List.mem_cons, List.not_mem_nil, or_false, Decidable.not_not] at hpos
      -- behind the tests
      have J4 : ∀ (a2 : ByteArray) (out' : List Int) (s' : Sl) (b2 : ByteArray) (g2 : Hp), BW g2 h.size s' out' → Ext h g2 → out'.length + b2.size ≤ b.size → (c ≠ 43 → ∃ y, bts a' = y :: bts a2) → (c = 43 → bts a2 = bts a') →
          runA (bts a) (bts b) [] (bts e) = runA (bts a2) (bts b2) out' ((bts e).drop (k + 1)) → J4_lev_Apply ((a', b', (k : Int), ()), g) R c (b2, ()) g2 := by
        intro a2 out' s' b2 g2 q2 x2 hs2 ha2 ha3 hr
        unfold J4_lev_Apply
        dsimp only
        refine cnd_bne.2 ⟨fun hne => ?_, fun he => let_to ?_⟩
        · obtain ⟨y, hy⟩ := ha2 hne
          refine slc_tail hy fun t ht => let_to ?_
          rw [wrap_i64 (by omega) (by omega)]
          refine hR _ ⟨k + 1, out', s', by simp, by omega, q2, x2, hs2, by simp only; rw [ht]; exact hr⟩ (by simp only; omega)
        · rw [wrap_i64 (by omega) (by omega)]
          refine hR _ ⟨k + 1, out', s', by simp, by omega, q2, x2, hs2, by simp only; rw [← ha3 he]; exact hr⟩ (by simp only; omega)
      have J3 : (c ≠ 43 → bts a' ≠ []) → (c ≠ 45 → bts b' ≠ []) → (c = 61 ∨ c = 33 → ∀ x y xs ys, bts a' = x :: xs → bts b' = y :: ys → (x = y ↔ c = 61)) → J3_lev_Apply ⟨h.size, 0, none⟩ ((a', b', (k : Int), ()), g) R c c () g := by
        intro ha hb' hxy
        unfold J3_lev_Apply
        dsimp only
        rw [Jn_eq]
        refine cnd_bne.2 ⟨fun hne => ?_, fun he => ?_⟩
        · obtain ⟨y, ys, hy⟩ := cons_of (hb' hne)
          have hyb := bts_byte255 (s := b') (c := y) (by rw [hy]; simp)
          have hls : b'.size = ys.length + 1 := by rw [← lb', hy]; rfl
          refine idx_head hy (sb_byte q hyb (by omega) fun s2 g2 q2 u2 v => ?_)
          refine slc_tail hy fun t ht => ?_
          have lt := bts_len t
          rw [ht] at lt
          have x2 : Ext h g2 := (x.bel.trans (q.onlyBel u2.1)).ext
          have fin : ∀ a2 : ByteArray, (c ≠ 43 → ∃ z, bts a' = z :: bts a2) → (c = 43 → bts a2 = bts a') → J4_lev_Apply ((a', b', (k : Int), ()), g) R c (t, ()) g2 := by
            intro a2 ha2 ha3
            refine J4 a2 (out ++ [y]) s2 t g2 q2 x2 (by simp only [List.length_append, List.length_cons, List.length_nil]; omega) ha2 ha3 ?_
            rw [hrun, hy, ht]
            by_cases h1 : c = 61 ∨ c = 33
            · rw [if_pos h1]
              obtain ⟨z, hz⟩ := ha2 (by omega)
              rw [hz]
              simp only
              rw [if_pos (hxy h1 _ _ _ _ hz hy)]
            · have h3 : c = 43 := by omega
              rw [if_neg h1, if_neg hne, if_pos h3, ha3 h3]
          by_cases h3 : c = 43
          · exact fin a' (fun hn => (hn h3).elim) fun _ => rfl
          · obtain ⟨z, zs, hz⟩ := cons_of (ha h3)
            have hsz2 : a'.size = zs.length + 1 := by rw [← bts_len, hz]; rfl
            refine fin (a'.extract 1 a'.size) (fun _ => ⟨z, ?_⟩) fun h => (h3 h).elim
            rw [bts_extract, ← bts_len, List.take_length, hz]; rfl
        · obtain ⟨z, zs, hz⟩ := cons_of (ha (by omega))
          refine J4 (a'.extract 1 a'.size) out s b' g q x hsz (fun _ => ⟨z, ?_⟩) (fun h => by omega) ?_
          · rw [bts_extract, ← bts_len, List.take_length, hz]; rfl
          · rw [hrun, if_neg (by omega), if_pos he, hz, bts_extract, ← bts_len, List.take_length, hz]; rfl
      have J2 : (c ≠ 43 → bts a' ≠ []) → (c ≠ 45 → bts b' ≠ []) → J2_lev_Apply e K ⟨h.size, 0, none⟩ ((a', b', (k : Int), ()), g) R c c () g := by
        intro ha hb'
        unfold J2_lev_Apply
        dsimp only
        rw [Jn_eq]
        refine cnd_bne.2 ⟨fun h3 => cnd_bne.2 ⟨fun h5 => ?_, fun h5 => J3 ha hb' fun h _ _ _ _ _ _ => by omega⟩, fun h3 => J3 ha hb' fun h _ _ _ _ _ _ => by omega⟩
        obtain ⟨z, zs, hz⟩ := cons_of (ha h3)
        obtain ⟨y, ys, hy⟩ := cons_of (hb' h5)
        refine idx_head hz (idx_head hy (idx_str rfl hc ?_))
        have key : ((z == y) == (c == 61)) = true ↔ (z = y ↔ c = 61) := by
          by_cases h1 : z = y <;> by_cases h2 : c = 61 <;> simp [h1, h2, beq_eq_false_iff_ne.2, *]
        refine cnd_if (fun hn => ?_) fun hy2 => J3 ha hb' fun _ x1 y1 xs1 ys1 e1 e2 => ?_
        · refine nope g x ?_
          have : ¬ (z = y ↔ c = 61) := fun h => by rw [← key] at h; rw [h] at hn; cases hn
          rw [hrun, if_pos (by omega), hz, hy]
          simp only
          rw [if_neg this]
        · rw [hz] at e1; rw [hy] at e2
          cases e1; cases e2
          refine key.1 ?_
          cases hh : ((z == y) == (c == 61)) with
          | true => rfl
          | false => rw [hh] at hy2; cases hy2
      have noA : c ≠ 43 → bts a' = [] → runA (bts a) (bts b) [] (bts e) = none := by
        intro h3 ha
        rw [hrun, ha]
        rcases hpos with h | h | h | h <;> simp [h]
        omega
      have noB : c ≠ 45 → bts b' = [] → runA (bts a) (bts b) [] (bts e) = none := by
        intro h3 hb'
        rw [hrun, hb']
        rcases hpos with h | h | h | h <;> simp [h]
        omega
      refine cnd_bne.2 ⟨fun h3 => cnd_if (fun ha => nope g x (noA h3 (empty_iff.1 ha))) fun ha => ?_, fun h3 => ?_⟩
      · have ha : bts a' ≠ [] := strEq_no.1 ha
        refine cnd_bne.2 ⟨fun h5 => cnd_if (fun hb' => nope g x (noB h5 (empty_iff.1 hb'))) fun hb' => J2 (fun _ => ha) fun _ => strEq_no.1 hb', fun h5 => J2 (fun _ => ha) fun h => (h h5).elim⟩
      · refine cnd_bne.2 ⟨fun h5 => cnd_if (fun hb' => nope g x (noB h5 (empty_iff.1 hb'))) fun hb' => J2 (fun h => (h h3).elim) fun _ => strEq_no.1 hb', fun h5 => J2 (fun h => (h h3).elim) fun h => (h h5).elim⟩
  · obtain rfl : k = e.size := by omega
    have hd : (bts e).drop e.size = [] := by rw [← le, List.drop_length]
    rw [hd] at hrun
    simp only [runA] at hrun
    unfold J1_lev_Apply
    dsimp only
    refine cnd_not.2 (cnd_if (fun ha => cnd_not.2 (cnd_if (fun hb' => ?_) fun hb' => nope g x (by rw [hrun, if_neg fun h => strEq_no.1 hb' h.2]))) fun ha => nope g x (by rw [hrun, if_neg fun h => strEq_no.1 ha h.1]))
    rw [if_pos ⟨empty_iff.1 ha, empty_iff.1 hb'⟩] at hrun
    refine sb_string q (by omega) fun r g2 hr u2 _ z2 => hK r true g2 (x.bel.trans (q.onlyBel u2)).ext (by rw [hrun]; rfl) (by rw [hrun, hr]; rfl)
theorem drop_at {l : List Int} {k : Nat} {c : Int} (h : l[k]? = some c) : l.drop k = c :: l.drop (k + 1) := by
  have hk := (List.getElem?_eq_some_iff.1 h).1
  rw [List.drop_eq_getElem_cons hk]
  congr 1
  exact (List.getElem?_eq_some_iff.1 h).2
theorem ref_Apply {a b e : ByteArray} {h : Hp} {K : ByteArray → Bool → Hp → Prop} (ha : a.size ≤ 140737488355328) (hb : b.size ≤ 140737488355328) (he : e.size ≤ 140737488355328)
    (hK : ∀ r ok, (ok = (runA (bts a) (bts b) [] (bts e)).isSome) → bts r = (runA (bts a) (bts b) [] (bts e)).getD [] → K r ok h) : C_ref08_Apply a b e h K := by
  have la := bts_len a
  have lb := bts_len b
  have le := bts_len e
  refine F_ref08_Apply_ok _ _ _ _ _ ?_
  unfold F_ref08_Apply
  rw [Jn_eq]
  have nope : runA (bts a) (bts b) [] (bts e) = none → K (ByteArray.mk #[]) false h := fun hn => hK _ _ (by rw [hn]; rfl) (by rw [hn]; rfl)
  refine Lp.inv (fun st => st.2 = h ∧ ∃ i k n : Nat, st.1.2.1 = (i : Int) ∧ st.1.2.2.1 = (k : Int) ∧ st.1.2.2.2.1 = (n : Int) ∧ i ≤ a.size ∧ k ≤ b.size ∧ n ≤ e.size ∧ st.1.1.size ≤ k ∧
      runA (bts a) (bts b) [] (bts e) = runA ((bts a).drop i) ((bts b).drop k) (bts st.1.1) ((bts e).drop n)) (fun st => e.size - st.1.2.2.2.1.toNat) ?_
    ⟨rfl, 0, 0, 0, rfl, rfl, rfl, by omega, by omega, by omega, Nat.le_refl _, rfl⟩
  rintro ⟨⟨out, i', k', n', ⟨⟩⟩, g⟩ R ⟨rfl, i, k, n, rfl, rfl, rfl, hi, hk, hn, ho, hrun⟩ hR
  simp only at ho hrun
  have lo := bts_len out
  unfold L1_ref08_Apply
  dsimp only
  refine cnd_dec.2 ⟨fun hlt => ?_, fun hge => ?_⟩
  · have hne : n < e.size := by omega
    have hc := bts_get hne
    generalize hcv : ((e[n]).toNat : Int) = c at hc
    rw [drop_at hc] at hrun
    simp only [runA] at hrun
    have endA : ¬ i < a.size → (bts a).drop i = [] := fun h => List.drop_eq_nil_of_le (by omega)
    have endB : ¬ k < b.size → (bts b).drop k = [] := fun h => List.drop_eq_nil_of_le (by omega)
    have one : ∀ {y : Int} {K : ByteArray → Prop}, (bts b)[k]? = some y → (∀ t, bts t = [y] → K t) → slcStr b (some (k : Int)) (some ((k : Int) + 1)) K := by
      intro y K hy hK
      have hkb := (List.getElem?_eq_some_iff.1 hy).1
      refine slc_str (m := k) (n := k + 1) rfl (by simp) (by omega) (by omega) fun t ht => hK t ?_
      rw [ht, List.take_add_one, hy, List.drop_append_of_le_length (by rw [List.length_take]; omega), List.drop_eq_nil_of_le (by rw [List.length_take]; omega)]; rfl
    refine idx_str rfl hc ?_
    rw [Jn_eq]
    have J2 : ∀ t : Bool, (t = true ↔ c = 61 ∨ c = 33) → J2_ref08_Apply a b e K ((out, (i : Int), (k : Int), (n : Int), ()), g) R c (t, ()) g := by
      intro t ht
      unfold J2_ref08_Apply
      dsimp only
      refine cnd_if (fun h1 => ?_) fun h1 => ?_
      · rw [if_pos (ht.1 h1)] at hrun
        rw [Jn_eq]
        refine cnd_dec.2 ⟨fun hia => nope ?_, fun hia => cnd_dec.2 ⟨fun hkb => nope ?_, fun hkb => ?_⟩⟩
        · rw [hrun, endA (by omega)]
        · rw [hrun, endB (by omega)]
          cases (bts a).drop i <;> rfl
        · have ga := bts_get (s := a) (k := i) (by omega)
          have gb := bts_get (s := b) (k := k) (by omega)
          generalize ((a[i]).toNat : Int) = z at ga
          generalize ((b[k]).toNat : Int) = y at gb
          rw [drop_at ga, drop_at gb] at hrun
          simp only at hrun
          refine idx_str rfl ga (idx_str rfl gb (idx_str rfl hc ?_))
          have key : ((z == y) == (c == 61)) = true ↔ (z = y ↔ c = 61) := by
            by_cases h1 : z = y <;> by_cases h2 : c = 61 <;> simp [h1, h2, beq_eq_false_iff_ne.2, *]
          refine cnd_if (fun hf => nope ?_) fun hy => ?_
          · have : ¬ (z = y ↔ c = 61) := fun h => by rw [← key] at h; rw [h] at hf; cases hf
            rw [hrun, if_neg this]
          · have : (z = y ↔ c = 61) := key.1 (by
              cases hh : ((z == y) == (c == 61)) with
              | true => rfl
              | false => rw [hh] at hy; cases hy)
            rw [if_pos this] at hrun
            unfold J3_ref08_Apply
            dsimp only
            refine let_to ?_
            rw [wrap_i64 (by omega) (by omega)]
            refine one gb fun t ht => ?_
            have lt := bts_len t
            rw [ht] at lt
            refine cat_to (by simp at lt; omega) fun r hr => let_to (let_to (let_to ?_))
            have lr := bts_len r
            rw [hr, List.length_append, lo, ht] at lr
            rw [wrap_i64 (by omega) (by omega), wrap_i64 (by omega) (by omega)]
            refine hR _ ⟨rfl, i + 1, k + 1, n + 1, by simp, by simp, by simp, by omega, by omega, by omega, by simp at lr; simp only; omega, ?_⟩ (by simp only; omega)
            simp only
            rw [hr, ht]; exact hrun
      · have h1' : ¬ (c = 61 ∨ c = 33) := fun h => by rw [ht.2 h] at h1; cases h1
        rw [if_neg h1'] at hrun
        refine cnd_beq.2 ⟨fun h45 => ?_, fun h45 => cnd_beq.2 ⟨fun h43 => ?_, fun h43 => ?_⟩⟩
        · rw [if_pos h45] at hrun
          refine cnd_dec.2 ⟨fun hia => nope ?_, fun hia => let_to (let_to ?_)⟩
          · rw [hrun, endA (by omega)]
          · have ga := bts_get (s := a) (k := i) (by omega)
            rw [drop_at ga] at hrun
            rw [wrap_i64 (by omega) (by omega), wrap_i64 (by omega) (by omega)]
            exact hR _ ⟨rfl, i + 1, k, n + 1, by simp, rfl, by simp, by omega, by omega, by omega, ho, hrun⟩ (by simp only; omega)
        · rw [if_neg h45, if_pos h43] at hrun
          refine cnd_dec.2 ⟨fun hkb => nope ?_, fun hkb => let_to ?_⟩
          · rw [hrun, endB (by omega)]
          · have gb := bts_get (s := b) (k := k) (by omega)
            rw [drop_at gb] at hrun
            rw [wrap_i64 (by omega) (by omega)]
            refine one gb fun t ht => ?_
            have lt := bts_len t
            rw [ht] at lt
            refine cat_to (by simp at lt; omega) fun r hr => let_to (let_to ?_)
            have lr := bts_len r
            rw [hr, List.length_append, lo, ht] at lr
            rw [wrap_i64 (by omega) (by omega)]
            refine hR _ ⟨rfl, i, k + 1, n + 1, rfl, by simp, by simp, by omega, by omega, by omega, by simp at lr; simp only; omega, ?_⟩ (by simp only; omega)
            simp only
            rw [hr, ht]; exact hrun
        · rw [if_neg h45, if_neg h43] at hrun
          exact nope hrun
    refine cnd_beq.2 ⟨fun h => J2 _ (by simp [h]), fun h => J2 _ (by simp [h])⟩
  · obtain rfl : n = e.size := by omega
    have hd : (bts e).drop e.size = [] := by rw [← le, List.drop_length]
    rw [hd] at hrun
    simp only [runA] at hrun
    unfold J1_ref08_Apply
    dsimp only
    have no : ∀ {p : Prop} [Decidable p] {x : Option (List Int)}, ¬ p → (if p then x else none) = none := fun h => if_neg h
    refine cnd_dec.2 ⟨fun h1 => nope ?_, fun h1 => cnd_dec.2 ⟨fun h2 => nope ?_, fun h2 => ?_⟩⟩
    · rw [hrun, if_neg fun h => by have := congrArg List.length h.1; rw [List.length_drop, la] at this; simp at this; omega]
    · rw [hrun, if_neg fun h => by have := congrArg List.length h.2; rw [List.length_drop, lb] at this; simp at this; omega]
    · rw [if_pos ⟨List.drop_eq_nil_of_le (by omega), List.drop_eq_nil_of_le (by omega)⟩] at hrun
      exact hK _ _ (by rw [hrun]; rfl) (by rw [hrun]; rfl)
end Go.Proofs.YtbfjigemklbjfaaF
