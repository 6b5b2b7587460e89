/- Chapter 14: the document's own answers. No condition. -/
import Derived.Test.YtednnilgiebnoaaDir
namespace Go.Proofs.YtednnilgiebnoaaF
open Go Go.Proofs.YtednnilgiebnoaaK
set_option linter.unusedSimpArgs false
set_option linter.unusedVariables false

theorem row_get {l : Nat} {L : List At} {h h' : Hp} {s : Sl} {d : List (StA L)} (r : IsRow (vsA L) l h s d) {i : Int} {k : Nat} {x : StA L} (hi : i = k) (hx : d[k]? = some x) (e : ∀ a v, hcell h a = some v → hcell h' a = some v) {K : Addr → Prop} (hK : ∀ a, cellsAt h' a (vsA L x) → K a) : idxS s.a s.len i l K := by
  subst hi
  refine ld_row r (i := (k : Int)) (x := x) (by omega) hx fun a _ hc => hK _ fun j hj => ?_
  have := hc j hj
  rw [List.getElem?_eq_getElem hj] at this ⊢
  exact e _ _ this
theorem row_get0 {l : Nat} {L : List At} {h : Hp} {s : Sl} {d : List (StA L)} (r : IsRow (vsA L) l h s d) {i : Int} {k : Nat} {x : StA L} (hi : i = k) (hx : d[k]? = some x) {K : Addr → Prop} (hK : ∀ a, cellsAt h a (vsA L x) → K a) : idxS s.a s.len i l K := row_get r hi hx (fun _ _ e => e) hK
theorem rk_snoc (l : List Int) (x t : Int) : rk (l ++ [x]) t = rk l t + if x < t then 1 else 0 := by
  unfold rk
  rw [List.countP_append, List.countP_singleton]
  by_cases h : x < t <;> simp [h]
theorem r_Find {h : Hp} {s : Sl} {r : List (StA RW)} {id : Int} (o : IsRow (vsA RW) 2 h s r) (hl : r.length ≤ 4611686018427387904) {K : Int → Bool → Hp → Prop} (h1 : ∀ x, x ∈ r → rId x = id → K (rSl x) true h) (h2 : id ∉ r.map rId → K 0 false h) : C_ref14_Find s id h K := by
  have hlen := o.len
  refine F_ref14_Find_ok _ _ _ _ ?_
  refine Lp.inv (fun st => st.2 = h ∧ ∃ k : Nat, st.1.1 = (k : Int) ∧ k ≤ r.length ∧ id ∉ (r.take k).map rId) (fun st => r.length - st.1.1.toNat) ?_ ⟨rfl, 0, rfl, by omega, by simp⟩
  rintro ⟨⟨i', ⟨⟩⟩, g⟩ R ⟨rfl, k, rfl, hk, hn⟩ hR
  unfold L1_ref14_Find
  dsimp only
  refine cnd_dec.2 ⟨fun hlt => ?_, fun hge => ?_⟩
  · have hx : r[k]? = some (r[k]'(by omega)) := List.getElem?_eq_getElem _
    generalize (r[k]'(by omega)) = y at hx
    refine row_get0 o rfl hx fun a hc => ldA_row0 hc (x := rId y) rfl (cnd_beq.2 ⟨fun he => ?_, fun hne => let_to ?_⟩)
    · exact row_get0 o rfl hx fun a hc => ldA_row hc (j := 1) (x := rSl y) rfl (h1 y (List.mem_of_getElem? hx) he)
    · rw [wrap_i64 (by omega) (by omega)]
      refine hR _ ⟨rfl, k + 1, by simp, by omega, ?_⟩ (by simp only; omega)
      rw [List.take_add_one, hx, List.map_append]
      simp only [List.mem_append, not_or]
      exact ⟨hn, by simpa using fun e => hne e.symm⟩
  · obtain rfl : k = r.length := by omega
    rw [List.take_length] at hn
    exact h2 hn
theorem r_Rank {h : Hp} {s : Sl} {r : List (StA RW)} {id : Int} (o : IsRow (vsA RW) 2 h s r) (hl : r.length ≤ 4611686018427387904) {K : Int → Hp → Prop} (hK : K (rk (r.map rId) id : Int) h) : C_ref14_Rank s id h K := by
  have hlen := o.len
  refine F_ref14_Rank_ok _ _ _ _ ?_
  refine Lp.inv (fun st => st.2 = h ∧ ∃ k : Nat, st.1.2.1 = (k : Int) ∧ k ≤ r.length ∧ st.1.1 = (rk ((r.take k).map rId) id : Int)) (fun st => r.length - st.1.2.1.toNat) ?_ ⟨rfl, 0, rfl, by omega, by simp [rk]⟩
  rintro ⟨⟨n', i', ⟨⟩⟩, g⟩ R ⟨rfl, k, rfl, hk, hn⟩ hR
  simp only at hn
  subst hn
  have hrk := rk_le ((r.take k).map rId) id
  rw [List.length_map, List.length_take] at hrk
  unfold L1_ref14_Rank
  dsimp only
  refine cnd_dec.2 ⟨fun hlt => ?_, fun hge => ?_⟩
  · have hx : r[k]? = some (r[k]'(by omega)) := List.getElem?_eq_getElem _
    generalize (r[k]'(by omega)) = y at hx
    have es : rk ((r.take (k + 1)).map rId) id = rk ((r.take k).map rId) id + if rId y < id then 1 else 0 := by
      rw [List.take_add_one, hx, List.map_append]; exact rk_snoc _ _ _
    refine row_get0 o rfl hx fun a hc => ldA_row0 hc (x := rId y) rfl (cnd_dec.2 ⟨fun he => let_to (let_to ?_), fun hne => let_to ?_⟩)
    · rw [wrap_i64 (by omega) (by omega), wrap_i64 (by omega) (by omega)]
      exact hR _ ⟨rfl, k + 1, by simp, by omega, by rw [es, if_pos he]; simp⟩ (by simp only; omega)
    · rw [wrap_i64 (by omega) (by omega)]
      exact hR _ ⟨rfl, k + 1, by simp, by omega, by rw [es, if_neg hne]; simp⟩ (by simp only; omega)
  · obtain rfl : k = r.length := by omega
    rw [List.take_length]
    exact hK
theorem r_Cut {h : Hp} {s : Sl} {r : List (StA RW)} {id : Int} (o : IsRow (vsA RW) 2 h s r) (hl : r.length * 16 ≤ 140737488355328) (hlt : ∀ a, s.a = some a → a.block < h.size) {K : Sl → Bool → Hp → Prop}
    (hK : ∀ t h', OwnRow (vsA RW) 2 h.size h' t (r.filter fun x => rId x != id) → Ext h h' → K t (decide ((r.filter fun x => rId x != id).length < r.length)) h') : C_ref14_Cut s id h K := by
  have hlen := o.len
  refine F_ref14_Cut_ok _ _ _ _ ?_
  unfold F_ref14_Cut
  rw [Jn_eq]
  refine Lp.inv (fun st => ∃ k : Nat, st.1.2.1 = (k : Int) ∧ k ≤ r.length ∧ OwnRow (vsA RW) 2 h.size st.2 st.1.1 ((r.take k).filter fun x => rId x != id) ∧ Ext h st.2) (fun st => r.length - st.1.2.1.toNat) ?_ ⟨0, rfl, by omega, by simpa using OwnRow.nil _ _ _ _, Ext.refl _⟩
  rintro ⟨⟨t, i', ⟨⟩⟩, g⟩ R ⟨k, rfl, hk, ot, x⟩ hR
  simp only at ot x
  have hfl := List.length_filter_le (fun x => rId x != id) (r.take k)
  rw [List.length_take] at hfl
  unfold L1_ref14_Cut
  dsimp only
  refine cnd_dec.2 ⟨fun hlt2 => ?_, fun hge => ?_⟩
  · have hx : r[k]? = some (r[k]'(by omega)) := List.getElem?_eq_getElem _
    generalize (r[k]'(by omega)) = y at hx
    have os := o.ext x
    have es : (r.take (k + 1)).filter (fun x => rId x != id) = (r.take k).filter (fun x => rId x != id) ++ if rId y != id then [y] else [] := by
      rw [List.take_add_one, hx, List.filter_append]
      congr 1
      by_cases hh : (rId y != id) = true <;> simp [hh]
    refine row_get0 os rfl hx fun a hc => ldA_row0 hc (x := rId y) rfl (cnd_bne.2 ⟨fun hne => ?_, fun he => let_to ?_⟩)
    · refine row_get0 os rfl hx fun a hc => ldA_row0 hc (x := rId y) rfl (ldA_row hc (j := 1) (x := rSl y) rfl ?_)
      refine app1 (x := y) RW_ok (by decide) ot x.size (by omega) (by decide) rfl rfl fun s2 g2 o2 u2 b2 n2 => let_to ?_
      rw [wrap_i64 (by omega) (by omega)]
      refine hR _ ⟨k + 1, by simp, by omega, ?_, (x.bel.trans b2).ext⟩ (by simp only; omega)
      rw [es, if_pos (by simpa using hne)]; exact o2
    · rw [wrap_i64 (by omega) (by omega)]
      refine hR _ ⟨k + 1, by simp, by omega, ?_, x⟩ (by simp only; omega)
      rw [es, if_neg (by simpa using he), List.append_nil]; exact ot
  · obtain rfl : k = r.length := by omega
    rw [List.take_length] at ot
    unfold J1_ref14_Cut
    dsimp only
    have := hK t g ot x
    have hot := ot.row.len
    refine at_b this ?_
    rw [Bool.eq_iff_iff, decide_eq_true_iff, decide_eq_true_iff]; omega
where
  at_b {K : Sl → Bool → Hp → Prop} {t : Sl} {g : Hp} {b b' : Bool} (h : K t b g) (e : b' = b) : K t b' g := e ▸ h
theorem r_Put {h : Hp} {s : Sl} {r : List (StA RW)} {id sl : Int} (o : IsRow (vsA RW) 2 h s r) (hl : (r.length + 1) * 16 ≤ 140737488355328) {K : Sl → Bool → Hp → Prop}
    (h1 : id ∈ r.map rId → K s false h) (h2 : ∀ t h', id ∉ r.map rId → OwnRow (vsA RW) 2 h.size h' t (r ++ [(id, sl, ())]) → Ext h h' → K t true h') : C_ref14_Put s id sl h K := by
  refine F_ref14_Put_ok _ _ _ _ _ (r_Find o (by omega) (fun x hx he => cnd_yes rfl (h1 (he ▸ List.mem_map_of_mem hx))) fun hn => cnd_no rfl ?_)
  refine app_row (s := ⟨none, 0, 0⟩) RW_ok (by decide) (OwnRow.nil _ _ h.size _) o (Nat.le_refl _) (by simp; omega) (by decide) rfl fun t g o1 u1 n1 => ?_
  have x1 : Ext h g := ⟨u1.1, fun i hi => u1.2 i hi fun a ha => by cases ha⟩
  refine app1 (x := (id, sl, ())) RW_ok (by decide) o1 x1.size (by simpa using hl) (by decide) rfl rfl fun t2 g2 o2 u2 b2 n2 => h2 t2 g2 hn (by simpa using o2) (x1.bel.trans b2).ext
theorem r_Same {h : Hp} {s t : Sl} {l m : List Int} (o1 : IsRow eU 1 h s l) (o2 : IsRow eU 1 h t m) (hl : l.length ≤ 4611686018427387904) {K : Bool → Hp → Prop} (hK : K (decide (l = m)) h) : C_ref14_Same s t h K := by
  have l1 := o1.len
  have l2 := o2.len
  refine F_ref14_Same_ok _ _ _ _ (cnd_bne.2 ⟨fun hne => ?_, fun he => ?_⟩)
  · have : l ≠ m := fun e => hne (by rw [l1, l2, e])
    rw [decide_eq_false this] at hK; exact hK
  · have hlm : l.length = m.length := by omega
    refine Lp.inv (fun st => st.2 = h ∧ ∃ k : Nat, st.1.1 = (k : Int) ∧ k ≤ l.length ∧ l.take k = m.take k) (fun st => l.length - st.1.1.toNat) ?_ ⟨rfl, 0, rfl, by omega, by simp⟩
    rintro ⟨⟨i', ⟨⟩⟩, g⟩ R ⟨rfl, k, rfl, hk, ht⟩ hR
    unfold L1_ref14_Same
    dsimp only
    refine cnd_dec.2 ⟨fun hlt => ?_, fun hge => ?_⟩
    · have hx : l[k]? = some (l[k]'(by omega)) := List.getElem?_eq_getElem _
      have hy : m[k]? = some (m[k]'(by omega)) := List.getElem?_eq_getElem _
      refine ld_int0 (i := (k : Int)) o1 (by omega) hx (ld_int0 (i := (k : Int)) o2 (by omega) hy (cnd_bne.2 ⟨fun hne => ?_, fun he2 => let_to ?_⟩))
      · have : l ≠ m := fun e => hne (by subst e; rfl)
        rw [decide_eq_false this] at hK; exact hK
      · rw [wrap_i64 (by omega) (by omega)]
        exact hR _ ⟨rfl, k + 1, by simp, by omega, by rw [List.take_add_one, List.take_add_one, hx, hy, ht, he2]⟩ (by simp only; omega)
    · obtain rfl : k = l.length := by omega
      have e : l = m := by rw [List.take_length, hlm, List.take_length] at ht; exact ht
      rw [decide_eq_true e] at hK; exact hK
theorem r_Ids {h : Hp} {s : Sl} {r d : List (StA RW)} (o : IsRow (vsA RW) 2 h s r) (hp : d.Perm r) (hr : Ris (d.map rId)) (hl : r.length * 8 ≤ 140737488355328) {K : Sl → Hp → Prop} (hK : ∀ t h', OwnRow eU 1 h.size h' t (d.map rId) → Ext h h' → K t h') : C_ref14_Ids s h K := by
  have hlen := o.len
  have hdl := hp.length_eq
  refine F_ref14_Ids_ok _ _ _ ?_
  refine mk_row eU_ok (0 : Int) rfl (n := r.length) (k := r.length) (by omega) (by omega) (Nat.le_refl _) ⟨by decide, hl⟩ fun t h2 o2 e2 _ _ => ?_
  have pm : (d.map rId).Perm (r.map rId) := hp.map _
  have prk : ∀ x, rk (r.map rId) x = rk (d.map rId) x := fun x => (pm.countP_eq _).symm
  refine Lp.inv (fun st => ∃ k : Nat, st.1.1 = (k : Int) ∧ k ≤ r.length ∧ Ext h st.2 ∧ ∃ l, OwnRow eU 1 h.size st.2 t l ∧ l.length = r.length ∧ ∀ (j : Nat) (x : Int), (d.map rId)[j]? = some x → x ∈ (r.take k).map rId → l[j]? = some x) (fun st => r.length - st.1.1.toNat) ?_
    ⟨0, rfl, by omega, e2, _, o2, by simp, fun j x _ hx => by simp at hx⟩
  rintro ⟨⟨i', ⟨⟩⟩, g⟩ R ⟨k, rfl, hk, x, l, ol, hll, hin⟩ hR
  simp only at x ol
  unfold L1_ref14_Ids
  dsimp only
  refine cnd_dec.2 ⟨fun hlt => ?_, fun hge => ?_⟩
  · have hx : r[k]? = some (r[k]'(by omega)) := List.getElem?_eq_getElem _
    generalize (r[k]'(by omega)) = y at hx
    have os := o.ext x
    refine row_get0 os rfl hx fun a hc => ldA_row0 hc (x := rId y) rfl (r_Rank os (by omega) ⟨Ext.refl _, ?_⟩)
    refine row_get0 os rfl hx fun a hc => ldA_row0 hc (x := rId y) rfl ?_
    have hmem : rId y ∈ d.map rId := pm.mem_iff.2 (List.mem_map_of_mem (List.mem_of_getElem? hx))
    have hat := (rk_mem hr).1 hmem
    have hlt3 := (List.getElem?_eq_some_iff.1 hat).1
    rw [List.length_map] at hlt3
    rw [prk]
    refine own_set eU_ok ol (k := rk (d.map rId) (rId y)) rfl (by omega) (x := rId y) rfl fun g2 o3 u3 _ z3 => let_to ?_
    rw [wrap_i64 (by omega) (by omega)]
    refine hR _ ⟨k + 1, by simp, by omega, (x.bel.trans (u3.bel x.size ol.above)).ext, _, o3, by rw [List.length_set]; exact hll, fun j z hj hz => ?_⟩ (by simp only; omega)
    rw [List.take_add_one, hx, List.map_append] at hz
    rcases List.mem_append.1 hz with hz | hz
    · rw [List.getElem?_set]
      by_cases e : rk (d.map rId) (rId y) = j
      · subst e
        rw [if_pos rfl, if_pos (by omega)]
        rw [hat] at hj; exact hj
      · rw [if_neg e]; exact hin j z hj hz
    · have hz : z = rId y := by simpa using hz
      subst hz
      have := hr.inj hj hat
      subst this
      rw [List.getElem?_set_self (by omega)]
  · obtain rfl : k = r.length := by omega
    rw [List.take_length] at hin
    have e : l = d.map rId := by
      apply List.ext_getElem?
      intro j
      rcases Nat.lt_or_ge j (d.map rId).length with h1 | h1
      · have hj := List.getElem?_eq_getElem h1
        rw [hj]
        exact hin j _ hj (pm.mem_iff.1 (List.getElem_mem h1))
      · rw [List.getElem?_eq_none h1, List.getElem?_eq_none]
        rw [List.length_map] at h1; omega
    subst e
    exact hK t g ol x
end Go.Proofs.YtednnilgiebnoaaF
