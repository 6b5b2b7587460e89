/- Chapter 25: the laws. No condition. -/
import Derived.Test.YtkldaoachbbhnaaPartR
namespace Go.Proofs.YtkldaoachbbhnaaF
open Go Go.Proofs.YtkldaoachbbhnaaK
set_option linter.unusedSimpArgs false
set_option linter.unusedVariables false

theorem dv_len (D : List (List Int)) (a b pol : Int) : (dv D a b pol).1.length ≤ D.length ∧ (dv D a b pol).2.length ≤ D.length := by
  unfold dv
  split
  · exact ⟨Nat.zero_le _, Nat.zero_le _⟩
  · exact ⟨pk_len_le _ _, pk_len_le _ _⟩
theorem far_pos {D : List (List Int)} {M : List Int} (hD : OkD D) (hM : ∀ x ∈ M, OkN x) (pol : Int) (i k : Nat) : 0 ≤ far D M pol i k := by
  have h1 := (rad_ok hD hM (i : Int) (dv D i k pol).1).1
  have h2 := (rad_ok hD hM (k : Int) (dv D i k pol).2).1
  unfold far mx; split <;> omega
theorem prom_small {D : List (List Int)} {M : List Int} {pol : Int} (h : D.length < 2) : prom D M pol = (0, 1, false) := by
  unfold prom
  have : D.length = 0 ∨ D.length = 1 := by omega
  rcases this with e | e <;> rw [e] <;> rfl
theorem c_pProm {h : Hp} {d m : Sl} {D : List (List Int)} {M : List Int} (r : Mat h d D) (hDl : D.length ≤ 30) (rm : RN h m M) (hD : OkD D) (hM : ∀ x ∈ M, OkN x) {pol : Int} {K : Int → Int → Bool → Hp → Prop}
    (hK : ∀ h', Ext h h' → K (prom D M pol).1 (prom D M pol).2.1 (prom D M pol).2.2 h') : C_part_Promote d m pol h K := by
  have hl := r.len
  have hf := far_pos hD hM pol
  refine F_part_Promote_ok _ _ _ _ _ (cnd_dec.2 ⟨fun hs => ?_, fun hs => ?_⟩)
  · have := hK h (Ext.refl _)
    rw [prom_small (by omega)] at this; exact this
  have hN : 2 ≤ D.length := by omega
  have hp3 : (prom D M pol).2.2 = true := decide_eq_true (out_pos hf hN D.length (by omega))
  rw [hp3] at hK
  refine Lp.inv (fun st => ∃ i : Nat, st.1.2.2.2.1 = (i : Int) ∧ i ≤ D.length ∧ Ext h st.2 ∧ (st.1.1, st.1.2.1, st.1.2.2.1) = out (far D M pol) D.length i) (fun st => D.length - st.1.2.2.2.1.toNat) ?_ ⟨0, rfl, by omega, Ext.refl _, rfl⟩
  rintro ⟨⟨f1, f2, f3, i0, ⟨⟩⟩, g⟩ R ⟨i, hi, hin, xe, ho⟩ hR
  simp only at hi xe ho
  subst hi
  unfold L1_part_Promote
  dsimp only
  refine cnd_dec.2 ⟨fun hlt => let_to ?_, fun hge => ?_⟩
  · rw [wrap_i64 (by omega) (by omega)]
    refine Lp.inv (fun st => ∃ k : Nat, st.1.2.2.2.1 = ((i + 1 + k : Nat) : Int) ∧ i + 1 + k ≤ D.length ∧ Ext h st.2 ∧ (st.1.1, st.1.2.1, st.1.2.2.1) = inn (far D M pol) i (out (far D M pol) D.length i) k) (fun st => D.length - st.1.2.2.2.1.toNat) ?_
      ⟨0, by simp only; omega, by omega, xe, ho⟩
    rintro ⟨⟨p1, p2, p3, k0, ⟨⟩⟩, g1⟩ R1 ⟨k, hk, hkn, xe1, hin1⟩ hR1
    simp only at hk xe1 hin1
    subst hk
    unfold L2_part_Promote
    dsimp only
    refine cnd_dec.2 ⟨fun hlt2 => ?_, fun hge2 => let_to ?_⟩
    · refine c_pDiv (r.ext xe1) hDl fun x y g2 ox oy x2 => ?_
      have hdl := dv_len D (i : Int) ((i + 1 + k : Nat) : Int) pol
      have e2 := xe1.trans x2
      refine c_pRad (r.ext e2) (rm.ext e2) ox.row hD hM (by omega) (c_pRad (r.ext e2) (rm.ext e2) oy.row hD hM (by omega) (let_to ?_))
      rw [Jn_eq]
      have hfar : (if rad D M ((i + 1 + k : Nat) : Int) (dv D i ((i + 1 + k : Nat) : Int) pol).2 > rad D M i (dv D i ((i + 1 + k : Nat) : Int) pol).1 then rad D M ((i + 1 + k : Nat) : Int) (dv D i ((i + 1 + k : Nat) : Int) pol).2 else rad D M i (dv D i ((i + 1 + k : Nat) : Int) pol).1) = far D M pol i (i + 1 + k) := rfl
      rw [hfar]
      have J : ∀ q1 q2 q3 : Int, (q1, q2, q3) = inn (far D M pol) i (out (far D M pol) D.length i) (k + 1) → J1_part_Promote K (((p1, p2, p3, ((i + 1 + k : Nat) : Int), ()), g1) : (Int × Int × Int × Int × Unit) × Hp) R1 (q1, q2, q3, ()) g2 := by
        intro q1 q2 q3 hq
        unfold J1_part_Promote
        dsimp only
        refine cnd_beq.2 ⟨fun h0 => ?_, fun h0 => let_to ?_⟩
        · have h3 : (inn (far D M pol) i (out (far D M pol) D.length i) (k + 1)).2.2 = 0 := by rw [← hq]; exact h0
          have e1 : out (far D M pol) D.length (i + 1) = (q1, q2, q3) := by rw [out, inn_stay hf h3 _ (by omega), hq]
          have e3 : out (far D M pol) D.length D.length = (q1, q2, q3) := by rw [out_stay hf (by rw [e1]; exact h0) _ (by omega), e1]
          have e4 : (prom D M pol).1 = q1 := by unfold prom; rw [e3]
          have e5 : (prom D M pol).2.1 = q2 := by unfold prom; rw [e3]
          rw [e4, e5] at hK
          exact hK g2 e2
        · rw [wrap_i64 (by omega) (by omega)]
          exact hR1 _ ⟨k + 1, by simp only; omega, by omega, e2, hq⟩ (by show D.length - (((i + 1 + k : Nat) : Int) + 1).toNat < D.length - ((i + 1 + k : Nat) : Int).toNat; omega)
      have hstp : inn (far D M pol) i (out (far D M pol) D.length i) (k + 1) = stp (far D M pol) i (i + 1 + k) (p1, p2, p3) := by rw [inn, ← hin1]
      refine cnd_dec.2 ⟨fun hlz => J _ _ _ ?_, fun hlz => cnd_dec.2 ⟨fun hll => J _ _ _ ?_, fun hll => J _ _ _ ?_⟩⟩
      · rw [hstp]; unfold stp; rw [if_pos (.inl hlz)]
      · rw [hstp]; unfold stp; rw [if_pos (.inr hll)]
      · rw [hstp]; unfold stp; rw [if_neg (by simp only; omega)]
    · rw [wrap_i64 (by omega) (by omega)]
      refine hR _ ⟨i + 1, rfl, by omega, xe1, ?_⟩ (by show D.length - ((i : Int) + 1).toNat < D.length - (i : Int).toNat; omega)
      have : k = D.length - (i + 1) := by omega
      subst this
      rw [out]; exact hin1
  · obtain rfl : i = D.length := by omega
    have e4 : (prom D M pol).1 = f1 := by unfold prom; rw [← ho]
    have e5 : (prom D M pol).2.1 = f2 := by unfold prom; rw [← ho]
    rw [e4, e5] at hK
    exact hK g xe
theorem c_rProm {h : Hp} {d m : Sl} {D : List (List Int)} {M : List Int} (r : Mat h d D) (hDl : D.length ≤ 30) (rm : RN h m M) (hD : OkD D) (hM : ∀ x ∈ M, OkN x) {pol : Int} {K : Int → Int → Bool → Hp → Prop}
    (hK : ∀ h', Ext h h' → K (prom D M pol).1 (prom D M pol).2.1 (prom D M pol).2.2 h') : C_ref25_Promote d m pol h K := by
  have hl := r.len
  refine F_ref25_Promote_ok _ _ _ _ _ ?_
  refine Lp.inv (fun st => ∃ i : Nat, st.1.2.2.2.1 = (i : Int) ∧ i ≤ D.length ∧ Ext h st.2 ∧ (st.1.1, st.1.2.1, st.1.2.2.1) = out (far D M pol) D.length i) (fun st => D.length - st.1.2.2.2.1.toNat) ?_ ⟨0, rfl, by omega, Ext.refl _, rfl⟩
  rintro ⟨⟨f1, f2, f3, i0, ⟨⟩⟩, g⟩ R ⟨i, hi, hin, xe, ho⟩ hR
  simp only at hi xe ho
  subst hi
  unfold L1_ref25_Promote
  dsimp only
  refine cnd_dec.2 ⟨fun hlt => let_to ?_, fun hge => ?_⟩
  · rw [wrap_i64 (by omega) (by omega)]
    refine Lp.inv (fun st => ∃ k : Nat, st.1.2.2.2.1 = ((i + 1 + k : Nat) : Int) ∧ i + 1 + k ≤ D.length ∧ Ext h st.2 ∧ (st.1.1, st.1.2.1, st.1.2.2.1) = inn (far D M pol) i (out (far D M pol) D.length i) k) (fun st => D.length - st.1.2.2.2.1.toNat) ?_
      ⟨0, by simp only; omega, by omega, xe, ho⟩
    rintro ⟨⟨p1, p2, p3, k0, ⟨⟩⟩, g1⟩ R1 ⟨k, hk, hkn, xe1, hin1⟩ hR1
    simp only at hk xe1 hin1
    subst hk
    unfold L2_ref25_Promote
    dsimp only
    refine cnd_dec.2 ⟨fun hlt2 => ?_, fun hge2 => let_to ?_⟩
    · refine c_rDiv (r.ext xe1) hDl fun x y g2 ox oy x2 => ?_
      have hdl := dv_len D (i : Int) ((i + 1 + k : Nat) : Int) pol
      have e2 := xe1.trans x2
      refine c_rRad (r.ext e2) (rm.ext e2) ox.row hD hM (by omega) (c_rRad (r.ext e2) (rm.ext e2) oy.row hD hM (by omega) (let_to ?_))
      rw [Jn_eq]
      have hfar : (if rad D M ((i + 1 + k : Nat) : Int) (dv D i ((i + 1 + k : Nat) : Int) pol).2 > rad D M i (dv D i ((i + 1 + k : Nat) : Int) pol).1 then rad D M ((i + 1 + k : Nat) : Int) (dv D i ((i + 1 + k : Nat) : Int) pol).2 else rad D M i (dv D i ((i + 1 + k : Nat) : Int) pol).1) = far D M pol i (i + 1 + k) := rfl
      rw [hfar]
      have hstp : inn (far D M pol) i (out (far D M pol) D.length i) (k + 1) = stp (far D M pol) i (i + 1 + k) (p1, p2, p3) := by rw [inn, ← hin1]
      have hm : D.length - (((i + 1 + k : Nat) : Int) + 1).toNat < D.length - ((i + 1 + k : Nat) : Int).toNat := by omega
      have J : ∀ t : Bool, (t = true ↔ p3 < 0 ∨ far D M pol i (i + 1 + k) < p3) → J1_ref25_Promote (((f1, f2, f3, (i : Int), ()), g) : (Int × Int × Int × Int × Unit) × Hp) (((p1, p2, p3, ((i + 1 + k : Nat) : Int), ()), g1) : (Int × Int × Int × Int × Unit) × Hp) R1 (far D M pol i (i + 1 + k)) (t, ()) g2 := by
        intro t ht
        unfold J1_ref25_Promote
        dsimp only
        refine cnd_bool.2 ⟨fun h1 => let_to ?_, fun h1 => let_to ?_⟩
        · rw [wrap_i64 (by omega) (by omega)]
          refine hR1 _ ⟨k + 1, by simp only; omega, by omega, e2, ?_⟩ hm
          rw [hstp]; unfold stp; rw [if_pos (ht.1 h1)]
        · rw [wrap_i64 (by omega) (by omega)]
          refine hR1 _ ⟨k + 1, by simp only; omega, by omega, e2, ?_⟩ hm
          rw [hstp]; unfold stp; rw [if_neg (fun h2 => by rw [ht.2 h2] at h1; cases h1)]
      refine cnd_dec.2 ⟨fun hlz => J _ ⟨fun _ => .inl hlz, fun _ => rfl⟩, fun hlz => J _ ⟨fun h1 => .inr (of_decide_eq_true h1), fun h1 => decide_eq_true (h1.resolve_left hlz)⟩⟩
    · rw [wrap_i64 (by omega) (by omega)]
      refine hR _ ⟨i + 1, rfl, by omega, xe1, ?_⟩ (by show D.length - ((i : Int) + 1).toNat < D.length - (i : Int).toNat; omega)
      have : k = D.length - (i + 1) := by omega
      subst this
      rw [out]; exact hin1
  · obtain rfl : i = D.length := by omega
    have e4 : (prom D M pol).1 = f1 := by unfold prom; rw [← ho]
    have e5 : (prom D M pol).2.1 = f2 := by unfold prom; rw [← ho]
    have e6 : (prom D M pol).2.2 = decide (f3 ≥ 0) := by unfold prom; rw [← ho]
    rw [e4, e5, e6] at hK
    exact hK g xe

theorem c_may {h : Hp} {d m : Sl} {D : List (List Int)} {M : List Int} (r : Mat h d D) (rm : RN h m M) (hDl : ∀ l ∈ D, l.length ≤ 4611686018427387904) (hMl : M.length ≤ 4611686018427387904) {K : Bool → Hp → Prop}
    (hK : ∀ b, (b = true → D.length ≤ 30 ∧ OkD D ∧ ∀ x ∈ M, OkN x) → K b h) : C_law25_may d m h K := by
  have hl := r.len
  have hm := rm.len
  refine F_law25_may_ok _ _ _ _ (cnd_dec.2 ⟨fun h30 => hK false fun e => (by cases e), fun h30 => ?_⟩)
  have no : K false h := hK false fun e => (by cases e)
  rw [Jn_eq]
  refine Lp.inv (fun st => st.2 = h ∧ ∃ i : Nat, st.1.1 = (i : Int) ∧ i ≤ D.length ∧ ∀ (j : Nat) l, j < i → D[j]? = some l → ∀ x ∈ l, OkN x) (fun st => D.length - st.1.1.toNat) ?_ ⟨rfl, 0, rfl, by omega, fun j l hj => by omega⟩
  rintro ⟨⟨i0, ⟨⟩⟩, g⟩ R ⟨hg, i, hi, hin, hok⟩ hR
  simp only at hg hi
  subst hg; subst hi
  unfold L2_law25_may
  dsimp only
  refine cnd_dec.2 ⟨fun hlt => ?_, fun hge => ?_⟩
  · obtain ⟨t, l, hxl, rl, hld⟩ := r.row (i := i) (by omega)
    have hll := rl.len
    have hlb := hDl l (List.mem_of_getElem? hxl)
    refine Lp.inv (fun st => st.2 = g ∧ ∃ k : Nat, st.1.1 = (k : Int) ∧ k ≤ l.length ∧ ∀ (j : Nat) x, j < k → l[j]? = some x → OkN x) (fun st => l.length - st.1.1.toNat) ?_ ⟨rfl, 0, rfl, by omega, fun j x hj => by omega⟩
    rintro ⟨⟨k0, ⟨⟩⟩, g1⟩ R1 ⟨hg1, k, hk, hkn, hok1⟩ hR1
    simp only at hg1 hk
    subst hg1; subst hk
    unfold L3_law25_may
    dsimp only
    refine hld rfl (cnd_dec.2 ⟨fun hlt1 => hld rfl ?_, fun hge1 => let_to ?_⟩)
    · have hx : l[k]? = some (l[k]'(by omega)) := List.getElem?_eq_getElem _
      generalize (l[k]'(by omega)) = v at hx
      refine ld_int0 rl (by omega) (by simpa using hx) (cnd_dec.2 ⟨fun _ => no, fun h0 => hld rfl (ld_int0 rl (by omega) (by simpa using hx) (cnd_dec.2 ⟨fun _ => no, fun h1 => let_to ?_⟩))⟩)
      rw [wrap_i64 (by omega) (by omega)]
      refine hR1 _ ⟨rfl, k + 1, rfl, by omega, fun j x hj hjx => ?_⟩ (by show l.length - ((k : Int) + 1).toNat < l.length - (k : Int).toNat; omega)
      rcases Nat.lt_or_ge j k with h | h
      · exact hok1 j x h hjx
      · obtain rfl : j = k := by omega
        rw [hx] at hjx; cases hjx; exact ⟨by omega, by omega⟩
    · rw [wrap_i64 (by omega) (by omega)]
      obtain rfl : k = l.length := by omega
      refine hR _ ⟨rfl, i + 1, rfl, by omega, fun j l' hj hjl => ?_⟩ (by show D.length - ((i : Int) + 1).toNat < D.length - (i : Int).toNat; omega)
      rcases Nat.lt_or_ge j i with h | h
      · exact hok j l' h hjl
      · obtain rfl : j = i := by omega
        rw [hxl] at hjl; cases hjl
        intro x hx
        obtain ⟨q, hq⟩ := List.mem_iff_getElem?.1 hx
        exact hok1 q x (List.getElem?_eq_some_iff.1 hq).1 hq
  · obtain rfl : i = D.length := by omega
    have hokD : OkD D := fun l hl x hx => by
      obtain ⟨q, hq⟩ := List.mem_iff_getElem?.1 hl
      exact hok q l (List.getElem?_eq_some_iff.1 hq).1 hq x hx
    unfold J1_law25_may
    refine Lp.inv (fun st => st.2 = g ∧ ∃ k : Nat, st.1.1 = (k : Int) ∧ k ≤ M.length ∧ ∀ (j : Nat) x, j < k → M[j]? = some x → OkN x) (fun st => M.length - st.1.1.toNat) ?_ ⟨rfl, 0, rfl, by omega, fun j x hj => by omega⟩
    rintro ⟨⟨k0, ⟨⟩⟩, g1⟩ R1 ⟨hg1, k, hk, hkn, hok1⟩ hR1
    simp only at hg1 hk
    subst hg1; subst hk
    unfold L1_law25_may
    dsimp only
    refine cnd_dec.2 ⟨fun hlt1 => ?_, fun hge1 => ?_⟩
    · have hx : M[k]? = some (M[k]'(by omega)) := List.getElem?_eq_getElem _
      generalize (M[k]'(by omega)) = v at hx
      refine ld_int0 rm (by omega) (by simpa using hx) (cnd_dec.2 ⟨fun _ => no, fun h0 => ld_int0 rm (by omega) (by simpa using hx) (cnd_dec.2 ⟨fun _ => no, fun h1 => let_to ?_⟩)⟩)
      rw [wrap_i64 (by omega) (by omega)]
      refine hR1 _ ⟨rfl, k + 1, rfl, by omega, fun j x hj hjx => ?_⟩ (by show M.length - ((k : Int) + 1).toNat < M.length - (k : Int).toNat; omega)
      rcases Nat.lt_or_ge j k with h | h
      · exact hok1 j x h hjx
      · obtain rfl : j = k := by omega
        rw [hx] at hjx; cases hjx; exact ⟨by omega, by omega⟩
    · obtain rfl : k = M.length := by omega
      refine hK true fun _ => ⟨by omega, hokD, fun x hx => ?_⟩
      obtain ⟨q, hq⟩ := List.mem_iff_getElem?.1 hx
      exact hok1 q x (List.getElem?_eq_some_iff.1 hq).1 hq

theorem c_line {h : Hp} {s : Sl} {L : List Int} (rl : RN h s L) (hL : ∀ x ∈ L, OkN x) (hn : L.length ≤ 30) {K : Sl → Hp → Prop} (hK : ∀ t h', Mat h' t (lineM L) → Ext h h' → K t h') : C_law25_line s h K := by
  have hl := rl.len
  refine F_law25_line_ok _ _ _ ?_
  refine Lp.inv (fun st => ∃ (i : Nat) (ss : List Sl), st.1.2.1 = (i : Int) ∧ i ≤ L.length ∧ Ext h st.2 ∧ OwnRow eSl 1 h.size st.2 st.1.1 ss ∧ ss.length = i ∧ ∀ (j : Nat) t, ss[j]? = some t → ∃ l, (lineM L)[j]? = some l ∧ ON h.size st.2 t l ∧ Sep t st.1.1) (fun st => L.length - st.1.2.1.toNat) ?_
    ⟨0, [], rfl, by omega, Ext.refl _, OwnRow.nil _ _ _ _, rfl, fun j t ht => by cases ht⟩
  rintro ⟨⟨d, i0, ⟨⟩⟩, g⟩ R ⟨i, ss, hi, hin, xe, od, hss, hrows⟩ hR
  simp only at hi xe od hrows
  subst hi
  unfold L1_law25_line
  dsimp only
  refine cnd_dec.2 ⟨fun hlt => ?_, fun hge => ?_⟩
  · have hx : L[i]? = some (L[i]'(by omega)) := List.getElem?_eq_getElem _
    generalize (L[i]'(by omega)) = v at hx
    have hv := hL v (List.mem_of_getElem? hx)
    unfold OkN at hv
    refine Lp.inv (fun st => ∃ k : Nat, st.1.2.1 = (k : Int) ∧ k ≤ L.length ∧ Ext g st.2 ∧ ON g.size st.2 st.1.1 ((L.take k).map fun y => mx (v - y) (y - v))) (fun st => L.length - st.1.2.1.toNat) ?_ ⟨0, rfl, by omega, Ext.refl _, OwnRow.nil _ _ _ _⟩
    rintro ⟨⟨w, k0, ⟨⟩⟩, g1⟩ R1 ⟨k, hk, hkn, xe1, ow⟩ hR1
    simp only at hk xe1 ow
    subst hk
    unfold L2_law25_line
    dsimp only
    refine cnd_dec.2 ⟨fun hlt1 => ?_, fun hge1 => ?_⟩
    · have hy : L[k]? = some (L[k]'(by omega)) := List.getElem?_eq_getElem _
      generalize (L[k]'(by omega)) = y at hy
      have hyv := hL y (List.mem_of_getElem? hy)
      unfold OkN at hyv
      have r1 := (rl.ext xe).ext xe1
      have li : ∀ {K : Int → Prop}, K v → idxS s.a s.len (i : Int) 1 fun p => ldA (.int .i64) g1 p K := fun hk => ld_int0 r1 (by omega) (by simpa using hx) hk
      have lk : ∀ {K : Int → Prop}, K y → idxS s.a s.len (k : Int) 1 fun p => ldA (.int .i64) g1 p K := fun hk => ld_int0 r1 (by omega) (by simpa using hy) hk
      refine li (lk (let_to (lk (li (let_to (let_to ?_))))))
      rw [wrap_i64 (x := v - y) (by omega) (by omega), wrap_i64 (x := y - v) (by omega) (by omega)]
      refine app1 eN_ok (by decide) ow xe1.size (by simp; omega) (by decide) rfl (mx (v - y) (y - v)) rfl fun w' g2 o2 u2 b2 n2 => let_to ?_
      rw [wrap_i64 (by omega) (by omega)]
      refine hR1 _ ⟨k + 1, rfl, by omega, (xe1.bel.trans b2).ext, ?_⟩ (by show L.length - ((k : Int) + 1).toNat < L.length - (k : Int).toNat; omega)
      rw [List.take_add_one, hy]
      simpa using o2
    · obtain rfl : k = L.length := by omega
      rw [List.take_length] at ow
      have sw : Sep w d := (Sep.fresh od.lt ow.above).symm
      have od1 := od.ext xe1
      have hg1 : h.size ≤ g1.size := Nat.le_trans xe.size xe1.size
      refine app1 eSl_ok (by decide) od1 hg1 (by omega) (by decide) rfl w rfl fun d' g2 o2 u2 b2 n2 => let_to ?_
      rw [wrap_i64 (by omega) (by omega)]
      have x2 : Ext h g2 := ((xe.trans xe1).bel.trans b2).ext
      refine hR _ ⟨i + 1, ss ++ [w], rfl, by omega, x2, o2, by simp [hss], fun j t hj => ?_⟩ (by show L.length - ((i : Int) + 1).toNat < L.length - (i : Int).toNat; omega)
      by_cases hji : j < ss.length
      · rw [List.getElem?_append_left hji] at hj
        obtain ⟨l, h1, h2, h3⟩ := hrows j t hj
        exact ⟨l, h1, (h2.ext xe1).sep u2 h3, (h3.symm.app n2 (h2.ext xe1).lt).symm⟩
      · rw [List.getElem?_append_right (by omega)] at hj
        have hj0 : j - ss.length = 0 := by
          have := (List.getElem?_eq_some_iff.1 hj).1
          simp at this; omega
        rw [hj0] at hj
        simp at hj; subst hj
        obtain rfl : j = i := by omega
        refine ⟨_, by unfold lineM; rw [List.getElem?_map, hx]; rfl, (ow.weaken xe.size).sep u2 sw, (sw.symm.app n2 ow.lt).symm⟩
  · obtain rfl : i = L.length := by omega
    refine hK _ g ⟨ss, od.row, by unfold lineM; rw [List.length_map, hss], fun j t hj => ?_⟩ xe
    obtain ⟨l, h1, h2, _⟩ := hrows j t hj
    exact ⟨l, h1, h2.row⟩
theorem c_lives {h : Hp} {K : Bool → Hp → Prop} (hK : ∀ h', Ext h h' → K true h') : C_law25_lives h K := by
  refine F_law25_lives_ok _ _ (push_to fun h1 b1 e1 z1 => let_to ?_)
  have rl : RN h1 ⟨some ⟨h.size, 0, none⟩, 4, 4⟩ [0, 1, 8, 9] := Blk.row eN_ok b1 (l := [0, 1, 8, 9]) (cap := 4) (by simp) rfl
  refine c_line rl (by intro x hx; simp at hx; unfold OkN; omega) (by simp) fun t h2 rt e2 => ?_
  have hok : OkD (lineM [0, 1, 8, 9]) := by
    intro l hl x hx
    have : ∀ l ∈ lineM [0, 1, 8, 9], ∀ x ∈ l, 0 ≤ x ∧ x ≤ 1125899906842624 := by decide
    exact this l hl x hx
  refine c_pProm (M := []) rt (by decide) (IsRow.nil _ _ _ _) hok (by intro x hx; cases hx) fun h3 e3 => ?_
  rw [prom_lives]
  exact cnd_yes rfl (cnd_yes rfl (hK h3 ((e1.trans e2).trans e3)))

structure AskC (h : Hp) (d m : Sl) (D : List (List Int)) (M : List Int) : Prop where
  mat : Mat h d D
  more : RN h m M
  dl : ∀ l ∈ D, l.length ≤ 4611686018427387904
  ml : M.length ≤ 4611686018427387904
theorem ask_ld {h : Hp} {d m : Sl} {a b c : Int} {p : Nat} (r : Blk h p #[.slice d.a d.len d.cap, .slice m.a m.len m.cap, .int .i64 a, .int .i64 b, .int .i64 c]) :
    (∀ {K : Sl → Prop}, K d → ldA .sl h ⟨p, 0, none⟩ K) ∧ (∀ {K : Sl → Prop}, K m → ldA .sl h ⟨p, 1, none⟩ K) ∧ (∀ {K : Int → Prop}, K a → ldA (.int .i64) h ⟨p, 2, none⟩ K) ∧ (∀ {K : Int → Prop}, K b → ldA (.int .i64) h ⟨p, 3, none⟩ K) ∧ (∀ {K : Int → Prop}, K c → ldA (.int .i64) h ⟨p, 4, none⟩ K) :=
  ⟨fun hk => ldA_blk r (s := .sl) (x := d) rfl hk, fun hk => ldA_blk r (s := .sl) (x := m) rfl hk, fun hk => ldA_blk r (s := .int .i64) (x := a) rfl hk, fun hk => ldA_blk r (s := .int .i64) (x := b) rfl hk, fun hk => ldA_blk r (s := .int .i64) (x := c) rfl hk⟩
abbrev Yes (h : Hp) : Bool → Hp → Prop := fun b h' => b = true ∧ Ext h h'
theorem partDivides_ok {h : Hp} {d m s : Sl} {D : List (List Int)} {M L : List Int} {a b pol p : Int} (k : AskC h d m D M) (rs : RN h s L) (hLl : L.length ≤ 4611686018427387904) : C_law25_PartDivides d m a b pol p s h (Yes h) := by
  refine F_law25_PartDivides_ok _ _ _ _ _ _ _ _ _ (push_to fun h1 b1 e1 z1 => let_to ?_)
  obtain ⟨l0, l1, l2, l3, l4⟩ := ask_ld b1
  refine l0 (l1 ?_)
  refine c_may (k.mat.ext e1) (k.more.ext e1) k.dl k.ml fun t ht => cnd_not.2 (cnd_if (fun htt => ?_) fun _ => c_lives fun h2 e2 => ⟨rfl, e1.trans e2⟩)
  obtain ⟨hDn, hD, hM⟩ := ht htt
  refine l0 (l2 (l3 (l4 ?_)))
  refine c_pDiv (k.mat.ext e1) hDn fun x y h2 ox oy e2 => ?_
  obtain ⟨q0, q1, q2, q3, q4⟩ := ask_ld (b1.ext e2)
  refine q0 (q2 (q3 (q4 ?_)))
  have x2 := e1.trans e2
  refine c_rDiv (k.mat.ext x2) hDn fun x' y' h3 ox' oy' e3 => ?_
  have x3 := x2.trans e3
  obtain ⟨dl1, dl2⟩ := dv_len D a b pol
  refine ref_Ints (ox.row.ext e3) ox'.row (by omega) fun t1 ht1 => cnd_yes (ht1.2 rfl) (ref_Ints (oy.row.ext e3) oy'.row (by omega) fun t2 ht2 => cnd_yes (ht2.2 rfl) ?_)
  obtain ⟨w0, w1, w2, w3, w4⟩ := ask_ld ((b1.ext e2).ext e3)
  refine w0 (w1 (c_pRad (k.mat.ext x3) (k.more.ext x3) (rs.ext x3) hD hM hLl ⟨Ext.refl _, w0 (w1 (c_rRad (k.mat.ext x3) (k.more.ext x3) (rs.ext x3) hD hM hLl ?_))⟩))
  exact cnd_yes (by simp) (c_lives fun h4 e4 => ⟨rfl, x3.trans e4⟩)
theorem partPromotes_ok {h : Hp} {d m : Sl} {D : List (List Int)} {M : List Int} {a b pol : Int} (k : AskC h d m D M) : C_law25_PartPromotes d m a b pol h (Yes h) := by
  refine F_law25_PartPromotes_ok _ _ _ _ _ _ _ (push_to fun h1 b1 e1 z1 => let_to ?_)
  obtain ⟨l0, l1, l2, l3, l4⟩ := ask_ld b1
  rw [Jn_eq]
  refine l0 (l1 ?_)
  have yes : J1_law25_PartPromotes (Yes h) ⟨h.size, 0, none⟩ (true, ()) h1 := cnd_yes rfl (c_lives fun h2 e2 => ⟨rfl, e1.trans e2⟩)
  refine c_may (k.mat.ext e1) (k.more.ext e1) k.dl k.ml fun t ht => cnd_not.2 (cnd_if (fun htt => l0 ?_) fun _ => yes)
  obtain ⟨hDn, hD, hM⟩ := ht htt
  cases hd : decide ((d.len : Int) > 12) with
  | true => exact yes
  | false =>
    unfold J1_law25_PartPromotes
    refine cnd_no rfl (l0 (l1 (l4 (c_pProm (k.mat.ext e1) hDn (k.more.ext e1) hD hM fun h2 e2 => ?_))))
    obtain ⟨q0, q1, q2, q3, q4⟩ := ask_ld (b1.ext e2)
    have x2 := e1.trans e2
    refine q0 (q1 (q4 (c_rProm (k.mat.ext x2) hDn (k.more.ext x2) hD hM fun h3 e3 => ?_)))
    exact cnd_yes (by simp) (cnd_yes (by simp) (cnd_yes (by simp) (c_lives fun h4 e4 => ⟨rfl, (x2.trans e3).trans e4⟩)))

theorem pk_mono {q r : Nat → Bool} (h : ∀ i, q i = true → r i = true) (n : Nat) : (pk q n).length ≤ (pk r n).length := by
  induction n with
  | zero => exact Nat.le_refl _
  | succ n ih =>
    rw [pk_succ, pk_succ, List.length_append, List.length_append]
    cases hq : q n with
    | false => simp; omega
    | true => rw [h n hq]; simp; omega
theorem evT_full {D : List (List Int)} {a b : Nat} (ha : a < D.length) (hb : b < D.length) (hab : a ≠ b) : ∀ j : Nat, j < D.length → (evT D a b D.length)[j]? ≠ some 0 := by
  intro j hj h0
  have I := evT_I (D := D) ha hb hab D.length
  obtain ⟨c1, c2⟩ := I.cnt ⟨j, hj, h0⟩
  have h1 := pk_len_add (is0 (evT D a b D.length) 1) D.length
  have h2 := pk_mono (q := is0 (evT D a b D.length) 2) (r := fun i => !is0 (evT D a b D.length) 1 i) (fun i hi => by
    have : (evT D a b D.length)[i]? = some 2 := by simpa [is0] using hi
    unfold is0; rw [this]; decide) D.length
  omega
theorem dv_even {D : List (List Int)} {a b : Nat} (ha : a < D.length) (hb : b < D.length) (hab : a ≠ b) {pol : Int} (hp : pol ≠ 1) :
    (pk (fun i => !toA D a b pol i) D.length).length ≤ (pk (toA D a b pol) D.length).length ∧ (pk (toA D a b pol) D.length).length ≤ (pk (fun i => !toA D a b pol i) D.length).length + 1 := by
  have e : toA D a b pol = is0 (evT D a b D.length) 1 := funext fun i => by unfold toA; rw [if_neg hp]
  have I := evT_I (D := D) ha hb hab D.length
  have hno := evT_full ha hb hab
  rw [e, show pk (fun i => !is0 (evT D a b D.length) 1 i) D.length = pk (is0 (evT D a b D.length) 2) D.length from pk_congr fun i hi => by
    unfold is0
    rcases I.vals i hi with h | h | h
    · exact (hno i hi h).elim
    · rw [h]; decide
    · rw [h]; decide]
  exact I.diff
theorem dv_some {D : List (List Int)} {a b : Nat} (ha : a < D.length) (hb : b < D.length) (hab : a ≠ b) {pol : Int} : 0 < (pk (toA D a b pol) D.length).length ∧ 0 < (pk (fun i => !toA D a b pol i) D.length).length := by
  by_cases hp : pol = 1
  · subst hp
    refine ⟨List.length_pos_of_mem (pk_mem.2 ⟨a, ha, by rw [pl_at]; simp, rfl⟩), List.length_pos_of_mem (pk_mem.2 ⟨b, hb, ?_, rfl⟩)⟩
    rw [pl_at]
    have : b ≠ a := fun e => hab e.symm
    simp [this]
  · have h1 := dv_even ha hb hab hp
    have h2 := pk_len_add (toA D a b pol) D.length
    omega
theorem pk_pre (q : Nat → Bool) (m : Nat) : ∀ k, ∃ r, pk q (m + k) = pk q m ++ r
  | 0 => ⟨[], by simp⟩
  | k + 1 => by
    obtain ⟨r, hr⟩ := pk_pre q m k
    exact ⟨r ++ _, by rw [← Nat.add_assoc, pk_succ, hr, List.append_assoc]⟩
theorem pk_next {q : Nat → Bool} {m n : Nat} (hm : m < n) (hq : q m = true) : (pk q n)[(pk q m).length]? = some (m : Int) := by
  obtain ⟨r, hr⟩ := pk_pre q (m + 1) (n - (m + 1))
  rw [show m + 1 + (n - (m + 1)) = n by omega] at hr
  rw [hr, pk_succ, if_pos hq, List.append_assoc, List.getElem?_append_right (Nat.le_refl _)]
  simp
theorem pk_not {q : Nat → Bool} {m n k : Nat} (hq : q m = false) {v : Int} (hv : (pk q n)[k]? = some v) : v ≠ m := by
  intro e
  obtain ⟨i, hi, h1, h2⟩ := pk_mem.1 (List.mem_of_getElem? hv)
  have : i = m := by omega
  subst this; rw [hq] at h1; cases h1
theorem partAll_ok {h : Hp} {d m : Sl} {D : List (List Int)} {M : List Int} {a b pol : Int} (k : AskC h d m D M) : C_law25_PartAll d m a b pol h (Yes h) := by
  have hdl := k.mat.len
  refine F_law25_PartAll_ok _ _ _ _ _ _ _ (push_to fun h1 b1 e1 z1 => let_to ?_)
  obtain ⟨l0, l1, l2, l3, l4⟩ := ask_ld b1
  refine l0 (l1 ?_)
  refine c_may (k.mat.ext e1) (k.more.ext e1) k.dl k.ml fun t ht => cnd_not.2 (cnd_if (fun htt => ?_) fun _ => c_lives fun h2 e2 => ⟨rfl, e1.trans e2⟩)
  obtain ⟨hDn, hD, hM⟩ := ht htt
  refine l0 (l2 (l3 (l4 ?_)))
  refine c_pDiv (k.mat.ext e1) hDn fun x y h2 ox oy e2 => ?_
  have x2 := e1.trans e2
  rw [Jn_eq]
  have hx := ox.row.len
  have hy := oy.row.len
  by_cases hnone : a < 0 ∨ b < 0 ∨ a ≥ D.length ∨ b ≥ D.length ∨ a = b
  · have hd : dv D a b pol = ([], []) := by unfold dv; rw [if_pos hnone]
    rw [hd] at hx hy
    simp only [List.length_nil] at hx hy
    refine cnd_yes (by rw [hx]; rfl) ?_
    unfold J1_law25_PartAll
    exact cnd_yes (by rw [hy]; rfl) (c_lives fun h3 e3 => ⟨rfl, x2.trans e3⟩)
  · obtain ⟨a', rfl⟩ : ∃ a' : Nat, a = a' := ⟨a.toNat, by omega⟩
    obtain ⟨b', rfl⟩ : ∃ b' : Nat, b = b' := ⟨b.toNat, by omega⟩
    have ha : a' < D.length := by omega
    have hb : b' < D.length := by omega
    have hab : a' ≠ b' := by omega
    have hd : dv D a' b' pol = (pk (toA D a' b' pol) D.length, pk (fun i => !toA D a' b' pol i) D.length) := by unfold dv; rw [if_neg hnone]; simp only [Int.toNat_natCast]
    rw [hd] at hx hy ox oy
    simp only at hx hy ox oy
    obtain ⟨p1, p2⟩ := dv_some (pol := pol) ha hb hab
    have hadd := pk_len_add (toA D a' b' pol) D.length
    generalize hq : toA D a' b' pol = q at *
    refine cnd_no (beq_eq_false_iff_ne.2 (by omega)) ?_
    unfold J1_law25_PartAll
    refine cnd_no rfl ?_
    rw [Jn_eq]
    obtain ⟨w0, w1, w2, w3, w4⟩ := ask_ld (b1.ext e2)
    have J : J2_law25_PartAll (Yes h) ⟨h.size, 0, none⟩ x y () h2 := by
      unfold J2_law25_PartAll
      rw [Jn_eq]
      refine Lp.inv (fun st => st.2 = h2 ∧ ∃ n : Nat, n ≤ D.length ∧ st.1 = ((((pk q n).length : Int), ((pk (fun i => !q i) n).length : Int), (n : Int), ()) : Int × Int × Int × Unit)) (fun st => D.length - st.1.2.2.1.toNat) ?_ ⟨rfl, 0, by omega, rfl⟩
      rintro ⟨st, g⟩ R ⟨hg, n, hn, hst⟩ hR
      simp only at hg hst
      subst hg; subst hst
      unfold L1_law25_PartAll
      dsimp only
      have m1 := pk_len_le q n
      have m2 := pk_len_le (fun i => !q i) n
      refine w0 (cnd_dec.2 ⟨fun hlt => ?_, fun hge => ?_⟩)
      · rw [Jn_eq]
        have hm : D.length - ((n : Int) + 1).toNat < D.length - (n : Int).toNat := by omega
        have hnD : n < D.length := by omega
        cases hqn : q n with
        | true =>
          have hnx := pk_next hnD hqn
          have hlt2 := (List.getElem?_eq_some_iff.1 hnx).1
          refine cnd_yes (decide_eq_true (by omega)) (ld_int0 ox.row (by omega) (by simpa using hnx) ?_)
          unfold J4_law25_PartAll
          dsimp only
          refine cnd_yes (by simp) (let_to (let_to ?_))
          rw [wrap_i64 (by omega) (by omega), wrap_i64 (by omega) (by omega)]
          refine hR _ ⟨rfl, n + 1, by omega, ?_⟩ hm
          rw [pk_succ, pk_succ, hqn]
          simp
        | false =>
          have hqn' : (!q n) = true := by simp [hqn]
          have hnx := pk_next (q := fun i => !q i) hnD hqn'
          have hlt2 := (List.getElem?_eq_some_iff.1 hnx).1
          have J4 : J4_law25_PartAll (Yes h) y (((((pk q n).length : Int), ((pk (fun i => !q i) n).length : Int), (n : Int), ()), g) : (Int × Int × Int × Unit) × Hp) R (false, ()) g := by
            unfold J4_law25_PartAll
            dsimp only
            refine cnd_no rfl ?_
            rw [Jn_eq]
            refine cnd_yes (decide_eq_true (by omega)) (ld_int0 oy.row (by omega) (by simpa using hnx) ?_)
            unfold J5_law25_PartAll
            dsimp only
            refine cnd_yes (by simp) (let_to (let_to ?_))
            rw [wrap_i64 (by omega) (by omega), wrap_i64 (by omega) (by omega)]
            refine hR _ ⟨rfl, n + 1, by omega, ?_⟩ hm
            rw [pk_succ, pk_succ, hqn]
            simp
          refine cnd_dec.2 ⟨fun hl2 => ?_, fun _ => J4⟩
          have hv : (pk q D.length)[(pk q n).length]? = some ((pk q D.length)[(pk q n).length]'(by omega)) := List.getElem?_eq_getElem _
          generalize ((pk q D.length)[(pk q n).length]'(by omega)) = v at hv
          refine ld_int0 ox.row (by omega) (by simpa using hv) ?_
          have hvn := pk_not hqn hv
          rw [show (v == (n : Int)) = false from beq_eq_false_iff_ne.2 hvn]
          exact J4
      · obtain rfl : n = D.length := by omega
        unfold J3_law25_PartAll
        dsimp only
        exact cnd_yes (by rw [hx]; simp) (cnd_yes (by rw [hy]; simp) (c_lives fun h3 e3 => ⟨rfl, x2.trans e3⟩))
    have nz : cnd ((x.len : Int) == 0) (Yes h false h2) (cnd ((y.len : Int) == 0) (Yes h false h2) (J2_law25_PartAll (Yes h) ⟨h.size, 0, none⟩ x y () h2)) :=
      cnd_no (beq_eq_false_iff_ne.2 (by omega)) (cnd_no (beq_eq_false_iff_ne.2 (by omega)) J)
    refine w4 (cnd_bne.2 ⟨fun hp => let_to ?_, fun _ => nz⟩)
    have he := dv_even ha hb hab hp
    rw [hq] at he
    rw [wrap_i64 (by omega) (by omega)]
    refine cnd_no (decide_eq_false (by omega)) (let_to ?_)
    rw [wrap_i64 (by omega) (by omega)]
    exact cnd_no (decide_eq_false (by omega)) nz
end Go.Proofs.YtkldaoachbbhnaaF
