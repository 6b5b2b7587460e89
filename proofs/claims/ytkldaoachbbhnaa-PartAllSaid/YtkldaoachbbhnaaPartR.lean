/- Chapter 25: the document's own answer; which two are promoted. No condition. -/
import Derived.Test.YtkldaoachbbhnaaPartD
namespace Go.Proofs.YtkldaoachbbhnaaF
open Go Go.Proofs.YtkldaoachbbhnaaK
set_option linter.unusedSimpArgs false
set_option linter.unusedVariables false

/-- By plane, turn by turn. -/
def pv (D : List (List Int)) (a b i : Nat) : Int := if rAt D b i < rAt D a i then 2 else 1
def plT (D : List (List Int)) (a b : Nat) : Nat → List Int
  | 0 => T0 D.length a b
  | k + 1 => if (plT D a b k)[k]? = some 0 then (plT D a b k).set k (pv D a b k) else plT D a b k
theorem plT_len (D : List (List Int)) (a b : Nat) : ∀ k, (plT D a b k).length = D.length
  | 0 => T0_len _ _ _
  | k + 1 => by rw [plT]; split <;> simp [plT_len D a b k]
theorem plT_get {D : List (List Int)} {a b : Nat} (ha : a < D.length) (hb : b < D.length) (hab : a ≠ b) : ∀ k, ∀ i, i < D.length → (plT D a b k)[i]? = some (if i = a then 1 else if i = b then 2 else if i < k then pv D a b i else 0)
  | 0, i, hi => by rw [plT, T0_get ha hb hab hi]; simp
  | k + 1, i, hi => by
    have ih := plT_get ha hb hab k
    rw [plT]
    have up : ∀ j : Nat, j < D.length → j ≠ k ∨ k = a ∨ k = b → (if j = a then (1 : Int) else if j = b then 2 else if j < k + 1 then pv D a b j else 0) = (if j = a then 1 else if j = b then 2 else if j < k then pv D a b j else 0) := by
      intro j _ hj
      by_cases h1 : j = a
      · rw [if_pos h1, if_pos h1]
      · rw [if_neg h1, if_neg h1]
        by_cases h2 : j = b
        · rw [if_pos h2, if_pos h2]
        · rw [if_neg h2, if_neg h2]
          by_cases h3 : j < k
          · rw [if_pos h3, if_pos (show j < k + 1 by omega)]
          · rw [if_neg h3, if_neg (show ¬ j < k + 1 by omega)]
    by_cases hk : k < D.length
    · have hkk := ih k hk
      by_cases hab' : k = a ∨ k = b
      · have hne : ¬ (plT D a b k)[k]? = some 0 := by
          rw [hkk]
          rcases hab' with h | h
          · rw [if_pos h]; decide
          · by_cases h1 : k = a
            · rw [if_pos h1]; decide
            · rw [if_neg h1, if_pos h]; decide
        rw [if_neg hne, ih i hi, up i hi (.inr hab')]
      · have h1 : k ≠ a := fun e => hab' (.inl e)
        have h2 : k ≠ b := fun e => hab' (.inr e)
        rw [if_neg h1, if_neg h2, if_neg (Nat.lt_irrefl k)] at hkk
        rw [if_pos hkk]
        by_cases hik : k = i
        · subst hik
          rw [List.getElem?_set_self (by rw [plT_len]; exact hk), if_neg h1, if_neg h2, if_pos (show k < k + 1 by omega)]
        · rw [List.getElem?_set_ne hik, ih i hi, up i hi (.inl fun e => hik e.symm)]
    · have hne : ¬ (plT D a b k)[k]? = some 0 := by rw [List.getElem?_eq_none (by rw [plT_len]; omega)]; simp
      rw [if_neg hne, ih i hi, up i hi (.inl (by omega))]
/-- How far the best one of those before i is known. -/
def Bst (D : List (List Int)) (p : Int) (T : List Int) (z : Int) (i : Nat) : Prop :=
  (z = -1 ∧ ∀ j : Nat, j < i → T[j]? ≠ some 0) ∨ ∃ m : Nat, z = m ∧ m < i ∧ T[m]? = some 0 ∧ ∀ j : Nat, j < i → T[j]? = some 0 → rAt D p m ≤ rAt D p j ∧ (j < m → rAt D p m < rAt D p j)

theorem ref_end {g : Hp} {d t : Sl} {D : List (List Int)} {T : List Int} (hl : d.len = D.length) (hD : D.length ≤ 30) (hT : T.length = D.length) (rt : RN g t T) (hlt : ∀ a, t.a = some a → a.block < g.size) {K : Sl → Sl → Hp → Prop}
    (hK : ∀ x y h', ON g.size h' x (pk (is0 T 1) D.length) → ON g.size h' y (pk (fun i => !is0 T 1 i) D.length) → Ext g h' → K x y h') : J2_ref25_Divide d K t () g := by
  unfold J2_ref25_Divide
  refine Lp.inv (fun st => ∃ k : Nat, st.1.2.2.1 = (k : Int) ∧ k ≤ D.length ∧ Ext g st.2 ∧ ON g.size st.2 st.1.1 (pk (is0 T 1) k) ∧ ON g.size st.2 st.1.2.1 (pk (fun i => !is0 T 1 i) k) ∧ Sep st.1.1 st.1.2.1) (fun st => D.length - st.1.2.2.1.toNat) ?_
    ⟨0, rfl, by omega, Ext.refl _, OwnRow.nil _ _ _ _, OwnRow.nil _ _ _ _, fun a c ha => by cases ha⟩
  rintro ⟨⟨x, y, i, ⟨⟩⟩, g1⟩ R ⟨k, hi, hk, xe, ox, oy, sp⟩ hR
  simp only at hi xe ox oy sp
  subst hi
  unfold L1_ref25_Divide
  dsimp only
  refine cnd_dec.2 ⟨fun hlt => ?_, fun hge => ?_⟩
  · have ha := pk_len_le (is0 T 1) k
    have hb := pk_len_le (fun i => !is0 T 1 i) k
    have hx : T[k]? = some (T[k]'(by omega)) := List.getElem?_eq_getElem _
    generalize (T[k]'(by omega)) = v at hx
    refine ld_int0 (rt.ext xe) (by omega) (by simpa using hx) (cnd_beq.2 ⟨fun hv => ?_, fun hv => ?_⟩)
    · have ht : is0 T 1 k = true := by unfold is0; rw [hx, hv]; decide
      refine app_two ox oy sp xe.size (by omega) fun x' g' ox' oy' sp' bl _ => let_to ?_
      rw [wrap_i64 (by omega) (by omega)]
      refine hR _ ⟨k + 1, rfl, by omega, (xe.bel.trans bl).ext, ?_, ?_, sp'⟩ (by show D.length - ((k : Int) + 1).toNat < D.length - (k : Int).toNat; omega)
      · rw [pk_succ, if_pos ht]; exact ox'
      · rw [pk_succ, ht]; simpa using oy'
    · have ht : is0 T 1 k = false := by unfold is0; rw [hx]; simpa using hv
      refine app_two oy ox sp.symm xe.size (by omega) fun y' g' oy' ox' sp' bl _ => let_to ?_
      rw [wrap_i64 (by omega) (by omega)]
      refine hR _ ⟨k + 1, rfl, by omega, (xe.bel.trans bl).ext, ?_, ?_, sp'.symm⟩ (by show D.length - ((k : Int) + 1).toNat < D.length - (k : Int).toNat; omega)
      · rw [pk_succ, ht]; simpa using ox'
      · rw [pk_succ, ht]; simpa using oy'
  · obtain rfl : k = D.length := by omega
    exact hK x y g1 ox oy xe

theorem c_rDiv {h : Hp} {d : Sl} {D : List (List Int)} (r : Mat h d D) (hD : D.length ≤ 30) {a b pol : Int} {K : Sl → Sl → Hp → Prop}
    (hK : ∀ x y h', ON h.size h' x (dv D a b pol).1 → ON h.size h' y (dv D a b pol).2 → Ext h h' → K x y h') : C_ref25_Divide d a b pol h K := by
  have hl := r.len
  refine F_ref25_Divide_ok _ _ _ _ _ _ ?_
  unfold F_ref25_Divide
  rw [Jn_eq]
  have no : (a < 0 ∨ b < 0 ∨ a ≥ D.length ∨ b ≥ D.length ∨ a = b) → K ⟨none, 0, 0⟩ ⟨none, 0, 0⟩ h := fun hn => by
    unfold dv at hK; rw [if_pos hn] at hK
    exact hK _ _ h (OwnRow.nil _ _ _ _) (OwnRow.nil _ _ _ _) (Ext.refl _)
  refine cnd_dec.2 ⟨fun h1 => no (.inl h1), fun h1 => cnd_dec.2 ⟨fun h2 => no (.inr (.inl h2)), fun h2 => cnd_dec.2 ⟨fun h3 => no (.inr (.inr (.inl (by omega)))), fun h3 => cnd_dec.2 ⟨fun h4 => no (.inr (.inr (.inr (.inl (by omega))))), fun h4 => cnd_beq.2 ⟨fun h5 => no (.inr (.inr (.inr (.inr h5)))), fun h5 => ?_⟩⟩⟩⟩⟩
  unfold dv at hK
  rw [if_neg (by omega)] at hK
  obtain ⟨a', rfl⟩ : ∃ a' : Nat, a = a' := ⟨a.toNat, by omega⟩
  obtain ⟨b', rfl⟩ : ∃ b' : Nat, b = b' := ⟨b.toNat, by omega⟩
  simp only [Int.toNat_natCast] at hK
  have ha : a' < D.length := by omega
  have hb : b' < D.length := by omega
  have hab : a' ≠ b' := by omega
  unfold J1_ref25_Divide
  refine mk_row eN_ok (0 : Int) rfl (n := D.length) (k := D.length) (by omega) (by omega) (Nat.le_refl _) ⟨by decide, by omega⟩ fun t h2 o2 e2 _ _ => ?_
  refine own_set eN_ok o2 (k := a') rfl (by simpa using ha) (x := 1) rfl fun h4 o4 u4 _ z4 => ?_
  refine own_set eN_ok o4 (k := b') rfl (by simpa using hb) (x := 2) rfl fun h6 o6 u6 _ z6 => ?_
  have e6 : Ext h h6 := ((e2.bel.trans (u4.bel e2.size o2.above)).trans (u6.bel (Nat.le_trans e2.size u4.1) o4.above)).ext
  have o6 : ON h.size h6 t (T0 D.length a' b') := o6
  rw [Jn_eq]
  -- the end
  have fin : ∀ (g : Hp) (T : List Int), Ext h g → ON h.size g t T → T.length = D.length → (∀ i, i < D.length → toA D a' b' pol i = is0 T 1 i) → J2_ref25_Divide d K t () g := by
    intro g T xe o hT hA
    refine ref_end hl hD hT o.row o.lt fun x y h' ox oy x2 => hK x y h' ?_ ?_ (xe.trans x2)
    · rw [pk_congr hA]; exact ox.weaken xe.size
    · rw [show pk (fun i => !toA D a' b' pol i) D.length = pk (fun i => !is0 T 1 i) D.length from pk_congr fun i hi => by rw [hA i hi]]
      exact oy.weaken xe.size
  by_cases hp : pol = 1
  · subst hp
    refine Lp.inv (fun st => ∃ k : Nat, st.1.1 = (k : Int) ∧ k ≤ D.length ∧ Ext h st.2 ∧ ON h.size st.2 t (plT D a' b' k)) (fun st => D.length - st.1.1.toNat) ?_ ⟨0, rfl, by omega, e6, o6⟩
    rintro ⟨⟨i, ⟨⟩⟩, g⟩ R ⟨k, hi, hk, xe, ot⟩ hR
    simp only at hi xe ot
    subst hi
    unfold L2_ref25_Divide
    dsimp only
    refine cnd_dec.2 ⟨fun hlt => cnd_yes rfl ?_, fun hge => ?_⟩
    · have hT := plT_len D a' b' k
      have hx : (plT D a' b' k)[k]? = some ((plT D a' b' k)[k]'(by omega)) := List.getElem?_eq_getElem _
      generalize ((plT D a' b' k)[k]'(by omega)) = v at hx
      refine ld_int0 ot.row (by omega) (by simpa using hx) (cnd_beq.2 ⟨fun hv => ?_, fun hv => let_to ?_⟩)
      · subst hv
        refine own_set eN_ok ot (k := k) rfl (by omega) (x := 1) rfl fun g2 o2 u2 _ z2 => ?_
        have x2 : Ext h g2 := (xe.bel.trans (u2.bel xe.size ot.above)).ext
        refine c_rAt (r.ext x2) (c_rAt (r.ext x2) (cnd_dec.2 ⟨fun hba => ?_, fun hba => let_to ?_⟩))
        · refine own_set eN_ok o2 (k := k) rfl (by simp; omega) (x := 2) rfl fun g3 o3 u3 _ z3 => let_to ?_
          rw [wrap_i64 (by omega) (by omega)]
          refine hR _ ⟨k + 1, rfl, by omega, (x2.bel.trans (u3.bel x2.size o2.above)).ext, ?_⟩ (by show D.length - ((k : Int) + 1).toNat < D.length - (k : Int).toNat; omega)
          rw [plT, if_pos hx, show pv D a' b' k = 2 from if_pos hba]
          rw [List.set_set] at o3
          exact o3
        · rw [wrap_i64 (by omega) (by omega)]
          refine hR _ ⟨k + 1, rfl, by omega, x2, ?_⟩ (by show D.length - ((k : Int) + 1).toNat < D.length - (k : Int).toNat; omega)
          rw [plT, if_pos hx, show pv D a' b' k = 1 from if_neg hba]; exact o2
      · rw [wrap_i64 (by omega) (by omega)]
        refine hR _ ⟨k + 1, rfl, by omega, xe, ?_⟩ (by show D.length - ((k : Int) + 1).toNat < D.length - (k : Int).toNat; omega)
        rw [plT, if_neg (by rw [hx]; intro e; exact hv (Option.some.inj e))]; exact ot
    · obtain rfl : k = D.length := by omega
      refine fin g _ xe ot (plT_len _ _ _ _) fun i hi => ?_
      unfold is0
      rw [pl_at, plT_get ha hb hab _ i hi]
      by_cases h1 : i = a'
      · simp [h1]
      · by_cases h2 : i = b'
        · subst h2; simp [h1]
        · rw [if_neg h1, if_neg h2, if_pos hi]; unfold pv
          by_cases h3 : rAt D b' i < rAt D a' i
          · have h4 : ¬ rAt D a' i ≤ rAt D b' i := by omega
            simp [h1, h2, h3, h4]
          · have h4 : rAt D a' i ≤ rAt D b' i := by omega
            simp [h1, h2, h3, h4]
  · refine Lp.inv (fun st => ∃ k : Nat, st.1.1 = (k : Int) ∧ k ≤ D.length ∧ Ext h st.2 ∧ ON h.size st.2 t (evT D a' b' k)) (fun st => D.length - st.1.1.toNat) ?_ ⟨0, rfl, by omega, e6, o6⟩
    rintro ⟨⟨i, ⟨⟩⟩, g⟩ R ⟨k, hi, hk, xe, ot⟩ hR
    simp only at hi xe ot
    subst hi
    unfold L2_ref25_Divide
    dsimp only
    refine cnd_dec.2 ⟨fun hlt => cnd_no (by simpa using hp) ?_, fun hge => ?_⟩
    · rw [Jn_eq]
      have hT := evT_len D a' b' k
      have key : ∀ p side : Int, p = (if k % 2 = 1 then (b' : Int) else (a' : Int)) → side = (if k % 2 = 1 then 2 else 1) → J3_ref25_Divide d t ((((k : Int), ()), g) : (Int × Unit) × Hp) R (p, side, ()) g := by
        intro p side hpe hse
        unfold J3_ref25_Divide
        rw [Jn_eq]
        refine Lp.inv (fun st => st.2 = g ∧ ∃ i : Nat, st.1.2.1 = (i : Int) ∧ i ≤ D.length ∧ Bst D p (evT D a' b' k) st.1.1 i) (fun st => D.length - st.1.2.1.toNat) ?_ ⟨rfl, 0, rfl, by omega, .inl ⟨rfl, fun j hj => by omega⟩⟩
        rintro ⟨⟨z, i, ⟨⟩⟩, g1⟩ R1 ⟨hg, i', hi, hik, hB⟩ hR1
        simp only at hg hi hB
        subst hg; subst hi
        unfold L3_ref25_Divide
        dsimp only
        refine cnd_dec.2 ⟨fun hlt2 => ?_, fun hge2 => ?_⟩
        · have hx : (evT D a' b' k)[i']? = some ((evT D a' b' k)[i']'(by omega)) := List.getElem?_eq_getElem _
          generalize ((evT D a' b' k)[i']'(by omega)) = v at hx
          have hm : D.length - ((i' : Int) + 1).toNat < D.length - (i' : Int).toNat := by omega
          refine ld_int0 ot.row (by omega) (by simpa using hx) (cnd_beq.2 ⟨fun hv => ?_, fun hv => let_to ?_⟩)
          · subst hv
            refine cnd_dec.2 ⟨fun hz => let_to ?_, fun hz => c_rAt (r.ext xe) (c_rAt (r.ext xe) (cnd_dec.2 ⟨fun hlt3 => let_to ?_, fun hge3 => let_to ?_⟩))⟩
            · rw [wrap_i64 (by omega) (by omega)]
              refine hR1 _ ⟨rfl, i' + 1, rfl, by omega, .inr ⟨i', rfl, by omega, hx, fun j hj h0 => ?_⟩⟩ hm
              rcases hB with ⟨_, hB⟩ | ⟨m, hzm, _⟩
              · rcases Nat.lt_or_ge j i' with h | h
                · exact (hB j h h0).elim
                · obtain rfl : j = i' := by omega
                  exact ⟨by omega, fun h => by omega⟩
              · omega
            · rw [wrap_i64 (by omega) (by omega)]
              refine hR1 _ ⟨rfl, i' + 1, rfl, by omega, .inr ⟨i', rfl, by omega, hx, fun j hj h0 => ?_⟩⟩ hm
              rcases hB with ⟨hzm, hB⟩ | ⟨m, hzm, hmi, hm0, hB⟩
              · omega
              · subst hzm
                rcases Nat.lt_or_ge j i' with h | h
                · have := (hB j h h0).1; exact ⟨by omega, fun _ => by omega⟩
                · obtain rfl : j = i' := by omega
                  exact ⟨by omega, fun h => by omega⟩
            · rw [wrap_i64 (by omega) (by omega)]
              rcases hB with ⟨hzm, hB⟩ | ⟨m, hzm, hmi, hm0, hB⟩
              · omega
              · subst hzm
                refine hR1 _ ⟨rfl, i' + 1, rfl, by omega, .inr ⟨m, rfl, by omega, hm0, fun j hj h0 => ?_⟩⟩ hm
                rcases Nat.lt_or_ge j i' with h | h
                · exact hB j h h0
                · obtain rfl : j = i' := by omega
                  exact ⟨by omega, fun h => by omega⟩
          · rw [wrap_i64 (by omega) (by omega)]
            have hv0 : ∀ j : Nat, j < i' + 1 → (evT D a' b' k)[j]? = some 0 → j < i' := fun j hj h0 => by
              rcases Nat.lt_or_ge j i' with h | h
              · exact h
              · obtain rfl : j = i' := by omega
                rw [hx] at h0; exact (hv (Option.some.inj h0)).elim
            refine hR1 _ ⟨rfl, i' + 1, rfl, by omega, ?_⟩ hm
            rcases hB with ⟨hzm, hB⟩ | ⟨m, hzm, hmi, hm0, hB⟩
            · exact .inl ⟨hzm, fun j hj h0 => hB j (hv0 j hj h0) h0⟩
            · exact .inr ⟨m, hzm, by omega, hm0, fun j hj h0 => hB j (hv0 j hj h0) h0⟩
        · obtain rfl : i' = D.length := by omega
          unfold J4_ref25_Divide
          dsimp only
          have hm : D.length - ((k : Int) + 1).toNat < D.length - (k : Int).toNat := by omega
          rcases hB with ⟨hzm, hB⟩ | ⟨m, hzm, hmi, hm0, hB⟩
          · subst hzm
            refine cnd_no (by decide) (let_to ?_)
            rw [wrap_i64 (by omega) (by omega)]
            refine hR _ ⟨k + 1, rfl, by omega, xe, ?_⟩ hm
            rw [evT, stepE_none (by rw [hT]; exact hB)]; exact ot
          · subst hzm
            refine cnd_yes (decide_eq_true (by omega)) (own_set eN_ok ot (k := m) rfl (by omega) (x := side) rfl fun g3 o3 u3 _ z3 => let_to ?_)
            rw [wrap_i64 (by omega) (by omega)]
            refine hR _ ⟨k + 1, rfl, by omega, (xe.bel.trans (u3.bel xe.size ot.above)).ext, ?_⟩ hm
            rw [evT, stepE_some (i := m) ⟨by omega, hm0, fun j hj h0 => by rw [← hpe]; exact hB j (by omega) h0⟩, ← hse]; exact o3
      refine ⟨by decide, let_to ?_⟩
      rw [tmod2]
      refine cnd_beq.2 ⟨fun he => key _ _ ?_ ?_, fun ho => key _ _ ?_ ?_⟩
      · rw [if_pos (by omega)]
      · rw [if_pos (by omega)]
      · rw [if_neg (by omega)]
      · rw [if_neg (by omega)]
    · obtain rfl : k = D.length := by omega
      refine fin g _ xe ot (evT_len _ _ _ _) fun i hi => ?_
      unfold toA; rw [if_neg hp]
end Go.Proofs.YtkldaoachbbhnaaF
