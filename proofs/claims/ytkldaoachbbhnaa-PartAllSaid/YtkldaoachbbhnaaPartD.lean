/- Chapter 25: who goes where. No condition. -/
import Derived.Test.YtkldaoachbbhnaaPartW
namespace Go.Proofs.YtkldaoachbbhnaaF
open Go Go.Proofs.YtkldaoachbbhnaaK
set_option linter.unusedSimpArgs false
set_option linter.unusedVariables false

/-- 'x = append(x, v)' beside another row. -/
theorem app_two {B : Nat} {h : Hp} {x y : Sl} {l m : List Int} (ox : ON B h x l) (oy : ON B h y m) (sp : Sep x y) (hB : B ≤ h.size) (hb : l.length < 1000) {e e1 : Nat} {v : Int} {K : Sl → Hp → Prop}
    (hk : ∀ x' h', ON B h' x' (l ++ [v]) → ON B h' y m → Sep x' y → Bel B h h' → h.size ≤ h'.size → K x' h') :
    Let (Array.push h (Obj.cells #[.int .i64 v] e1)) fun h3 => Let (Addr.mk (Array.size h) 0 none) fun p => appS e 1 8 [.int .i64 0] x.a x.len x.cap (.slice (some p) 1 1) h3 K :=
  app1 eN_ok (by decide) ox hB (by omega) (by decide) rfl v rfl fun x' h' o' u b n => hk x' h' o' (oy.sep u sp.symm) (sp.app n oy.lt) b u.1
theorem pl_at {D : List (List Int)} {a b i : Nat} : toA D a b 1 i = (decide (i = a) || (decide (i ≠ b) && decide (rAt D a i ≤ rAt D b i))) := by unfold toA; rw [if_pos rfl]
theorem c_plane {h : Hp} {d : Sl} {D : List (List Int)} (r : Mat h d D) (hD : D.length ≤ 30) {a b : Nat} (hab : a ≠ b) {K : Sl → Sl → Hp → Prop}
    (hK : ∀ x y h', ON h.size h' x (pk (toA D a b 1) D.length) → ON h.size h' y (pk (fun i => !toA D a b 1 i) D.length) → Ext h h' → K x y h') : C_part_plane d a b h K := by
  have hl := r.len
  refine F_part_plane_ok _ _ _ _ _ (Lp.inv (fun st => ∃ k : Nat, st.1.2.2.1 = (k : Int) ∧ k ≤ D.length ∧ Ext h st.2 ∧ ON h.size st.2 st.1.1 (pk (toA D a b 1) k) ∧ ON h.size st.2 st.1.2.1 (pk (fun i => !toA D a b 1 i) k) ∧ Sep st.1.1 st.1.2.1) (fun st => D.length - st.1.2.2.1.toNat) ?_
    ⟨0, rfl, by omega, Ext.refl _, OwnRow.nil _ _ _ _, OwnRow.nil _ _ _ _, fun a c ha => by cases ha⟩)
  rintro ⟨⟨x, y, i, ⟨⟩⟩, g⟩ R ⟨k, hi, hk, xe, ox, oy, sp⟩ hR
  simp only at hi xe ox oy sp
  subst hi
  unfold L1_part_plane
  dsimp only
  refine cnd_dec.2 ⟨fun hlt => ?_, fun hge => ?_⟩
  · rw [Jn_eq]
    have ha := pk_len_le (toA D a b 1) k
    have hb := pk_len_le (fun i => !toA D a b 1 i) k
    have J : ∀ t, t = toA D a b 1 k → J1_part_plane (((x, y, (k : Int), ()), g) : (Sl × Sl × Int × Unit) × Hp) R (t, ()) g := by
      rintro t rfl
      unfold J1_part_plane
      refine cnd_if (fun ht => ?_) fun ht => ?_
      · refine app_two ox oy sp xe.size (by omega) fun x' g' ox' oy' sp' bl _ => let_to ?_
        simp only at ht
        rw [wrap_i64 (by simp only; omega) (by simp only; omega)]
        refine hR _ ⟨k + 1, rfl, by omega, (xe.bel.trans bl).ext, ?_, ?_, sp'⟩ (by show D.length - ((k : Int) + 1).toNat < D.length - (k : Int).toNat; omega)
        · rw [pk_succ, if_pos ht]; exact ox'
        · rw [pk_succ, ht]; simpa using oy'
      · refine app_two oy ox sp.symm xe.size (by omega) fun y' g' oy' ox' sp' bl _ => let_to ?_
        simp only at ht
        rw [wrap_i64 (by simp only; omega) (by simp only; omega)]
        refine hR _ ⟨k + 1, rfl, by omega, (xe.bel.trans bl).ext, ?_, ?_, sp'.symm⟩ (by show D.length - ((k : Int) + 1).toNat < D.length - (k : Int).toNat; omega)
        · rw [pk_succ, ht]; simpa using ox'
        · rw [pk_succ, ht]; simpa using oy'
    refine cnd_beq.2 ⟨fun e => J _ ?_, fun hka => cnd_bne.2 ⟨fun hkb => ?_, fun e => J _ ?_⟩⟩
    · rw [pl_at]
      have : k = a := by omega
      simp [this]
    · refine c_pAt (r.ext xe) (c_pAt (r.ext xe) (J _ ?_))
      rw [pl_at]
      have h1 : k ≠ a := by omega
      have h2 : k ≠ b := by omega
      simp [h1, h2]
    · rw [pl_at]
      have : k = b := by omega
      subst this
      have h1 : k ≠ a := by omega
      simp [h1]
  · obtain rfl : k = D.length := by omega
    exact hK x y g ox oy xe

theorem is0_T0 {n a b i : Nat} (ha : a < n) (hb : b < n) (hab : a ≠ b) (hi : i < n) : is0 (T0 n a b) 0 i = (decide (i ≠ a) && decide (i ≠ b)) := by
  unfold is0
  rw [T0_get ha hb hab hi]
  by_cases h1 : i = a
  · subst h1; simp
  · by_cases h2 : i = b
    · subst h2; simp [h1]
    · simp [h1, h2]
theorem pk_T0_1 {n a b : Nat} (ha : a < n) (hb : b < n) (hab : a ≠ b) : pk (is0 (T0 n a b) 1) n = [(a : Int)] := pk_one ha fun i hi => by
  unfold is0; rw [T0_get ha hb hab hi]
  by_cases h : i = a
  · subst h; simp
  · by_cases h2 : i = b
    · subst h2; simp [h]
    · simp [h, h2]
theorem pk_T0_2 {n a b : Nat} (ha : a < n) (hb : b < n) (hab : a ≠ b) : pk (is0 (T0 n a b) 2) n = [(b : Int)] := pk_one hb fun i hi => by
  unfold is0; rw [T0_get ha hb hab hi]
  by_cases h : i = a
  · subst h; simp [hab]
  · by_cases h2 : i = b
    · subst h2; simp [h]
    · simp [h, h2]
/-- The nearest of those that are left is the first one of the least. -/
theorem fst_of {D : List (List Int)} {p : Int} {T : List Int} {m i : Nat} (hv : (pk (is0 T 0) T.length)[m]? = some (i : Int)) (hmin : ∀ (j : Nat) x, (pk (is0 T 0) T.length)[j]? = some x → rAt D p i ≤ rAt D p x ∧ (j < m → rAt D p i < rAt D p x)) : Fst D p T i := by
  obtain ⟨i', hi, h0, e⟩ := pk_mem.1 (List.mem_of_getElem? hv)
  obtain rfl : i = i' := by omega
  refine ⟨hi, by simpa [is0] using h0, fun j hj hj0 => ?_⟩
  have hm : (j : Int) ∈ pk (is0 T 0) T.length := pk_mem.2 ⟨j, hj, by simpa [is0] using hj0, rfl⟩
  obtain ⟨q, hq⟩ := List.mem_iff_getElem?.1 hm
  obtain ⟨h1, h2⟩ := hmin q _ hq
  refine ⟨h1, fun hji => h2 ?_⟩
  obtain ⟨hml, hme⟩ := List.getElem?_eq_some_iff.1 hv
  obtain ⟨hql, hqe⟩ := List.getElem?_eq_some_iff.1 hq
  rcases Nat.lt_or_ge q m with h | h
  · exact h
  · rcases Nat.eq_or_lt_of_le h with e | hlt
    · subst e; rw [hv] at hq; cases hq; omega
    · have := List.pairwise_iff_getElem.1 (pk_lt (is0 T 0) T.length) m q hml hql hlt
      rw [hme, hqe] at this; omega
theorem tmod2 (k : Nat) : Int.tmod (k : Int) 2 = ((k % 2 : Nat) : Int) := by
  rw [Int.tmod_eq_emod_of_nonneg (by omega)]; omega

theorem c_even {h : Hp} {d : Sl} {D : List (List Int)} (r : Mat h d D) (hD : D.length ≤ 30) {a b : Nat} (ha : a < D.length) (hb : b < D.length) (hab : a ≠ b) {K : Sl → Sl → Hp → Prop}
    (hK : ∀ x y h', ON h.size h' x (pk (is0 (evT D a b D.length) 1) D.length) → ON h.size h' y (pk (fun i => !is0 (evT D a b D.length) 1 i) D.length) → Ext h h' → K x y h') : C_part_even d a b h K := by
  have hl := r.len
  refine F_part_even_ok _ _ _ _ _ (push_to fun h1 b1 e1 z1 => let_to (push_to fun h3 b3 e3 z3 => let_to ?_))
  rw [Jn_eq]
  have e13 := e1.trans e3
  have b1' := b1.ext e3
  refine Lp.inv (fun st => ∃ k : Nat, st.1.2.1 = (k : Int) ∧ k ≤ D.length ∧ Ext h3 st.2 ∧ ON h3.size st.2 st.1.1 (pk (fun i => decide (i ≠ a) && decide (i ≠ b)) k)) (fun st => D.length - st.1.2.1.toNat) ?_
    ⟨0, rfl, by omega, Ext.refl _, OwnRow.nil _ _ _ _⟩
  rintro ⟨⟨lf, i, ⟨⟩⟩, g⟩ R ⟨k, hi, hk, xe, ol⟩ hR
  simp only at hi xe ol
  subst hi
  unfold L2_part_even
  dsimp only
  refine cnd_dec.2 ⟨fun hlt => ?_, fun hge => ?_⟩
  · rw [Jn_eq]
    have hkl := pk_len_le (fun i => decide (i ≠ a) && decide (i ≠ b)) k
    have J : ∀ t, t = (decide (k ≠ a) && decide (k ≠ b)) → J3_part_even (((lf, (k : Int), ()), g) : (Sl × Int × Unit) × Hp) R (t, ()) g := by
      intro t hte
      unfold J3_part_even
      refine cnd_if (fun ht => ?_) fun ht => ?_
      · refine app1 eN_ok (by decide) ol xe.size (by omega) (by decide) rfl (k : Int) rfl fun s' g' o' u bl n => let_to ?_
        simp only at ht
        rw [wrap_i64 (by simp only; omega) (by simp only; omega)]
        refine hR _ ⟨k + 1, rfl, by omega, (xe.bel.trans bl).ext, ?_⟩ (by show D.length - ((k : Int) + 1).toNat < D.length - (k : Int).toNat; omega)
        rw [pk_succ, if_pos (hte ▸ ht)]; exact o'
      · simp only at ht
        refine let_to ?_
        rw [wrap_i64 (by simp only; omega) (by simp only; omega)]
        refine hR _ ⟨k + 1, rfl, by omega, xe, ?_⟩ (by show D.length - ((k : Int) + 1).toNat < D.length - (k : Int).toNat; omega)
        rw [pk_succ, if_neg (by rw [← hte, ht]; simp), List.append_nil]; exact ol
    refine cnd_bne.2 ⟨fun hka => J _ ?_, fun e => J _ ?_⟩
    · have h1 : k ≠ a := by omega
      by_cases h2 : k = b
      · subst h2; simp [h1]
      · have h3 : (k : Int) ≠ b := by omega
        simp [h1, h2, h3]
    · have h1 : k = a := by omega
      simp [h1]
  · obtain rfl : k = D.length := by omega
    clear hR R
    unfold J1_part_even
    rw [Jn_eq]
    have xh : Ext h g := e13.trans xe
    have ol2 : ON h.size g lf (pk (is0 (evT D a b 0) 0) D.length) := by
      rw [show pk (is0 (evT D a b 0) 0) D.length = pk (fun i => decide (i ≠ a) && decide (i ≠ b)) D.length from pk_congr fun i hi => is0_T0 ha hb hab hi]
      exact ol.weaken e13.size
    have ox0 : ON h.size g ⟨some ⟨h.size, 0, none⟩, 1, 1⟩ [(a : Int)] := (b1'.ext xe).own1 (Nat.le_refl _)
    have oy0 : ON h.size g ⟨some ⟨h1.size, 0, none⟩, 1, 1⟩ [(b : Int)] := (b3.ext xe).own1 e1.size
    have hsz : h.size < h1.size := by omega
    refine Lp.inv (fun st => ∃ (k : Nat) (lx ly : List Int), st.1.2.2.2.1 = (k : Int) ∧ k + (pk (is0 (evT D a b k) 0) D.length).length ≤ D.length ∧ Ext h st.2 ∧ ON h.size st.2 st.1.1 lx ∧ lx ≠ [] ∧ lx.Perm (pk (is0 (evT D a b k) 1) D.length) ∧
        ON h.size st.2 st.1.2.1 ly ∧ ly ≠ [] ∧ ly.Perm (pk (is0 (evT D a b k) 2) D.length) ∧ ON h.size st.2 st.1.2.2.1 (pk (is0 (evT D a b k) 0) D.length) ∧ Sep st.1.1 st.1.2.1 ∧ Sep st.1.1 st.1.2.2.1 ∧ Sep st.1.2.1 st.1.2.2.1) (fun st => st.1.2.2.1.len) ?_
      ⟨0, [(a : Int)], [(b : Int)], rfl, by have := pk_len_le (is0 (evT D a b 0) 0) D.length; omega, xh, ox0, by simp, by rw [show evT D a b 0 = T0 D.length a b from rfl, pk_T0_1 ha hb hab], oy0, by simp, by rw [show evT D a b 0 = T0 D.length a b from rfl, pk_T0_2 ha hb hab], ol2,
        fun p q hp hq => by cases hp; cases hq; simp only; omega,
        Sep.fresh (n := h3.size) (fun p hp => by cases hp; simp only; omega) ol.above, Sep.fresh (n := h3.size) (fun p hp => by cases hp; simp only; omega) ol.above⟩
    rintro ⟨⟨x, y, lf', i, ⟨⟩⟩, g⟩ R ⟨k, lx, ly, hi, hkn, xe, ox, hx0, px, oy, hy0, py, ol, s1, s2, s3⟩ hR
    simp only at hi xe ox oy ol s1 s2 s3
    subst hi
    unfold L1_part_even
    dsimp only
    have hTl := evT_len D a b k
    have hI := evT_I (D := D) ha hb hab k
    generalize hT : evT D a b k = T at *
    have hll := ol.row.len
    have hxl : lx.length ≤ 30 := by have := px.length_eq; have := pk_len_le (is0 T 1) D.length; omega
    have hyl : ly.length ≤ 30 := by have := py.length_eq; have := pk_len_le (is0 T 2) D.length; omega
    refine cnd_dec.2 ⟨fun hpos => ⟨by decide, let_to ?_⟩, fun hz => ?_⟩
    · rw [tmod2]
      have hk30 : k < 1000 := by omega
      -- one turn
      have turn : ∀ (p : Nat) (m : Nat) (v : Int) (g2 : Hp), (p = if k % 2 = 1 then b else a) → (pk (is0 T 0) D.length)[m]? = some v → (∀ (j : Nat) x, (pk (is0 T 0) D.length)[j]? = some x → rAt D p v ≤ rAt D p x ∧ (j < m → rAt D p v < rAt D p x)) →
          ∃ i : Nat, v = i ∧ i < D.length ∧ is0 T 0 i = true ∧ evT D a b (k + 1) = T.set i (if k % 2 = 1 then 2 else 1) ∧ pk (is0 (evT D a b (k + 1)) 0) D.length = (pk (is0 T 0) D.length).take m ++ (pk (is0 T 0) D.length).drop (m + 1) := by
        intro p m v g2 hp hv hmin
        obtain ⟨i, hi, h0, rfl⟩ := pk_mem.1 (List.mem_of_getElem? hv)
        have hF : Fst D p T i := fst_of (by rw [hTl]; exact hv) (by rw [hTl]; exact hmin)
        have hset : evT D a b (k + 1) = T.set i (if k % 2 = 1 then 2 else 1) := by
          rw [evT, hT]
          refine stepE_some ?_
          have : (if k % 2 = 1 then (b : Int) else (a : Int)) = (p : Int) := by rw [hp]; split <;> rfl
          rw [this]; exact hF
        refine ⟨i, rfl, hi, h0, hset, ?_⟩
        rw [hset]
        refine pk_del hv fun j => ?_
        rw [set_is hF.1 hF.2.1]
        by_cases hji : j = i
        · subst hji; rw [if_pos rfl]; split <;> simp
        · rw [if_neg hji]; simp [hji]
      have hL0 : 0 < (pk (is0 T 0) D.length).length := by omega
      have hL1 : (pk (is0 T 0) D.length).length ≤ 1000 := by have := pk_len_le (is0 T 0) D.length; omega
      refine cnd_beq.2 ⟨fun he => ?_, fun ho => ?_⟩
      · have hke : ¬ k % 2 = 1 := by omega
        refine c_near (r.ext xe) ol.row hL0 hL1 fun m v s2' g2 hv hmin o2 x2 => ?_
        obtain ⟨i, rfl, hi, h0, hset, hdel⟩ := turn a m v g2 (by rw [if_neg hke]) hv hmin
        rw [if_neg hke] at hset
        rw [← hdel] at o2
        refine app1 eN_ok (by decide) (ox.ext x2) (Nat.le_trans xe.size x2.size) (by omega) (by decide) rfl (i : Int) rfl fun x' g' ox' u bl n => let_to ?_
        rw [wrap_i64 (by omega) (by omega)]
        have sx2 : Sep x s2' := Sep.fresh ox.lt o2.above
        have sy2 : Sep y s2' := Sep.fresh oy.lt o2.above
        have hTi : T[i]? = some 0 := by simpa [is0] using h0
        have hiT : i < T.length := by omega
        have q1 : is0 T 1 i = false := by unfold is0; rw [hTi]; decide
        have q2 : is0 T 2 i = false := by unfold is0; rw [hTi]; decide
        have hlen : (pk (is0 (evT D a b (k + 1)) 0) D.length).length + 1 = (pk (is0 T 0) D.length).length := by
          have := (List.getElem?_eq_some_iff.1 hv).1
          rw [hdel, List.length_append, List.length_take, List.length_drop]; omega
        have ol' := (o2.weaken xe.size).sep u sx2.symm
        refine hR _ ⟨k + 1, lx ++ [(i : Int)], ly, rfl, by omega, ((xe.trans x2).bel.trans (bl.mono (Nat.le_refl _))).ext, ox', by simp, ?_, (oy.ext x2).sep u s1.symm, hy0, ?_, ol', ?_, ?_, ?_⟩ (by have := o2.row.len; simp only; omega)
        · rw [hset]
          exact (px.append_right _).trans (pk_add (r := is0 (T.set i 1) 1) hi q1 fun j => by rw [set_is hiT hTi]; split; (subst j; simp); (rename_i hj; simp [hj])).symm
        · rw [hset, show pk (is0 (T.set i 1) 2) D.length = pk (is0 T 2) D.length from pk_congr fun j _ => by rw [set_is hiT hTi]; split; (subst j; rw [q2]; decide); rfl]
          exact py
        · exact s1.app n (oy.ext x2).lt
        · exact sx2.app n o2.lt
        · exact sy2
      · have hko : k % 2 = 1 := by omega
        refine c_near (r.ext xe) ol.row hL0 hL1 fun m v s2' g2 hv hmin o2 x2 => ?_
        obtain ⟨i, rfl, hi, h0, hset, hdel⟩ := turn b m v g2 (by rw [if_pos hko]) hv hmin
        rw [if_pos hko] at hset
        rw [← hdel] at o2
        refine app1 eN_ok (by decide) (oy.ext x2) (Nat.le_trans xe.size x2.size) (by omega) (by decide) rfl (i : Int) rfl fun y' g' oy' u bl n => let_to ?_
        rw [wrap_i64 (by omega) (by omega)]
        have sx2 : Sep x s2' := Sep.fresh ox.lt o2.above
        have sy2 : Sep y s2' := Sep.fresh oy.lt o2.above
        have hTi : T[i]? = some 0 := by simpa [is0] using h0
        have hiT : i < T.length := by omega
        have q1 : is0 T 1 i = false := by unfold is0; rw [hTi]; decide
        have q2 : is0 T 2 i = false := by unfold is0; rw [hTi]; decide
        have hlen : (pk (is0 (evT D a b (k + 1)) 0) D.length).length + 1 = (pk (is0 T 0) D.length).length := by
          have := (List.getElem?_eq_some_iff.1 hv).1
          rw [hdel, List.length_append, List.length_take, List.length_drop]; omega
        have ol' := (o2.weaken xe.size).sep u sy2.symm
        refine hR _ ⟨k + 1, lx, ly ++ [(i : Int)], rfl, by omega, ((xe.trans x2).bel.trans (bl.mono (Nat.le_refl _))).ext, (ox.ext x2).sep u s1, hx0, ?_, oy', by simp, ?_, ol', ?_, ?_, ?_⟩ (by have := o2.row.len; simp only; omega)
        · rw [hset, show pk (is0 (T.set i 2) 1) D.length = pk (is0 T 1) D.length from pk_congr fun j _ => by rw [set_is hiT hTi]; split; (subst j; rw [q1]; decide); rfl]
          exact px
        · rw [hset]
          exact (py.append_right _).trans (pk_add (r := is0 (T.set i 2) 2) hi q2 fun j => by rw [set_is hiT hTi]; split; (subst j; simp); (rename_i hj; simp [hj])).symm
        · exact (s1.symm.app n (ox.ext x2).lt).symm
        · exact sx2
        · exact sy2.app n o2.lt
    · have hnil : pk (is0 T 0) D.length = [] := List.length_eq_zero_iff.1 (by omega)
      have hno : ∀ j : Nat, j < D.length → T[j]? ≠ some 0 := fun j hj h0 => by
        have : (j : Int) ∈ pk (is0 T 0) D.length := pk_mem.2 ⟨j, hj, by simpa [is0] using h0, rfl⟩
        rw [hnil] at this; cases this
      have hN : evT D a b D.length = T := by rw [← hT]; exact evT_stay (by rw [hT]; exact hno) _ (by omega)
      rw [hN] at hK
      unfold J2_part_even
      refine c_Sort_ints ox hx0 (by omega) fun g5 ox5 u5 => c_Sort_ints (oy.sep u5 s1.symm) hy0 (by omega) fun g6 oy6 u6 => ?_
      rw [srt_merge px] at ox5
      rw [srt_merge py] at oy6
      have bl5 := u5.bel xe.size ox.above
      have bl6 := u6.bel (Nat.le_trans xe.size u5.1) oy.above
      refine hK x y g6 (ox5.sep u6 s1) ?_ ((xe.bel.trans bl5).trans bl6).ext
      rw [show pk (fun i => !is0 T 1 i) D.length = pk (is0 T 2) D.length from pk_congr fun i hi => ?_]
      · exact oy6
      · unfold is0
        rcases hI.vals i hi with h | h | h
        · exact (hno i hi h).elim
        · rw [h]; decide
        · rw [h]; decide
theorem c_pDiv {h : Hp} {d : Sl} {D : List (List Int)} (r : Mat h d D) (hD : D.length ≤ 30) {a b pol : Int} {K : Sl → Sl → Hp → Prop}
    (hK : ∀ x y h', ON h.size h' x (dv D a b pol).1 → ON h.size h' y (dv D a b pol).2 → Ext h h' → K x y h') : C_part_Divide d a b pol h K := by
  have hl := r.len
  refine F_part_Divide_ok _ _ _ _ _ _ ?_
  unfold F_part_Divide
  rw [Jn_eq]
  have no : (a < 0 ∨ b < 0 ∨ a ≥ D.length ∨ b ≥ D.length ∨ a = b) → K ⟨none, 0, 0⟩ ⟨none, 0, 0⟩ h := fun hn => by
    unfold dv at hK; rw [if_pos hn] at hK
    exact hK _ _ h (OwnRow.nil _ _ _ _) (OwnRow.nil _ _ _ _) (Ext.refl _)
  refine cnd_dec.2 ⟨fun h1 => no (.inl h1), fun h1 => cnd_dec.2 ⟨fun h2 => no (.inr (.inl h2)), fun h2 => cnd_dec.2 ⟨fun h3 => no (.inr (.inr (.inl (by omega)))), fun h3 => cnd_dec.2 ⟨fun h4 => no (.inr (.inr (.inr (.inl (by omega))))), fun h4 => cnd_beq.2 ⟨fun h5 => no (.inr (.inr (.inr (.inr h5)))), fun h5 => ?_⟩⟩⟩⟩⟩
  unfold dv at hK
  rw [if_neg (by omega)] at hK
  obtain ⟨a', rfl⟩ : ∃ a' : Nat, a = a' := ⟨a.toNat, by omega⟩
  obtain ⟨b', rfl⟩ : ∃ b' : Nat, b = b' := ⟨b.toNat, by omega⟩
  simp only [Int.toNat_natCast] at hK
  unfold J1_part_Divide
  refine cnd_beq.2 ⟨fun hp => ?_, fun hp => ?_⟩
  · subst hp
    exact c_plane r hD (by omega) fun x y h' o1 o2 x => hK _ _ h' o1 o2 x
  · have e : ∀ i, toA D a' b' pol i = is0 (evT D a' b' D.length) 1 i := fun i => by unfold toA; rw [if_neg hp]
    have e1 : toA D a' b' pol = is0 (evT D a' b' D.length) 1 := funext e
    rw [e1] at hK
    exact c_even r hD (by omega) (by omega) (by omega) fun x y h' o1 o2 x => hK _ _ h' o1 o2 x
end Go.Proofs.YtkldaoachbbhnaaF
