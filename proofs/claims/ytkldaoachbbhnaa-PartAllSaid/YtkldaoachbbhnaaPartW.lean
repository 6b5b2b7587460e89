/- Chapter 25: a matrix read, how far things reach, which is nearest. No condition. -/
import Derived.Test.YtkldaoachbbhnaaPartPure
import Derived.Test.YtkldaoachbbhnaaLaySortI
import Derived.Test.YtkldaoachbbhnaaK21
namespace Go.Proofs.YtkldaoachbbhnaaF
open Go Go.Proofs.YtkldaoachbbhnaaK
set_option linter.unusedSimpArgs false
set_option linter.unusedVariables false

abbrev eN : Int → List Value := Go.Proofs.YtkldaoachbbhnaaK.encI .i64
theorem eN_ok : Enc eN 1 := encI_ok .i64
abbrev eSl (s : Sl) : List Value := [.slice s.a s.len s.cap]
theorem eSl_ok : Enc eSl 1 := ⟨fun _ => rfl, fun x v hv => by obtain rfl := List.mem_singleton.1 hv; rfl⟩
abbrev RN (h : Hp) (s : Sl) (l : List Int) : Prop := IsRow eN 1 h s l
abbrev ON (B : Nat) (h : Hp) (s : Sl) (l : List Int) : Prop := OwnRow eN 1 B h s l

theorem ref_Ints {sa sb : Sl} {la lb : List Int} {h : Hp} {K : Bool → Hp → Prop} (ra : RN h sa la) (rb : RN h sb lb) (hl : la.length ≤ 140737488355328) (hk : ∀ t : Bool, (t = true ↔ la = lb) → K t h) : C_ref07_Ints sa sb h K := by
  refine F_ref07_Ints_ok _ _ _ _ ?_
  unfold F_ref07_Ints
  rw [ra.len, rb.len, cnd_bne]
  refine ⟨fun hne => hk false ⟨fun e => (by cases e), fun e => (by subst e; exact (hne rfl).elim)⟩, fun heq => ?_⟩
  have heq : la.length = lb.length := by omega
  refine Lp.inv (fun st => ∃ k : Nat, st = (((((k : Int), ()), h)) : (Int × Unit) × Hp) ∧ k ≤ la.length ∧ ∀ i, i < k → la[i]? = lb[i]?) (fun st => la.length - st.1.1.toNat) ?_ ⟨0, rfl, by omega, fun i hi => by omega⟩
  rintro _ R ⟨k, rfl, hk1, hs⟩ hR
  unfold L1_ref07_Ints
  dsimp only
  refine cnd_dec.2 ⟨fun hlt => ?_, fun hge => ?_⟩
  · rw [ra.len] at hlt
    have hx : la[k]? = some (la[k]'(by omega)) := List.getElem?_eq_getElem (by omega)
    have hy : lb[k]? = some (lb[k]'(by omega)) := List.getElem?_eq_getElem (by omega)
    refine ld_int0 (i := (k : Int)) (x := la[k]'(by omega)) ra (by omega) (by rw [Int.toNat_natCast]; exact hx) (ld_int0 (i := (k : Int)) (x := lb[k]'(by omega)) rb (by omega) (by rw [Int.toNat_natCast]; exact hy) (cnd_bne.2 ⟨fun hne => hk false ⟨fun e => (by cases e), fun e => (by subst e; exact (hne rfl).elim)⟩, fun he => let_to ?_⟩))
    rw [wrap_i64 (by omega) (by omega)]
    refine hR _ ⟨k + 1, rfl, by omega, fun i hi => ?_⟩ (by simp only; omega)
    by_cases e : i = k
    · subst e; rw [hx, hy, he]
    · exact hs i (by omega)
  · rw [ra.len] at hge
    refine hk true ⟨fun _ => ?_, fun _ => rfl⟩
    apply List.ext_getElem?
    intro i
    by_cases hi : i < k
    · exact hs i hi
    · rw [List.getElem?_eq_none (by omega), List.getElem?_eq_none (by omega)]

/-- A matrix, as memory has it. -/
structure Mat (h : Hp) (s : Sl) (D : List (List Int)) : Prop where
  ex : ∃ ss : List Sl, IsRow eSl 1 h s ss ∧ ss.length = D.length ∧ ∀ (i : Nat) t, ss[i]? = some t → ∃ l, D[i]? = some l ∧ RN h t l
theorem Mat.len {h : Hp} {s : Sl} {D : List (List Int)} (r : Mat h s D) : s.len = D.length := by
  obtain ⟨ss, h1, h2, _⟩ := r.ex; rw [h1.len, h2]
theorem Mat.ext {h h' : Hp} {s : Sl} {D : List (List Int)} (r : Mat h s D) (x : Ext h h') : Mat h' s D := by
  obtain ⟨ss, h1, h2, h3⟩ := r.ex
  exact ⟨ss, h1.ext x, h2, fun i t ht => by obtain ⟨l, h4, h5⟩ := h3 i t ht; exact ⟨l, h4, h5.ext x⟩⟩
theorem ld_sl {h : Hp} {s : Sl} {ss : List Sl} (r : IsRow eSl 1 h s ss) {i : Int} {t : Sl} (h0 : 0 ≤ i) (hx : ss[i.toNat]? = some t) {K : Sl → Prop} (hk : K t) : idxS s.a s.len i 1 fun p => ldA .sl h p K :=
  ld_row r h0 hx fun a _ hc => ⟨t, hc.cell0 (v := .slice _ _ _) rfl, hk⟩
/-- Row i of a matrix. -/
theorem Mat.row {h : Hp} {s : Sl} {D : List (List Int)} (r : Mat h s D) {i : Nat} (hi : i < D.length) : ∃ (t : Sl) (l : List Int), D[i]? = some l ∧ RN h t l ∧ ∀ {z : Int} {K : Sl → Prop}, z = i → K t → idxS s.a s.len z 1 fun p => ldA .sl h p K := by
  obtain ⟨ss, h1, h2, h3⟩ := r.ex
  have ht : ss[i]? = some (ss[i]'(by omega)) := List.getElem?_eq_getElem _
  obtain ⟨l, hl, rl⟩ := h3 i _ ht
  exact ⟨_, l, hl, rl, fun hz hk => by subst hz; exact ld_sl h1 (by omega) (by simp) hk⟩
theorem at_to {h : Hp} {d : Sl} {D : List (List Int)} (r : Mat h d D) {i k : Int} {K : Int → Hp → Prop} (hK : K (rAt D i k) h) : cnd (decide (i < 0)) (K 0 h) (cnd (decide (k < 0)) (K 0 h) (cnd (decide (i ≥ (d.len : Int))) (K 0 h) (
    idxS d.a d.len i 1 fun (p5 : Addr) => ldA .sl h p5 fun (t6 : Sl) => cnd (decide (k ≥ (t6.len : Int))) (K 0 h) (
    idxS d.a d.len i 1 fun (p1 : Addr) => ldA .sl h p1 fun (t2 : Sl) => idxS t2.a t2.len k 1 fun (p3 : Addr) => ldA (.int .i64) h p3 fun (t4 : Int) => K t4 h)))) := by
  have hlen := r.len
  refine cnd_dec.2 ⟨fun hi => ?_, fun hi => cnd_dec.2 ⟨fun hk => ?_, fun hk => cnd_dec.2 ⟨fun hge => ?_, fun hlt => ?_⟩⟩⟩
  · unfold rAt at hK; rw [if_pos (.inl hi)] at hK; exact hK
  · unfold rAt at hK; rw [if_pos (.inr hk)] at hK; exact hK
  · unfold rAt at hK; rw [if_neg (by omega), List.getElem?_eq_none (by omega)] at hK; exact hK
  · obtain ⟨t, l, hl, rl, hld⟩ := r.row (i := i.toNat) (by omega)
    refine hld (by omega) ?_
    have hll := rl.len
    have hKe : rAt D i k = (l[k.toNat]?).getD 0 := by unfold rAt; rw [if_neg (by omega), hl]; rfl
    rw [hKe] at hK
    refine cnd_dec.2 ⟨fun hge => ?_, fun hlt => hld (by omega) ?_⟩
    · rw [List.getElem?_eq_none (by omega)] at hK; exact hK
    · have hx : l[k.toNat]? = some (l[k.toNat]'(by omega)) := List.getElem?_eq_getElem _
      rw [hx] at hK
      exact ld_int0 rl (by omega) hx hK
theorem c_pAt {h : Hp} {d : Sl} {D : List (List Int)} (r : Mat h d D) {i k : Int} {K : Int → Hp → Prop} (hK : K (rAt D i k) h) : C_part_at d i k h K := F_part_at_ok _ _ _ _ _ (at_to r hK)
theorem c_rAt {h : Hp} {d : Sl} {D : List (List Int)} (r : Mat h d D) {i k : Int} {K : Int → Hp → Prop} (hK : K (rAt D i k) h) : C_ref25_At d i k h K := F_ref25_At_ok _ _ _ _ _ (at_to r hK)

theorem c_pRad {h : Hp} {d m s : Sl} {D : List (List Int)} {M L : List Int} (r : Mat h d D) (rm : RN h m M) (rl : RN h s L) (hD : OkD D) (hM : ∀ x ∈ M, OkN x) (hL : L.length ≤ 4611686018427387904) {p : Int} {K : Int → Hp → Prop} (hK : K (rad D M p L) h) : C_part_Radius d m p s h K := by
  have hll := rl.len
  have hml := rm.len
  refine F_part_Radius_ok _ _ _ _ _ _ (Lp.inv (fun st => st.2 = h ∧ ∃ k : Nat, st.1.2.1 = (k : Int) ∧ k ≤ L.length ∧ st.1.1 = rad D M p (L.take k)) (fun st => L.length - st.1.2.1.toNat) ?_ ⟨rfl, 0, rfl, by omega, rfl⟩)
  rintro ⟨⟨n, i, ⟨⟩⟩, g⟩ R ⟨hg, k, hi, hk, hn⟩ hR
  simp only at hg hi hn
  subst hg; subst hi; subst hn
  unfold L1_part_Radius
  dsimp only
  refine cnd_dec.2 ⟨fun hlt => ?_, fun hge => ?_⟩
  · have hx : L[k]? = some (L[k]'(by omega)) := List.getElem?_eq_getElem _
    generalize (L[k]'(by omega)) = v at hx
    refine ld_int0 rl (by omega) (by simpa using hx) (c_pAt r ?_)
    have hr := rAt_ok hD p v
    have hm := mAt_ok hM v
    unfold OkN at hr hm
    have fin : ∀ z, z = rAt D p v + mAt M v → Let (if z > rad D M p (L.take k) then z else rad D M p (L.take k) : Int) fun t8 => Let (IntKind.wrap .i64 ((k : Int) + 1) : Int) fun t9 => R ((t8, t9, ()), g) := by
      intro z hz
      subst hz
      refine let_to (let_to ?_)
      rw [wrap_i64 (by omega) (by omega)]
      refine hR _ ⟨rfl, k + 1, rfl, by omega, ?_⟩ (by show L.length - ((k : Int) + 1).toNat < L.length - (k : Int).toNat; omega)
      rw [List.take_add_one, hx]
      exact (rad_snoc D M p _ v).symm
    rw [Jn_eq]
    have no : mAt M v = 0 → J1_part_Radius m (((rad D M p (L.take k), (k : Int), ()), g) : (Int × Int × Unit) × Hp) R v (rAt D p v) (false, ()) g := fun h0 => cnd_no rfl (fin _ (by omega))
    refine cnd_dec.2 ⟨fun h0 => ?_, fun h0 => no (by unfold mAt; rw [if_pos (by omega)])⟩
    by_cases hvm : v < (m.len : Int)
    · have hy : M[v.toNat]? = some (M[v.toNat]'(by omega)) := List.getElem?_eq_getElem _
      generalize (M[v.toNat]'(by omega)) = y at hy
      have hmy : mAt M v = y := by unfold mAt; rw [if_neg (by omega), hy]; rfl
      rw [decide_eq_true hvm]
      refine cnd_yes rfl (ld_int0 rm (by omega) hy (let_to ?_))
      rw [wrap_i64 (by omega) (by omega)]
      exact fin _ (by omega)
    · rw [decide_eq_false hvm]
      exact no (by unfold mAt; rw [if_neg (by omega), List.getElem?_eq_none (by omega)]; rfl)
  · obtain rfl : k = L.length := by omega
    rw [List.take_length]; exact hK
theorem c_rRad {h : Hp} {d m s : Sl} {D : List (List Int)} {M L : List Int} (r : Mat h d D) (rm : RN h m M) (rl : RN h s L) (hD : OkD D) (hM : ∀ x ∈ M, OkN x) (hL : L.length ≤ 4611686018427387904) {p : Int} {K : Int → Hp → Prop} (hK : K (rad D M p L) h) : C_ref25_Radius d m p s h K := by
  have hll := rl.len
  have hml := rm.len
  refine F_ref25_Radius_ok _ _ _ _ _ _ (Lp.inv (fun st => st.2 = h ∧ ∃ k : Nat, st.1.2.1 = (k : Int) ∧ k ≤ L.length ∧ st.1.1 = rad D M p (L.take k)) (fun st => L.length - st.1.2.1.toNat) ?_ ⟨rfl, 0, rfl, by omega, rfl⟩)
  rintro ⟨⟨n, i, ⟨⟩⟩, g⟩ R ⟨hg, k, hi, hk, hn⟩ hR
  simp only at hg hi hn
  subst hg; subst hi; subst hn
  unfold L1_ref25_Radius
  dsimp only
  refine cnd_dec.2 ⟨fun hlt => ?_, fun hge => ?_⟩
  · have hx : L[k]? = some (L[k]'(by omega)) := List.getElem?_eq_getElem _
    generalize (L[k]'(by omega)) = v at hx
    have ldv : ∀ {K : Int → Prop}, K v → idxS s.a s.len (k : Int) 1 fun p => ldA (.int .i64) g p K := fun hk => ld_int0 rl (by omega) (by simpa using hx) hk
    refine ldv (c_rAt r ?_)
    have hr := rAt_ok hD p v
    have hm := mAt_ok hM v
    unfold OkN at hr hm
    have fin : ∀ z, z = rAt D p v + mAt M v → Let (if z > rad D M p (L.take k) then z else rad D M p (L.take k) : Int) fun t8 => Let (IntKind.wrap .i64 ((k : Int) + 1) : Int) fun t9 => R ((t8, t9, ()), g) := by
      intro z hz
      subst hz
      refine let_to (let_to ?_)
      rw [wrap_i64 (by omega) (by omega)]
      refine hR _ ⟨rfl, k + 1, rfl, by omega, ?_⟩ (by show L.length - ((k : Int) + 1).toNat < L.length - (k : Int).toNat; omega)
      rw [List.take_add_one, hx]
      exact (rad_snoc D M p _ v).symm
    rw [Jn_eq]
    have no : mAt M v = 0 → J1_ref25_Radius m s (((rad D M p (L.take k), (k : Int), ()), g) : (Int × Int × Unit) × Hp) R (rAt D p v) (false, ()) g := fun h0 => cnd_no rfl (fin _ (by omega))
    refine ldv (cnd_dec.2 ⟨fun h0 => ldv ?_, fun h0 => no (by unfold mAt; rw [if_pos (by omega)])⟩)
    by_cases hvm : v < (m.len : Int)
    · have hy : M[v.toNat]? = some (M[v.toNat]'(by omega)) := List.getElem?_eq_getElem _
      generalize (M[v.toNat]'(by omega)) = y at hy
      have hmy : mAt M v = y := by unfold mAt; rw [if_neg (by omega), hy]; rfl
      rw [decide_eq_true hvm]
      refine cnd_yes rfl (ldv (ld_int0 rm (by omega) hy (let_to ?_)))
      rw [wrap_i64 (by omega) (by omega)]
      exact fin _ (by omega)
    · rw [decide_eq_false hvm]
      exact no (by unfold mAt; rw [if_neg (by omega), List.getElem?_eq_none (by omega)]; rfl)
  · obtain rfl : k = L.length := by omega
    rw [List.take_length]; exact hK

def Sep (x y : Sl) : Prop := ∀ a c, x.a = some a → y.a = some c → a.block ≠ c.block
theorem Sep.symm {x y : Sl} (h : Sep x y) : Sep y x := fun a c ha hc e => h c a hc ha e.symm
theorem Sep.fresh {x y : Sl} {n : Nat} (hx : ∀ a, x.a = some a → a.block < n) (hy : ∀ c, y.a = some c → n ≤ c.block) : Sep x y := fun a c ha hc e => by
  have := hx a ha; have := hy c hc; omega
theorem Sep.app {x y x' : Sl} {n : Nat} (h : Sep x y) (hx : x'.a = x.a ∨ ∃ b, x'.a = some ⟨b, 0, none⟩ ∧ n ≤ b) (hy : ∀ c, y.a = some c → c.block < n) : Sep x' y := fun a c ha hc e => by
  rcases hx with hx | ⟨b, hb, hn⟩
  · exact h a c (hx ▸ ha) hc e
  · rw [hb] at ha; cases ha; have := hy c hc; simp only at e; omega
theorem _root_.Go.Proofs.YtkldaoachbbhnaaK.OwnRow.sep {α : Type} {enc : α → List Value} {size B : Nat} {h h' : Hp} {s t : Sl} {l : List α} (r : OwnRow enc size B h t l) (u : OnlyS s h h') (sp : Sep t s) : OwnRow enc size B h' t l := r.onlyS u fun c hc a ha => sp a c ha hc
theorem _root_.Go.Proofs.YtkldaoachbbhnaaK.IsRow.sep {α : Type} {enc : α → List Value} {size : Nat} {h h' : Hp} {s t : Sl} {l : List α} (r : IsRow enc size h t l) (u : OnlyS s h h') (hlt : ∀ a, t.a = some a → a.block < h.size) (sp : Sep t s) : IsRow enc size h' t l := r.onlyS u hlt fun c hc a ha => sp a c ha hc
/-- A box of one number is a row of its own. -/
theorem _root_.Go.Proofs.YtkldaoachbbhnaaK.Blk.own1 {h : Hp} {b : Nat} {v : Int} (r : Blk h b #[.int .i64 v]) {B : Nat} (hB : B ≤ b) : ON B h ⟨some ⟨b, 0, none⟩, 1, 1⟩ [v] := by
  have hr : RN h ⟨some ⟨b, 0, none⟩, 1, 1⟩ [v] := Blk.row eN_ok r (l := [v]) (cap := 1) (by simp) rfl
  obtain ⟨e, r⟩ := r
  exact ⟨hr, .inr ⟨b, _, e, rfl, hB, r, rfl⟩⟩

theorem c_iGrow {h : Hp} {n : Nat} {z : Int} (hz : z = n) (hn : n * 8 ≤ 140737488355328) {K : Sl → Hp → Prop} (hK : ∀ s h', ON h.size h' s [] → Ext h h' → K s h') : C_slices_Grow_int_int ⟨none, 0, 0⟩ z h K := by
  subst hz
  refine F_slices_Grow_int_int_ok _ _ _ _ ?_
  unfold F_slices_Grow_int_int
  rw [Jn_eq]
  refine cnd_dec.2 ⟨fun hneg => by omega, fun _ => ?_⟩
  unfold J1_slices_Grow_int_int
  refine let_to (let_to ?_)
  have w : IntKind.wrap .i64 ((n : Int) - IntKind.wrap .i64 (((0 : Nat) : Int) - ((0 : Nat) : Int))) = (n : Int) := by
    rw [wrap_i64 (x := ((0 : Nat) : Int) - ((0 : Nat) : Int)) (by omega) (by omega), wrap_i64 (by omega) (by omega)]; omega
  simp only [w]
  refine cnd_dec.2 ⟨fun hpos => ?_, fun _ => hK _ h (OwnRow.nil _ _ _ _) (Ext.refl _)⟩
  refine slc_any (m := 0) (n := 0) rfl rfl (by omega) (by omega) ?_
  have e0 : (if (0 : Nat) = 0 then (none : Option Addr) else (none : Option Addr).map (·.add (0 * 1))) = none := by simp
  rw [e0]
  refine appZ_grow (s := ⟨none, 0, 0⟩) (l := ([] : List Int)) eN_ok (IsRow.nil _ _ _ _) (m := n) rfl (by simp; omega) (by simpa using hn) (by decide) rfl fun c h2 cs hc bk hcs _ x2 => ?_
  refine slc_to (n := 0) rfl (by simp) ?_
  obtain ⟨e, bk⟩ := bk
  refine hK _ h2 ⟨⟨rfl, by simp, fun hne => (hne rfl).elim, fun a i x ha hx => by cases hx⟩, .inr ⟨h.size, cs, e, rfl, Nat.le_refl _, bk, hcs⟩⟩ x2
theorem c_iConcat {h : Hp} {t sa sb : Sl} {la lb : List Int} (rt : IsRow eSl 1 h t [sa, sb]) (ra : RN h sa la) (rb : RN h sb lb) (hn : (la.length + lb.length) * 8 ≤ 140737488355328) {K : Sl → Hp → Prop} (hK : ∀ s h', ON h.size h' s (la ++ lb) → Ext h h' → K s h') : C_slices_Concat_int_int t h K := by
  have hlt := rt.len
  have hla := ra.len
  have hlb := rb.len
  simp only [List.length_cons, List.length_nil] at hlt
  have ld : ∀ {g : Hp} {i : Nat} {x : Sl} {K : Sl → Prop}, IsRow eSl 1 g t [sa, sb] → [sa, sb][i]? = some x → K x → idxS t.a t.len (i : Int) 1 fun p => ldA .sl g p K := fun r hx hk => ld_sl r (by omega) (by simpa using hx) hk
  refine F_slices_Concat_int_int_ok _ _ _ ?_
  unfold F_slices_Concat_int_int
  rw [Jn_eq]
  refine Lp.inv (fun st => st.2 = h ∧ ∃ k : Nat, st.1.2.1 = (k : Int) ∧ k ≤ 2 ∧ st.1.1 = (((([la, lb] : List (List Int)).take k).map List.length).sum : Int)) (fun st => 2 - st.1.2.1.toNat) ?_ ⟨rfl, 0, rfl, by omega, rfl⟩
  rintro ⟨⟨n', i', ⟨⟩⟩, g⟩ R ⟨rfl, k, rfl, hk, hn'⟩ hR
  simp only at hn'
  subst hn'
  unfold L2_slices_Concat_int_int
  dsimp only
  refine cnd_dec.2 ⟨fun hlt2 => ?_, fun hge => ?_⟩
  · have hk2 : k = 0 ∨ k = 1 := by omega
    rcases hk2 with rfl | rfl
    · refine ld (i := 0) rt rfl (let_to ?_)
      rw [hla, wrap_i64 (by simp <;> omega) (by simp <;> omega)]
      refine cnd_dec.2 ⟨fun hneg => by omega, fun _ => let_to (hR _ ⟨rfl, 1, rfl, by omega, by simp⟩ (by show 2 - (1 : Nat) < 2 - 0; omega))⟩
    · refine ld (i := 1) rt rfl (let_to ?_)
      rw [hlb, wrap_i64 (by simp <;> omega) (by simp <;> omega)]
      refine cnd_dec.2 ⟨fun hneg => by omega, fun _ => let_to (hR _ ⟨rfl, 2, rfl, by omega, by simp⟩ (by show 2 - (2 : Nat) < 2 - 1; omega))⟩
  · obtain rfl : k = 2 := by omega
    unfold J1_slices_Concat_int_int
    refine c_iGrow (n := la.length + lb.length) (by simp) hn fun s1 h2 o2 e2 => ?_
    have r2 := rt.ext e2
    refine ⟨3, ?_⟩
    show L1_slices_Concat_int_int t K _ (Lp _ 2)
    unfold L1_slices_Concat_int_int
    refine cnd_yes (decide_eq_true (by simp only; omega)) (ld (i := 0) r2 rfl ?_)
    refine app_row eN_ok (by decide) o2 (ra.ext e2) (by have := e2.size; omega) (by simp; omega) (by decide) rfl fun s3 h3 o3 u3 n3 => let_to ?_
    have e3 : Ext g h3 := (e2.bel.trans (u3.bel e2.size o2.above)).ext
    show L1_slices_Concat_int_int t K _ (Lp _ 1)
    unfold L1_slices_Concat_int_int
    refine cnd_yes (decide_eq_true (by simp only; rw [wrap_i64 (by omega) (by omega)]; omega)) ?_
    refine ld (i := 1) (rt.ext e3) rfl ?_
    refine app_row eN_ok (by decide) o3 (rb.ext e3) e3.size (by simpa using hn) (by decide) rfl fun s4 h4 o4 u4 n4 => let_to ?_
    have e4 : Ext g h4 := (e3.bel.trans (u4.bel e3.size o3.above)).ext
    show L1_slices_Concat_int_int t K _ (Lp _ 0)
    unfold L1_slices_Concat_int_int
    refine cnd_no (decide_eq_false (by simp only; rw [wrap_i64 (x := (0 : Int) + 1) (by omega) (by omega), wrap_i64 (by omega) (by omega)]; omega)) ?_
    simpa using hK s4 h4 (by simpa using o4) e4

theorem c_near {h : Hp} {d s : Sl} {D : List (List Int)} {L : List Int} (r : Mat h d D) (rl : RN h s L) (h0 : 0 < L.length) (hL : L.length ≤ 1000) {p : Int} {K : Int → Sl → Hp → Prop}
    (hK : ∀ (m : Nat) v s' h', L[m]? = some v → (∀ (j : Nat) x, L[j]? = some x → rAt D p v ≤ rAt D p x ∧ (j < m → rAt D p v < rAt D p x)) → ON h.size h' s' (L.take m ++ L.drop (m + 1)) → Ext h h' → K v s' h') : C_part_nearest d p s h K := by
  have hll := rl.len
  refine F_part_nearest_ok _ _ _ _ _ ?_
  unfold F_part_nearest
  rw [Jn_eq]
  refine Lp.inv (fun st => st.2 = h ∧ ∃ (k m : Nat) (v : Int), st.1.1 = (m : Int) ∧ st.1.2.1 = (k : Int) ∧ k ≤ L.length ∧ m ≤ k ∧ L[m]? = some v ∧ ∀ (j : Nat) x, j < k → L[j]? = some x → rAt D p v ≤ rAt D p x ∧ (j < m → rAt D p v < rAt D p x)) (fun st => L.length - st.1.2.1.toNat) ?_
    ⟨rfl, 0, 0, L[0], rfl, rfl, by omega, by omega, List.getElem?_eq_getElem h0, fun j x hj => by omega⟩
  rintro ⟨⟨b, i, ⟨⟩⟩, g⟩ R ⟨hg, k, m, v, hb, hi, hk, hmk, hv, hmin⟩ hR
  simp only at hg hb hi
  subst hg; subst hb; subst hi
  unfold L1_part_nearest
  dsimp only
  refine cnd_dec.2 ⟨fun hlt => ?_, fun hge => ?_⟩
  · have hx : L[k]? = some (L[k]'(by omega)) := List.getElem?_eq_getElem _
    generalize (L[k]'(by omega)) = x at hx
    refine ld_int0 rl (by omega) (by simpa using hx) (c_pAt r ⟨Ext.refl _, ld_int0 rl (by omega) (by simpa using hv) (c_pAt r ?_)⟩)
    refine cnd_dec.2 ⟨fun hxv => let_to ?_, fun hxv => let_to ?_⟩
    · rw [wrap_i64 (by omega) (by omega)]
      refine hR _ ⟨rfl, k + 1, k, x, rfl, rfl, by omega, by omega, hx, fun j y hj hy => ?_⟩ (by show L.length - ((k : Int) + 1).toNat < L.length - (k : Int).toNat; omega)
      rcases Nat.lt_or_ge j k with hjk | hjk
      · have := (hmin j y hjk hy).1; exact ⟨by omega, fun _ => by omega⟩
      · obtain rfl : j = k := by omega
        rw [hx] at hy; cases hy; exact ⟨by omega, fun h => by omega⟩
    · rw [wrap_i64 (by omega) (by omega)]
      refine hR _ ⟨rfl, k + 1, m, v, rfl, rfl, by omega, by omega, hv, fun j y hj hy => ?_⟩ (by show L.length - ((k : Int) + 1).toNat < L.length - (k : Int).toNat; omega)
      rcases Nat.lt_or_ge j k with hjk | hjk
      · exact hmin j y hjk hy
      · obtain rfl : j = k := by omega
        rw [hx] at hy; cases hy; exact ⟨by omega, fun h => by omega⟩
  · obtain rfl : k = L.length := by omega
    have hm := (List.getElem?_eq_some_iff.1 hv).1
    unfold J1_part_nearest
    refine ld_int0 rl (by simp only; omega) (by simpa using hv) ?_
    refine slc_row rl (m := 0) (n := m) rfl rfl (by omega) (by omega) fun ta ra _ => let_to ?_
    rw [wrap_i64 (by simp only; omega) (by simp only; omega)]
    refine slc_row rl (m := m + 1) (n := s.len) (by simp) rfl (by omega) (by omega) fun tb rb _ => push_to fun h1 b1 e1 z1 => let_to ⟨e1, ?_⟩
    have rt : IsRow eSl 1 h1 ⟨some ⟨g.size, 0, none⟩, 2, 2⟩ [ta, tb] := Blk.row eSl_ok b1 (l := [ta, tb]) (cap := 2) (by simp) (by simp)
    rw [hll, List.take_length] at rb
    rw [List.drop_zero] at ra
    refine c_iConcat rt (ra.ext e1) (rb.ext e1) (by simp only [List.length_take, List.length_drop]; omega) fun s2 h2 o2 e2 => ⟨e2, ?_⟩
    exact hK m v s2 h2 hv (fun j x hx => hmin j x (List.getElem?_eq_some_iff.1 hx).1 hx) (o2.weaken e1.size) (e1.trans e2)
end Go.Proofs.YtkldaoachbbhnaaF
