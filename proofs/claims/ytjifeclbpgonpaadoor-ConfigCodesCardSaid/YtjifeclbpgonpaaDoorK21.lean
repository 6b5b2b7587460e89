/- The twenty-first part of the layer: the middle of own slices: copy, append of zeros, clear, overlaps. No condition. -/
import Derived.Test.YtjifeclbpgonpaaDoorK20
namespace Go.Proofs.YtjifeclbpgonpaaDoorK
open Go Go.RowKit
set_option linter.unusedSimpArgs false
set_option linter.unusedVariables false

theorem wpS_storeCells {P : Program} {b o : Nat} : ∀ {vs : List Value} {i : Nat} {h : Hp} {c : Array Value} {K : Unit → Hp → Prop}, Blk h b c → (∀ v ∈ vs, oneCell v = true) → o + i + vs.length ≤ c.size →
    (∀ h', Blk h' b (setMany c (o + i) vs) → Only b h h' → h'.size = h.size → K () h') → wpS P (storeCells ⟨b, o, none⟩ vs i) h K
  | [], i, h, c, K, bk, _, _, hK => hK h bk (Only.refl _ _) rfl
  | v :: vs, i, h, c, K, bk, one, ho, hK => by
    simp only [List.length_cons] at ho
    unfold storeCells
    rw [wpS_bindI, add_mk]
    have hv := one v (by simp)
    have hs : stC h ⟨b, o + i, none⟩ (wpS P (storeCells ⟨b, o, none⟩ vs (i + 1)) (hset h ⟨b, o + i, none⟩ v) K) := by
      refine stC_blk bk (by omega) ?_
      refine wpS_storeCells (bk.set (o + i) v) (fun u hu => one u (by simp [hu])) (by simp; omega) fun h' b' o' z' => hK h' ?_ ((hset_only h ⟨b, o + i, none⟩ v).trans o') (by rw [z', hset_size])
      rw [show o + (i + 1) = o + i + 1 by omega] at b'
      exact b'
    cases v <;> first
      | exact hs
      | (simp [oneCell] at hv; done)
theorem setMany_toList {c : Array Value} {o : Nat} {vs : List Value} (ho : o + vs.length ≤ c.size) : (setMany c o vs).toList = c.toList.take o ++ vs ++ c.toList.drop (o + vs.length) := by
  have lt : (c.toList.take o).length = o := by rw [List.length_take, Array.length_toList]; omega
  apply List.ext_getElem?
  intro j
  rw [Array.getElem?_toList, setMany_get, List.append_assoc]
  by_cases h1 : j < o
  · rw [if_neg (by omega), List.getElem?_append_left (by omega), List.getElem?_take, if_pos h1, Array.getElem?_toList]
  · rw [List.getElem?_append_right (by omega), lt]
    by_cases h2 : j < o + vs.length
    · rw [if_pos ⟨by omega, h2, by omega⟩, List.getElem?_append_left (by omega)]
    · rw [if_neg (by omega), List.getElem?_append_right (by omega), List.getElem?_drop, Array.getElem?_toList]
      congr 1; omega
theorem row_cell {α : Type} {enc : α → List Value} {size : Nat} (hE : Enc enc size) {h : Hp} {s : Sl} {l : List α} (r : IsRow enc size h s l) {a : Addr} (ha : s.a = some a) {j : Nat} (hj : j < l.length * size) : hcell h (a.add j) = (l.flatMap enc)[j]? := by
  have hs : 0 < size := by rcases Nat.eq_zero_or_pos size with h | h; (subst h; simp at hj); exact h
  have hq : j / size < l.length := (Nat.div_lt_iff_lt_mul hs).2 hj
  have hx : l[j / size]? = some l[j / size] := List.getElem?_eq_getElem hq
  have h1 := r.get a (j / size) _ ha hx (j % size) (by rw [hE.len]; exact Nat.mod_lt _ hs)
  rw [add_add, Nat.div_add_mod'] at h1
  have h2 := flat_get hE hx (Nat.mod_lt j hs)
  rw [Nat.div_add_mod'] at h2
  rw [h1, h2]
theorem flat_one_cell {α : Type} {enc : α → List Value} {size : Nat} (hE : Enc enc size) {l : List α} : ∀ v ∈ l.flatMap enc, oneCell v = true := fun v hv => by
  obtain ⟨y, _, hy⟩ := List.mem_flatMap.1 hv
  exact hE.one y v hy
/-- 'copy' into the middle of a block. -/
theorem cp_cells {b : Nat} {c : Array Value} {h : Hp} (bk : Blk h b c) {o size dlen n : Nat} {t : Sl} {vs : List Value} (hn : n = min t.len dlen) (hl : vs.length = n * size) (ha : ∀ a, t.a = some a → ∀ i, i < vs.length → hcell h (a.add i) = vs[i]?) (h0 : t.a = none → vs = [])
    (one : ∀ v ∈ vs, oneCell v = true) (ho : o + vs.length ≤ c.size) {K : Nat → Hp → Prop} (hK : ∀ h', Blk h' b (setMany c o vs) → Only b h h' → h'.size = h.size → K n h') : cpS size (some ⟨b, o, none⟩) dlen (.slice t.a t.len t.cap) h K := by
  subst hn
  unfold cpS
  simp only
  have fin : (∀ i, i < vs.length → (hcell h (Addr.add ⟨b, o, none⟩ i)).isSome = true ∧ hfrozen h (Addr.add ⟨b, o, none⟩ i) = false) ∧ (∀ v ∈ vs, oneCell v = true) ∧ K (min t.len dlen) (hsets h ⟨b, o, none⟩ vs 0) := by
    obtain ⟨e, bk'⟩ := bk
    refine ⟨fun i hi => ?_, one, hK _ ⟨e, by have := hsets_block (o := o) vs 0 bk'; simpa using this⟩ (hsets_only (a := ⟨b, o, none⟩) vs 0 h) (hsets_size _ _ _ _)⟩
    rw [add_mk, hcell_of bk', hfrozen_of bk', Array.getElem?_eq_getElem (by omega)]
    exact ⟨rfl, rfl⟩
  cases hta : t.a with
  | none =>
    have := h0 hta
    subst this
    exact fin
  | some a => exact ⟨vs, hl, fun i hi => ha a hta i (by omega), fin⟩
/-- 's[lo:hi]' within a block. -/
theorem slc_at {b o len cap m n size : Nat} {lo hi : Option Int} (hlo : lo.getD 0 = m) (hhi : hi.getD len = n) (h1 : m ≤ n) (h2 : n ≤ cap) (h3 : m < cap) {K : Option Addr → Nat → Nat → Prop} (hK : K (some ⟨b, o + m * size, none⟩) (n - m) (cap - m)) :
    slcS (some ⟨b, o, none⟩) len cap lo hi size K := by
  unfold slcS
  rw [hlo, hhi]
  refine ⟨⟨by omega, by omega⟩, ⟨by omega, by omega⟩, ?_⟩
  simp only [Int.toNat_natCast]
  rw [if_neg (by omega)]
  simp only [Option.map_some, add_mk]
  exact hK
/-- Any part of a slice, where its address matters not. -/
theorem slc_any {a : Option Addr} {len cap m n size : Nat} {lo hi : Option Int} (hlo : lo.getD 0 = m) (hhi : hi.getD len = n) (h1 : m ≤ n) (h2 : n ≤ cap) {K : Option Addr → Nat → Nat → Prop} (hK : K (if cap = m then a else a.map (·.add (m * size))) (n - m) (cap - m)) :
    slcS a len cap lo hi size K := by
  unfold slcS
  rw [hlo, hhi]
  refine ⟨⟨by omega, by omega⟩, ⟨by omega, by omega⟩, ?_⟩
  simp only [Int.toNat_natCast]
  exact hK
/-- append within the capacity. -/
theorem app_fit {α : Type} {enc : α → List Value} {size : Nat} (hE : Enc enc size) {B : Nat} {h : Hp} {s t : Sl} {l ys : List α} (own : OwnRow enc size B h s l) (src : IsRow enc size h t ys) (hfit : l.length + ys.length ≤ s.cap) {e bytes : Nat} {zero : List Value}
    {K : Sl → Hp → Prop} (hk : ∀ h', OwnRow enc size B h' ⟨s.a, l.length + ys.length, s.cap⟩ (l ++ ys) → OnlyS s h h' → h'.size = h.size → K ⟨s.a, l.length + ys.length, s.cap⟩ h') : appS e size bytes zero s.a s.len s.cap (.slice t.a t.len t.cap) h K := by
  have hl := own.row.len
  have htl := src.len
  refine (show srcLen (.slice t.a t.len t.cap) _ from ?_)
  show appB e size bytes zero s.a s.len s.cap (.slice t.a t.len t.cap) h K t.len
  refine ⟨fun _ => srcCells_row hE src ?_, fun hg => by omega⟩
  rw [hl, htl]
  rcases own.own with ⟨h1, h2⟩ | ⟨b, c, el, h1, h2, h3, h4⟩
  · have e1 : l = [] := List.length_eq_zero_iff.1 (by omega)
    have e2 : ys = [] := List.length_eq_zero_iff.1 (by omega)
    subst e1; subst e2
    rw [h1, h2]
    refine ⟨rfl, ?_⟩
    have := hk h
    rw [h1, h2] at this
    exact this ⟨⟨rfl, Nat.le_refl _, fun hne => (hne rfl).elim, fun a i x ha hx => by cases hx⟩, .inl ⟨rfl, rfl⟩⟩ ⟨Nat.le_refl _, fun _ _ _ => rfl⟩ rfl
  · rw [h1]
    have hfl := flat_len hE ys
    have hcs : (l.length + ys.length) * size ≤ s.cap * size := Nat.mul_le_mul_right _ hfit
    rw [Nat.add_mul] at hcs
    have ha : Addr.add ⟨b, 0, none⟩ (l.length * size) = ⟨b, l.length * size, none⟩ := by rw [add_mk, Nat.zero_add]
    refine ⟨fun i hi => ?_, flat_one_cell hE, ?_⟩
    · rw [hfl] at hi
      rw [add_mk, hcell_of h3, hfrozen_of h3]
      refine ⟨?_, rfl⟩
      rw [Array.getElem?_eq_getElem (by omega)]; rfl
    · have hblk := hsets_block (e := el) (fr := (0, 0)) (b := b) (o := l.length * size) (ys.flatMap enc) 0 h3
      rw [ha]
      have := hk (hsets h ⟨b, l.length * size, none⟩ (ys.flatMap enc) 0)
      rw [h1] at this
      refine this ⟨isRow_block hE hblk (by simp) hfit fun i hi => ?_, .inr ⟨b, _, el, rfl, h2, hblk, by rw [setMany_size]; exact h4⟩⟩ ?_ (hsets_size _ _ _ _)
      · rw [setMany_get, Nat.add_zero, hfl, List.flatMap_append]
        simp only [List.length_append, Nat.add_mul] at hi
        by_cases hi2 : l.length * size ≤ i
        · rw [if_pos ⟨hi2, by omega, by omega⟩, List.getElem?_append_right (by rw [flat_len hE]; exact hi2), flat_len hE]
        · rw [if_neg (by omega), List.getElem?_append_left (by rw [flat_len hE]; omega)]
          have := row_cell hE own.row h1 (j := i) (by omega)
          rw [add_mk, Nat.zero_add, hcell_of h3] at this
          exact this
      · refine ⟨by rw [hsets_size]; exact Nat.le_refl _, fun i hi hne => ?_⟩
        have := hsets_only (a := ⟨b, l.length * size, none⟩) (ys.flatMap enc) 0 h
        exact this.get i hi (hne ⟨b, 0, none⟩ h1)
theorem zeroCells_len (zero : List Value) (n : Nat) : (Builtin.zeroCells zero.toArray n).toList.length = n * zero.length := by simp [Builtin.zeroCells]
/-- append of zeros that grows: a new block. -/
theorem appZ_grow {α : Type} {enc : α → List Value} {size : Nat} (hE : Enc enc size) {h : Hp} {s : Sl} {l : List α} (row : IsRow enc size h s l) {e bytes : Nat} {zero : List Value} {z : Int} {m : Nat} (hz : z = m) (hg : s.cap < l.length + m) (hb : (l.length + m) * bytes ≤ 140737488355328) (hb2 : 0 < bytes ∧ bytes ≤ 65536) (hz0 : zero.length = size)
    {K : Sl → Hp → Prop} (hk : ∀ c h' (cs : Array Value), l.length + m ≤ c → Blk h' h.size cs → cs.size = c * size → cs.toList.take (l.length * size) = l.flatMap enc → Ext h h' → K ⟨some ⟨h.size, 0, none⟩, l.length + m, c⟩ h') : appZ e size bytes zero s.a s.len s.cap z h K := by
  subst hz
  have hl := row.len
  refine ⟨⟨by omega, hb2.1, ?_⟩, fun hf => by simp at hf; omega, fun _ => ⟨by simpa [hl] using hb, hb2.2, srcCells_row hE row fun c hc => ?_⟩⟩
  · have : m * bytes ≤ (l.length + m) * bytes := Nat.mul_le_mul_right _ (by omega)
    rw [← Int.natCast_mul]; omega
  · simp only [Int.toNat_natCast] at hc ⊢
    rw [hl] at hc ⊢
    refine hk c _ _ hc (Blk.new _ _ _) ?_ ?_ (Ext.push _ _)
    · simp only [List.size_toArray, List.length_append, flat_len hE, zeroCells_len, hz0]
      rw [← Nat.add_mul, ← Nat.add_mul]; congr 1; omega
    · simp only [List.append_assoc]
      rw [List.take_left' (flat_len hE l)]
theorem setMany_none (c : Array Value) (o : Nat) : setMany c o [] = c := rfl
/-- 'clear' of what stands behind a row in its own block. -/
theorem clear_tail {α : Type} {enc : α → List Value} {size : Nat} (hE : Enc enc size) {P : Program} {t e : TypeId} {i : TypeInfo} {z : Value} (ht : P.underlying t = some (.slice e)) (hi : P.info? e = some i) (hz : i.zero = some z) (hzs : z.cells.size = size) (hz1 : ∀ v ∈ z.cells.toList, oneCell v = true)
    {B : Nat} {h : Hp} {s : Sl} {l : List α} (own : OwnRow enc size B h s l) {m n : Nat} (hm : m = l.length) (hn : m + n ≤ s.cap) {ty : TypeId} {c : Nat} {K : Hp → Prop} (hk : ∀ h', OwnRow enc size B h' s l → OnlyS s h h' → h'.size = h.size → K h') :
    smU P (Builtin.clear_ #[t] ty #[.slice (if s.cap = m then s.a else s.a.map (·.add (m * size))) n c]) h K := by
  subst hm
  have hstep : ∀ (a : Addr) (K2 : Value → Hp → Prop), n ≠ 0 → wpS P (storeCells a (Builtin.zeroCells z.cells n).toList) h (fun _ h' => K2 (.tuple #[]) h') → wpS P (Builtin.clear_ #[t] ty #[.slice (some a) n c]) h K2 := by
    intro a K2 hn0 hw
    have hcl : Builtin.clear_ #[t] ty #[.slice (some a) n c] = (do
        match ← underlying t, (Value.slice (some a) n c) with
        | _, .map none | _, .slice none _ _ | _, .slice _ 0 _ => pure ()
        | _, .map (some r) =>
          let .map _ clock ← getObj r | stuck "clear: map expected"
          setObj r (.map #[] clock)
        | .slice elem, .slice (some a) n _ =>
          storeCells a (Builtin.zeroCells (← zeroValue elem).cells n).toList
        | _, _ => stuck "clear: map or slice expected"
        pure (.tuple #[])) := rfl
    rw [hcl, wpS_bindI, wpS_und ht]
    obtain ⟨k, rfl⟩ : ∃ k, n = k + 1 := ⟨n - 1, by omega⟩
    simp only [wpS_bindI]
    unfold zeroValue typeInfo
    simp only [wpS_bindI, wpS_program, hi, wpS_pure, hz]
    exact hw
  have hzero : ∀ (a : Option Addr) (K2 : Value → Hp → Prop), n = 0 → K2 (.tuple #[]) h → wpS P (Builtin.clear_ #[t] ty #[.slice a n c]) h K2 := by
    intro a K2 hn0 hk2
    subst hn0
    have hcl : Builtin.clear_ #[t] ty #[.slice a 0 c] = (do
        match ← underlying t, (Value.slice a 0 c) with
        | _, .map none | _, .slice none _ _ | _, .slice _ 0 _ => pure ()
        | _, .map (some r) =>
          let .map _ clock ← getObj r | stuck "clear: map expected"
          setObj r (.map #[] clock)
        | .slice elem, .slice (some a) n _ =>
          storeCells a (Builtin.zeroCells (← zeroValue elem).cells n).toList
        | _, _ => stuck "clear: map or slice expected"
        pure (.tuple #[])) := rfl
    rw [hcl, wpS_bindI, wpS_und ht]
    cases a with
    | none => exact hk2
    | some a => exact hk2
  by_cases hn0 : n = 0
  · exact hzero _ _ hn0 ⟨rfl, hk h own ⟨Nat.le_refl _, fun _ _ _ => rfl⟩ rfl⟩
  · rcases own.own with ⟨h1, h2⟩ | ⟨b, cs, el, h1, h2, h3, h4⟩
    · omega
    · rw [h1, if_neg (by omega)]
      simp only [Option.map_some, add_mk, Nat.zero_add]
      have hsz : (l.length + n) * size ≤ s.cap * size := Nat.mul_le_mul_right _ hn
      rw [Nat.add_mul] at hsz
      have hzl : (Builtin.zeroCells z.cells n).toList.length = n * size := by simp [Builtin.zeroCells, hzs]
      refine hstep _ _ hn0 (wpS_storeCells (i := 0) ⟨el, h3⟩ (fun v hv => ?_) (by rw [hzl]; omega) fun h' bk' o' z' => ⟨rfl, hk h' ?_ ⟨by omega, fun i hi hne => o'.get i hi (hne ⟨b, 0, none⟩ h1)⟩ z'⟩)
      · rw [Array.mem_toList_iff] at hv
        unfold Builtin.zeroCells at hv
        obtain ⟨j, hj, rfl⟩ := Array.mem_map.1 hv
        have hj : j < n * z.cells.size := by simpa using hj
        have hpos : 0 < z.cells.size := by rcases Nat.eq_zero_or_pos z.cells.size with h | h; (rw [h] at hj; simp at hj); exact h
        have hm : j % z.cells.size < z.cells.size := Nat.mod_lt _ hpos
        rw [getElem!_pos z.cells (j % z.cells.size) hm]
        exact hz1 _ (by simp)
      · obtain ⟨el', bk'⟩ := bk'
        have hr : s = ⟨some ⟨b, 0, none⟩, s.len, s.cap⟩ := by cases s; simp only at h1; subst h1; rfl
        refine ⟨?_, .inr ⟨b, _, el', h1, h2, bk', by rw [setMany_size]; exact h4⟩⟩
        rw [hr]
        refine isRow_block hE bk' own.row.len own.row.cap fun i hi => ?_
        rw [setMany_get, if_neg (by omega)]
        have := row_cell hE own.row h1 (j := i) hi
        rw [add_mk, Nat.zero_add, hcell_of h3] at this
        exact this
/-- Two blocks of one's own do not overlap. -/
theorem overlaps_no {P : Program} {t e : TypeId} {i : TypeInfo} {res : Array TypeId} (t2 : TypeId) (ht : P.underlying t = some (.slice e)) (hi : P.info? e = some i) {h : Hp} {b1 b2 o1 o2 l1 l2 c1 c2 : Nat} {a1 a2 : Array Value} (hb1 : Blk h b1 a1) (hb2 : Blk h b2 a2) (hne : b1 ≠ b2) {K : Value → Hp → Prop} (hK : K (.bool false) h) :
    wpS P (Extern.SlicesOverlaps.overlaps #[t, t2] res #[.slice (some ⟨b1, o1, none⟩) l1 c1, .slice (some ⟨b2, o2, none⟩) l2 c2]) h K := by
  obtain ⟨e1, hb1⟩ := hb1
  obtain ⟨e2, hb2⟩ := hb2
  have hf : ∀ {b : Nat} {c : Array Value} {el : TypeId} (o : Nat), h[b]? = some (.cells c el (0, 0)) → ∀ (K2 : Bool → Hp → Prop), K2 false h → wpS P (frozen ⟨b, o, none⟩) h K2 := fun o hb K2 hk => by
    show K2 (hfrozen h ⟨_, o, none⟩) h
    rw [hfrozen_of hb]; exact hk
  have hs : ∀ {b : Nat} {c : Array Value} {el : TypeId} (o : Nat), h[b]? = some (.cells c el (0, 0)) → ∀ (K2 : Bool → Hp → Prop), K2 false h → wpS P (stringish ⟨b, o, none⟩) h K2 := fun o hb K2 hk => by
    unfold stringish
    rw [wpS_bindI]
    refine hf o hb _ ?_
    simp only [Bool.false_eq_true, if_false, wpS_bindI, wpS_shape, hshape_of hb]
    exact hf _ hb _ hk
  have hm : wpS P (mayBeOne ⟨b1, o1, none⟩ ⟨b2, o2, none⟩) h fun r h' => r = false ∧ h' = h := by
    unfold mayBeOne
    simp only [wpS_bindI]
    refine hs o1 hb1 _ (hs o2 hb2 _ ?_)
    simp only [wpS_bindI, wpS_shape, wpS_pure, hshape_of hb1, hshape_of hb2, Bool.false_and, Bool.or_self]
    exact ⟨trivial, trivial⟩
  have hnv : ∀ {b : Nat} {c : Array Value} {el : TypeId} (o : Nat), h[b]? = some (.cells c el (0, 0)) → ∀ (K2 : Unit → Hp → Prop), K2 () h → wpS P (noView ⟨b, o, none⟩) h K2 := fun o hb K2 hk => by
    unfold noView
    simp only [wpS_bindI, wpS_viewAt hb]
    exact hk
  have hov : Extern.SlicesOverlaps.overlaps #[t, t2] res #[.slice (some ⟨b1, o1, none⟩) l1 c1, .slice (some ⟨b2, o2, none⟩) l2 c2] = (do
      let .slice elem ← underlying t | stuck "slices.overlaps: slice type expected"
      let size ← sizeOf elem
      if l1 = 0 ∨ l2 = 0 ∨ size = 0 then pure (.bool false)
      else if b1 != b2 && (← frozen ⟨b1, o1, none⟩) && (← frozen ⟨b2, o2, none⟩) then unsupported .addressObserved
      else do
        if b1 != b2 then do
          noView ⟨b1, o1, none⟩; noView ⟨b2, o2, none⟩
          if ← mayBeOne ⟨b1, o1, none⟩ ⟨b2, o2, none⟩ then return .bool ((← choose (.extern "sameAddr.stringBytes" 2)) == 1)
        pure (.bool (b1 == b2 && o1 < o2 + l2 * size && o2 < o1 + l1 * size))) := rfl
  have hbne : (b1 != b2) = true := by simpa using hne
  have hbe : (b1 == b2) = false := by simpa using hne
  rw [hov, wpS_bindI, wpS_und ht]
  simp only [wpS_bindI, wpS_sizeOf hi]
  by_cases h0 : l1 = 0 ∨ l2 = 0 ∨ i.size = 0
  · rw [if_pos h0]; exact hK
  · rw [if_neg h0]
    simp only [wpS_bindI]
    refine hf o1 hb1 _ (hf o2 hb2 _ ?_)
    simp only [hbne, hbe, Bool.and_false, Bool.false_eq_true, if_false, if_true, wpS_bindI]
    refine hnv o1 hb1 _ (hnv o2 hb2 _ ?_)
    refine hm.mono fun r h' ⟨hr, hh⟩ => ?_
    subst hr; subst hh
    simp only [Bool.false_eq_true, if_false, Bool.false_and]
    exact hK
end Go.Proofs.YtjifeclbpgonpaaDoorK
