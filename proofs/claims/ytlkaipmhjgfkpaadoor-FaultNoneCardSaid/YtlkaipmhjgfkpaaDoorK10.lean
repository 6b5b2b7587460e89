/- The tenth part of the layer: rows of cells: those that are only read, those of the call's own; append. No condition. -/
import Derived.Test.YtlkaipmhjgfkpaaDoorK9
namespace Go.Proofs.YtlkaipmhjgfkpaaDoorK
open Go Go.RowKit
set_option linter.unusedSimpArgs false
set_option linter.unusedVariables false

/-- Below block B the heap is as it was. -/
structure Bel (B : Nat) (h h' : Hp) : Prop where
  size : h.size ≤ h'.size
  get : ∀ b, b < B → h'[b]? = h[b]?
theorem Bel.refl (B : Nat) (h : Hp) : Bel B h h := ⟨Nat.le_refl _, fun _ _ => rfl⟩
theorem Bel.trans {B : Nat} {a b c : Hp} (h : Bel B a b) (k : Bel B b c) : Bel B a c := ⟨Nat.le_trans h.size k.size, fun i hi => (k.get i hi).trans (h.get i hi)⟩
theorem Bel.mono {B B' : Nat} {a b : Hp} (h : Bel B a b) (hB : B' ≤ B) : Bel B' a b := ⟨h.size, fun i hi => h.get i (by omega)⟩
theorem Ext.bel {h h' : Hp} (e : Ext h h') : Bel h.size h h' := ⟨e.size, e.get⟩
theorem Bel.ext {h h' : Hp} (e : Bel h.size h h') : Ext h h' := ⟨e.size, e.get⟩
theorem Ext.belOf {h h' : Hp} (e : Ext h h') {B : Nat} (hB : B ≤ h.size) : Bel B h h' := ⟨e.size, fun b hb => e.get b (by omega)⟩
theorem Ext.thenBel {a b c : Hp} (h : Ext a b) (k : Bel a.size b c) : Ext a c := (h.bel.trans k).ext
theorem Bel.cell {B : Nat} {h h' : Hp} (e : Bel B h h') {a : Addr} (ha : a.block < B) : hcell h' a = hcell h a := by
  unfold hcell; rw [e.get _ ha]
theorem Bel.frozen {B : Nat} {h h' : Hp} (e : Bel B h h') {a : Addr} (ha : a.block < B) : hfrozen h' a = hfrozen h a := by
  unfold hfrozen; rw [e.get _ ha]
/-- Of the old blocks only block b may have turned. -/
structure Only (b : Nat) (h h' : Hp) : Prop where
  size : h.size ≤ h'.size
  get : ∀ i, i < h.size → i ≠ b → h'[i]? = h[i]?
theorem Only.refl (b : Nat) (h : Hp) : Only b h h := ⟨Nat.le_refl _, fun _ _ _ => rfl⟩
theorem Only.trans {b : Nat} {x y z : Hp} (h : Only b x y) (k : Only b y z) : Only b x z := ⟨Nat.le_trans h.size k.size, fun i hi hb => (k.get i (Nat.lt_of_lt_of_le hi h.size) hb).trans (h.get i hi hb)⟩
theorem Ext.only {h h' : Hp} (e : Ext h h') (b : Nat) : Only b h h' := ⟨e.size, fun i hi _ => e.get i hi⟩
theorem Only.bel {b B : Nat} {h h' : Hp} (e : Only b h h') (hB : B ≤ b) (hs : B ≤ h.size) : Bel B h h' := ⟨e.size, fun i hi => e.get i (by omega) (by omega)⟩

theorem add_block (a : Addr) (n : Nat) : (a.add n).block = a.block := by
  unfold Addr.add; split <;> rfl
theorem hset_size (h : Hp) (a : Addr) (v : Value) : (hset h a v).size = h.size := by simp [hset]
theorem hset_other {h : Hp} {a : Addr} {v : Value} {b : Nat} (hb : b ≠ a.block) : (hset h a v)[b]? = h[b]? := by
  unfold hset
  rw [Array.getElem?_modify, if_neg (fun e => hb e.symm)]
theorem hset_block {h : Hp} {b o : Nat} {c : Array Value} {e : TypeId} {fr : Nat × Nat} {v : Value} (hb : h[b]? = some (.cells c e fr)) : (hset h ⟨b, o, none⟩ v)[b]? = some (.cells (c.setIfInBounds o v) e fr) := by
  unfold hset
  rw [Array.getElem?_modify, if_pos rfl, hb]; rfl
theorem hcell_of {h : Hp} {b o : Nat} {c : Array Value} {e : TypeId} {fr : Nat × Nat} (hb : h[b]? = some (.cells c e fr)) : hcell h ⟨b, o, none⟩ = c[o]? := by
  unfold hcell; simp only [hb]; rfl
theorem hfrozen_of {h : Hp} {b o : Nat} {c : Array Value} {e : TypeId} (hb : h[b]? = some (.cells c e (0, 0))) : hfrozen h ⟨b, o, none⟩ = false := by
  unfold hfrozen; simp only [hb]; simp
theorem hset_only (h : Hp) (a : Addr) (v : Value) : Only a.block h (hset h a v) := ⟨by rw [hset_size]; exact Nat.le_refl _, fun i _ hi => hset_other hi⟩

def setMany (c : Array Value) (o : Nat) : List Value → Array Value
  | [] => c
  | v :: vs => setMany (c.setIfInBounds o v) (o + 1) vs
theorem setMany_size : ∀ (vs : List Value) (c : Array Value) (o : Nat), (setMany c o vs).size = c.size
  | [], c, o => rfl
  | v :: vs, c, o => by rw [setMany, setMany_size]; simp
theorem setMany_get : ∀ (vs : List Value) (c : Array Value) (o j : Nat), (setMany c o vs)[j]? = if o ≤ j ∧ j < o + vs.length ∧ j < c.size then vs[j - o]? else c[j]?
  | [], c, o, j => by rw [if_neg (by simp; omega)]; rfl
  | v :: vs, c, o, j => by
    rw [setMany, setMany_get vs]
    simp only [Array.size_setIfInBounds, Array.getElem?_setIfInBounds, List.length_cons]
    by_cases h1 : o = j
    · subst h1
      rw [if_neg (by omega)]
      by_cases h2 : o < c.size
      · rw [if_pos rfl, if_pos h2, if_pos (by omega)]; simp
      · rw [if_pos rfl, if_neg h2, if_neg (by omega)]; simp; omega
    · rw [if_neg h1]
      by_cases h2 : o + 1 ≤ j ∧ j < o + 1 + vs.length ∧ j < c.size
      · rw [if_pos h2, if_pos (by omega), show j - o = (j - (o + 1)) + 1 by omega]; simp
      · rw [if_neg h2, if_neg (by omega)]
theorem hsets_block {e : TypeId} {fr : Nat × Nat} {b o : Nat} : ∀ (vs : List Value) (i : Nat) {h : Hp} {c : Array Value}, h[b]? = some (.cells c e fr) → (hsets h ⟨b, o, none⟩ vs i)[b]? = some (.cells (setMany c (o + i) vs) e fr)
  | [], i, h, c, hb => hb
  | v :: vs, i, h, c, hb => by
    rw [hsets, setMany, add_mk]
    exact hsets_block vs (i + 1) (hset_block hb)
theorem hsets_only {a : Addr} : ∀ (vs : List Value) (i : Nat) (h : Hp), Only a.block h (hsets h a vs i)
  | [], i, h => Only.refl _ h
  | v :: vs, i, h => by
    rw [hsets]
    have := hset_only h (a.add i) v
    rw [add_block] at this
    exact this.trans (hsets_only vs (i + 1) _)
theorem hsets_size (h : Hp) (a : Addr) : ∀ (vs : List Value) (i : Nat), (hsets h a vs i).size = h.size
  | [], i => rfl
  | v :: vs, i => by rw [hsets, hsets_size, hset_size]

/-! Rows. A thing of kind α takes the cells 'enc x', 'size' of them. -/
structure Enc {α : Type} (enc : α → List Value) (size : Nat) : Prop where
  len : ∀ x, (enc x).length = size
  one : ∀ x, ∀ v ∈ enc x, oneCell v = true
/-- A slice that reads as l. -/
structure IsRow {α : Type} (enc : α → List Value) (size : Nat) (h : Hp) (s : Sl) (l : List α) : Prop where
  len : s.len = l.length
  cap : s.len ≤ s.cap
  at_ : l ≠ [] → ∃ a, s.a = some a
  get : ∀ a i x, s.a = some a → l[i]? = some x → cellsAt h (a.add (i * size)) (enc x)
theorem cellsAt_ext {h h' : Hp} (e : Ext h h') {a : Addr} {cs : List Value} (hc : cellsAt h a cs) : cellsAt h' a cs := by
  intro j hj
  have := hc j hj
  rw [List.getElem?_eq_getElem hj] at this ⊢
  exact e.cell this
theorem IsRow.ext {α : Type} {enc : α → List Value} {size : Nat} {h h' : Hp} {s : Sl} {l : List α} (r : IsRow enc size h s l) (e : Ext h h') : IsRow enc size h' s l :=
  ⟨r.len, r.cap, r.at_, fun a i x ha hx => cellsAt_ext e (r.get a i x ha hx)⟩
theorem cellsAt_bel {B : Nat} {h h' : Hp} (e : Bel B h h') {a : Addr} {cs : List Value} (ha : a.block < B) (hc : cellsAt h a cs) : cellsAt h' a cs := by
  intro j hj
  rw [e.cell (by rw [add_block]; exact ha)]; exact hc j hj
/-- The slice's block lies below B. -/
def SBelow (s : Sl) (B : Nat) : Prop := ∀ a, s.a = some a → a.block < B
theorem IsRow.bel {α : Type} {enc : α → List Value} {size B : Nat} {h h' : Hp} {s : Sl} {l : List α} (r : IsRow enc size h s l) (hs : SBelow s B) (e : Bel B h h') : IsRow enc size h' s l :=
  ⟨r.len, r.cap, r.at_, fun a i x ha hx => cellsAt_bel e (by rw [add_block]; exact hs a ha) (r.get a i x ha hx)⟩
theorem IsRow.nil {α : Type} (enc : α → List Value) (size : Nat) (h : Hp) (c : Nat) : IsRow enc size h ⟨none, 0, c⟩ [] :=
  ⟨rfl, Nat.zero_le _, fun h => (h rfl).elim, fun a i x ha => (by cases ha)⟩
theorem IsRow.cell {α : Type} {enc : α → List Value} {size : Nat} {h : Hp} {s : Sl} {l : List α} (r : IsRow enc size h s l) {a : Addr} (ha : s.a = some a) {i : Nat} {x : α} (hx : l[i]? = some x) {j : Nat} {v : Value} (hv : (enc x)[j]? = some v) :
    hcell h ((a.add (i * size)).add j) = some v := by
  have hj : j < (enc x).length := (List.getElem?_eq_some_iff.1 hv).1
  rw [r.get a i x ha hx j hj, hv]

/-- A slice of the call's own that reads as l: nil, or at the head of a block from B on, of which no cell is frozen. -/
structure OwnRow {α : Type} (enc : α → List Value) (size : Nat) (B : Nat) (h : Hp) (s : Sl) (l : List α) : Prop where
  row : IsRow enc size h s l
  own : (s.a = none ∧ s.cap = 0) ∨ ∃ b c e, s.a = some ⟨b, 0, none⟩ ∧ B ≤ b ∧ h[b]? = some (.cells c e (0, 0)) ∧ c.size = s.cap * size
theorem OwnRow.nil {α : Type} (enc : α → List Value) (size B : Nat) (h : Hp) : OwnRow enc size B h ⟨none, 0, 0⟩ [] := ⟨IsRow.nil enc size h 0, .inl ⟨rfl, rfl⟩⟩
theorem block_lt {h : Hp} {b : Nat} {o : Obj} (hb : h[b]? = some o) : b < h.size := (Array.getElem?_eq_some_iff.1 hb).1
theorem OwnRow.ext {α : Type} {enc : α → List Value} {size B : Nat} {h h' : Hp} {s : Sl} {l : List α} (r : OwnRow enc size B h s l) (e : Ext h h') : OwnRow enc size B h' s l :=
  ⟨r.row.ext e, r.own.imp id fun ⟨b, c, el, h1, h2, h3, h4⟩ => ⟨b, c, el, h1, h2, by rw [e.get b (block_lt h3)]; exact h3, h4⟩⟩

theorem flat_len {α : Type} {enc : α → List Value} {size : Nat} (hE : Enc enc size) : ∀ l : List α, (l.flatMap enc).length = l.length * size
  | [] => by simp
  | x :: l => by simp [hE.len, flat_len hE l, Nat.add_mul]; omega
theorem flat_get {α : Type} {enc : α → List Value} {size : Nat} (hE : Enc enc size) : ∀ {l : List α} {i j : Nat} {x : α}, l[i]? = some x → j < size → (l.flatMap enc)[i * size + j]? = (enc x)[j]?
  | [], i, j, x, h, _ => by cases h
  | y :: l, 0, j, x, h, hj => by
    simp at h; subst h
    simp only [List.flatMap_cons, Nat.zero_mul, Nat.zero_add]
    rw [List.getElem?_append_left (by rw [hE.len]; exact hj)]
  | y :: l, i + 1, j, x, h, hj => by
    simp only [List.flatMap_cons]
    rw [List.getElem?_append_right (by rw [hE.len, Nat.add_mul]; omega), hE.len, show (i + 1) * size + j - size = i * size + j by rw [Nat.add_mul]; omega]
    exact flat_get hE (by simpa using h) hj

theorem srcCells_row {α : Type} {enc : α → List Value} {size : Nat} (hE : Enc enc size) {h : Hp} {s : Sl} {l : List α} (r : IsRow enc size h s l) {K : List Value → Prop} (hk : K (l.flatMap enc)) :
    srcCells h (s.len * size) (.slice s.a s.len s.cap) K := by
  have hlen : (l.flatMap enc).length = l.length * size := by
    induction l generalizing s with
    | nil => simp
    | cons x l ih =>
      have : (l.flatMap enc).length = l.length * size := by
        clear hk ih r
        induction l with
        | nil => simp
        | cons y l ih2 => simp [hE.len, ih2, Nat.add_mul]; omega
      simp [hE.len, this, Nat.add_mul]; omega
  cases hs : s.a with
  | none =>
    have : l = [] := Classical.byContradiction fun h => by obtain ⟨a, ha⟩ := r.at_ h; rw [hs] at ha; cases ha
    subst this
    exact hk
  | some a =>
    refine ⟨l.flatMap enc, by rw [hlen, r.len], fun i hi => ?_, hk⟩
    rw [r.len] at hi
    have hsz : 0 < size := by
      rcases Nat.eq_zero_or_pos size with h0 | h0
      · subst h0; simp at hi
      · exact h0
    have hq : i / size < l.length := (Nat.div_lt_iff_lt_mul hsz).2 hi
    have hx : l[i / size]? = some l[i / size] := List.getElem?_eq_getElem hq
    have hc := r.get a (i / size) _ hs hx (i % size) (by rw [hE.len]; exact Nat.mod_lt _ hsz)
    rw [add_add, Nat.div_add_mod'] at hc
    rw [hc]
    clear hc hk r hs hlen
    induction l generalizing i with
    | nil => simp at hq
    | cons y l ih =>
      by_cases h0 : i < size
      · have e0 : i / size = 0 := Nat.div_eq_of_lt h0
        simp only [e0, List.getElem_cons_zero, Nat.mod_eq_of_lt h0, List.flatMap_cons]
        rw [List.getElem?_append_left (by rw [hE.len]; exact h0)]
      · have e1 : i / size = (i - size) / size + 1 := by
          rw [Nat.div_eq_sub_div hsz (by omega)]
        have hi2 : i - size < l.length * size := by simp [Nat.add_mul] at hi; omega
        have := ih (i - size) hi2 ((Nat.div_lt_iff_lt_mul hsz).2 hi2) (List.getElem?_eq_getElem _)
        simp only [e1, List.getElem_cons_succ, List.flatMap_cons]
        rw [List.getElem?_append_right (by rw [hE.len]; omega), hE.len, Nat.mod_eq_sub_mod (by omega)]
        exact this

/-- Of the old blocks only the slice's may have turned. -/
def OnlyS (s : Sl) (h h' : Hp) : Prop := h.size ≤ h'.size ∧ ∀ i, i < h.size → (∀ a, s.a = some a → i ≠ a.block) → h'[i]? = h[i]?
theorem OnlyS.bel {s : Sl} {h h' : Hp} {B : Nat} (o : OnlyS s h h') (hB : B ≤ h.size) (hs : ∀ a, s.a = some a → B ≤ a.block) : Bel B h h' :=
  ⟨o.1, fun i hi => o.2 i (by omega) fun a ha => by have := hs a ha; omega⟩
theorem OwnRow.above {α : Type} {enc : α → List Value} {size B : Nat} {h : Hp} {s : Sl} {l : List α} (r : OwnRow enc size B h s l) : ∀ a, s.a = some a → B ≤ a.block := by
  intro a ha
  rcases r.own with ⟨h1, _⟩ | ⟨b, c, e, h1, h2, _⟩
  · rw [h1] at ha; cases ha
  · rw [h1] at ha; cases ha; exact h2

theorem isRow_block {α : Type} {enc : α → List Value} {size : Nat} (hE : Enc enc size) {h : Hp} {b : Nat} {c : Array Value} {e : TypeId} {fr : Nat × Nat} {len cap : Nat} {l : List α} (hb : h[b]? = some (.cells c e fr)) (hl : len = l.length) (hc : len ≤ cap)
    (hget : ∀ i, i < l.length * size → c[i]? = (l.flatMap enc)[i]?) : IsRow enc size h ⟨some ⟨b, 0, none⟩, len, cap⟩ l := by
  refine ⟨hl, hc, fun _ => ⟨_, rfl⟩, fun a i x ha hx j hj => ?_⟩
  cases ha
  rw [hE.len] at hj
  have hil : i < l.length := (List.getElem?_eq_some_iff.1 hx).1
  rw [add_mk, add_mk, hcell_of hb, Nat.zero_add, hget _ (by
    have : (i + 1) * size ≤ l.length * size := Nat.mul_le_mul_right _ hil
    rw [Nat.add_mul] at this; omega), flat_get hE hx hj]

theorem app_any {α : Type} {enc : α → List Value} {size : Nat} (hE : Enc enc size) (hsz : 0 < size) {B : Nat} {h : Hp} {s : Sl} {l ys : List α} (own : OwnRow enc size B h s l) (hB : B ≤ h.size) {e bytes : Nat} {zero : List Value} {x : Value}
    (hb : (l.length + ys.length) * bytes ≤ 140737488355328) (hb2 : 0 < bytes ∧ bytes ≤ 65536) (hz : zero.length = size) (hlen : ∀ K : Nat → Prop, K ys.length → srcLen x K) (hsrc : ∀ K : List Value → Prop, K (ys.flatMap enc) → srcCells h (ys.length * size) x K)
    {K : Sl → Hp → Prop} (hk : ∀ s' h', OwnRow enc size B h' s' (l ++ ys) → OnlyS s h h' → (s'.a = s.a ∨ ∃ b, s'.a = some ⟨b, 0, none⟩ ∧ h.size ≤ b) → K s' h') : appS e size bytes zero s.a s.len s.cap x h K := by
  refine hlen _ ⟨fun hfit => hsrc _ ?_, fun hgrow => ⟨by rw [own.row.len]; exact hb, hb2, hsrc _ ?_⟩⟩
  · rcases own.own with ⟨h1, h2⟩ | ⟨b, c, el, h1, h2, h3, h4⟩
    · have hl : s.len = 0 := by omega
      have hy : ys.length = 0 := by omega
      have hl0 : l = [] := List.length_eq_zero_iff.1 (by rw [← own.row.len]; exact hl)
      have hy0 : ys = [] := List.length_eq_zero_iff.1 hy
      subst hl0; subst hy0
      rw [h1]
      refine ⟨rfl, ?_⟩
      have := hk s h (by simpa using own) ⟨Nat.le_refl _, fun _ _ _ => rfl⟩ (.inl rfl)
      obtain ⟨a, sl, sc⟩ := s
      simp only at h1 h2 hl
      subst h1; subst h2; subst hl
      exact this
    · rw [h1]
      have hfl := flat_len hE ys
      have hcs : (s.len + ys.length) * size ≤ s.cap * size := Nat.mul_le_mul_right _ hfit
      rw [Nat.add_mul] at hcs
      refine ⟨fun i hi => ?_, fun v hv => ?_, ?_⟩
      · rw [hfl] at hi
        rw [add_mk, hcell_of h3, hfrozen_of h3]
        refine ⟨?_, rfl⟩
        rw [Array.getElem?_eq_getElem (by omega)]; rfl
      · obtain ⟨y, _, hy⟩ := List.mem_flatMap.1 hv
        exact hE.one y v hy
      · have hblk := hsets_block (e := el) (fr := (0, 0)) (b := b) (o := s.len * size) (ys.flatMap enc) 0 h3
        have ha : Addr.add ⟨b, 0, none⟩ (s.len * size) = ⟨b, s.len * size, none⟩ := by rw [add_mk, Nat.zero_add]
        rw [ha]
        refine hk _ _ ⟨isRow_block hE hblk (by simp [own.row.len]) hfit fun i hi => ?_, .inr ⟨b, _, el, rfl, h2, hblk, by rw [setMany_size]; exact h4⟩⟩ ?_ (.inl h1.symm)
        · rw [setMany_get, Nat.add_zero, hfl, List.flatMap_append]
          simp only [List.length_append, Nat.add_mul] at hi
          rw [← own.row.len] at hi
          by_cases hi2 : s.len * size ≤ i
          · rw [if_pos ⟨hi2, by omega, by omega⟩, List.getElem?_append_right (by rw [flat_len hE, ← own.row.len]; exact hi2), flat_len hE, ← own.row.len]
          · rw [if_neg (by omega), List.getElem?_append_left (by rw [flat_len hE, ← own.row.len]; omega)]
            have hsz2 : i / size < l.length := by rw [← own.row.len]; exact (Nat.div_lt_iff_lt_mul hsz).2 (by omega)
            have hx : l[i / size]? = some l[i / size] := List.getElem?_eq_getElem hsz2
            have hcl := own.row.get ⟨b, 0, none⟩ (i / size) _ h1 hx (i % size) (by rw [hE.len]; exact Nat.mod_lt _ hsz)
            rw [add_mk, add_mk, hcell_of h3, Nat.zero_add, Nat.div_add_mod'] at hcl
            have hfg := flat_get hE hx (Nat.mod_lt i hsz)
            rw [Nat.div_add_mod'] at hfg
            rw [hcl, hfg]
        · refine ⟨by rw [hsets_size]; exact Nat.le_refl _, fun i hi hne => ?_⟩
          have := hsets_only (a := ⟨b, s.len * size, none⟩) (ys.flatMap enc) 0 h
          exact this.get i hi (hne ⟨b, 0, none⟩ h1)
  · refine srcCells_row hE own.row fun c hc => ?_
    have hcl : s.len + ys.length ≤ c := hc
    have hblk : (h.push (.cells (l.flatMap enc ++ ys.flatMap enc ++ (Builtin.zeroCells zero.toArray (c - (s.len + ys.length))).toList).toArray e))[h.size]? = some (.cells (l.flatMap enc ++ ys.flatMap enc ++ (Builtin.zeroCells zero.toArray (c - (s.len + ys.length))).toList).toArray e) := by
      rw [Array.getElem?_push, if_pos rfl]
    refine hk _ _ ⟨isRow_block hE hblk (by simp [own.row.len]) hc fun i hi => ?_, .inr ⟨h.size, _, e, rfl, hB, hblk, ?_⟩⟩ ?_ (.inr ⟨h.size, rfl, Nat.le_refl _⟩)
    · rw [List.getElem?_toArray, List.getElem?_append_left (by simp only [List.length_append, flat_len hE]; simpa [Nat.add_mul] using hi), List.flatMap_append]
    · have : (Builtin.zeroCells zero.toArray (c - (s.len + ys.length))).size = (c - (s.len + ys.length)) * size := by simp [Builtin.zeroCells, hz]
      simp only [List.size_toArray, List.length_append, flat_len hE, Array.length_toList, this, ← own.row.len]
      rw [← Nat.add_mul, ← Nat.add_mul]
      congr 1; omega
    · exact ⟨by simp, fun i hi _ => by rw [Array.getElem?_push, if_neg (by omega)]⟩

theorem app_row {α : Type} {enc : α → List Value} {size : Nat} (hE : Enc enc size) (hsz : 0 < size) {B : Nat} {h : Hp} {s t : Sl} {l ys : List α} (own : OwnRow enc size B h s l) (src : IsRow enc size h t ys) (hB : B ≤ h.size) {e bytes : Nat} {zero : List Value}
    (hb : (l.length + ys.length) * bytes ≤ 140737488355328) (hb2 : 0 < bytes ∧ bytes ≤ 65536) (hz : zero.length = size)
    {K : Sl → Hp → Prop} (hk : ∀ s' h', OwnRow enc size B h' s' (l ++ ys) → OnlyS s h h' → (s'.a = s.a ∨ ∃ b, s'.a = some ⟨b, 0, none⟩ ∧ h.size ≤ b) → K s' h') : appS e size bytes zero s.a s.len s.cap (.slice t.a t.len t.cap) h K :=
  app_any hE hsz own hB hb hb2 hz (fun K hK => by show K t.len; rw [src.len]; exact hK) (fun K hK => by have := srcCells_row hE src hK; rw [show t.len * size = ys.length * size by rw [src.len]] at this; exact this) hk
end Go.Proofs.YtlkaipmhjgfkpaaDoorK
