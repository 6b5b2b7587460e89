/- The nineteenth part of the layer: computations of the machine, step by step; rows whose element's type is known. No condition. -/
import Derived.Test.YtlkaipmhjgfkpaaDoorK16
namespace Go.Proofs.YtlkaipmhjgfkpaaDoorK
open Go Go.RowKit
set_option linter.unusedSimpArgs false
set_option linter.unusedVariables false

theorem wpS_bindI {P : Program} {α β : Type} {s : Sem α} {f : α → Sem β} {h : Hp} {K : β → Hp → Prop} : wpS P (s >>= f) h K ↔ wpS P s h (fun a h' => wpS P (f a) h' K) := by
  refine ⟨?_, wpS_bind⟩
  show wpS P (s.bind f) h K → _
  induction s generalizing h with
  | pure a => intro hk; exact hk
  | load m a k ih => intro hk; obtain ⟨v, h1, h2⟩ := hk; exact ⟨v, h1, ih v h2⟩
  | store m a v k ih =>
    intro hk
    cases v <;> first
      | exact hk.elim
      | exact ⟨hk.1, hk.2.1, ih hk.2.2⟩
  | new o k ih => intro hk; exact ih _ hk
  | choose q k ih => intro hk; exact fun n => ih n (hk n)
  | program k ih => intro hk; exact ih _ hk
  | mark m k ih => intro hk; exact ih hk
  | shape r k ih => intro hk; exact ih _ hk
  | freeze a n k ih => intro hk; exact ih hk
  | frozen a k ih => intro hk; exact ih _ hk
  | getObj r k ih => intro hk; obtain ⟨o, h1, h2, h3⟩ := hk; exact ⟨o, h1, h2, ih o h3⟩
  | _ => intro hk; exact hk.elim
theorem wpS_pure {P : Program} {α : Type} {a : α} {h : Hp} {K : α → Hp → Prop} : wpS P (pure a : Sem α) h K ↔ K a h := Iff.rfl
theorem wpS_program {P : Program} {h : Hp} {K : Program → Hp → Prop} : wpS P program h K ↔ K P h := Iff.rfl
theorem wpS_shape {P : Program} {r : Nat} {h : Hp} {K : Option (TypeId × Nat) → Hp → Prop} : wpS P (shape r) h K ↔ K (hshape h r) h := Iff.rfl
theorem wpS_freeze {P : Program} {a : Addr} {n : Nat} {h : Hp} {K : Unit → Hp → Prop} : wpS P (freeze a n) h K ↔ K () (hfreeze h a n) := Iff.rfl
theorem wpS_und {P : Program} {t : TypeId} {d : TypeDesc} (ht : P.underlying t = some d) {h : Hp} {K : TypeDesc → Hp → Prop} : wpS P (underlying t) h K ↔ K d h := by
  unfold underlying
  simp only [wpS_bindI, wpS_program, ht, wpS_pure]
theorem wpS_sizeOf {P : Program} {t : TypeId} {i : TypeInfo} (hi : P.info? t = some i) {h : Hp} {K : Nat → Hp → Prop} : wpS P (sizeOf t) h K ↔ K i.size h := by
  unfold sizeOf typeInfo
  simp only [wpS_bindI, wpS_program, hi, wpS_pure]
theorem hshape_of {h : Hp} {b : Nat} {c : Array Value} {e : TypeId} {fr : Nat × Nat} (hb : h[b]? = some (.cells c e fr)) : hshape h b = some (e, c.size) := by
  unfold hshape; rw [hb]
theorem wpS_viewAt {P : Program} {b : Nat} {h : Hp} {c : Array Value} {e : TypeId} {fr : Nat × Nat} (hb : h[b]? = some (.cells c e fr)) {K : Option (Addr × TypeId) → Hp → Prop} : wpS P (viewAt b) h K ↔ K none h := by
  unfold viewAt
  simp only [wpS_bindI, wpS_shape, hshape_of hb, Option.isSome_some, if_true, wpS_pure]
theorem wpS_cellsIn {P : Program} {b : Nat} {h : Hp} {c : Array Value} {e : TypeId} {fr : Nat × Nat} (hb : h[b]? = some (.cells c e fr)) {K : Option Nat → Hp → Prop} : wpS P (cellsIn b) h K ↔ K (some c.size) h := by
  unfold cellsIn
  simp only [wpS_bindI, wpS_shape, hshape_of hb, wpS_pure]
theorem wpS_seenAt {P : Program} {a : Addr} {h : Hp} {c : Array Value} {e : TypeId} {fr : Nat × Nat} (hb : h[a.block]? = some (.cells c e fr)) {K : Addr → Hp → Prop} : wpS P (Conv.seenAt a) h K ↔ K a h := by
  unfold Conv.seenAt
  simp only [wpS_bindI, wpS_viewAt hb, wpS_pure]
theorem wpS_varsAt {P : Program} {a : Addr} {u : TypeId} {n : Nat} {h : Hp} {c : Array Value} {e : TypeId} {fr : Nat × Nat} (hb : h[a.block]? = some (.cells c e fr)) {K : Bool → Hp → Prop} :
    wpS P (variablesAt a u n) h K ↔ K (liesAt P P.depth e (c.size / P.cellsOf e) a.off u n) h := by
  unfold variablesAt
  simp only [wpS_bindI, wpS_program, wpS_shape, hshape_of hb, wpS_pure]
/-- A row of plain variables of one cell each. -/
theorem rowAt_plain {P : Program} {fits : TypeId → Bool} {d : Nat} {e : TypeId} {count n : Nat} (hs : P.cellsOf e = 1) (hf : fits e = true) (hn : n ≤ count) : rowAt P fits (d + 1) e count 0 n = true := by
  unfold rowAt
  simp [hs, hf, hn]
theorem liesAt_plain {P : Program} {e : TypeId} {count n : Nat} {d d' : Nat} (hd : P.depth = d + 1) (hs : P.cellsOf e = 1) (hf : sameLayout P P.depth e e = true) (hn : n ≤ count) : liesAt P P.depth e count 0 e n = true := by
  rw [hd] at hf
  rw [hd]
  unfold liesAt
  rw [hd, rowAt_plain hs (by exact hf) hn]; rfl
/-- Bytes out of memory. -/
theorem wpS_loadBytes {P : Program} : ∀ {l : List Int} {a : Addr} {acc : ByteArray} {h : Hp} {K : ByteArray → Hp → Prop}, (∀ c ∈ l, 0 ≤ c ∧ c ≤ 255) → (∀ i, i < l.length → hcell h (a.add i) = (l[i]?).map fun c => .int .u8 c) →
    (∀ r, bts r = bts acc ++ l → K r h) → wpS P (loadBytes a acc l.length) h K
  | [], a, acc, h, K, _, _, hK => hK acc (by simp)
  | c :: l, a, acc, h, K, hb, hc, hK => by
    have h0 := hb c (by simp)
    simp only [List.length_cons, loadBytes]
    rw [wpS_bindI]
    refine ⟨.int .u8 c, by have := hc 0 (by simp); rw [addr_zero] at this; exact this, ?_⟩
    show wpS P (loadBytes (a.add 1) (acc.push c.toNat.toUInt8) l.length) h K
    refine wpS_loadBytes (fun x hx => hb x (by simp [hx])) (fun i hi => ?_) fun r hr => hK r ?_
    · rw [add_add, Nat.add_comm, hc (i + 1) (by simp; omega)]; rfl
    · rw [hr]
      have e : bts (acc.push c.toNat.toUInt8) = bts acc ++ [c] := by
        unfold bts
        rw [ByteArray.data_push, Array.toList_push, List.map_append]
        simp only [List.map_cons, List.map_nil]
        have : ((c.toNat.toUInt8).toNat : Int) = c := by
          have : (c.toNat.toUInt8).toNat = c.toNat % 256 := by simp
          rw [this]; omega
        rw [this]
      rw [e]; simp

/-! Rows whose element's type is known. -/
structure OwnT {α : Type} (enc : α → List Value) (size B : Nat) (e : TypeId) (h : Hp) (s : Sl) (l : List α) : Prop where
  row : IsRow enc size h s l
  own : (s.a = none ∧ s.cap = 0) ∨ ∃ (b : Nat) (c : Array Value), s.a = some ⟨b, 0, none⟩ ∧ B ≤ b ∧ h[b]? = some (.cells c e (0, 0)) ∧ c.size = s.cap * size
theorem OwnT.own_ {α : Type} {enc : α → List Value} {size B : Nat} {e : TypeId} {h : Hp} {s : Sl} {l : List α} (r : OwnT enc size B e h s l) : OwnRow enc size B h s l :=
  ⟨r.row, r.own.imp id fun ⟨b, c, h1, h2, h3, h4⟩ => ⟨b, c, e, h1, h2, h3, h4⟩⟩
theorem OwnT.nil {α : Type} (enc : α → List Value) (size B : Nat) (e : TypeId) (h : Hp) : OwnT enc size B e h ⟨none, 0, 0⟩ ([] : List α) :=
  ⟨⟨rfl, Nat.le_refl _, fun hne => (hne rfl).elim, fun a i x ha hx => by cases hx⟩, .inl ⟨rfl, rfl⟩⟩
theorem OwnT.lt {α : Type} {enc : α → List Value} {size B : Nat} {e : TypeId} {h : Hp} {s : Sl} {l : List α} (r : OwnT enc size B e h s l) : ∀ a, s.a = some a → a.block < h.size := r.own_.lt
theorem OwnT.above {α : Type} {enc : α → List Value} {size B : Nat} {e : TypeId} {h : Hp} {s : Sl} {l : List α} (r : OwnT enc size B e h s l) : ∀ a, s.a = some a → B ≤ a.block := r.own_.above
/-- What keeps the row's block keeps the row. -/
theorem OwnT.keep {α : Type} {enc : α → List Value} {size B : Nat} {e : TypeId} {h h' : Hp} {s : Sl} {l : List α} (r : OwnT enc size B e h s l) (hk : ∀ a, s.a = some a → h'[a.block]? = h[a.block]?) : OwnT enc size B e h' s l := by
  refine ⟨⟨r.row.len, r.row.cap, r.row.at_, fun a i x ha hx j hj => ?_⟩, r.own.imp id fun ⟨b, c, h1, h2, h3, h4⟩ => ⟨b, c, h1, h2, by rw [hk _ h1]; exact h3, h4⟩⟩
  have := r.row.get a i x ha hx j hj
  rw [← this]
  unfold hcell
  rw [add_block, add_block, hk a ha]
theorem OwnT.ext {α : Type} {enc : α → List Value} {size B : Nat} {e : TypeId} {h h' : Hp} {s : Sl} {l : List α} (r : OwnT enc size B e h s l) (x : Ext h h') : OwnT enc size B e h' s l :=
  r.keep fun a ha => x.get _ (r.lt a ha)
theorem appT_any {α : Type} {enc : α → List Value} {size : Nat} (hE : Enc enc size) (hsz : 0 < size) {B : Nat} {h : Hp} {s : Sl} {l ys : List α} {e : TypeId} (own : OwnT enc size B e h s l) (hB : B ≤ h.size) {bytes : Nat} {zero : List Value} {x : Value}
    (hb : (l.length + ys.length) * bytes ≤ 140737488355328) (hb2 : 0 < bytes ∧ bytes ≤ 65536) (hz : zero.length = size) (hlen : ∀ K : Nat → Prop, K ys.length → srcLen x K) (hsrc : ∀ K : List Value → Prop, K (ys.flatMap enc) → srcCells h (ys.length * size) x K)
    {K : Sl → Hp → Prop} (hk : ∀ s' h', OwnT enc size B e h' s' (l ++ ys) → OnlyS s h h' → (s'.a = s.a ∨ ∃ b, s'.a = some ⟨b, 0, none⟩ ∧ h.size ≤ b) → K s' h') : appS e size bytes zero s.a s.len s.cap x h K := by
  refine hlen _ ⟨fun hfit => hsrc _ ?_, fun hgrow => ⟨by rw [own.row.len]; exact hb, hb2, hsrc _ ?_⟩⟩
  · rcases own.own with ⟨h1, h2⟩ | ⟨b, c, h1, h2, h3, h4⟩
    · have hl : s.len = 0 := by omega
      have hy : ys.length = 0 := by omega
      have hl0 : l = [] := List.length_eq_zero_iff.1 (by rw [← own.row.len]; exact hl)
      have hy0 : ys = [] := List.length_eq_zero_iff.1 hy
      subst hl0; subst hy0
      rw [h1]
      refine ⟨rfl, ?_⟩
      have := hk s h (by simpa using own) ⟨Nat.le_refl _, fun _ _ _ => rfl⟩ (.inl rfl)
      obtain ⟨a, sl, sc⟩ := s
      simp only at h1 h2 hl
      subst h1; subst h2; subst hl
      exact this
    · rw [h1]
      have hfl := flat_len hE ys
      have hcs : (s.len + ys.length) * size ≤ s.cap * size := Nat.mul_le_mul_right _ hfit
      rw [Nat.add_mul] at hcs
      refine ⟨fun i hi => ?_, fun v hv => ?_, ?_⟩
      · rw [hfl] at hi
        rw [add_mk, hcell_of h3, hfrozen_of h3]
        refine ⟨?_, rfl⟩
        rw [Array.getElem?_eq_getElem (by omega)]; rfl
      · obtain ⟨y, _, hy⟩ := List.mem_flatMap.1 hv
        exact hE.one y v hy
      · have hblk := hsets_block (e := e) (fr := (0, 0)) (b := b) (o := s.len * size) (ys.flatMap enc) 0 h3
        have ha : Addr.add ⟨b, 0, none⟩ (s.len * size) = ⟨b, s.len * size, none⟩ := by rw [add_mk, Nat.zero_add]
        rw [ha]
        refine hk _ _ ⟨isRow_block hE hblk (by simp [own.row.len]) hfit fun i hi => ?_, .inr ⟨b, _, rfl, h2, hblk, by rw [setMany_size]; exact h4⟩⟩ ?_ (.inl h1.symm)
        · rw [setMany_get, Nat.add_zero, hfl, List.flatMap_append]
          simp only [List.length_append, Nat.add_mul] at hi
          rw [← own.row.len] at hi
          by_cases hi2 : s.len * size ≤ i
          · rw [if_pos ⟨hi2, by omega, by omega⟩, List.getElem?_append_right (by rw [flat_len hE, ← own.row.len]; exact hi2), flat_len hE, ← own.row.len]
          · rw [if_neg (by omega), List.getElem?_append_left (by rw [flat_len hE, ← own.row.len]; omega)]
            have hsz2 : i / size < l.length := by rw [← own.row.len]; exact (Nat.div_lt_iff_lt_mul hsz).2 (by omega)
            have hx : l[i / size]? = some l[i / size] := List.getElem?_eq_getElem hsz2
            have hcl := own.row.get ⟨b, 0, none⟩ (i / size) _ h1 hx (i % size) (by rw [hE.len]; exact Nat.mod_lt _ hsz)
            rw [add_mk, add_mk, hcell_of h3, Nat.zero_add, Nat.div_add_mod'] at hcl
            have hfg := flat_get hE hx (Nat.mod_lt i hsz)
            rw [Nat.div_add_mod'] at hfg
            rw [hcl, hfg]
        · refine ⟨by rw [hsets_size]; exact Nat.le_refl _, fun i hi hne => ?_⟩
          have := hsets_only (a := ⟨b, s.len * size, none⟩) (ys.flatMap enc) 0 h
          exact this.get i hi (hne ⟨b, 0, none⟩ h1)
  · refine srcCells_row hE own.row fun c hc => ?_
    have hcl : s.len + ys.length ≤ c := hc
    have hblk : (h.push (.cells (l.flatMap enc ++ ys.flatMap enc ++ (Builtin.zeroCells zero.toArray (c - (s.len + ys.length))).toList).toArray e))[h.size]? = some (.cells (l.flatMap enc ++ ys.flatMap enc ++ (Builtin.zeroCells zero.toArray (c - (s.len + ys.length))).toList).toArray e) := by
      rw [Array.getElem?_push, if_pos rfl]
    refine hk _ _ ⟨isRow_block hE hblk (by simp [own.row.len]) hc fun i hi => ?_, .inr ⟨h.size, _, rfl, hB, hblk, ?_⟩⟩ ?_ (.inr ⟨h.size, rfl, Nat.le_refl _⟩)
    · rw [List.getElem?_toArray, List.getElem?_append_left (by simp only [List.length_append, flat_len hE]; simpa [Nat.add_mul] using hi), List.flatMap_append]
    · have : (Builtin.zeroCells zero.toArray (c - (s.len + ys.length))).size = (c - (s.len + ys.length)) * size := by simp [Builtin.zeroCells, hz]
      simp only [List.size_toArray, List.length_append, flat_len hE, Array.length_toList, this, ← own.row.len]
      rw [← Nat.add_mul, ← Nat.add_mul]
      congr 1; omega
    · exact ⟨by simp, fun i hi _ => by rw [Array.getElem?_push, if_neg (by omega)]⟩
theorem appT_row {α : Type} {enc : α → List Value} {size : Nat} (hE : Enc enc size) (hsz : 0 < size) {B : Nat} {h : Hp} {s t : Sl} {l ys : List α} {e : TypeId} (own : OwnT enc size B e h s l) (src : IsRow enc size h t ys) (hB : B ≤ h.size) {bytes : Nat} {zero : List Value}
    (hb : (l.length + ys.length) * bytes ≤ 140737488355328) (hb2 : 0 < bytes ∧ bytes ≤ 65536) (hz : zero.length = size)
    {K : Sl → Hp → Prop} (hk : ∀ s' h', OwnT enc size B e h' s' (l ++ ys) → OnlyS s h h' → (s'.a = s.a ∨ ∃ b, s'.a = some ⟨b, 0, none⟩ ∧ h.size ≤ b) → K s' h') : appS e size bytes zero s.a s.len s.cap (.slice t.a t.len t.cap) h K :=
  appT_any hE hsz own hB hb hb2 hz (fun K hK => by show K t.len; rw [src.len]; exact hK) (fun K hK => by have := srcCells_row hE src hK; rw [show t.len * size = ys.length * size by rw [src.len]] at this; exact this) hk
theorem appT_text {B : Nat} {h : Hp} {s : Sl} {l : List Int} {e : TypeId} (own : OwnT (encI .u8) 1 B e h s l) (hB : B ≤ h.size) {zero : List Value} {t : ByteArray} (hb : l.length + t.size ≤ 140737488355328) (hz : zero.length = 1)
    {K : Sl → Hp → Prop} (hk : ∀ s' h', OwnT (encI .u8) 1 B e h' s' (l ++ bts t) → OnlyS s h h' → (s'.a = s.a ∨ ∃ b, s'.a = some ⟨b, 0, none⟩ ∧ h.size ≤ b) → K s' h') : appS e 1 1 zero s.a s.len s.cap (.string t) h K :=
  appT_any (encI_ok _) (by decide) own hB (ys := bts t) (by rw [bts_len]; omega) (by decide) hz (fun K hK => by show K t.size; rw [← bts_len]; exact hK) (fun K hK => by rw [bts_flat] at hK; exact hK) hk
theorem push_toT {h : Hp} {c : Array Value} {e : TypeId} {K : Hp → Prop} (hk : ∀ h', h'[h.size]? = some (.cells c e (0, 0)) → Ext h h' → h'.size = h.size + 1 → K h') : Let (Array.push h (Obj.cells c e)) K :=
  hk _ (by rw [Array.getElem?_push, if_pos rfl]) (Ext.push h _) (by simp)
theorem hfreeze_other {h : Hp} {a : Addr} {n b : Nat} (hb : b ≠ a.block) : (hfreeze h a n)[b]? = h[b]? := by
  unfold hfreeze
  split
  · rfl
  · rw [Array.getElem?_modify, if_neg (fun e => hb e.symm)]
theorem hfreeze_size {h : Hp} {a : Addr} {n : Nat} : (hfreeze h a n).size = h.size := by
  unfold hfreeze; split <;> simp
end Go.Proofs.YtlkaipmhjgfkpaaDoorK
