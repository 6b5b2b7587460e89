/- The fifteenth part of the layer: what lasts through calls on own slices; parts of slices; heaps in memory. No condition. -/
import Derived.Test.YtlkaipmhjgfkpaaDoorK14
import Derived.Test.YtlkaipmhjgfkpaaDoorHeapPure
namespace Go.Proofs.YtlkaipmhjgfkpaaDoorK
open Go Go.RowKit
set_option linter.unusedSimpArgs false
set_option linter.unusedVariables false

theorem OnlyS.refl (s : Sl) (h : Hp) : OnlyS s h h := ⟨Nat.le_refl _, fun _ _ _ => rfl⟩
theorem OnlyS.trans {s : Sl} {h h' h'' : Hp} (x : OnlyS s h h') (y : OnlyS s h' h'') : OnlyS s h h'' :=
  ⟨Nat.le_trans x.1 y.1, fun i hi hn => (y.2 i (by have := x.1; omega) hn).trans (x.2 i hi hn)⟩
theorem Ext.onlyS {h h' : Hp} (e : Ext h h') (s : Sl) : OnlyS s h h' := ⟨e.size, fun i hi _ => e.get i hi⟩
/-- Of the old blocks only p and the slice's may have turned. -/
def OnlyP (p : Nat) (s : Sl) (h h' : Hp) : Prop := h.size ≤ h'.size ∧ ∀ i, i < h.size → i ≠ p → (∀ a, s.a = some a → i ≠ a.block) → h'[i]? = h[i]?
theorem OnlyP.refl (p : Nat) (s : Sl) (h : Hp) : OnlyP p s h h := ⟨Nat.le_refl _, fun _ _ _ _ => rfl⟩
theorem OnlyS.onlyP {s : Sl} {h h' : Hp} (x : OnlyS s h h') (p : Nat) : OnlyP p s h h' := ⟨x.1, fun i hi _ hn => x.2 i hi hn⟩
theorem Only.onlyP {p : Nat} {h h' : Hp} (x : Only p h h') (s : Sl) : OnlyP p s h h' := ⟨x.size, fun i hi hp _ => x.get i hi hp⟩
theorem Ext.onlyP {h h' : Hp} (e : Ext h h') (p : Nat) (s : Sl) : OnlyP p s h h' := (e.onlyS s).onlyP p
theorem OnlyP.trans {p : Nat} {s : Sl} {h h' h'' : Hp} (x : OnlyP p s h h') (y : OnlyP p s h' h'') : OnlyP p s h h'' :=
  ⟨Nat.le_trans x.1 y.1, fun i hi hp hn => (y.2 i (by have := x.1; omega) hp hn).trans (x.2 i hi hp hn)⟩
/-- The slice turned to another one, the same block or a new one. -/
theorem OnlyP.transN {p : Nat} {s s' : Sl} {h h0 h' h'' : Hp} (x : OnlyP p s h h') (y : OnlyP p s' h' h'') (h0s : h.size ≤ h0.size) (hn : s'.a = s.a ∨ ∃ b, s'.a = some ⟨b, 0, none⟩ ∧ h0.size ≤ b) : OnlyP p s h h'' :=
  ⟨Nat.le_trans x.1 y.1, fun i hi hp hn' => (y.2 i (by have := x.1; omega) hp fun a ha => by
    rcases hn with e | ⟨b, e, hb⟩
    · exact hn' a (by rw [← e]; exact ha)
    · rw [e] at ha; cases ha; simp only; omega).trans (x.2 i hi hp hn')⟩
theorem OnlyP.bel {p B : Nat} {s : Sl} {h h' : Hp} (x : OnlyP p s h h') (hB : B ≤ h.size) (hp : B ≤ p) (hs : ∀ a, s.a = some a → B ≤ a.block) : Bel B h h' :=
  ⟨x.1, fun i hi => x.2 i (by omega) (by omega) fun a ha => by have := hs a ha; omega⟩
theorem Blk.onlyP {p : Nat} {s : Sl} {h h' : Hp} {b : Nat} {c : Array Value} (r : Blk h b c) (x : OnlyP p s h h') (hb : b ≠ p) (hs : ∀ a, s.a = some a → b ≠ a.block) : Blk h' b c := by
  have := r.lt; obtain ⟨e, r⟩ := r; exact ⟨e, by rw [x.2 b this hb hs]; exact r⟩

/-! Parts of slices. -/
theorem IsRow.take {α : Type} {enc : α → List Value} {size : Nat} {h : Hp} {s : Sl} {l : List α} (r : IsRow enc size h s l) {n : Nat} (hn : n ≤ l.length) : IsRow enc size h ⟨s.a, n, s.cap⟩ (l.take n) := by
  refine ⟨by rw [List.length_take]; simp only; omega, by have := r.cap; have := r.len; simp only; omega, fun hne => r.at_ fun e => hne (by rw [e]; simp), fun a i x ha hx => ?_⟩
  rw [List.getElem?_take] at hx
  split at hx
  · exact r.get a i x ha hx
  · cases hx
theorem OwnRow.take {α : Type} {enc : α → List Value} {size B : Nat} {h : Hp} {s : Sl} {l : List α} (r : OwnRow enc size B h s l) {n : Nat} (hn : n ≤ l.length) : OwnRow enc size B h ⟨s.a, n, s.cap⟩ (l.take n) :=
  ⟨r.row.take hn, r.own⟩
theorem add_zero_map (a : Option Addr) : a.map (·.add 0) = a := by
  cases a with
  | none => rfl
  | some a => show some (a.add 0) = some a; rw [add_zero]
/-- 's[:n]'. -/
theorem slc_to {a : Option Addr} {len cap : Nat} {i : Int} {n size : Nat} (hi : i = n) (hn : n ≤ cap) {K : Option Addr → Nat → Nat → Prop} (hk : K a n cap) : slcS a len cap none (some i) size K := by
  subst hi
  refine ⟨⟨?_, ?_⟩, ⟨?_, ?_⟩, ?_⟩
  · simp
  · simp; omega
  · simp
  · simp
  · have e : (if cap = ((none : Option Int).getD 0).toNat then a else a.map (·.add (((none : Option Int).getD 0).toNat * size))) = a := by
      show (if cap = 0 then a else a.map (·.add (0 * size))) = a
      split
      · rfl
      · rw [Nat.zero_mul]; exact add_zero_map a
    rw [e]
    exact hk
theorem IsRow.drop {α : Type} {enc : α → List Value} {size : Nat} {h : Hp} {s : Sl} {l : List α} (r : IsRow enc size h s l) {n : Nat} (hn : n ≤ l.length) : IsRow enc size h ⟨if s.cap = n then s.a else s.a.map (·.add (n * size)), s.len - n, s.cap - n⟩ (l.drop n) := by
  have h1 := r.len
  have h2 := r.cap
  refine ⟨by rw [List.length_drop]; simp only; omega, by simp only; omega, fun hne => ?_, fun a i x ha hx j hj => ?_⟩
  · have hl : n < l.length := by
      rcases Nat.lt_or_ge n l.length with h | h
      · exact h
      · exact (hne (List.drop_eq_nil_of_le h)).elim
    obtain ⟨a, ha⟩ := r.at_ (by intro e; subst e; simp at hl)
    refine ⟨a.add (n * size), ?_⟩
    simp only
    rw [if_neg (by omega), ha]; rfl
  · rw [List.getElem?_drop] at hx
    have hl := (List.getElem?_eq_some_iff.1 hx).1
    simp only at ha
    rw [if_neg (by omega)] at ha
    obtain ⟨b, hb⟩ := r.at_ (by intro e; subst e; simp at hl)
    rw [hb] at ha
    cases ha
    have := r.get b (n + i) x hb hx j hj
    show hcell h (((b.add (n * size)).add (i * size)).add j) = _
    rw [add_add b, ← Nat.add_mul]; exact this
/-- 's[lo:hi]' of a row. -/
theorem slc_row {α : Type} {enc : α → List Value} {size : Nat} {h : Hp} {s : Sl} {l : List α} (r : IsRow enc size h s l) {lo hi : Option Int} {m n : Nat} (hlo : lo.getD 0 = m) (hhi : hi.getD s.len = n) (hm : m ≤ n) (hn : n ≤ l.length) {K : Option Addr → Nat → Nat → Prop}
    (hk : ∀ t : Sl, IsRow enc size h t ((l.take n).drop m) → (∀ a, t.a = some a → ∃ b, s.a = some b ∧ a.block = b.block) → K t.a t.len t.cap) : slcS s.a s.len s.cap lo hi size K := by
  have h1 := r.len
  have h2 := r.cap
  unfold slcS
  rw [hlo, hhi]
  refine ⟨⟨by omega, by omega⟩, ⟨by omega, by omega⟩, ?_⟩
  simp only [Int.toNat_natCast]
  have r2 := (r.take hn).drop (n := m) (by rw [List.length_take]; omega)
  simp only at r2
  refine hk ⟨if s.cap = m then s.a else s.a.map (·.add (m * size)), n - m, s.cap - m⟩ r2 fun a ha => ?_
  simp only at ha
  by_cases hc : s.cap = m
  · rw [if_pos hc] at ha; exact ⟨a, ha, rfl⟩
  · rw [if_neg hc] at ha

    cases hs : s.a with
    | none => rw [hs] at ha; cases ha
    | some b => rw [hs] at ha; cases ha; exact ⟨b, rfl, add_block b _⟩

/-! A heap in memory: the order and the row. -/
structure HQ {α : Type} (enc : α → List Value) (size bytes : Nat) (h : Hp) (p : Nat) (v : Value) (s : Sl) (l : List α) : Prop where
  b : Blk h p #[v, .slice s.a s.len s.cap]
  o : OwnRow enc size (p + 1) h s l
  bd : l.length * bytes ≤ 140737488355328
theorem HQ.apart {α : Type} {enc : α → List Value} {size bytes : Nat} {h : Hp} {p : Nat} {v : Value} {s : Sl} {l : List α} (q : HQ enc size bytes h p v s l) : ∀ a, s.a = some a → p ≠ a.block := fun a ha => by
  have := q.o.above a ha; omega
theorem HQ.ext {α : Type} {enc : α → List Value} {size bytes : Nat} {h h' : Hp} {p : Nat} {v : Value} {s : Sl} {l : List α} (q : HQ enc size bytes h p v s l) (e : Ext h h') : HQ enc size bytes h' p v s l :=
  ⟨q.b.ext e, q.o.ext e, q.bd⟩
theorem HQ.only {α : Type} {enc : α → List Value} {size bytes : Nat} {h h' : Hp} {p b0 : Nat} {v : Value} {s : Sl} {l : List α} (q : HQ enc size bytes h p v s l) (e : Only b0 h h') (hp : p ≠ b0) (hs : ∀ a, s.a = some a → a.block ≠ b0) : HQ enc size bytes h' p v s l := by
  refine ⟨q.b.only e hp, ⟨q.o.row.only e hs, q.o.own.imp id fun ⟨b, c, el, h1, h2, h3, h4⟩ => ⟨b, c, el, h1, h2, ?_, h4⟩⟩, q.bd⟩
  rw [e.get b (block_lt h3) (hs _ h1)]; exact h3
theorem HQ.turn {α : Type} {enc : α → List Value} {size bytes : Nat} {h h' : Hp} {p : Nat} {v : Value} {s : Sl} {l l' : List α} (q : HQ enc size bytes h p v s l) (o : OwnRow enc size (p + 1) h' s l') (u : OnlyS s h h') (hl : l'.length = l.length) : HQ enc size bytes h' p v s l' :=
  ⟨q.b.onlyS u q.apart, o, by rw [hl]; exact q.bd⟩
/-- The place of the least of a place and those below it. -/
structure Fst {α : Type} (le : α → α → Prop) (l : List α) (i o : Nat) : Prop where
  lt : o < l.length
  at_ : o = i ∨ 0 < o ∧ (o - 1) / 2 = i
  min : ∀ j y x, (j = i ∨ 0 < j ∧ (j - 1) / 2 = i) → l[j]? = some y → l[o]? = some x → le x y
theorem OnlyS.lt_new {s : Sl} {h h' : Hp} (x : OnlyS s h h') : h.size ≤ h'.size := x.1
end Go.Proofs.YtlkaipmhjgfkpaaDoorK
