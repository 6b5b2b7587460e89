/- Frames: one block, two blocks; a row's own block as it was. No condition. -/
import Derived.Test.YtjifeclbpgonpaaDoorK15
namespace Go.Proofs.YtjifeclbpgonpaaDoorK
open Go
set_option linter.unusedSimpArgs false
set_option linter.unusedVariables false

theorem own_same {α : Type} {enc : α → List Value} {size B : Nat} {h h' : Hp} {s : Sl} {l : List α} (r : OwnRow enc size B h s l) (e : ∀ a, s.a = some a → h'[a.block]? = h[a.block]?) : OwnRow enc size B h' s l := by
  rcases r.own with ⟨h1, h2⟩ | ⟨b, c, e1, h1, h2, h3, h4⟩
  · exact ⟨⟨r.row.len, r.row.cap, r.row.at_, fun a i x ha => by rw [h1] at ha; cases ha⟩, .inl ⟨h1, h2⟩⟩
  · have hb := e _ h1
    simp only at hb
    refine ⟨⟨r.row.len, r.row.cap, r.row.at_, fun a i x ha hx j hj => ?_⟩, .inr ⟨b, c, e1, h1, h2, by rw [hb]; exact h3, h4⟩⟩
    rw [h1] at ha; cases ha
    have := r.row.get _ i x h1 hx j hj
    rw [← this, add_mk, add_mk]
    unfold hcell
    simp only [hb]
theorem OwnRow.onlyP {α : Type} {enc : α → List Value} {size B : Nat} {h h' : Hp} {s t : Sl} {l : List α} {p : Nat} (r : OwnRow enc size B h s l) (u : OnlyP p t h h') (hp : ∀ a, s.a = some a → a.block ≠ p) (ht : ∀ a, s.a = some a → ∀ c, t.a = some c → a.block ≠ c.block) : OwnRow enc size B h' s l :=
  own_same r fun a ha => u.2 _ (r.lt a ha) (hp a ha) (ht a ha)
theorem Only.thenP {p : Nat} {t : Sl} {h g g' : Hp} (o : Only p h g) (u : OnlyP p t g g') (ht : ∀ a, t.a = some a → h.size ≤ a.block) : Only p h g' :=
  ⟨Nat.le_trans o.size u.1, fun i hi hn => (u.2 i (Nat.lt_of_lt_of_le hi o.size) hn fun a ha => by have := ht a ha; omega).trans (o.get i hi hn)⟩
theorem Only.thenBel {p : Nat} {h g g' : Hp} (o : Only p h g) (u : Bel h.size g g') : Only p h g' :=
  ⟨Nat.le_trans o.size u.size, fun i hi hn => (u.get i hi).trans (o.get i hi hn)⟩
theorem Only.extS {p : Nat} {h h' : Hp} (o : Only p h h') : ExtS [p] h h' := ⟨o.size, fun b hb hn => o.get b hb fun e => hn (List.mem_singleton.2 e)⟩
/-- No part of a row lies in block p. -/
def NotAt {α : Type} (p : Nat) (s : Sl) (l : List α) : Prop := l ≠ [] → ∀ a, s.a = some a → a.block ≠ p
theorem isRow_only {α : Type} {enc : α → List Value} {size p : Nat} {h h' : Hp} {s : Sl} {l : List α} (r : IsRow enc size h s l) (o : Only p h h') (n : NotAt p s l) : IsRow enc size h' s l := by
  by_cases hl : l = []
  · subst hl; exact ⟨r.len, r.cap, r.at_, fun a i x _ hx => by simp at hx⟩
  · exact r.only o (n hl)
theorem notAt_of {α : Type} {enc : α → List Value} {size p : Nat} {h : Hp} {s : Sl} {l : List α} (hE : Enc enc size) (hsz : 0 < size) (r : IsRow enc size h s l) (hp : h.size ≤ p) : NotAt p s l := by
  intro hl a ha
  have hx : l[0]? = some (l[0]'(List.length_pos_iff.2 hl)) := List.getElem?_eq_getElem _
  have hc := r.get a 0 _ ha hx 0 (by rw [hE.len]; exact hsz)
  have hv : (enc (l[0]'(List.length_pos_iff.2 hl)))[0]? = some ((enc (l[0]'(List.length_pos_iff.2 hl)))[0]'(by rw [hE.len]; exact hsz)) := List.getElem?_eq_getElem _
  rw [hv, Nat.zero_mul, add_zero, add_zero] at hc
  unfold hcell at hc
  have : a.block < h.size := by
    rcases Nat.lt_or_ge a.block h.size with h1 | h1
    · exact h1
    · rw [Array.getElem?_eq_none h1] at hc; simp at hc
  omega
end Go.Proofs.YtjifeclbpgonpaaDoorK
