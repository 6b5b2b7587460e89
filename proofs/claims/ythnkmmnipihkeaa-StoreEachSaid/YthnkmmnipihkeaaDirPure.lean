/- Rising rows of numbers: ranks, putting in, taking out. No condition. -/
import Derived.Test.YthnkmmnipihkeaaDirIns
namespace Go.Proofs.YthnkmmnipihkeaaF
open Go Go.Proofs.YthnkmmnipihkeaaK
set_option linter.unusedSimpArgs false
set_option linter.unusedVariables false

def Ris (l : List Int) : Prop := l.Pairwise (· < ·)
def rk (l : List Int) (t : Int) : Nat := l.countP fun x => decide (x < t)
theorem rk_le (l : List Int) (t : Int) : rk l t ≤ l.length := List.countP_le_length
theorem rk_cons (x : Int) (l : List Int) (t : Int) : rk (x :: l) t = (if x < t then 1 else 0) + rk l t := by
  unfold rk
  rw [List.countP_cons]
  by_cases h : x < t
  · simp [h]; omega
  · simp [h]
theorem rk_zero {l : List Int} {t : Int} (h : ∀ x ∈ l, ¬ x < t) : rk l t = 0 := by
  unfold rk
  rw [List.countP_eq_zero]
  intro x hx; simpa using h x hx
theorem rk_at : ∀ {l : List Int} {t : Int} {i : Nat} {x : Int}, Ris l → l[i]? = some x → (x < t ↔ i < rk l t)
  | [], t, i, x, _, h => by cases h
  | y :: l, t, 0, x, hr, h => by
    simp at h; subst h
    rw [rk_cons]
    by_cases hy : y < t
    · simp [hy]; omega
    · have := rk_zero (l := l) (t := t) fun z hz => by
        have := (List.pairwise_cons.1 hr).1 z hz; omega
      simp [hy, this]
  | y :: l, t, i + 1, x, hr, h => by
    have h' : l[i]? = some x := by simpa using h
    have ih := rk_at (t := t) (List.pairwise_cons.1 hr).2 h'
    rw [rk_cons]
    by_cases hy : y < t
    · rw [if_pos hy, ih]; omega
    · have := rk_zero (l := l) (t := t) fun z hz => by
        have := (List.pairwise_cons.1 hr).1 z hz; omega
      have hm := List.mem_of_getElem? h'
      have := (List.pairwise_cons.1 hr).1 x hm
      rw [if_neg hy]
      constructor
      · intro; omega
      · intro; omega
theorem rk_unique {l : List Int} {t : Int} {k : Nat} (hr : Ris l) (hk : k ≤ l.length) (h1 : ∀ i x, i < k → l[i]? = some x → x < t) (h2 : ∀ i x, k ≤ i → l[i]? = some x → ¬ x < t) : k = rk l t := by
  have hle := rk_le l t
  rcases Nat.lt_trichotomy k (rk l t) with h | h | h
  · have hx : l[k]? = some (l[k]'(by omega)) := List.getElem?_eq_getElem (by omega)
    exact (h2 k _ (Nat.le_refl _) hx ((rk_at hr hx).2 h)).elim
  · exact h
  · have hx : l[rk l t]? = some (l[rk l t]'(by omega)) := List.getElem?_eq_getElem (by omega)
    have := (rk_at hr hx).1 (h1 _ _ h hx)
    omega
theorem rk_mem {l : List Int} {t : Int} (hr : Ris l) : t ∈ l ↔ l[rk l t]? = some t := by
  constructor
  · intro h
    obtain ⟨i, hi⟩ := List.getElem?_of_mem h
    have h1 := rk_at (t := t) hr hi
    have hge : rk l t ≤ i := by omega
    rcases Nat.eq_or_lt_of_le hge with e | hlt
    · rw [e]; exact hi
    · have hx : l[rk l t]? = some (l[rk l t]'(by have := (List.getElem?_eq_some_iff.1 hi).1; omega)) := List.getElem?_eq_getElem _
      have h2 := rk_at (t := t) hr hx
      have hil := (List.getElem?_eq_some_iff.1 hi).1
      have h3 : l[rk l t]'(by omega) < l[i] := List.pairwise_iff_getElem.1 hr _ _ _ _ hlt
      have h4 := (List.getElem?_eq_some_iff.1 hi).2
      omega
  · intro h; exact List.mem_of_getElem? h
theorem insAt_map {α β : Type} (f : α → β) (l : List α) (i : Nat) (x : α) : (insAt l i x).map f = insAt (l.map f) i (f x) := by
  unfold insAt; simp [List.map_take, List.map_drop]
theorem insAt_perm {α : Type} (l : List α) (i : Nat) (x : α) : (insAt l i x).Perm (x :: l) := by
  unfold insAt
  have := List.perm_middle (a := x) (l₁ := l.take i) (l₂ := l.drop i)
  rwa [List.take_append_drop] at this
theorem insAt_ris {l : List Int} {t : Int} (hr : Ris l) (hn : t ∉ l) : Ris (insAt l (rk l t) t) := by
  unfold insAt Ris
  have h1 : ∀ x ∈ l.take (rk l t), x < t := fun x hx => by
    obtain ⟨i, hi⟩ := List.getElem?_of_mem hx
    rw [List.getElem?_take] at hi
    split at hi
    · rename_i h; exact (rk_at hr hi).2 h
    · cases hi
  have h2 : ∀ x ∈ l.drop (rk l t), t < x := fun x hx => by
    obtain ⟨i, hi⟩ := List.getElem?_of_mem hx
    rw [List.getElem?_drop] at hi
    have := rk_at (t := t) hr hi
    have hne : x ≠ t := fun e => hn (e ▸ List.mem_of_getElem? hi)
    omega
  rw [List.pairwise_append]
  refine ⟨hr.sublist (List.take_sublist _ _), List.pairwise_cons.2 ⟨h2, hr.sublist (List.drop_sublist _ _)⟩, fun x hx y hy => ?_⟩
  rcases List.mem_cons.1 hy with rfl | hy
  · exact h1 x hx
  · have := h1 x hx; have := h2 y hy; omega
theorem Ris.nodup {l : List Int} (h : Ris l) : l.Nodup := h.imp fun hab => by omega
theorem Ris.inj {l : List Int} (h : Ris l) {i j : Nat} {x : Int} (hi : l[i]? = some x) (hj : l[j]? = some x) : i = j := by
  have h1 := (List.getElem?_eq_some_iff.1 hi).1
  have h2 := (List.getElem?_eq_some_iff.1 hj).1
  have e1 := (List.getElem?_eq_some_iff.1 hi).2
  have e2 := (List.getElem?_eq_some_iff.1 hj).2
  rcases Nat.lt_trichotomy i j with h3 | h3 | h3
  · have := List.pairwise_iff_getElem.1 h _ _ h1 h2 h3; omega
  · exact h3
  · have := List.pairwise_iff_getElem.1 h _ _ h2 h1 h3; omega
theorem cut_ris {l : List Int} {k : Nat} (h : Ris l) : Ris (l.take k ++ l.drop (k + 1)) := by
  have : (l.take k ++ l.drop (k + 1)) = l.eraseIdx k := (List.eraseIdx_eq_take_drop_succ l k).symm
  rw [this]
  exact h.sublist (List.eraseIdx_sublist _ _)
theorem cut_perm {α : Type} {l : List α} {k : Nat} {x : α} (h : l[k]? = some x) : l.Perm (x :: (l.take k ++ l.drop (k + 1))) := by
  have hk := (List.getElem?_eq_some_iff.1 h).1
  have e : l = l.take k ++ x :: l.drop (k + 1) := by
    conv => lhs; rw [← List.take_append_drop k l, List.drop_eq_getElem_cons hk]
    rw [(List.getElem?_eq_some_iff.1 h).2]
  conv => lhs; rw [e]
  exact List.perm_middle
end Go.Proofs.YthnkmmnipihkeaaF
