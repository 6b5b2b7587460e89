/- Sorted lists: inserting, and that there is one. No condition. -/
import Derived.Test.YtpcbppicjoolfaaK16
namespace Go.Proofs.YtpcbppicjoolfaaK
set_option linter.unusedSimpArgs false
set_option linter.unusedVariables false

/-- x put into a row, ahead of the first one that it is less than. -/
def ins {α : Type} (lt : α → α → Bool) (x : α) : List α → List α
  | [] => [x]
  | y :: t => if lt x y then x :: y :: t else y :: ins lt x t
theorem ins_perm {α : Type} (lt : α → α → Bool) (x : α) : ∀ l : List α, (ins lt x l).Perm (x :: l)
  | [] => List.Perm.refl _
  | y :: t => by
    unfold ins
    split
    · exact List.Perm.refl _
    · exact ((ins_perm lt x t).cons y).trans (List.Perm.swap _ _ _)
/-- An order told by 'less'. -/
structure LtOk {α : Type} (lt : α → α → Bool) : Prop where
  asym : ∀ x y, lt x y = true → lt y x = false
  ntr : ∀ x y z, lt y x = false → lt z y = false → lt z x = false
  eq : ∀ x y, lt x y = false → lt y x = false → x = y
abbrev Srt {α : Type} (lt : α → α → Bool) (l : List α) : Prop := l.Pairwise fun x y => lt y x = false
theorem ins_srt {α : Type} {lt : α → α → Bool} (o : LtOk lt) (x : α) : ∀ {l : List α}, Srt lt l → Srt lt (ins lt x l)
  | [], _ => List.pairwise_singleton _ _
  | y :: t, h => by
    obtain ⟨h1, h2⟩ := List.pairwise_cons.1 h
    unfold ins
    split
    · rename_i hlt
      refine List.pairwise_cons.2 ⟨fun z hz => ?_, h⟩
      have hyx := o.asym x y hlt
      rcases List.mem_cons.1 hz with rfl | hz
      · exact hyx
      · exact o.ntr x y z hyx (h1 z hz)
    · rename_i hn
      have hxy : lt x y = false := by simpa using hn
      refine List.pairwise_cons.2 ⟨fun z hz => ?_, ins_srt o x h2⟩
      have := (ins_perm lt x t).subset hz
      rcases List.mem_cons.1 this with rfl | hz
      · exact hxy
      · exact h1 z hz
theorem srt_uniq {α : Type} {lt : α → α → Bool} (o : LtOk lt) : ∀ {l m : List α}, l.Perm m → Srt lt l → Srt lt m → l = m
  | [], m, p, _, _ => (List.nil_perm.1 p).symm
  | x :: l, [], p, _, _ => by have := p.length_eq; simp at this
  | x :: l, y :: m, p, hl, hm => by
    obtain ⟨h1, h2⟩ := List.pairwise_cons.1 hl
    obtain ⟨h3, h4⟩ := List.pairwise_cons.1 hm
    have hxy : x = y := by
      have hx : x ∈ y :: m := p.subset (by simp)
      have hy : y ∈ x :: l := p.symm.subset (by simp)
      rcases List.mem_cons.1 hx with e | hx
      · exact e
      · rcases List.mem_cons.1 hy with e | hy
        · exact e.symm
        · exact o.eq x y (h3 x hx) (h1 y hy)
    subst hxy
    rw [srt_uniq o (List.Perm.cons_inv p) h2 h4]
theorem srt_of {α : Type} {lt : α → α → Bool} {l : List α} (h : ∀ (i j : Nat) x y, i < j → l[i]? = some x → l[j]? = some y → lt y x = false) : Srt lt l := by
  induction l with
  | nil => exact List.Pairwise.nil
  | cons x l ih =>
    refine List.pairwise_cons.2 ⟨fun y hy => ?_, ih fun i j a b hij ha hb => h (i + 1) (j + 1) a b (by omega) (by simpa using ha) (by simpa using hb)⟩
    obtain ⟨j, hj⟩ := List.getElem?_of_mem hy
    exact h 0 (j + 1) x y (by omega) rfl (by simpa using hj)
/-- How the loop that inserts goes on. -/
theorem ins_step {α : Type} {lt : α → α → Bool} {x y : α} {l pre : List α} {k : Nat} (hx : l[k]? = some y) (h : ins lt x l = pre ++ ins lt x (l.drop k)) :
    (lt x y = true → ins lt x l = pre ++ [x] ++ [y] ++ l.drop (k + 1)) ∧ (lt x y = false → ins lt x l = pre ++ [y] ++ ins lt x (l.drop (k + 1))) := by
  have hlt := (List.getElem?_eq_some_iff.1 hx).1
  have hd : l.drop k = y :: l.drop (k + 1) := by rw [List.drop_eq_getElem_cons hlt, (List.getElem?_eq_some_iff.1 hx).2]
  rw [hd, ins] at h
  constructor
  · intro h1
    rw [if_pos h1] at h
    rw [h]; simp
  · intro h1
    rw [if_neg (by rw [h1]; simp)] at h
    rw [h]; simp
end Go.Proofs.YtpcbppicjoolfaaK
