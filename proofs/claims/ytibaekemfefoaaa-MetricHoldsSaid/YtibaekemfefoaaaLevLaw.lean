/- Chapter 8: the laws. No condition. -/
import Derived.Test.YtibaekemfefoaaaLevLeast
import Derived.Test.YtibaekemfefoaaaLevU
import Derived.Test.YtibaekemfefoaaaWayPure
namespace Go.Proofs.YtibaekemfefoaaaF
open Go Go.Proofs.YtibaekemfefoaaaK
set_option linter.unusedSimpArgs false
set_option linter.unusedVariables false

theorem size_of {a : ByteArray} : (bts a).length = a.size := bts_len a
theorem ed_zero {a b : List Int} : ed a b = 0 ↔ a = b := by
  constructor
  · intro h
    have hw := way_count _ a b (Nat.le_refl _)
    have hr := runA_way _ a b [] (Nat.le_refl _)
    rw [h] at hw
    have key : ∀ (w : List Int) (a b out : List Int), wayc w = 0 → runA a b out w = some (out ++ b) → a = b := by
      intro w
      induction w with
      | nil =>
        intro a b out _ hr
        simp only [runA] at hr
        split at hr
        · rename_i h; rw [h.1, h.2]
        · cases hr
      | cons c w ih =>
        intro a b out hw hr
        rw [wayc_cons] at hw
        have hc : c = 61 := Classical.byContradiction fun hn => by rw [if_neg hn] at hw; omega
        subst hc
        simp only [runA] at hr
        rw [if_pos (by decide)] at hr
        split at hr
        · rename_i x xs y ys
          split at hr
          · rename_i hxy
            have hxy : x = y := hxy.2 trivial
            subst hxy
            have := ih xs ys (out ++ [x]) (by simpa using hw) (by rw [hr]; simp)
            rw [this]
          · cases hr
        · cases hr
    exact key _ a b [] hw.1 hr
  · intro h
    subst h
    induction a with
    | nil => rfl
    | cons x xs ih => rw [ed_same]; exact ih
theorem Al.join {a c b : List Int} {n m : Nat} (h1 : Al a c n) (h2 : Al c b m) : ∃ k, k ≤ n + m ∧ Al a b k := by
  induction h1 generalizing b m with
  | nil => exact ⟨m, by omega, h2⟩
  | del x h ih => obtain ⟨k, hk, h3⟩ := ih h2; exact ⟨k + 1, by omega, Al.del x h3⟩
  | @sub x y xs ys n h ih =>
    generalize e : y :: ys = zs at h2
    induction h2 with
    | nil => cases e
    | @sub y' z ys' zs' m h2 _ =>
      cases e
      obtain ⟨k, hk, h3⟩ := ih h2
      refine ⟨k + bne1 x z, ?_, Al.sub x z h3⟩
      have : bne1 x z ≤ bne1 x y + bne1 y z := by
        unfold bne1
        (repeat' split) <;> omega
      omega
    | @del y' ys' zs' m h2 _ => cases e; obtain ⟨k, hk, h3⟩ := ih h2; exact ⟨k + 1, by omega, Al.del x h3⟩
    | @ins z ys' zs' m h2 ih2 => obtain ⟨k, hk, h3⟩ := ih2 e; exact ⟨k + 1, by omega, Al.ins z h3⟩
  | @ins y xs ys n h ih =>
    generalize e : y :: ys = zs at h2
    induction h2 with
    | nil => cases e
    | @sub y' z ys' zs' m h2 _ => cases e; obtain ⟨k, hk, h3⟩ := ih h2; exact ⟨k + 1, by omega, Al.ins z h3⟩
    | @del y' ys' zs' m h2 _ => cases e; obtain ⟨k, hk, h3⟩ := ih h2; exact ⟨k, by omega, h3⟩
    | @ins z ys' zs' m h2 ih2 => obtain ⟨k, hk, h3⟩ := ih2 e; exact ⟨k + 1, by omega, Al.ins z h3⟩
theorem ed_tri (a b c : List Int) : ed a b ≤ ed a c + ed c b := by
  obtain ⟨k, hk, h⟩ := Al.join (al_ed a c) (al_ed c b)
  have := ed_le h
  omega
theorem sumN_le {g g' : Nat → Int} (h : ∀ k, g k ≤ g' k) : ∀ n, sumN g n ≤ sumN g' n
  | 0 => Int.le_refl _
  | n + 1 => by have := sumN_le h n; have := h n; unfold sumN; omega
theorem sumN_one {g g' : Nat → Int} {x : Int} (h : ∀ k : Nat, g' k ≤ g k + if (k : Int) = x then 1 else 0) : ∀ n : Nat, sumN g' n ≤ sumN g n + if 0 ≤ x ∧ x < n then 1 else 0
  | 0 => by simp [sumN]; omega
  | n + 1 => by
    have h1 := sumN_one h n
    have h2 := h n
    unfold sumN
    by_cases e : (n : Int) = x
    · rw [if_neg (by omega)] at h1
      rw [if_pos e] at h2
      rw [if_pos (by omega)]; omega
    · rw [if_neg e] at h2
      by_cases e2 : 0 ≤ x ∧ x < n
      · rw [if_pos e2] at h1; rw [if_pos (by omega)]; omega
      · rw [if_neg e2] at h1; rw [if_neg (by omega)]; omega
theorem cntN_cons (x : Int) (l : List Int) (k : Nat) : cntN (x :: l) k = cntN l k + if (k : Int) = x then 1 else 0 := by
  unfold cntN
  rw [List.count_cons]
  by_cases h : x = (k : Int)
  · rw [if_pos (c := (x == (k : Int)) = true) (by simpa using h), if_pos h.symm]; omega
  · rw [if_neg (c := (x == (k : Int)) = true) (by simpa using h), if_neg (fun e => h e.symm)]; omega
theorem more_del (x : Int) (xs ys : List Int) (n : Nat) : moreN (x :: xs) ys n ≤ moreN xs ys n + 1 := by
  have := sumN_one (g := fun k => max (difN xs ys k) 0) (g' := fun k => max (difN (x :: xs) ys k) 0) (x := x) (fun k => by
    simp only [difN, cntN_cons]; split <;> omega) n
  unfold moreN
  split at this <;> omega
theorem more_ins (y : Int) (xs ys : List Int) (n : Nat) : moreN xs (y :: ys) n ≤ moreN xs ys n :=
  sumN_le (fun k => by simp only [difN, cntN_cons]; split <;> omega) n
theorem more_same (x : Int) (xs ys : List Int) (n : Nat) : moreN (x :: xs) (x :: ys) n ≤ moreN xs ys n :=
  sumN_le (fun k => by simp only [difN, cntN_cons]; split <;> omega) n
theorem more_al {a b : List Int} {m : Nat} (h : Al a b m) (n : Nat) : moreN a b n ≤ m := by
  induction h with
  | nil =>
    have : ∀ n, moreN [] [] n ≤ 0 := fun n => by
      induction n with
      | zero => exact Int.le_refl _
      | succ n ih => show sumN _ n + _ ≤ 0; have : moreN [] [] n ≤ 0 := ih; unfold moreN at this; simp [difN, cntN] at *; exact this
    exact this n
  | @sub x y xs ys m h ih =>
    unfold bne1
    split
    · rename_i e; subst e; have := more_same x xs ys n; omega
    · have := more_ins y (x :: xs) ys n; have := more_del x xs ys n; omega
  | @del x xs ys m h ih => have := more_del x xs ys n; omega
  | @ins y xs ys m h ih => have := more_ins y xs ys n; omega
theorem less_more (a b : List Int) (n : Nat) : lessN a b n = moreN b a n := by
  unfold lessN moreN
  congr 1
  funext k
  unfold difN
  congr 1
  omega
theorem least_le (a b : List Int) : leastN a b ≤ ed a b := by
  have h1 := more_al (al_ed a b) 256
  have h2 := more_al (al_ed b a) 256
  rw [← less_more, ed_comm] at h2
  have h3 := ed_ge a b
  unfold leastN
  omega

end Go.Proofs.YtibaekemfefoaaaF
