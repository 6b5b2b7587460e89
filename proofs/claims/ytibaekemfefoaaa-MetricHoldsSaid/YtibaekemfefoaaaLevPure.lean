/- Edits: how many are needed at least. No condition. -/
import Derived.Test.YtibaekemfefoaaaK16
namespace Go.Proofs.YtibaekemfefoaaaK
set_option linter.unusedSimpArgs false
set_option linter.unusedVariables false

def bne1 (x y : Int) : Nat := if x = y then 0 else 1
def stepE (x : Int) (f : List Int → Nat) : List Int → Nat
  | [] => f [] + 1
  | y :: ys => min (min (f ys + bne1 x y) (f (y :: ys) + 1)) (stepE x f ys + 1)
def ed : List Int → List Int → Nat
  | [] => List.length
  | x :: xs => stepE x (ed xs)
theorem ed_nil (ys : List Int) : ed [] ys = ys.length := rfl
theorem ed_left : ∀ xs : List Int, ed xs [] = xs.length
  | [] => rfl
  | x :: xs => by show ed xs [] + 1 = _; rw [ed_left xs]; rfl
theorem ed_cons (x y : Int) (xs ys : List Int) : ed (x :: xs) (y :: ys) = min (min (ed xs ys + bne1 x y) (ed xs (y :: ys) + 1)) (ed (x :: xs) ys + 1) := rfl
/-- A way of n edits. -/
inductive Al : List Int → List Int → Nat → Prop
  | nil : Al [] [] 0
  | sub (x y : Int) {xs ys : List Int} {n : Nat} : Al xs ys n → Al (x :: xs) (y :: ys) (n + bne1 x y)
  | del (x : Int) {xs ys : List Int} {n : Nat} : Al xs ys n → Al (x :: xs) ys (n + 1)
  | ins (y : Int) {xs ys : List Int} {n : Nat} : Al xs ys n → Al xs (y :: ys) (n + 1)
theorem ed_del (x : Int) (xs ys : List Int) : ed (x :: xs) ys ≤ ed xs ys + 1 := by
  cases ys with
  | nil => show ed xs [] + 1 ≤ _; exact Nat.le_refl _
  | cons y ys => rw [ed_cons]; omega
theorem ed_ins (y : Int) (xs ys : List Int) : ed xs (y :: ys) ≤ ed xs ys + 1 := by
  cases xs with
  | nil => simp [ed_nil]
  | cons x xs => rw [ed_cons]; omega
theorem ed_sub (x y : Int) (xs ys : List Int) : ed (x :: xs) (y :: ys) ≤ ed xs ys + bne1 x y := by rw [ed_cons]; omega
theorem ed_le {xs ys : List Int} {n : Nat} (h : Al xs ys n) : ed xs ys ≤ n := by
  induction h with
  | nil => exact Nat.le_refl _
  | sub x y h ih => exact Nat.le_trans (ed_sub x y _ _) (Nat.add_le_add_right ih _)
  | del x h ih => exact Nat.le_trans (ed_del x _ _) (Nat.add_le_add_right ih _)
  | ins y h ih => exact Nat.le_trans (ed_ins y _ _) (Nat.add_le_add_right ih _)
theorem al_ed : ∀ xs ys : List Int, Al xs ys (ed xs ys)
  | [], [] => Al.nil
  | [], y :: ys => by have := Al.ins y (al_ed [] ys); simpa [ed_nil] using this
  | x :: xs, [] => by have := Al.del x (al_ed xs []); simpa [ed_left] using this
  | x :: xs, y :: ys => by
    have h1 := Al.sub x y (al_ed xs ys)
    have h2 := Al.del x (al_ed xs (y :: ys))
    have h3 := Al.ins y (al_ed (x :: xs) ys)
    rw [ed_cons]
    rcases (show min (min (ed xs ys + bne1 x y) (ed xs (y :: ys) + 1)) (ed (x :: xs) ys + 1) = ed xs ys + bne1 x y ∨ min (min (ed xs ys + bne1 x y) (ed xs (y :: ys) + 1)) (ed (x :: xs) ys + 1) = ed xs (y :: ys) + 1 ∨
        min (min (ed xs ys + bne1 x y) (ed xs (y :: ys) + 1)) (ed (x :: xs) ys + 1) = ed (x :: xs) ys + 1 by omega) with e | e | e <;> rw [e]
    · exact h1
    · exact h2
    · exact h3
theorem Al.snocS {xs ys : List Int} {n : Nat} (h : Al xs ys n) (x y : Int) : Al (xs ++ [x]) (ys ++ [y]) (n + bne1 x y) := by
  induction h with
  | nil => have := Al.sub x y Al.nil; simpa using this
  | sub a b h ih => have := Al.sub a b ih; rw [Nat.add_right_comm] at this; exact this
  | del a h ih => have := Al.del a ih; rw [Nat.add_right_comm] at this; exact this
  | ins b h ih => have := Al.ins b ih; rw [Nat.add_right_comm] at this; exact this
theorem Al.snocD {xs ys : List Int} {n : Nat} (h : Al xs ys n) (x : Int) : Al (xs ++ [x]) ys (n + 1) := by
  induction h with
  | nil => exact Al.del x Al.nil
  | sub a b h ih => have := Al.sub a b ih; rw [Nat.add_right_comm] at this; exact this
  | del a h ih => exact Al.del a ih
  | ins b h ih => exact Al.ins b ih
theorem Al.snocI {xs ys : List Int} {n : Nat} (h : Al xs ys n) (y : Int) : Al xs (ys ++ [y]) (n + 1) := by
  induction h with
  | nil => exact Al.ins y Al.nil
  | sub a b h ih => have := Al.sub a b ih; rw [Nat.add_right_comm] at this; exact this
  | del a h ih => exact Al.del a ih
  | ins b h ih => exact Al.ins b ih
theorem Al.rev {xs ys : List Int} {n : Nat} (h : Al xs ys n) : Al xs.reverse ys.reverse n := by
  induction h with
  | nil => exact Al.nil
  | sub a b h ih => rw [List.reverse_cons, List.reverse_cons]; exact ih.snocS a b
  | del a h ih => rw [List.reverse_cons]; exact ih.snocD a
  | ins b h ih => rw [List.reverse_cons]; exact ih.snocI b
theorem ed_rev (xs ys : List Int) : ed xs.reverse ys.reverse = ed xs ys := by
  refine Nat.le_antisymm (ed_le (al_ed xs ys).rev) ?_
  have := ed_le (al_ed xs.reverse ys.reverse).rev
  rwa [List.reverse_reverse, List.reverse_reverse] at this
theorem Al.sym {xs ys : List Int} {n : Nat} (h : Al xs ys n) : Al ys xs n := by
  induction h with
  | nil => exact Al.nil
  | sub a b h ih => have := Al.sub b a ih; rwa [show bne1 b a = bne1 a b by unfold bne1; (repeat' split) <;> omega] at this
  | del a h ih => exact Al.ins a ih
  | ins b h ih => exact Al.del b ih
theorem ed_comm (xs ys : List Int) : ed xs ys = ed ys xs := Nat.le_antisymm (ed_le (al_ed ys xs).sym) (ed_le (al_ed xs ys).sym)
/-- One letter less there. -/
theorem Al.less {xs ys : List Int} {y : Int} {n : Nat} (h : Al xs (y :: ys) n) : ∃ m, m ≤ n + 1 ∧ Al xs ys m := by
  generalize e : y :: ys = zs at h
  induction h with
  | nil => cases e
  | sub a b h ih => cases e; exact ⟨_, by omega, Al.del a h⟩
  | del a h ih => obtain ⟨m, hm, h2⟩ := ih e; exact ⟨m + 1, by omega, Al.del a h2⟩
  | ins b h ih => cases e; exact ⟨_, by omega, h⟩
theorem ed_lessR (xs ys : List Int) (y : Int) : ed xs ys ≤ ed xs (y :: ys) + 1 := by
  obtain ⟨m, hm, h⟩ := (al_ed xs (y :: ys)).less
  have := ed_le h
  omega
theorem ed_lessL (xs ys : List Int) (x : Int) : ed xs ys ≤ ed (x :: xs) ys + 1 := by
  rw [ed_comm xs ys, ed_comm (x :: xs) ys]; exact ed_lessR _ _ _
theorem ed_same (x : Int) (xs ys : List Int) : ed (x :: xs) (x :: ys) = ed xs ys := by
  have h1 := ed_lessR xs ys x
  have h2 := ed_lessL xs ys x
  have h0 : bne1 x x = 0 := by unfold bne1; rw [if_pos rfl]
  rw [ed_cons, h0]; omega
/-- The table: beginnings of two texts. -/
def T (a b : List Int) (i k : Nat) : Nat := ed (a.take i) (b.take k)
theorem T_zeroL (a b : List Int) {k : Nat} (hk : k ≤ b.length) : T a b 0 k = k := by unfold T; rw [List.take_zero, ed_nil, List.length_take]; omega
theorem T_zeroR (a b : List Int) {i : Nat} (hi : i ≤ a.length) : T a b i 0 = i := by unfold T; rw [List.take_zero, ed_left, List.length_take]; omega
theorem take_rev {a : List Int} {i : Nat} {x : Int} (h : a[i]? = some x) : (a.take (i + 1)).reverse = x :: (a.take i).reverse := by
  rw [List.take_add_one, h]; simp
theorem T_step {a b : List Int} {i k : Nat} {x y : Int} (hx : a[i]? = some x) (hy : b[k]? = some y) : T a b (i + 1) (k + 1) = min (min (T a b i k + bne1 x y) (T a b i (k + 1) + 1)) (T a b (i + 1) k + 1) := by
  unfold T
  rw [← ed_rev (a.take (i + 1)) (b.take (k + 1)), ← ed_rev (a.take i) (b.take k), ← ed_rev (a.take i) (b.take (k + 1)), ← ed_rev (a.take (i + 1)) (b.take k), take_rev hx, take_rev hy, ed_cons]
theorem T_same {a b : List Int} {i k : Nat} {x : Int} (hx : a[i]? = some x) (hy : b[k]? = some x) : T a b (i + 1) (k + 1) = T a b i k := by
  unfold T
  rw [← ed_rev (a.take (i + 1)) (b.take (k + 1)), ← ed_rev (a.take i) (b.take k), take_rev hx, take_rev hy, ed_same]
theorem T_le (a b : List Int) (i k : Nat) : T a b i k ≤ a.length + b.length := by
  have h : ∀ xs ys : List Int, ed xs ys ≤ xs.length + ys.length := by
    intro xs
    induction xs with
    | nil => intro ys; simp [ed_nil]
    | cons x xs ih => intro ys; have := ed_del x xs ys; have := ih ys; simp; omega
  have := h (a.take i) (b.take k)
  rw [List.length_take, List.length_take] at this
  unfold T; omega
theorem T_all (a b : List Int) : T a b a.length b.length = ed a b := by unfold T; rw [List.take_length, List.take_length]
/-- What is alike at the beginnings and at the ends plays no part. -/
theorem ed_prefix : ∀ (p a b : List Int), ed (p ++ a) (p ++ b) = ed a b
  | [], a, b => rfl
  | x :: p, a, b => by rw [List.cons_append, List.cons_append, ed_same, ed_prefix p a b]
theorem ed_suffix (p a b : List Int) : ed (a ++ p) (b ++ p) = ed a b := by
  rw [← ed_rev, List.reverse_append, List.reverse_append, ed_prefix, ed_rev]
end Go.Proofs.YtibaekemfefoaaaK
