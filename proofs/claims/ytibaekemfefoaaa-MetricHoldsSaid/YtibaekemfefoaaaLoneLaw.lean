/- Chapter 6: the statements LoneMetric and LoneTells answer true. No condition. -/
import Derived.Test.YtibaekemfefoaaaLoneL
namespace Go.Proofs.YtibaekemfefoaaaF
open Go Go.Proofs.YtibaekemfefoaaaK
set_option linter.unusedSimpArgs false
set_option linter.unusedVariables false

/-! The plain law: a metric. -/
def lsumN (a b : List Int) : Nat → Int
  | 0 => 0
  | n + 1 => lsumN a b n + aprt (zat a n) (zat b n)
theorem lsumN_range (a b : List Int) (n : Nat) : (((List.range n).map fun i => aprt (zat a i) (zat b i)).sum : Int) = lsumN a b n := by
  induction n with
  | zero => rfl
  | succ n ih => rw [List.range_succ, List.map_append, List.sum_append, ih]; simp [lsumN]
theorem zat_none {l : List Int} {i : Nat} (h : l.length ≤ i) : zat l i = 0 := by unfold zat; rw [List.getElem?_eq_none h]; rfl
theorem lsumN_more (a b : List Int) (k : Nat) : lsumN a b (max a.length b.length + k) = ldist a b := by
  induction k with
  | zero => exact (lsumN_range a b _).symm
  | succ k ih => rw [show max a.length b.length + (k + 1) = (max a.length b.length + k) + 1 by omega, lsumN, ih, zat_none (by omega), zat_none (by omega)]; simp [aprt]
theorem ldist_lsumN {a b : List Int} {n : Nat} (h : max a.length b.length ≤ n) : ldist a b = lsumN a b n := by
  obtain ⟨k, rfl⟩ := Nat.exists_eq_add_of_le h
  exact (lsumN_more a b k).symm
theorem aprt_comm (x y : Int) : aprt x y = aprt y x := by unfold aprt; (repeat' split) <;> omega
theorem aprt_tri (x y z : Int) : aprt x y ≤ aprt x z + aprt z y := by unfold aprt; (repeat' split) <;> omega
theorem aprt_nn (x y : Int) : 0 ≤ aprt x y := by unfold aprt; split <;> omega
theorem aprt_zero {x y : Int} : aprt x y = 0 ↔ x = y := by unfold aprt; split <;> omega
theorem lsumN_comm (a b : List Int) (n : Nat) : lsumN a b n = lsumN b a n := by
  induction n with
  | zero => rfl
  | succ n ih => simp only [lsumN]; rw [ih, aprt_comm]
theorem lsumN_tri (a b c : List Int) (n : Nat) : lsumN a b n ≤ lsumN a c n + lsumN c b n := by
  induction n with
  | zero => simp [lsumN]
  | succ n ih => simp only [lsumN]; have := aprt_tri (zat a n) (zat b n) (zat c n); omega
theorem lsumN_nn (a b : List Int) (n : Nat) : 0 ≤ lsumN a b n := by
  induction n with
  | zero => simp [lsumN]
  | succ n ih => simp only [lsumN]; have := aprt_nn (zat a n) (zat b n); omega
theorem lsumN_zero {a b : List Int} {n : Nat} : lsumN a b n = 0 ↔ ∀ i, i < n → zat a i = zat b i := by
  induction n with
  | zero => simp [lsumN]
  | succ n ih =>
    simp only [lsumN]
    have h1 := lsumN_nn a b n
    have h2 := aprt_nn (zat a n) (zat b n)
    constructor
    · intro h i hi
      by_cases e : i = n
      · subst e; exact aprt_zero.1 (by omega)
      · exact ih.1 (by omega) i (by omega)
    · intro h
      have := ih.2 fun i hi => h i (by omega)
      have := aprt_zero.2 (h n (by omega))
      omega
theorem ldist_comm (a b : List Int) : ldist a b = ldist b a := by
  rw [ldist_lsumN (n := max a.length b.length) (Nat.le_refl _), ldist_lsumN (a := b) (n := max a.length b.length) (by omega), lsumN_comm]
theorem ldist_tri (a b c : List Int) : ldist a b ≤ ldist a c + ldist c b := by
  rw [ldist_lsumN (n := max (max a.length b.length) c.length) (by omega), ldist_lsumN (a := a) (b := c) (n := max (max a.length b.length) c.length) (by omega), ldist_lsumN (a := c) (n := max (max a.length b.length) c.length) (by omega)]
  exact lsumN_tri a b c _
theorem ldist_nn (a b : List Int) : 0 ≤ ldist a b := by rw [ldist_lsumN (Nat.le_refl _)]; exact lsumN_nn _ _ _
theorem lleast_le (a b : List Int) : lleast a b ≤ ldist a b := by
  have h1 := ldist_tri a [] b
  have h2 := ldist_tri b [] a
  rw [ldist_comm b a] at h2
  unfold lleast aprt
  split <;> omega

/-! From arguments. -/
theorem arg32 {h : Hp} {t e : TypeId} {m : Nat} {a : Option Addr} {len cap : Nat} (ht : Try.prog.underlying t = some (.slice e)) (he : Try.prog.underlying e = some (.int .i32)) (hC : Try.prog.cellsOf e = 1)
    (g : Arg Try.prog h t (.slice a len cap) m) : ∃ l : List Int, R32 h ⟨a, len, cap⟩ l ∧ Ok32 l ∧ l.length ≤ m := by
  obtain ⟨l, ms, r, _, hs, hg⟩ := arg_row (Good := fun x n => okI .i32 x ∧ 1 ≤ n) ht hC (fun n cs m r hl => rd_int he n cs m r hl) g
  refine ⟨l, r, fun x hx => ?_, ?_⟩
  · obtain ⟨i, hi⟩ := List.getElem?_of_mem hx
    exact okI_i32 (hg i x hi).1
  · have := sum_ones (n := l.length) (f := ms) fun i hi => (hg i _ (List.getElem?_eq_getElem hi)).2
    omega
end Go.Proofs.YtibaekemfefoaaaF
