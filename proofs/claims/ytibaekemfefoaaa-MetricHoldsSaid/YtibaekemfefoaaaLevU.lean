/- Chapter 8: Upto, by a band. No condition. -/
import Derived.Test.YtibaekemfefoaaaLevD
import Derived.Test.YtibaekemfefoaaaK18
namespace Go.Proofs.YtibaekemfefoaaaF
open Go Go.Proofs.YtibaekemfefoaaaK
set_option linter.unusedSimpArgs false
set_option linter.unusedVariables false

theorem ed_ge : ∀ xs ys : List Int, xs.length ≤ ys.length + ed xs ys ∧ ys.length ≤ xs.length + ed xs ys
  | [], ys => by rw [ed_nil]; simp
  | x :: xs, [] => by rw [ed_left]; simp
  | x :: xs, y :: ys => by
    rw [ed_cons]
    have h1 := ed_ge xs ys
    have h2 := ed_ge xs (y :: ys)
    have h3 := ed_ge (x :: xs) ys
    simp only [List.length_cons] at *
    omega
theorem ed_max : ∀ xs ys : List Int, ed xs ys ≤ max xs.length ys.length
  | [], ys => by rw [ed_nil]; simp
  | x :: xs, [] => by rw [ed_left]; simp
  | x :: xs, y :: ys => by
    rw [ed_cons]
    have h1 := ed_max xs ys
    have hb : bne1 x y ≤ 1 := by unfold bne1; split <;> omega
    simp only [List.length_cons] at *
    omega
theorem T_ge {a b : List Int} {i k : Nat} (hi : i ≤ a.length) (hk : k ≤ b.length) : i ≤ k + T a b i k ∧ k ≤ i + T a b i k := by
  have := ed_ge (a.take i) (b.take k)
  rw [List.length_take, List.length_take, Nat.min_eq_left hi, Nat.min_eq_left hk] at this
  exact this
/-- A place of the band: at most one more than 'most'. -/
def bnd (a b : List Int) (most n k : Nat) : Int := ((min (T a b n k) (most + 1) : Nat) : Int)
abbrev lowB (most n : Nat) : Nat := n - most
abbrev highB (b : List Int) (most n : Nat) : Nat := min b.length (n + most)
def bandL (a b : List Int) (most n : Nat) : List Int := (List.range (highB b most n + 1 - lowB most n)).map fun j => bnd a b most n (lowB most n + j)
theorem bandL_len (a b : List Int) (most n : Nat) : (bandL a b most n).length = highB b most n + 1 - lowB most n := by simp [bandL]
theorem bandL_get {a b : List Int} {most n j : Nat} (hj : j < highB b most n + 1 - lowB most n) : (bandL a b most n)[j]? = some (bnd a b most n (lowB most n + j)) := by
  unfold bandL; rw [List.getElem?_map, List.getElem?_range hj]; rfl
theorem slc3_all {s : Sl} {len : Int} {size : Nat} (hl : len = (s.len : Int)) (hc : s.len ≤ s.cap) {K : Option Addr → Nat → Nat → Prop} (hk : K s.a s.len s.len) : slc3 s.a s.len s.cap none len len size K := by
  subst hl
  refine ⟨⟨by omega, by omega⟩, ⟨by omega, by omega⟩, ⟨?_, ?_⟩, ?_⟩
  · simp
  · simp
  · have e : (if ((s.len : Int)).toNat = ((none : Option Int).getD 0).toNat then s.a else s.a.map (·.add (((none : Option Int).getD 0).toNat * size))) = s.a := by
      show (if ((s.len : Int)).toNat = 0 then s.a else s.a.map (·.add (0 * size))) = s.a
      split
      · rfl
      · rw [Nat.zero_mul]; exact add_zero_map s.a
    rw [e]
    exact hk

end Go.Proofs.YtibaekemfefoaaaF
