/- Figures of numbers: plain facts. No condition. -/
import Derived.Test.YtlkaipmhjgfkpaaDoorK16
namespace Go.Proofs.YtlkaipmhjgfkpaaDoorK
open Go
set_option linter.unusedSimpArgs false
set_option linter.unusedVariables false

/-- A number's figures, as bytes. -/
def dec (n : Nat) : List Int := if n < 10 then [48 + (n : Int)] else dec (n / 10) ++ [48 + ((n % 10 : Nat) : Int)]
termination_by n
decreasing_by omega
theorem dec_small {n : Nat} (h : n < 10) : dec n = [48 + (n : Int)] := by rw [dec, if_pos h]
theorem dec_big {n : Nat} (h : ¬ n < 10) : dec n = dec (n / 10) ++ [48 + ((n % 10 : Nat) : Int)] := by rw [dec, if_neg h]
/-- w figures. -/
def decW : Nat → Nat → List Int
  | 0, _ => []
  | w + 1, n => decW w (n / 10) ++ [48 + ((n % 10 : Nat) : Int)]
theorem decW_len : ∀ (w n : Nat), (decW w n).length = w
  | 0, _ => rfl
  | w + 1, n => by simp [decW, decW_len w]
theorem decW_dec : ∀ (w n : Nat), 10 ^ w ≤ n → n < 10 ^ (w + 1) → decW (w + 1) n = dec n
  | 0, n, _, h2 => by
    have : n < 10 := by simpa using h2
    rw [dec_small this]; simp [decW, Nat.mod_eq_of_lt this]
  | w + 1, n, h1, h2 => by
    have h10 : ¬ n < 10 := fun h => by
      have : 10 ^ 1 ≤ 10 ^ (w + 1) := Nat.pow_le_pow_right (by decide) (by omega)
      omega
    rw [dec_big h10]
    show decW (w + 1) (n / 10) ++ _ = _
    rw [decW_dec w (n / 10) (by rw [Nat.le_div_iff_mul_le (by decide)]; rw [Nat.pow_succ] at h1; omega) (by rw [Nat.div_lt_iff_lt_mul (by decide)]; rw [Nat.pow_succ] at h2; omega)]
theorem decW_add : ∀ (b a n : Nat), decW (a + b) n = decW a (n / 10 ^ b) ++ decW b n
  | 0, a, n => by simp [decW]
  | b + 1, a, n => by
    have e : a + (b + 1) = (a + b) + 1 := by omega
    rw [e]
    show decW (a + b) (n / 10) ++ _ = _
    rw [decW_add b a (n / 10), Nat.div_div_eq_div_mul, show 10 * 10 ^ b = 10 ^ (b + 1) by rw [Nat.pow_succ]; omega, List.append_assoc]
    rfl
theorem decW_mod : ∀ (w n : Nat), decW w (n % 10 ^ w) = decW w n
  | 0, _ => rfl
  | w + 1, n => by
    show decW w (n % 10 ^ (w + 1) / 10) ++ _ = decW w (n / 10) ++ _
    have h1 : n % 10 ^ (w + 1) / 10 = (n / 10) % 10 ^ w := by
      rw [Nat.pow_succ, Nat.mul_comm, Nat.mod_mul_right_div_self]
    have h2 : n % 10 ^ (w + 1) % 10 = n % 10 := by
      rw [Nat.pow_succ, Nat.mul_comm, Nat.mod_mul_right_mod]
    rw [h1, h2, decW_mod w]
theorem decW_two (n : Nat) : decW 2 n = [48 + ((n / 10 % 10 : Nat) : Int), 48 + ((n % 10 : Nat) : Int)] := by simp [decW]
theorem decW_one (n : Nat) : decW 1 n = [48 + ((n % 10 : Nat) : Int)] := by simp [decW]
theorem dec_len {n : Nat} : 1 ≤ (dec n).length := by
  by_cases h : n < 10
  · rw [dec_small h]; simp
  · rw [dec_big h]; simp
theorem decW_byte : ∀ (w n : Nat), ∀ c ∈ decW w n, 48 ≤ c ∧ c ≤ 57
  | 0, _, c, h => by simp [decW] at h
  | w + 1, n, c, h => by
    rcases List.mem_append.1 h with h | h
    · exact decW_byte w _ c h
    · simp at h; omega
/-- A whole number's figures, with its sign. -/
def decI (n : Int) : List Int := if n < 0 then 45 :: dec (-n).toNat else dec n.toNat
/-- How many figures: by the power of two that stands next. -/
theorem log10_ok : ∀ n, n < 65 → 1 ≤ n → 10 ^ (n * 78913 / 2 ^ 18) ≤ 2 ^ n ∧ 2 ^ n ≤ 10 ^ (n * 78913 / 2 ^ 18 + 1) ∧ n * 78913 / 2 ^ 18 ≤ 19 := by decide
theorem digits_at {n x : Nat} (hn : n < 65) (h1 : 1 ≤ n) (hlo : 2 ^ (n - 1) ≤ x) (hhi : x < 2 ^ n) {w : Nat} (hw : w = n * 78913 / 2 ^ 18 + if 10 ^ (n * 78913 / 2 ^ 18) ≤ x then 1 else 0) (hw1 : 1 ≤ w) : 10 ^ (w - 1) ≤ x ∧ x < 10 ^ w ∧ w ≤ 20 := by
  obtain ⟨a, b, c⟩ := log10_ok n hn h1
  generalize n * 78913 / 2 ^ 18 = d at a b c hw
  have h2 : 2 ^ n = 2 * 2 ^ (n - 1) := by rw [← Nat.pow_succ', show (n - 1).succ = n by omega]
  split at hw
  · rename_i h
    subst hw
    exact ⟨by simpa using h, by omega, by omega⟩
  · rename_i h
    obtain rfl : w = d := by omega
    obtain ⟨e, rfl⟩ : ∃ e, w = e + 1 := ⟨w - 1, by omega⟩
    refine ⟨?_, by omega, by omega⟩
    show 10 ^ e ≤ x
    have : 10 ^ (e + 1) = 10 * 10 ^ e := by rw [Nat.pow_succ]; omega
    omega
end Go.Proofs.YtlkaipmhjgfkpaaDoorK
