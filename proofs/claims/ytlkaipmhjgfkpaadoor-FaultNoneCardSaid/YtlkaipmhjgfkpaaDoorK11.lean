/- The eleventh part of the layer: arguments opened: slices as lists. No condition. -/
import Derived.Test.YtlkaipmhjgfkpaaDoorK10
namespace Go.Proofs.YtlkaipmhjgfkpaaDoorK
open Go Go.RowKit
set_option linter.unusedSimpArgs false
set_option linter.unusedVariables false

theorem sumTo_succ (n : Nat) (f : Nat → Nat) : sumTo (n + 1) f = sumTo n f + f n := by
  unfold sumTo
  rw [List.range_succ, List.map_append, List.sum_append]; simp
theorem sumTo_mono (f : Nat → Nat) {m n : Nat} (h : m ≤ n) : sumTo m f ≤ sumTo n f := by
  induction h with
  | refl => exact Nat.le_refl _
  | step h ih => rw [sumTo_succ]; omega

/-- A slice argument as a list. Good x n: what is known of an element whose count is n. -/
theorem arg_row {α : Type} {enc : α → List Value} {size : Nat} {Good : α → Nat → Prop} {P : Program} {h : Hp} {t e : TypeId} {m : Nat} {a : Option Addr} {len cap : Nat} (ht : P.underlying t = some (.slice e)) (hC : P.cellsOf e = size)
    (hel : ∀ n cs m, Rd P h n e cs m → cs.length = size → ∃ x : α, cs = enc x ∧ Good x m) (g : Arg P h t (.slice a len cap) m) :
    ∃ (l : List α) (ms : Nat → Nat), IsRow enc size h ⟨a, len, cap⟩ l ∧ cap * P.bytesOf e ≤ reachBytes ∧ sumTo l.length ms + 1 ≤ m ∧ ∀ i x, l[i]? = some x → Good x (ms i) := by
  obtain ⟨fuel, g⟩ := g
  cases fuel with
  | zero => exact g.elim
  | succ n =>
    unfold Rd at g
    obtain ⟨hm, g⟩ := g
    rw [ht] at g
    rcases g with g | ⟨a', len', cap', hcs, hlc, hcb, ms, hms, hget⟩
    · simp only [Value.cells, List.cons.injEq, Value.slice.injEq, and_true] at g
      obtain ⟨rfl, rfl, rfl⟩ := g
      exact ⟨[], fun _ => 0, IsRow.nil enc size h 0, by simp, by simpa [sumTo] using hm, fun i x hx => (by cases hx)⟩
    · simp only [Value.cells, List.cons.injEq, Value.slice.injEq, and_true] at hcs
      obtain ⟨rfl, rfl, rfl⟩ := hcs
      have key : ∀ k, k ≤ cap → ∃ l : List α, l.length = k ∧ ∀ i x, l[i]? = some x → cellsAt h (a'.add (i * size)) (enc x) ∧ Good x (ms i) := by
        intro k
        induction k with
        | zero => intro _; exact ⟨[], rfl, fun i x hx => (by cases hx)⟩
        | succ k ih =>
          intro hk
          obtain ⟨l, hl, hx⟩ := ih (by omega)
          obtain ⟨es, he, hc, hr⟩ := hget k (by omega)
          rw [hC] at he hc
          obtain ⟨x, rfl, hgood⟩ := hel n es (ms k) hr he
          refine ⟨l ++ [x], by simp [hl], fun i y hy => ?_⟩
          by_cases hi : i < l.length
          · rw [List.getElem?_append_left hi] at hy; exact hx i y hy
          · rw [List.getElem?_append_right (by omega)] at hy
            have hi0 : i - l.length = 0 := by
              rcases Nat.eq_zero_or_pos (i - l.length) with h | h
              · exact h
              · rw [List.getElem?_eq_none (by simp; omega)] at hy; cases hy
            rw [hi0] at hy
            simp at hy; subst hy
            obtain rfl : i = k := by omega
            exact ⟨hc, hgood⟩
      obtain ⟨l, hl, hx⟩ := key len hlc
      refine ⟨l, ms, ⟨hl.symm, hlc, fun _ => ⟨a', rfl⟩, fun b i x hb hi => by cases hb; exact (hx i x hi).1⟩, hcb, ?_, fun i x hi => (hx i x hi).2⟩
      rw [hl]
      have := sumTo_mono ms hlc
      omega

def encI (k : IntKind) (n : Int) : List Value := [.int k n]
theorem encI_ok (k : IntKind) : Enc (encI k) 1 := ⟨fun _ => rfl, fun x v hv => by simp [encI] at hv; subst hv; rfl⟩
def okI (k : IntKind) (n : Int) : Prop := (Lit.int k n).wf = true
theorem rd_int {P : Program} {h : Hp} {e : TypeId} {k : IntKind} (he : P.underlying e = some (.int k)) (n : Nat) (cs : List Value) (m : Nat) (r : Rd P h n e cs m) (_ : cs.length = 1) : ∃ x : Int, cs = encI k x ∧ (okI k x ∧ 1 ≤ m) := by
  cases n with
  | zero => exact r.elim
  | succ n =>
    unfold Rd at r
    rw [he] at r
    obtain ⟨hm, x, rfl, hw⟩ := r
    exact ⟨x, rfl, hw, hm⟩
theorem okI_i32 {n : Int} (h : okI .i32 n) : -2147483648 ≤ n ∧ n ≤ 2147483647 := by
  simpa [okI, Lit.wf, IntKind.min, IntKind.max, IntKind.signed, IntKind.bits] using h
theorem okI_i64 {n : Int} (h : okI .i64 n) : -9223372036854775808 ≤ n ∧ n ≤ 9223372036854775807 := by
  simpa [okI, Lit.wf, IntKind.min, IntKind.max, IntKind.signed, IntKind.bits] using h
theorem okI_u64 {n : Int} (h : okI .u64 n) : 0 ≤ n ∧ n ≤ 18446744073709551615 := by
  simpa [okI, Lit.wf, IntKind.min, IntKind.max, IntKind.signed, IntKind.bits] using h
theorem okI_u8 {n : Int} (h : okI .u8 n) : 0 ≤ n ∧ n ≤ 255 := by
  simpa [okI, Lit.wf, IntKind.min, IntKind.max, IntKind.signed, IntKind.bits] using h
theorem sum_ones {n : Nat} {f : Nat → Nat} (h : ∀ i, i < n → 1 ≤ f i) : n ≤ sumTo n f := by
  induction n with
  | zero => exact Nat.zero_le _
  | succ n ih => rw [sumTo_succ]; have := ih (fun i hi => h i (by omega)); have := h n (by omega); omega
end Go.Proofs.YtlkaipmhjgfkpaaDoorK
