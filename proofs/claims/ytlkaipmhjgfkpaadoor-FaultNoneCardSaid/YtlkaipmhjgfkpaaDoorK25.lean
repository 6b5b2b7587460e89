/- The twenty-fifth part of the layer: the cells of a laid table of numbers. No condition. -/
import Derived.Test.YtlkaipmhjgfkpaaDoorK24
import Derived.ChangeVars
import GoSem.ClaimJoined
namespace Go.Proofs.YtlkaipmhjgfkpaaDoorK
open Go
set_option linter.unusedSimpArgs false
set_option linter.unusedVariables false

theorem mapM_at {α β : Type} {F : α → Option β} : ∀ {l : List α} {xs : List β}, l.mapM F = some xs → ∀ (i : Nat) a, l[i]? = some a → ∃ y, F a = some y ∧ xs[i]? = some y
  | [], xs, h, i, a, hi => by simp at hi
  | b :: l, xs, h, i, a, hi => by
    simp only [List.mapM_cons, Option.bind_eq_bind, Option.bind_eq_some_iff, Option.pure_def, Option.some.injEq] at h
    obtain ⟨y, hy, ys, hys, rfl⟩ := h
    cases i with
    | zero => simp at hi; subst hi; exact ⟨y, hy, rfl⟩
    | succ i => simpa using mapM_at hys i a (by simpa using hi)
theorem int_of_trod {H : Type} {enc : TypeId × Value → H} {P : Program} {w : World} {base : Nat} {sp : Nat → Bool} {held : Bool} {fuel : Nat} {t : TypeId} {k : IntKind} {cs : List Value} {y : DataW H × List MemPlace}
    (ht : P.underlying t = some (.int k)) (h : DataW.trod enc P w base sp held fuel t cs = some y) : ∃ n, cs = [.int k n] ∧ y = (.lit (.int k n), []) := by
  cases fuel with
  | zero => simp [DataW.trod] at h
  | succ fuel =>
    match cs, h with
    | [], h => simp [DataW.trod, ht] at h
    | [c], h =>
      cases c <;> simp [DataW.trod, ht] at h
      rename_i k' n
      obtain ⟨⟨rfl, _⟩, rfl⟩ := h
      exact ⟨n, rfl, rfl⟩
    | c :: d :: r, h => simp [DataW.trod, ht] at h
/-- A table of numbers: its cells are what the datum tells. -/
theorem ints_of_trod {H : Type} {enc : TypeId × Value → H} {P : Program} {w : World} {base : Nat} {sp : Nat → Bool} {held : Bool} {fuel n : Nat} {t e : TypeId} {k : IntKind} {l : List Value} {d : DataW H} {p : List MemPlace}
    (ht : P.underlying t = some (.array n e)) (he : P.underlying e = some (.int k)) (hc : P.cellsOf e = 1) (h : DataW.trod enc P w base sp held fuel t l = some (d, p)) {vals : List Int} (hd : d = DataW.agg (vals.map fun v => DataW.lit (Lit.int k v))) (hn : vals.length = n) :
    ∀ (i : Nat) (v : Int), vals[i]? = some v → l[i]? = some (Value.int k v) := by
  cases fuel with
  | zero => simp [DataW.trod] at h
  | succ fuel =>
    simp only [DataW.trod, ht, hc] at h
    split at h
    · rename_i hl
      simp only [Option.map_eq_some_iff] at h
      obtain ⟨xs, hxs, hx⟩ := h
      simp only [Prod.mk.injEq] at hx
      rw [hd] at hx
      have hv : xs.map (·.1) = vals.map fun v => DataW.lit (Lit.int k v) := by
        have := hx.1
        simpa using this
      intro i v hi
      have hin : i < n := by rw [← hn]; exact (List.getElem?_eq_some_iff.1 hi).1
      obtain ⟨y, hy, hyi⟩ := mapM_at hxs i i (by rw [List.getElem?_range hin])
      obtain ⟨m, hm, rfl⟩ := int_of_trod he hy
      have e1 : (xs.map (·.1))[i]? = some (DataW.lit (Lit.int k m)) := by rw [List.getElem?_map, hyi]; rfl
      rw [hv, List.getElem?_map, hi] at e1
      simp only [Option.map_some, Option.some.injEq, DataW.lit.injEq, Lit.int.injEq, true_and] at e1
      subst e1
      rw [Nat.mul_one] at hm
      have h0 : ((l.drop i).take 1)[0]? = some (.int k v) := by rw [hm]; rfl
      rw [List.getElem?_take] at h0
      simpa using h0
    · cases h
end Go.Proofs.YtlkaipmhjgfkpaaDoorK
