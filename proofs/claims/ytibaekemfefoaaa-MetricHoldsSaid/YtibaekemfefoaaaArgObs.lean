/- Arguments that are things, rows of things, rows of numbers. No condition of its own. -/
import Derived.Test.YtibaekemfefoaaaObs
namespace Go.Proofs.YtibaekemfefoaaaF
open Go Go.Proofs.YtibaekemfefoaaaK
set_option linter.unusedSimpArgs false
set_option maxRecDepth 100000
set_option linter.unusedVariables false
theorem arg_i32 {h : Hp} {m : Nat} {a : Option Addr} {len cap : Nat} (g : Arg Try.prog h 22 (.slice a len cap) m) : ∃ l : List Int, R32 h ⟨a, len, cap⟩ l ∧ Ok32 l ∧ l.length ≤ m := by
  obtain ⟨l, ms, r, _, hs, hg⟩ := arg_row (Good := fun x n => okI .i32 x ∧ 1 ≤ n) Try.underlying22 (by kernel_rfl) (fun n cs m r hl => rd_int Try.underlying21 n cs m r hl) g
  refine ⟨l, r, fun x hx => ?_, ?_⟩
  · obtain ⟨i, hi⟩ := List.getElem?_of_mem hx
    exact okI_i32 (hg i x hi).1
  · have := sum_ones (n := l.length) (f := ms) fun i hi => (hg i _ (List.getElem?_eq_getElem hi)).2
    omega
theorem rd_ob {h : Hp} {n m : Nat} {x : StA OT} (r : Rd Try.prog h n 24 (vsA OT x) m) : ∃ o : Ob, ObX h x o ∧ o.1.length ≤ m ∧ o.2.size ≤ m ∧ -9223372036854775808 ≤ oTag x ∧ oTag x ≤ 9223372036854775807 := by
  have g : Arg Try.prog h 24 (.agg (vsA OT x).toArray) m := ⟨n, r⟩
  obtain ⟨hl, ms, _, hs, hf⟩ := arg_struct Try.underlying24 g
  obtain ⟨m0, _, n0, r0⟩ := hf 0 _ rfl
  obtain ⟨m1, h1, n1, r1⟩ := hf 1 _ rfl
  obtain ⟨m2, h2, n2, r2⟩ := hf 2 _ rfl
  obtain ⟨y0, e0, w0, _⟩ := rd_int Try.underlying3 n0 [.int .i64 (oTag x)] _ r0 rfl
  obtain rfl : oTag x = y0 := by simpa [Go.Proofs.YtibaekemfefoaaaK.encI] using e0
  obtain ⟨sv, es, gs⟩ := rd_slice Try.underlying22 (c := .slice (oVec x).a (oVec x).len (oVec x).cap) r1
  obtain ⟨lv, rv, ok, hlv⟩ := arg_i32 gs
  have e : (⟨sv.a, sv.len, sv.cap⟩ : Sl) = oVec x := by injection es with e1 e2 e3; rw [← e1, ← e2, ← e3]
  rw [e] at rv
  have hs2 := (rd_text Try.underlying9 (s := oStr x) r2).1
  have := mem_le_sum h1
  have := mem_le_sum h2
  have k0 := okI_i64 w0
  exact ⟨(lv, oStr x), ⟨rfl, rv, ok⟩, by show lv.length ≤ m; omega, by show (oStr x).size ≤ m; omega, k0.1, k0.2⟩
theorem arg_obs {h : Hp} {a : Option Addr} {len cap m : Nat} (g : Arg Try.prog h 28 (.slice a len cap) m) : ∃ l : List Ob, XRow h ⟨a, len, cap⟩ l ∧ l.length * 48 ≤ 140737488351232 ∧ l.length ≤ m ∧ ∀ o ∈ l, o.1.length ≤ m ∧ o.2.size ≤ m := by
  obtain ⟨xs, ms, r, hb, hs, hx⟩ := arg_rows (l := OT) Try.underlying28 (by kernel_rfl) (by kernel_rfl) g
  have b1 : Try.prog.bytesOf 24 = 48 := by kernel_rfl
  have hr : reachBytes = 140737488351232 := rfl
  rw [b1, hr] at hb
  have l0 := r.len
  have k0 := r.cap
  simp only at l0 k0
  have hm := sum_ones (n := xs.length) (f := ms) fun i hi => by obtain ⟨n, hr⟩ := hx i _ (List.getElem?_eq_getElem hi); exact rd_one hr
  have key : ∀ k, k ≤ xs.length → ∃ l : List Ob, l.length = k ∧ ∀ (i : Nat) (x : StA OT) (o : Ob), xs[i]? = some x → l[i]? = some o → ObX h x o ∧ o.1.length ≤ m ∧ o.2.size ≤ m := by
    intro k
    induction k with
    | zero => intro _; exact ⟨[], rfl, fun i x o _ ho => by simp at ho⟩
    | succ k ih =>
      intro hk
      obtain ⟨l, hl, h1⟩ := ih (by omega)
      have hxk : xs[k]? = some (xs[k]'(by omega)) := List.getElem?_eq_getElem (by omega)
      obtain ⟨n, hr⟩ := hx k _ hxk
      obtain ⟨o, ho, hv, hsz, _⟩ := rd_ob hr
      have hms : ms k ≤ m := by
        have := sumTo_mono ms (m := k + 1) (n := xs.length) (by omega)
        rw [sumTo_succ] at this; omega
      refine ⟨l ++ [o], by simp [hl], fun i x p hxi hp => ?_⟩
      by_cases hi : i < l.length
      · rw [List.getElem?_append_left hi] at hp; exact h1 i x p hxi hp
      · rw [List.getElem?_append_right (by omega)] at hp
        have hp1 := (List.getElem?_eq_some_iff.1 hp).1
        simp at hp1
        have : i = k := by omega
        subst this
        rw [hl, Nat.sub_self] at hp
        simp at hp
        subst hp
        rw [hxk] at hxi; cases hxi
        exact ⟨ho, by omega, by omega⟩
  obtain ⟨l, hl, h1⟩ := key xs.length (Nat.le_refl _)
  refine ⟨l, ⟨xs, r, hl.symm, fun i x o hxi ho => (h1 i x o hxi ho).1⟩, by omega, by omega, fun o ho => ?_⟩
  obtain ⟨i, hi⟩ := List.getElem?_of_mem ho
  have hil := (List.getElem?_eq_some_iff.1 hi).1
  exact (h1 i _ o (List.getElem?_eq_getElem (by omega)) hi).2
theorem arg_ints {h : Hp} {m : Nat} {a : Option Addr} {len cap : Nat} (g : Arg Try.prog h 44 (.slice a len cap) m) : ∃ l : List Int, R64 h ⟨a, len, cap⟩ l ∧ (∀ x ∈ l, -9223372036854775808 ≤ x ∧ x ≤ 9223372036854775807) ∧ l.length ≤ m ∧ l.length * 8 ≤ 140737488351232 := by
  obtain ⟨l, ms, r, hb, hs, hg⟩ := arg_row (Good := fun x n => okI .i64 x ∧ 1 ≤ n) Try.underlying44 (by kernel_rfl) (fun n cs m r hl => rd_int Try.underlying3 n cs m r hl) g
  have b1 : Try.prog.bytesOf 3 = 8 := by kernel_rfl
  have hr : reachBytes = 140737488351232 := rfl
  rw [b1, hr] at hb
  have l0 := r.len
  have k0 := r.cap
  simp only at l0 k0
  refine ⟨l, r, fun x hx => ?_, ?_, by omega⟩
  · obtain ⟨i, hi⟩ := List.getElem?_of_mem hx
    exact okI_i64 (hg i x hi).1
  · have := sum_ones (n := l.length) (f := ms) fun i hi => (hg i _ (List.getElem?_eq_getElem hi)).2
    omega
end Go.Proofs.YtibaekemfefoaaaF
