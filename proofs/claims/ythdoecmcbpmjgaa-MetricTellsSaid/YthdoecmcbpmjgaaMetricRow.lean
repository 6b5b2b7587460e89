/- Chapter 9: MetricCounts over its arguments as memory has them. No condition of its own. -/
import Derived.Test.YthdoecmcbpmjgaaMetricLaw
import Derived.Test.YthdoecmcbpmjgaaArgObs
namespace Go.Proofs.YthdoecmcbpmjgaaF
open Go Go.Proofs.YthdoecmcbpmjgaaK
set_option linter.unusedSimpArgs false
set_option linter.unusedVariables false
theorem rd_ask {h : Hp} {n m : Nat} {x : StA AT} (r : Rd Try.prog h n 37 (vsA AT x) m) : ∃ a b : Ob, ObX h (aX x) a ∧ ObX h (aY x) b := by
  have g : Arg Try.prog h 37 (.agg (vsA AT x).toArray) m := ⟨n, r⟩
  obtain ⟨hl, ms, _, hs, hf⟩ := arg_struct Try.underlying37 g
  obtain ⟨m1, _, n1, r1⟩ := hf 1 _ rfl
  obtain ⟨m2, _, n2, r2⟩ := hf 2 _ rfl
  obtain ⟨a, ha, _⟩ := rd_ob (x := aX x) r1
  obtain ⟨b, hb, _⟩ := rd_ob (x := aY x) r2
  exact ⟨a, b, ha, hb⟩
theorem metricCounts_row (h : Hp) (x0 : Int) (_ : (Lit.int .i64 x0).wf = true) {m0 : Nat} (_ : Arg Try.prog h 3 (.int .i64 x0) m0) (a1 : Option Addr) (len1 cap1 : Nat) {m1 : Nat} (g1 : Arg Try.prog h 33 (.slice a1 len1 cap1) m1) :
    CallT Try.prog 4 [.int .i64 x0, .slice a1 len1 cap1] [.at .bool] h fun s h' => s.1 = true ∧ Ext h h' := by
  obtain ⟨xs, ms, r, hb, hs, hx⟩ := arg_rows (l := AT) Try.underlying33 (by kernel_rfl) (by kernel_rfl) g1
  have b1 : Try.prog.bytesOf 37 = 120 := by kernel_rfl
  have hr : reachBytes = 140737488351232 := rfl
  rw [b1, hr] at hb
  have l0 := r.len
  have k0 := r.cap
  simp only at l0 k0
  refine metricCounts_ok (s := ⟨a1, len1, cap1⟩) r (by omega) fun x hxm => ?_
  obtain ⟨i, hi⟩ := List.getElem?_of_mem hxm
  obtain ⟨n, hr⟩ := hx i x hi
  exact rd_ask hr
end Go.Proofs.YthdoecmcbpmjgaaF
