/- Chapter 9: MetricTells over its argument as memory has it. No condition of its own. -/
import Derived.Test.YthdoecmcbpmjgaaMetricT
import Derived.Test.YthdoecmcbpmjgaaMetricRow
namespace Go.Proofs.YthdoecmcbpmjgaaF
open Go Go.Proofs.YthdoecmcbpmjgaaK
set_option linter.unusedSimpArgs false
set_option linter.unusedVariables false
theorem metricTells_row (h : Hp) (cs : Array Value) {m : Nat} (g : Arg Try.prog h 37 (.agg cs) m) : CallT Try.prog 5 [.agg cs] [.at .bool] h fun s h' => s.1 = true ∧ Ext h h' := by
  obtain ⟨n, r⟩ := g
  have hl : cs.toList.length = 9 := (arg_struct Try.underlying37 ⟨n, r⟩).1
  obtain ⟨x, e⟩ := (rd_kinds (l := AT) 16 n (by kernel_rfl) (by kernel_rfl) r hl).ty
  obtain rfl : cs = askCells x := Array.ext' e
  obtain ⟨a, b, ha, hb⟩ := rd_ask r
  exact metricTells_ok ha hb
end Go.Proofs.YthdoecmcbpmjgaaF
