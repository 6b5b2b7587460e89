/- Chapter 8: the laws over their arguments as memory has them. No condition of its own. -/
import Derived.Test.YtbfjigemklbjfaaLevLaw
namespace Go.Proofs.YtbfjigemklbjfaaF
open Go Go.Proofs.YtbfjigemklbjfaaK
set_option linter.unusedVariables false
theorem text_le {h : Hp} {s : ByteArray} {m : Nat} (g : Arg Try.prog h T_string (.string s) m) : s.size ≤ reachBytes := by
  obtain ⟨n, r⟩ := g
  exact (rd_text (by kernel_rfl) r).2
theorem levMetric_row (h : Hp) (x0 : ByteArray) {m0 : Nat} (g0 : Arg Try.prog h T_string (.string x0) m0) (x1 : ByteArray) {m1 : Nat} (g1 : Arg Try.prog h T_string (.string x1) m1) (x2 : ByteArray) {m2 : Nat} (g2 : Arg Try.prog h T_string (.string x2) m2) :
    CallT Try.prog 3 [.string x0, .string x1, .string x2] [.at .bool] h fun s h' => s.1 = true ∧ Ext h h' := levMetric_ok
theorem levEdits_row (h : Hp) (x0 : ByteArray) {m0 : Nat} (g0 : Arg Try.prog h T_string (.string x0) m0) (x1 : ByteArray) {m1 : Nat} (g1 : Arg Try.prog h T_string (.string x1) m1) :
    CallT Try.prog 4 [.string x0, .string x1] [.at .bool] h fun s h' => s.1 = true ∧ Ext h h' := levEdits_ok
theorem levApplies_row (h : Hp) (x0 : ByteArray) {m0 : Nat} (g0 : Arg Try.prog h T_string (.string x0) m0) (x1 : ByteArray) {m1 : Nat} (g1 : Arg Try.prog h T_string (.string x1) m1) (x2 : ByteArray) {m2 : Nat} (g2 : Arg Try.prog h T_string (.string x2) m2) :
    CallT Try.prog 5 [.string x0, .string x1, .string x2] [.at .bool] h fun s h' => s.1 = true ∧ Ext h h' := levApplies_ok (text_le g0) (text_le g1) (text_le g2)
theorem levTells_row (h : Hp) (x0 : ByteArray) {m0 : Nat} (g0 : Arg Try.prog h T_string (.string x0) m0) (x1 : ByteArray) {m1 : Nat} (g1 : Arg Try.prog h T_string (.string x1) m1) (x2 : Int) (w2 : (Lit.int .i64 x2).wf = true) {m2 : Nat} (_ : Arg Try.prog h T_int (.int .i64 x2) m2) :
    CallT Try.prog 6 [.string x0, .string x1, .int .i64 x2] [.at .bool] h fun s h' => s.1 = true ∧ Ext h h' := levTells_ok
end Go.Proofs.YtbfjigemklbjfaaF
