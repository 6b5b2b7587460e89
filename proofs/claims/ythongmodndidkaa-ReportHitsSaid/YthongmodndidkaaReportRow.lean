/- Chapter 45: ReportHits over its arguments as memory has them. No condition of its own. -/
import Derived.Test.YthongmodndidkaaReportHits
import Derived.Test.YthongmodndidkaaArgHits
namespace Go.Proofs.YthongmodndidkaaF
open Go Go.Proofs.YthongmodndidkaaK
theorem reportHits_row (h : Hp) (a0 : Option Addr) (len0 cap0 : Nat) {m0 : Nat} (g0 : Arg Try.prog h 22 (.slice a0 len0 cap0) m0) (x1 : Int) (w1 : (Lit.int .i64 x1).wf = true) {m1 : Nat} (_ : Arg Try.prog h 3 (.int .i64 x1) m1) (x2 : Int) (_ : (Lit.int .i64 x2).wf = true) {m2 : Nat} (_ : Arg Try.prog h 3 (.int .i64 x2) m2) :
    CallT Try.prog 3 [.slice a0 len0 cap0, .int .i64 x1, .int .i64 x2] [.at .bool] h fun s h' => s.1 = true ∧ Ext h h' := by
  obtain ⟨l, r, hb, _, hx⟩ := arg_hits g0
  exact reportHits_ok (s := ⟨a0, len0, cap0⟩) r (by omega) (okI_i64 w1) (fun x hm => (hx x hm).2)
end Go.Proofs.YthongmodndidkaaF
