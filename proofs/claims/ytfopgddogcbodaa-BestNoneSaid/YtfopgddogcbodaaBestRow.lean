/- Chapter 12: the laws over their arguments as memory has them. No condition of its own. -/
import Derived.Test.YtfopgddogcbodaaBestOrder
import Derived.Test.YtfopgddogcbodaaArgHits
namespace Go.Proofs.YtfopgddogcbodaaF
open Go Go.Proofs.YtfopgddogcbodaaK
set_option linter.unusedVariables false
theorem bestKeeps_row (h : Hp) (x0 : Int) (w0 : (Lit.int .i64 x0).wf = true) {m0 : Nat} (_ : Arg Try.prog h 3 (.int .i64 x0) m0) (a1 : Option Addr) (len1 cap1 : Nat) {m1 : Nat} (g1 : Arg Try.prog h 22 (.slice a1 len1 cap1) m1) :
    CallT Try.prog 3 [.int .i64 x0, .slice a1 len1 cap1] [.at .bool] h fun s h' => s.1 = true ∧ Ext h h' := by
  obtain ⟨l, r, hb, _, hx⟩ := arg_hits g1
  exact bestKeeps_ok (s := ⟨a1, len1, cap1⟩) r (by omega) (okI_i64 w0)
theorem bestOrder_row (h : Hp) (x0 : Int) (w0 : (Lit.int .i64 x0).wf = true) {m0 : Nat} (_ : Arg Try.prog h 3 (.int .i64 x0) m0) (a1 : Option Addr) (len1 cap1 : Nat) {m1 : Nat} (g1 : Arg Try.prog h 22 (.slice a1 len1 cap1) m1)
    (x2 : Int) (w2 : (Lit.int .i64 x2).wf = true) {m2 : Nat} (_ : Arg Try.prog h 3 (.int .i64 x2) m2) :
    CallT Try.prog 4 [.int .i64 x0, .slice a1 len1 cap1, .int .i64 x2] [.at .bool] h fun s h' => s.1 = true ∧ Ext h h' := by
  obtain ⟨l, r, hb, _, hx⟩ := arg_hits g1
  exact bestOrder_ok (s := ⟨a1, len1, cap1⟩) r (by omega) (okI_i64 w0)
theorem bestNone_row (h : Hp) (cs : Array Value) {m : Nat} (g : Arg Try.prog h 30 (.agg cs) m) : CallT Try.prog 5 [.agg cs] [.at .bool] h fun s h' => s.1 = true ∧ Ext h h' := by
  obtain ⟨n, r⟩ := g
  have hl : cs.toList.length = 2 := (arg_struct Try.underlying30 ⟨n, r⟩).1
  obtain ⟨x, e⟩ := (rd_kinds (l := HT) 16 n (by kernel_rfl) (by kernel_rfl) r hl).ty
  obtain rfl : cs = #[.int .u64 (hId x), .int .i64 (hDi x)] := Array.ext' e
  exact bestNone_ok
end Go.Proofs.YtfopgddogcbodaaF
