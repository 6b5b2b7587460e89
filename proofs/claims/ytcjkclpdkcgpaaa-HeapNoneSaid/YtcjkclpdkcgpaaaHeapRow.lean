/- Chapter 10: HeapAlike and HeapNone over their arguments as memory has them. No condition of its own. -/
import Derived.Test.YtcjkclpdkcgpaaaHeapLaw
namespace Go.Proofs.YtcjkclpdkcgpaaaF
open Go Go.Proofs.YtcjkclpdkcgpaaaK
theorem heapAlike_row (h : Hp) (a0 : Option Addr) (len0 cap0 : Nat) {m0 : Nat} (g0 : Arg Try.prog h 22 (.slice a0 len0 cap0) m0) : CallT Try.prog 3 [.slice a0 len0 cap0] [.at .bool] h fun s h' => s.1 = true ∧ Ext h h' := by
  obtain ⟨l, _, r, hb, _⟩ := arg_rows (l := PR) Try.underlying22 (by kernel_rfl) (by kernel_rfl) g0
  have b1 : Try.prog.bytesOf 26 = 16 := by kernel_rfl
  have hr : reachBytes = 140737488351232 := rfl
  rw [b1, hr] at hb
  have l0 := r.len
  have k0 := r.cap
  simp only at l0 k0
  exact heapAlike_ok (s := ⟨a0, len0, cap0⟩) r (by omega)
theorem heapNone_row (h : Hp) (x0 : Int) (_ : (Lit.int .i64 x0).wf = true) {m0 : Nat} (_ : Arg Try.prog h 3 (.int .i64 x0) m0) : CallT Try.prog 5 [.int .i64 x0] [.at .bool] h fun s h' => s.1 = true ∧ Ext h h' :=
  heapNone_ok
end Go.Proofs.YtcjkclpdkcgpaaaF
