/- Chapter 10: HeapDoes over its argument as memory has it. No condition of its own. -/
import Derived.Test.YtcjkclpdkcgpaaaHeapDoes
namespace Go.Proofs.YtcjkclpdkcgpaaaF
open Go Go.Proofs.YtcjkclpdkcgpaaaK
theorem heapDoes_row (h : Hp) (a0 : Option Addr) (len0 cap0 : Nat) {m0 : Nat} (g0 : Arg Try.prog h 34 (.slice a0 len0 cap0) m0) : CallT Try.prog 4 [.slice a0 len0 cap0] [.at .bool] h fun s h' => s.1 = true ∧ Ext h h' := by
  obtain ⟨l, _, r, hb, _⟩ := arg_rows (l := DT) Try.underlying34 (by kernel_rfl) (by kernel_rfl) g0
  have b1 : Try.prog.bytesOf 39 = 16 := by kernel_rfl
  have hr : reachBytes = 140737488351232 := rfl
  rw [b1, hr] at hb
  have l0 := r.len
  have k0 := r.cap
  simp only at l0 k0
  exact heapDoes_ok (s := ⟨a0, len0, cap0⟩) r (by omega)
end Go.Proofs.YtcjkclpdkcgpaaaF
