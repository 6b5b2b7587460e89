/- Chapter 28: ConfigCodes over its arguments as memory has them. No condition of its own, but that errors' variable holds what it was laid with. -/
import Derived.Test.YtjifeclbpgonpaaDoorCfgCodes
import Derived.Test.YtjifeclbpgonpaaDoorCfgRow
namespace Go.Proofs.YtjifeclbpgonpaaDoorF
open Go Go.Proofs.YtjifeclbpgonpaaDoorK
set_option linter.unusedSimpArgs false
set_option linter.unusedVariables false
set_option maxRecDepth 100000
theorem configCodes_row (h : Hp) (cs0 : Array Value) {m0 : Nat} (g0 : Arg Tryd.prog h 23 (.agg cs0) m0) (a1 : Option Addr) (len1 cap1 : Nat) {m1 : Nat} (g1 : Arg Tryd.prog h 24 (.slice a1 len1 cap1) m1) (hg : rt0 h) :
    CallT Tryd.prog 3 [.agg cs0, .slice a1 len1 cap1] [.at .bool] h fun s h' => s.1 = true ∧ Ext h h' := by
  obtain ⟨c0, c1, c2, c3, c4, c5, c6, c7, rfl, hi⟩ := arg_cfg g0
  obtain ⟨l, ms, r, hb, hs, hgd⟩ := arg_row (Good := fun x n => okI .u8 x ∧ 1 ≤ n) Tryd.underlying24 (by kernel_rfl) (fun n cs m r hl => rd_int Tryd.underlying5 n cs m r hl) g1
  have b1 : Tryd.prog.bytesOf 5 = 1 := by kernel_rfl
  have hrb : reachBytes = 140737488351232 := rfl
  rw [b1, hrb] at hb
  have l0 := r.len
  have k0 := r.cap
  simp only at l0 k0
  refine configCodes_ok hi hg (sb := ⟨a1, len1, cap1⟩) r (fun c hc => ?_) (by omega)
  obtain ⟨i, hi⟩ := List.getElem?_of_mem hc
  exact okI_u8 (hgd i c hi).1
end Go.Proofs.YtjifeclbpgonpaaDoorF
