/- Chapter 3: CodeReads over its arguments as memory has them. No condition of its own. -/
import Derived.Test.YtojihngfbodeoaaReadsLaw
namespace Go.Proofs.YtojihngfbodeoaaF
open Go Go.Proofs.YtojihngfbodeoaaK
set_option linter.unusedSimpArgs false
set_option linter.unusedVariables false
theorem rd_most {h : Hp} {n m : Nat} {x : StA PT} (r : Rd Try.prog h n 30 (vsA PT x) m) : I64 (ptM x) := by
  have g : Arg Try.prog h 30 (.agg (vsA PT x).toArray) m := ⟨n, r⟩
  obtain ⟨hl, ms, _, hs, hf⟩ := arg_struct Try.underlying30 g
  obtain ⟨m7, _, n7, r7⟩ := hf 7 _ rfl
  obtain ⟨y7, e7, w7, _⟩ := rd_int Try.underlying3 n7 [.int .i64 (ptM x)] _ r7 rfl
  obtain rfl : ptM x = y7 := by simpa [encI] using e7
  exact okI_i64 w7
theorem codeReads_row (h : Hp) (a0 : Option Addr) (len0 cap0 : Nat) {m0 : Nat} (g0 : Arg Try.prog h 22 (.slice a0 len0 cap0) m0) (a1 : Option Addr) (len1 cap1 : Nat) {m1 : Nat} (g1 : Arg Try.prog h 23 (.slice a1 len1 cap1) m1) :
    CallT Try.prog 3 [.slice a0 len0 cap0, .slice a1 len1 cap1] [.at .bool] h fun s h' => s.1 = true ∧ Ext h h' := by
  obtain ⟨l, ms, r, hb, hs, hg⟩ := arg_row (Good := fun x n => okI .u8 x ∧ 1 ≤ n) Try.underlying22 (by kernel_rfl) (fun n cs m r hl => rd_int Try.underlying5 n cs m r hl) g0
  obtain ⟨ps, ms2, R, hb2, hs2, hx⟩ := arg_rows (l := PT) Try.underlying23 (by kernel_rfl) (by kernel_rfl) g1
  have b1 : Try.prog.bytesOf 5 = 1 := by kernel_rfl
  have b2 : Try.prog.bytesOf 30 = 72 := by kernel_rfl
  have hrb : reachBytes = 140737488351232 := rfl
  rw [b1, hrb] at hb
  rw [b2, hrb] at hb2
  have l0 := r.len
  have k0 := r.cap
  have l1 := R.len
  have k1 := R.cap
  simp only at l0 k0 l1 k1
  refine codeReads_ok (s := ⟨a0, len0, cap0⟩) (rl := ⟨a1, len1, cap1⟩) r (fun c hc => ?_) (by omega) R (by omega) (fun x hxm => ?_)
  · obtain ⟨i, hi⟩ := List.getElem?_of_mem hc
    exact okI_u8 (hg i c hi).1
  · obtain ⟨i, hi⟩ := List.getElem?_of_mem hxm
    obtain ⟨n, hr⟩ := hx i x hi
    exact rd_most hr
end Go.Proofs.YtojihngfbodeoaaF
