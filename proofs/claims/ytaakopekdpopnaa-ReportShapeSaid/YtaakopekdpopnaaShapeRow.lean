/- Chapter 45: ReportShape over its argument as memory has it. No condition of its own. -/
import Derived.Test.YtaakopekdpopnaaShapeEnd
namespace Go.Proofs.YtaakopekdpopnaaF
open Go Go.Proofs.YtaakopekdpopnaaK
set_option linter.unusedSimpArgs false
set_option linter.unusedVariables false
theorem reportShape_row (h : Hp) (cs : Array Value) {m : Nat} (g : Arg Try.prog h 28 (.agg cs) m) : CallT Try.prog 3 [.agg cs] [.at .bool] h fun s h' => s.1 = true ∧ Ext h h' := by
  obtain ⟨hl, ms, _, _, hf⟩ := arg_struct Try.underlying28 g
  have hl : cs.toList.length = 6 := hl
  obtain ⟨l⟩ := cs
  match l, hl with
  | [c0, c1, c2, c3, c4, c5], _ =>
    obtain ⟨_, _, _, r0⟩ := hf 0 _ rfl
    obtain ⟨_, _, _, r1⟩ := hf 1 _ rfl
    obtain ⟨_, _, _, r2⟩ := hf 2 _ rfl
    obtain ⟨_, _, n3, r3⟩ := hf 3 _ rfl
    obtain ⟨_, _, _, r4⟩ := hf 4 _ rfl
    obtain ⟨_, _, _, r5⟩ := hf 5 _ rfl
    obtain ⟨s0, rfl, g0⟩ := rd_slice (c := c0) Try.underlying22 r0
    obtain ⟨s1, rfl, g1⟩ := rd_slice (c := c1) Try.underlying23 r1
    obtain ⟨s2, rfl, g2⟩ := rd_slice (c := c2) Try.underlying24 r2
    obtain ⟨x3, e3, _⟩ := rd_int Try.underlying3 n3 [c3] _ r3 rfl
    obtain rfl : c3 = .int .i64 x3 := by simpa [encI] using e3
    obtain ⟨s4, rfl, g4⟩ := rd_slice (c := c4) Try.underlying25 r4
    obtain ⟨s5, rfl, g5⟩ := rd_slice (c := c5) Try.underlying26 r5
    obtain ⟨bk, _, rb, hb, _⟩ := arg_rows (l := BK) Try.underlying22 (by kernel_rfl) (by kernel_rfl) g0
    obtain ⟨vp, _, rv, hv, _⟩ := arg_rows (l := VP) Try.underlying23 (by kernel_rfl) (by kernel_rfl) g1
    obtain ⟨mn, _, rm, hm, _⟩ := arg_rows (l := MN) Try.underlying24 (by kernel_rfl) (by kernel_rfl) g2
    have b1 : Try.prog.bytesOf 45 = 80 := by kernel_rfl
    have b2 : Try.prog.bytesOf 48 = 152 := by kernel_rfl
    have b3 : Try.prog.bytesOf 51 = 40 := by kernel_rfl
    have hr : reachBytes = 140737488351232 := rfl
    rw [b1, hr] at hb
    rw [b2, hr] at hv
    rw [b3, hr] at hm
    have l0 := rb.len
    have l1 := rv.len
    have l2 := rm.len
    have k0 := rb.cap
    have k1 := rv.cap
    have k2 := rm.cap
    simp only at l0 l1 l2 k0 k1 k2
    exact reportShape_ok rb rv rm (by omega) (by omega) (by omega)
end Go.Proofs.YtaakopekdpopnaaF
