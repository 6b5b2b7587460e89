/- Chapter 4: FaultNone over its arguments as memory has them. No condition of its own, but that the listed variables hold what they were laid with. -/
import Derived.Test.YtlkaipmhjgfkpaaDoorFaultN
namespace Go.Proofs.YtlkaipmhjgfkpaaDoorF
open Go Go.Proofs.YtlkaipmhjgfkpaaDoorK
set_option linter.unusedSimpArgs false
set_option linter.unusedVariables false
set_option maxRecDepth 100000
theorem arg_step {h : Hp} {cs : Array Value} {m : Nat} (g : Arg Tryd.prog h T_waywiserref04_Step (.agg cs) m) :
    ∃ (op : ByteArray) (at' : Int) (id : Nat), cs = #[.string op, .int .i64 at', .int .u64 (id : Int)] ∧ op.size ≤ 140737488351232 ∧ -9223372036854775808 ≤ at' ∧ at' ≤ 9223372036854775807 ∧ id < 18446744073709551616 := by
  obtain ⟨hl, ms, _, hs, hf⟩ := arg_struct (P := Tryd.prog) (t := T_waywiserref04_Step) Tryd.underlying44 g
  have hl3 : cs.toList.length = 3 := hl.trans (by kernel_rfl)
  obtain ⟨v0, v1, v2, hv⟩ : ∃ a b c, cs.toList = [a, b, c] := by
    match e : cs.toList, hl3 with
    | [a, b, c], _ => exact ⟨a, b, c, rfl⟩
  rw [hv] at hf
  obtain ⟨m0, _, n0, r0⟩ := hf 0 _ rfl
  obtain ⟨m1, _, n1, r1⟩ := hf 1 _ rfl
  obtain ⟨m2, _, n2, r2⟩ := hf 2 _ rfl
  have hb0 : Rd Tryd.prog h n0 T_string [v0] m0 := r0
  obtain ⟨x1, e1, w1, _⟩ := rd_int (P := Tryd.prog) (e := T_int) (k := .i64) Tryd.underlying3 n1 [v1] m1 r1 rfl
  obtain ⟨x2, e2, w2, _⟩ := rd_int (P := Tryd.prog) (e := T_uint64) (k := .u64) (by kernel_rfl) n2 [v2] m2 r2 rfl
  obtain ⟨op, rfl, hop⟩ : ∃ op, v0 = .string op ∧ op.size ≤ 140737488351232 := by
    cases n0 with
    | zero => exact hb0.elim
    | succ n =>
      unfold Rd at hb0
      obtain ⟨_, r⟩ := hb0
      rw [show Tryd.prog.underlying T_string = some .string by kernel_rfl] at r
      obtain ⟨s', es, h1, h2⟩ := r
      exact ⟨s', by simpa using es, h1⟩
  have k1 := okI_i64 w1
  have k2 := okI_u64 w2
  refine ⟨op, x1, x2.toNat, Array.ext' ?_, hop, by omega, by omega, by omega⟩
  have q1 : v1 = .int .i64 x1 := by simpa [encI] using e1
  have q2 : v2 = .int .u64 x2 := by simpa [encI] using e2
  rw [hv, q1, q2, show ((x2.toNat : Nat) : Int) = x2 by omega]
theorem faultNone_row (h : Hp) (cs0 : Array Value) {m0 : Nat} (g0 : Arg Tryd.prog h T_waywiserref04_Step (.agg cs0) m0) (s1 : ByteArray) {m1 : Nat} (g1 : Arg Tryd.prog h T_string (.string s1) m1) (hg : rt0 h) (hp : pw10 h) :
    CallT Tryd.prog N_law04_FaultNone [.agg cs0, .string s1] [.at .bool] h fun s h' => s.1 = true ∧ Ext h h' := by
  obtain ⟨op, at', id, rfl, hop, h1, h2, hid⟩ := arg_step g0
  exact faultNone_ok (text := s1) hg hp h1 h2 hid (by omega)
end Go.Proofs.YtlkaipmhjgfkpaaDoorF
