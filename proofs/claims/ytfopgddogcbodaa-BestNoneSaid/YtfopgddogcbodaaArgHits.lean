/- An argument that is a row of hits. No condition of its own. -/
import Derived.Test.YtfopgddogcbodaaHits
namespace Go.Proofs.YtfopgddogcbodaaF
open Go Go.Proofs.YtfopgddogcbodaaK
set_option linter.unusedSimpArgs false
set_option linter.unusedVariables false
theorem rd_hit {h : Hp} {n m : Nat} {x : StA HT} (r : Rd Try.prog h n 30 (vsA HT x) m) : (0 ≤ hId x ∧ hId x ≤ 18446744073709551615) ∧ -9223372036854775808 ≤ hDi x ∧ hDi x ≤ 9223372036854775807 := by
  have g : Arg Try.prog h 30 (.agg (vsA HT x).toArray) m := ⟨n, r⟩
  obtain ⟨hl, ms, _, hs, hf⟩ := arg_struct Try.underlying30 g
  obtain ⟨m0, _, n0, r0⟩ := hf 0 _ rfl
  obtain ⟨m1, _, n1, r1⟩ := hf 1 _ rfl
  obtain ⟨y0, e0, w0, _⟩ := rd_int Try.underlying28 n0 [.int .u64 (hId x)] _ r0 rfl
  obtain ⟨y1, e1, w1, _⟩ := rd_int Try.underlying3 n1 [.int .i64 (hDi x)] _ r1 rfl
  obtain rfl : hId x = y0 := by simpa [Go.Proofs.YtfopgddogcbodaaK.encI] using e0
  obtain rfl : hDi x = y1 := by simpa [Go.Proofs.YtfopgddogcbodaaK.encI] using e1
  exact ⟨okI_u64 w0, okI_i64 w1⟩
theorem arg_hits {h : Hp} {a : Option Addr} {len cap m : Nat} (g : Arg Try.prog h 22 (.slice a len cap) m) : ∃ l : List (StA HT), RH h ⟨a, len, cap⟩ l ∧ l.length * 16 ≤ 140737488351232 ∧ l.length ≤ m ∧
    ∀ x ∈ l, (0 ≤ hId x ∧ hId x ≤ 18446744073709551615) ∧ -9223372036854775808 ≤ hDi x ∧ hDi x ≤ 9223372036854775807 := by
  obtain ⟨l, ms, r, hb, hs, hx⟩ := arg_rows (l := HT) Try.underlying22 (by kernel_rfl) (by kernel_rfl) g
  have b1 : Try.prog.bytesOf 30 = 16 := by kernel_rfl
  have hr : reachBytes = 140737488351232 := rfl
  rw [b1, hr] at hb
  have l0 := r.len
  have k0 := r.cap
  simp only at l0 k0
  have := sum_ones (n := l.length) (f := ms) fun i hi => by obtain ⟨n, hr⟩ := hx i _ (List.getElem?_eq_getElem hi); exact rd_one hr
  exact ⟨l, r, by omega, by omega, fun x hxm => by
    obtain ⟨i, hi⟩ := List.getElem?_of_mem hxm
    obtain ⟨n, hr⟩ := hx i x hi
    exact rd_hit hr⟩
end Go.Proofs.YtfopgddogcbodaaF
