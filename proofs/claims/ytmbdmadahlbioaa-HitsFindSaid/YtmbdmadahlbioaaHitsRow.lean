/- Chapter 11: HitsFind over its arguments as memory has them. No condition of its own. -/
import Derived.Test.YtmbdmadahlbioaaHitsFind
namespace Go.Proofs.YtmbdmadahlbioaaF
open Go Go.Proofs.YtmbdmadahlbioaaK
theorem arg_hits {h : Hp} {a : Option Addr} {len cap m : Nat} (g : Arg Try.prog h 22 (.slice a len cap) m) : ∃ l : List (StA HT), RH h ⟨a, len, cap⟩ l ∧ l.length * 16 ≤ 140737488351232 ∧ l.length ≤ m := by
  obtain ⟨l, ms, r, hb, hs, hx⟩ := arg_rows (l := HT) Try.underlying22 (by kernel_rfl) (by kernel_rfl) g
  have b1 : Try.prog.bytesOf 27 = 16 := by kernel_rfl
  have hr : reachBytes = 140737488351232 := rfl
  rw [b1, hr] at hb
  have l0 := r.len
  have k0 := r.cap
  simp only at l0 k0
  have := sum_ones (n := l.length) (f := ms) fun i hi => by obtain ⟨n, hr⟩ := hx i _ (List.getElem?_eq_getElem hi); exact rd_one hr
  exact ⟨l, r, by omega, by omega⟩
theorem hitsFind_row (h : Hp) (a0 : Option Addr) (len0 cap0 : Nat) {m0 : Nat} (g0 : Arg Try.prog h 22 (.slice a0 len0 cap0) m0) (x1 : Int) (_ : (Lit.int .u64 x1).wf = true) {m1 : Nat} (_ : Arg Try.prog h 23 (.int .u64 x1) m1) :
    CallT Try.prog 3 [.slice a0 len0 cap0, .int .u64 x1] [.at .bool] h fun s h' => s.1 = true ∧ Ext h h' := by
  obtain ⟨l, r, hb, _⟩ := arg_hits g0
  exact hitsFind_ok (s := ⟨a0, len0, cap0⟩) r (by omega)
end Go.Proofs.YtmbdmadahlbioaaF
