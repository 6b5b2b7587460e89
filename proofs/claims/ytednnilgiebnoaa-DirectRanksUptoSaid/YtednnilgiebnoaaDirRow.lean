/- Chapter 14: the laws over their arguments as memory has them. No condition of its own. -/
import Derived.Test.YtednnilgiebnoaaDirLaw
namespace Go.Proofs.YtednnilgiebnoaaF
open Go Go.Proofs.YtednnilgiebnoaaK
set_option linter.unusedVariables false
theorem arg_u64 {h : Hp} {m : Nat} {a : Option Addr} {len cap : Nat} (g : Arg Try.prog h T_Suint64 (.slice a len cap) m) : ∃ xs : List Int, IsRow eU 1 h ⟨a, len, cap⟩ xs ∧ xs.length + 1 ≤ m ∧ (∀ x ∈ xs, okI .u64 x) ∧ cap * 8 ≤ reachBytes := by
  obtain ⟨xs, ms, r, hb, hs, hx⟩ := arg_row (enc := eU) (size := 1) (Good := fun x n => okI .u64 x ∧ 1 ≤ n) (P := Try.prog) (t := T_Suint64) (e := T_uint64) (by kernel_rfl) (by kernel_rfl) (fun n cs m r hl => by
    obtain ⟨x, e, w, h1⟩ := rd_int (k := .u64) (by kernel_rfl) n cs m r hl
    exact ⟨x, e, w, h1⟩) g
  have b8 : Try.prog.bytesOf T_uint64 = 8 := by kernel_rfl
  rw [b8] at hb
  refine ⟨xs, r, ?_, fun x hm => ?_, hb⟩
  · have := sum_ones (n := xs.length) (f := ms) fun i hi => (hx i _ (List.getElem?_eq_getElem hi)).2
    omega
  · obtain ⟨i, hi⟩ := List.getElem?_of_mem hm; exact (hx i x hi).1
theorem directRanks_row (h : Hp) (a0 : Option Addr) (len0 cap0 : Nat) {m0 : Nat} (g0 : Arg Try.prog h T_Suint64 (.slice a0 len0 cap0) m0) (hk : m0 ≤ 1048576) : CallT Try.prog 3 [.slice a0 len0 cap0] [.at .bool] h fun s h' => s.1 = true ∧ Ext h h' := by
  obtain ⟨l, r, hl, _⟩ := arg_u64 g0
  exact directRanks_ok (s := ⟨a0, len0, cap0⟩) r (by omega)
theorem directDoes_row (h : Hp) (a0 : Option Addr) (len0 cap0 : Nat) {m0 : Nat} (g0 : Arg Try.prog h T_Swaywiserlaw14_Deed (.slice a0 len0 cap0) m0) (x1 : Int) (w1 : (Lit.int .i64 x1).wf = true) {m1 : Nat} (_ : Arg Try.prog h T_int (.int .i64 x1) m1) :
    CallT Try.prog 4 [.slice a0 len0 cap0, .int .i64 x1] [.at .bool] h fun s h' => s.1 = true ∧ Ext h h' := by
  obtain ⟨l, _, r, hb, _⟩ := arg_rows (l := DT) (P := Try.prog) (t := T_Swaywiserlaw14_Deed) (e := T_waywiserlaw14_Deed) (by kernel_rfl) (by kernel_rfl) (by kernel_rfl) g0
  have b1 : Try.prog.bytesOf T_waywiserlaw14_Deed = 24 := by kernel_rfl
  rw [b1] at hb
  have hr : reachBytes = 140737488351232 := rfl
  have l0 := r.len
  have k0 := r.cap
  simp only at l0 k0
  exact directDoes_ok (s := ⟨a0, len0, cap0⟩) r (by omega)
theorem directNone_row (h : Hp) (x0 : Int) (w0 : (Lit.int .u64 x0).wf = true) {m0 : Nat} (_ : Arg Try.prog h T_uint64 (.int .u64 x0) m0) (x1 : Int) (w1 : (Lit.int .i64 x1).wf = true) {m1 : Nat} (_ : Arg Try.prog h T_int (.int .i64 x1) m1) :
    CallT Try.prog 5 [.int .u64 x0, .int .i64 x1] [.at .bool] h fun s h' => s.1 = true ∧ Ext h h' := directNone_ok
end Go.Proofs.YtednnilgiebnoaaF
