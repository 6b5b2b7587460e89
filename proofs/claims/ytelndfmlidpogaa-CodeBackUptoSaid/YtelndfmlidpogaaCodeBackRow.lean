/- Chapter 3: CodeBack over its arguments as memory has them. No condition of its own. -/
import Derived.Test.YtelndfmlidpogaaCodeBackLaw
import Derived.Test.YtelndfmlidpogaaCodeRow
namespace Go.Proofs.YtelndfmlidpogaaF
open Go Go.Proofs.YtelndfmlidpogaaK
set_option linter.unusedSimpArgs false
set_option linter.unusedVariables false
theorem arg8 {h : Hp} {t e : TypeId} {m : Nat} {a : Option Addr} {len cap : Nat} (ht : Try.prog.underlying t = some (.slice e)) (he : Try.prog.underlying e = some (.int .u8)) (hC : Try.prog.cellsOf e = 1)
    (g : Arg Try.prog h t (.slice a len cap) m) : ∃ l : List Int, R8 h ⟨a, len, cap⟩ l ∧ By l ∧ l.length ≤ m := by
  obtain ⟨l, ms, r, _, hs, hg⟩ := arg_row (Good := fun x n => okI .u8 x ∧ 1 ≤ n) ht hC (fun n cs m r hl => rd_int he n cs m r hl) g
  refine ⟨l, r, fun x hx => ?_, ?_⟩
  · obtain ⟨i, hi⟩ := List.getElem?_of_mem hx
    exact okI_u8 (hg i x hi).1
  · have := sum_ones (n := l.length) (f := ms) fun i hi => (hg i _ (List.getElem?_eq_getElem hi)).2
    omega
theorem codeBack_row (h : Hp) (a0 : Option Addr) (len0 cap0 : Nat) {m0 : Nat} (g0 : Arg Try.prog h 22 (.slice a0 len0 cap0) m0) (a1 : Option Addr) (len1 cap1 : Nat) {m1 : Nat} (g1 : Arg Try.prog h 27 (.slice a1 len1 cap1) m1) (hk : m0 + m1 ≤ 1048576) :
    CallT Try.prog 5 [.slice a0 len0 cap0, .slice a1 len1 cap1] [.at .bool] h fun s h' => s.1 = true ∧ Ext h h' := by
  obtain ⟨l, r, hf, hM, hl, _⟩ := arg_parts g0 (by omega)
  obtain ⟨b, rb, hb, hbl⟩ := arg8 Try.underlying27 Try.underlying5 (by kernel_rfl) g1
  exact codeBack_ok (s := ⟨a0, len0, cap0⟩) (sb := ⟨a1, len1, cap1⟩) r hf hM rb hb (by omega) (by omega)
end Go.Proofs.YtelndfmlidpogaaF
