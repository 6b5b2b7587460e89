/- Chapter 15: two of the laws over their arguments as memory has them. No condition of its own. -/
import Derived.Test.YthnkmmnipihkeaaStoreLaw
namespace Go.Proofs.YthnkmmnipihkeaaF
open Go Go.Proofs.YthnkmmnipihkeaaK
set_option linter.unusedSimpArgs false
set_option linter.unusedVariables false
theorem arg_i32 {h : Hp} {m : Nat} {a : Option Addr} {len cap : Nat} (g : Arg Try.prog h T_Sint32 (.slice a len cap) m) : ∃ xs : List Int, V32 h ⟨a, len, cap⟩ xs ∧ xs.length * 4 ≤ 140737488355328 := by
  obtain ⟨xs, ms, r, hb, hs, hx⟩ := arg_row (enc := e32) (size := 1) (Good := fun x n => True) (P := Try.prog) (t := T_Sint32) (e := T_int32) (by kernel_rfl) (by kernel_rfl) (fun n cs m r hl => by
    obtain ⟨x, e, _⟩ := rd_int (k := .i32) (by kernel_rfl) n cs m r hl
    exact ⟨x, e, trivial⟩) g
  have b8 : Try.prog.bytesOf T_int32 = 4 := by kernel_rfl
  rw [b8] at hb
  have hr : reachBytes = 140737488351232 := rfl
  have l0 := r.len
  have k0 := r.cap
  simp only at l0 k0
  exact ⟨xs, r, by omega⟩
theorem storeOwn_row (h : Hp) (x0 : Int) (w0 : (Lit.int .u64 x0).wf = true) {m0 : Nat} (_ : Arg Try.prog h T_uint64 (.int .u64 x0) m0) (a1 : Option Addr) (len1 cap1 : Nat) {m1 : Nat} (g1 : Arg Try.prog h T_Sint32 (.slice a1 len1 cap1) m1) (x2 : Int) (w2 : (Lit.int .i32 x2).wf = true) {m2 : Nat} (_ : Arg Try.prog h T_int32 (.int .i32 x2) m2) :
    CallT Try.prog 3 [.int .u64 x0, .slice a1 len1 cap1, .int .i32 x2] [.at .bool] h fun s h' => s.1 = true ∧ Ext h h' := by
  obtain ⟨L, r, hL⟩ := arg_i32 g1
  exact storeOwn_ok (s := ⟨a1, len1, cap1⟩) r hL
theorem storeNone_row (h : Hp) (cs : Array Value) {m : Nat} (g : Arg Try.prog h T_api_Item (.agg cs) m) : CallT Try.prog 6 [.agg cs] [.at .bool] h fun s h' => s.1 = true ∧ Ext h h' := by
  obtain ⟨fuel, r⟩ := g
  obtain ⟨x, e⟩ := (rd_kinds (l := IT) 16 fuel (by kernel_rfl) (by kernel_rfl) r (by
    cases fuel with
    | zero => exact r.elim
    | succ n =>
      unfold Rd at r
      have hu : Try.prog.underlying T_api_Item = some (.struct _) := Try.underlying29
      rw [hu] at r
      exact r.2.1)).ty
  obtain ⟨l⟩ := cs
  have e : l = vsA IT x := e
  subst e
  exact storeNone_ok (id := x.1) (tag := x.2.1) (s := iV x) (str := x.2.2.2.1)
end Go.Proofs.YthnkmmnipihkeaaF
