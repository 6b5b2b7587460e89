/- Chapter 28: ConfigBack over its argument as memory has it. No condition of its own, but that errors' variable holds what it was laid with. -/
import Derived.Test.YtjifeclbpgonpaaDoorCfgBack
namespace Go.Proofs.YtjifeclbpgonpaaDoorF
open Go Go.Proofs.YtjifeclbpgonpaaDoorK
set_option linter.unusedSimpArgs false
set_option linter.unusedVariables false
set_option maxRecDepth 100000
theorem val8 {l : List Value} (h : l.length = 8) : ∃ a b c d e f g i, l = [a, b, c, d, e, f, g, i] := by
  match l, h with
  | [a, b, c, d, e, f, g, i], _ => exact ⟨a, b, c, d, e, f, g, i, rfl⟩
theorem arg_cfg {h : Hp} {cs : Array Value} {m : Nat} (g : Arg Tryd.prog h T_api_Config (.agg cs) m) :
    ∃ c0 c1 c2 c3 c4 c5 c6 c7 : Int, cs = #[i64 c0, i64 c1, i64 c2, i64 c3, i64 c4, i64 c5, i64 c6, i64 c7] ∧ ∀ n ∈ [c0, c1, c2, c3, c4, c5, c6, c7], I64 n := by
  obtain ⟨hl, ms, _, hs, hf⟩ := arg_struct (P := Tryd.prog) (t := T_api_Config) Tryd.underlying23 g
  have hl8 : cs.toList.length = 8 := hl.trans (by kernel_rfl)
  obtain ⟨v0, v1, v2, v3, v4, v5, v6, v7, hv⟩ := val8 hl8
  rw [hv] at hf
  have one : ∀ (i : Nat) (v : Value) f, ((Tryd.prog.underlying T_api_Config).bind fun d => match d with
      | .struct fs => fs[i]?
      | _ => none) = some f → f.type = T_int → (([v0, v1, v2, v3, v4, v5, v6, v7].drop f.offset).take (Tryd.prog.cellsOf f.type)) = [v] → ∃ x, v = i64 x ∧ I64 x := by
    intro i v f e1 e2 e3
    rw [show Tryd.prog.underlying T_api_Config = _ from Tryd.underlying23] at e1
    obtain ⟨mi, _, n, r⟩ := hf i f e1
    rw [e3, e2] at r
    obtain ⟨x, hx, ok, _⟩ := rd_int (P := Tryd.prog) (e := T_int) (k := .i64) Tryd.underlying3 n [v] mi r rfl
    exact ⟨x, by simpa [encI] using hx, okI_i64 ok⟩
  obtain ⟨c0, rfl, k0⟩ := one 0 v0 _ rfl rfl rfl
  obtain ⟨c1, rfl, k1⟩ := one 1 v1 _ rfl rfl rfl
  obtain ⟨c2, rfl, k2⟩ := one 2 v2 _ rfl rfl rfl
  obtain ⟨c3, rfl, k3⟩ := one 3 v3 _ rfl rfl rfl
  obtain ⟨c4, rfl, k4⟩ := one 4 v4 _ rfl rfl rfl
  obtain ⟨c5, rfl, k5⟩ := one 5 v5 _ rfl rfl rfl
  obtain ⟨c6, rfl, k6⟩ := one 6 v6 _ rfl rfl rfl
  obtain ⟨c7, rfl, k7⟩ := one 7 v7 _ rfl rfl rfl
  refine ⟨c0, c1, c2, c3, c4, c5, c6, c7, Array.ext' hv, fun n hn => ?_⟩
  simp only [List.mem_cons, List.mem_nil_iff, or_false] at hn
  rcases hn with rfl | rfl | rfl | rfl | rfl | rfl | rfl | rfl <;> assumption
theorem configBack_row (h : Hp) (cs0 : Array Value) {m0 : Nat} (g0 : Arg Tryd.prog h 23 (.agg cs0) m0) (hg : rt0 h) :
    CallT Tryd.prog 4 [.agg cs0] [.at .bool] h fun s h' => s.1 = true ∧ Ext h h' := by
  obtain ⟨c0, c1, c2, c3, c4, c5, c6, c7, rfl, hi⟩ := arg_cfg g0
  exact configBack_ok hi hg
end Go.Proofs.YtjifeclbpgonpaaDoorF
