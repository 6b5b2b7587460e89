/- Chapter 25: the laws over their arguments as memory has them. No condition of its own. -/
import Derived.Test.YtkldaoachbbhnaaPartLaw
namespace Go.Proofs.YtkldaoachbbhnaaF
open Go Go.Proofs.YtkldaoachbbhnaaK
set_option linter.unusedSimpArgs false
set_option linter.unusedVariables false
theorem arg_ints {h : Hp} {m : Nat} {a : Option Addr} {len cap : Nat} (g : Arg Try.prog h T_Sint (.slice a len cap) m) : ∃ xs : List Int, RN h ⟨a, len, cap⟩ xs ∧ xs.length ≤ 4611686018427387904 := by
  obtain ⟨xs, ms, r, hb, hs, hx⟩ := arg_row (enc := eN) (size := 1) (Good := fun x n => True) (P := Try.prog) (t := T_Sint) (e := T_int) (by kernel_rfl) (by kernel_rfl) (fun n cs m r hl => by
    obtain ⟨x, e, _⟩ := rd_int (k := .i64) (by kernel_rfl) n cs m r hl
    exact ⟨x, e, trivial⟩) g
  have b8 : Try.prog.bytesOf T_int = 8 := by kernel_rfl
  rw [b8] at hb
  have hr : reachBytes = 140737488351232 := rfl
  have l0 := r.len
  have k0 := r.cap
  simp only at l0 k0
  exact ⟨xs, r, by omega⟩
theorem pick_rows {h : Hp} : ∀ ss : List Sl, (∀ t ∈ ss, ∃ l, RN h t l ∧ l.length ≤ 4611686018427387904) → ∃ D : List (List Int), ss.length = D.length ∧ (∀ (i : Nat) t, ss[i]? = some t → ∃ l, D[i]? = some l ∧ RN h t l) ∧ ∀ l ∈ D, l.length ≤ 4611686018427387904
  | [], _ => ⟨[], rfl, fun i t ht => (by cases ht), fun l hl => (by cases hl)⟩
  | t :: ss, hx => by
    obtain ⟨l, r, hl⟩ := hx t (by simp)
    obtain ⟨D, h1, h2, h3⟩ := pick_rows ss fun t ht => hx t (by simp [ht])
    refine ⟨l :: D, by simp [h1], fun i t' ht => ?_, fun l' hl' => ?_⟩
    · cases i with
      | zero => simp at ht; subst ht; exact ⟨l, rfl, r⟩
      | succ i => exact h2 i t' (by simpa using ht)
    · rcases List.mem_cons.1 hl' with rfl | h
      · exact hl
      · exact h3 l' h
theorem arg_mat {h : Hp} {m : Nat} {a : Option Addr} {len cap : Nat} (g : Arg Try.prog h T_SSint (.slice a len cap) m) : ∃ D, Mat h ⟨a, len, cap⟩ D ∧ ∀ l ∈ D, l.length ≤ 4611686018427387904 := by
  obtain ⟨ss, ms, r, hb, hs, hx⟩ := arg_row (enc := eSl) (size := 1) (Good := fun t n => Arg Try.prog h T_Sint (.slice t.a t.len t.cap) n) (P := Try.prog) (t := T_SSint) (e := T_Sint) (by kernel_rfl) (by kernel_rfl) (fun n cs m r hl => by
    match cs, hl with
    | [c], _ =>
      obtain ⟨s, rfl, g⟩ := rd_slice (P := Try.prog) (t := T_Sint) (e := T_int) (by kernel_rfl) r
      exact ⟨s, rfl, g⟩) g
  obtain ⟨D, h1, h2, h3⟩ := pick_rows (h := h) ss fun t ht => by
    obtain ⟨i, hi⟩ := List.getElem?_of_mem ht
    exact arg_ints (hx i t hi)
  exact ⟨D, ⟨ss, r, h1, h2⟩, h3⟩
theorem arg_ask {h : Hp} {cs : Array Value} {m : Nat} (g : Arg Try.prog h T_waywiserlaw25_Ask (.agg cs) m) : ∃ (d mo : Sl) (D : List (List Int)) (M : List Int) (a b c : Int), cs = #[.slice d.a d.len d.cap, .slice mo.a mo.len mo.cap, .int .i64 a, .int .i64 b, .int .i64 c] ∧ AskC h d mo D M := by
  obtain ⟨hl, ms, _, _, hf⟩ := arg_struct (P := Try.prog) (t := T_waywiserlaw25_Ask) Try.underlying25 g
  have hl : cs.toList.length = 5 := hl
  obtain ⟨l⟩ := cs
  match l, hl with
  | [c0, c1, c2, c3, c4], _ =>
    obtain ⟨_, _, _, r0⟩ := hf 0 _ rfl
    obtain ⟨_, _, _, r1⟩ := hf 1 _ rfl
    obtain ⟨_, _, n2, r2⟩ := hf 2 _ rfl
    obtain ⟨_, _, n3, r3⟩ := hf 3 _ rfl
    obtain ⟨_, _, n4, r4⟩ := hf 4 _ rfl
    obtain ⟨s0, rfl, g0⟩ := rd_slice (P := Try.prog) (c := c0) (t := T_SSint) (e := T_Sint) (by kernel_rfl) r0
    obtain ⟨s1, rfl, g1⟩ := rd_slice (P := Try.prog) (c := c1) (t := T_Sint) (e := T_int) (by kernel_rfl) r1
    obtain ⟨x2, e2, _⟩ := rd_int (k := .i64) (by kernel_rfl) n2 [c2] _ r2 rfl
    obtain ⟨x3, e3, _⟩ := rd_int (k := .i64) (by kernel_rfl) n3 [c3] _ r3 rfl
    obtain ⟨x4, e4, _⟩ := rd_int (k := .i64) (by kernel_rfl) n4 [c4] _ r4 rfl
    obtain rfl : c2 = .int .i64 x2 := List.singleton_inj.1 e2
    obtain rfl : c3 = .int .i64 x3 := List.singleton_inj.1 e3
    obtain rfl : c4 = .int .i64 x4 := List.singleton_inj.1 e4
    obtain ⟨D, rD, hD⟩ := arg_mat g0
    obtain ⟨M, rM, hM⟩ := arg_ints g1
    exact ⟨s0, s1, D, M, x2, x3, x4, rfl, rD, rM, hD, hM⟩
theorem partDivides_row (h : Hp) (cs : Array Value) {m : Nat} (g : Arg Try.prog h T_waywiserlaw25_Ask (.agg cs) m) (x1 : Int) (w1 : (Lit.int .i64 x1).wf = true) {m1 : Nat} (_ : Arg Try.prog h T_int (.int .i64 x1) m1) (a2 : Option Addr) (len2 cap2 : Nat) {m2 : Nat} (g2 : Arg Try.prog h T_Sint (.slice a2 len2 cap2) m2) :
    CallT Try.prog 3 [.agg cs, .int .i64 x1, .slice a2 len2 cap2] [.at .bool] h fun s h' => s.1 = true ∧ Ext h h' := by
  obtain ⟨d, mo, D, M, a, b, c, rfl, k⟩ := arg_ask g
  obtain ⟨L, rL, hL⟩ := arg_ints g2
  exact partDivides_ok (s := ⟨a2, len2, cap2⟩) k rL hL
theorem partPromotes_row (h : Hp) (cs : Array Value) {m : Nat} (g : Arg Try.prog h T_waywiserlaw25_Ask (.agg cs) m) : CallT Try.prog 4 [.agg cs] [.at .bool] h fun s h' => s.1 = true ∧ Ext h h' := by
  obtain ⟨d, mo, D, M, a, b, c, rfl, k⟩ := arg_ask g
  exact partPromotes_ok k
theorem partAll_row (h : Hp) (cs : Array Value) {m : Nat} (g : Arg Try.prog h T_waywiserlaw25_Ask (.agg cs) m) : CallT Try.prog 5 [.agg cs] [.at .bool] h fun s h' => s.1 = true ∧ Ext h h' := by
  obtain ⟨d, mo, D, M, a, b, c, rfl, k⟩ := arg_ask g
  exact partAll_ok k
end Go.Proofs.YtkldaoachbbhnaaF
