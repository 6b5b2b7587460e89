/- Chapter 19: the laws over their arguments as memory has them. No condition of its own. -/
import Derived.Test.YtfeimjemangpaaaPivotsApart
import Derived.Test.YtfeimjemangpaaaArgObs
namespace Go.Proofs.YtfeimjemangpaaaF
open Go Go.Proofs.YtfeimjemangpaaaK
set_option linter.unusedSimpArgs false
set_option linter.unusedVariables false
abbrev AsK : List At := [.int .i64, .int .i64, .int .i64, .sl]
theorem rd_ask {h : Hp} {cs : Array Value} {m : Nat} (g : Arg Try.prog h 24 (.agg cs) m) : ∃ (a b c : Int) (s : Sl) (l : List Ob), cs = #[.int .i64 a, .int .i64 b, .int .i64 c, .slice s.a s.len s.cap] ∧ (-9223372036854775808 ≤ c ∧ c ≤ 9223372036854775807) ∧ XRow h s l ∧ l.length * 48 ≤ 140737488351232 := by
  obtain ⟨hl, ms, _, hs, hf⟩ := arg_struct Try.underlying24 g
  obtain ⟨n, r⟩ := g
  obtain ⟨x, e⟩ := (rd_kinds (l := AsK) 16 n (by kernel_rfl) (by kernel_rfl) r hl).ty
  obtain rfl : cs = #[.int .i64 x.1, .int .i64 x.2.1, .int .i64 x.2.2.1, .slice x.2.2.2.1.a x.2.2.2.1.len x.2.2.2.1.cap] := Array.ext' e
  obtain ⟨m2, _, n2, r2⟩ := hf 2 _ rfl
  obtain ⟨m3, _, n3, r3⟩ := hf 3 _ rfl
  obtain ⟨y2, e2, w2, _⟩ := rd_int Try.underlying3 n2 [.int .i64 x.2.2.1] _ r2 rfl
  obtain rfl : x.2.2.1 = y2 := by simpa [Go.Proofs.YtfeimjemangpaaaK.encI] using e2
  obtain ⟨sv, es, gs⟩ := rd_slice Try.underlying22 (c := .slice x.2.2.2.1.a x.2.2.2.1.len x.2.2.2.1.cap) r3
  obtain ⟨l, rl, hb, _⟩ := arg_obs gs
  have e : (⟨sv.a, sv.len, sv.cap⟩ : Sl) = x.2.2.2.1 := by injection es with e1 e2 e3; rw [← e1, ← e2, ← e3]
  rw [e] at rl
  exact ⟨_, _, _, x.2.2.2.1, l, rfl, okI_i64 w2, rl, hb⟩
theorem pivotsChoose_row (h : Hp) (cs : Array Value) {m : Nat} (g : Arg Try.prog h 24 (.agg cs) m) : CallT Try.prog 4 [.agg cs] [.at .bool] h fun s h' => s.1 = true ∧ Ext h h' := by
  obtain ⟨a, b, c, s, l, rfl, hc, r, hb⟩ := rd_ask g
  exact pivotsChoose_ok (sl := s) r (by omega) hc
theorem pivotsApart_row (h : Hp) (cs : Array Value) {m : Nat} (g : Arg Try.prog h 24 (.agg cs) m) : CallT Try.prog 3 [.agg cs] [.at .bool] h fun s h' => s.1 = true ∧ Ext h h' := by
  obtain ⟨a, b, c, s, l, rfl, hc, r, hb⟩ := rd_ask g
  exact pivotsApart_ok (sl := s) r (by omega) hc
theorem pivotsSpread_row (h : Hp) (cs : Array Value) {m : Nat} (g : Arg Try.prog h 24 (.agg cs) m) (a1 : Option Addr) (len1 cap1 : Nat) {m1 : Nat} (g1 : Arg Try.prog h 27 (.slice a1 len1 cap1) m1) : CallT Try.prog 5 [.agg cs, .slice a1 len1 cap1] [.at .bool] h fun s h' => s.1 = true ∧ Ext h h' := by
  obtain ⟨a, b, c, s, l, rfl, hc, r, hb⟩ := rd_ask g
  obtain ⟨ci, rc, _⟩ := arg_ints g1
  exact pivotsSpread_ok (sl := s) (sc := ⟨a1, len1, cap1⟩) r (by omega) rc
end Go.Proofs.YtfeimjemangpaaaF
