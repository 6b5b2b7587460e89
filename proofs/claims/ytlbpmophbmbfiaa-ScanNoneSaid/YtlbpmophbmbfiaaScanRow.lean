/- Chapter 17: the laws over their argument as memory has it. No condition of its own. -/
import Derived.Test.YtlbpmophbmbfiaaScanLaw
import Derived.Test.YtlbpmophbmbfiaaArgObs
namespace Go.Proofs.YtlbpmophbmbfiaaF
open Go Go.Proofs.YtlbpmophbmbfiaaK
set_option linter.unusedSimpArgs false
set_option linter.unusedVariables false
set_option maxRecDepth 100000
theorem rd_item {h : Hp} {n m : Nat} {x : StA IT} (r : Rd Try.prog h n 37 (vsA IT x) m) : ∃ o : It, iId x = o.1 ∧ ObX h (iOb x) o.2 := by
  have g : Arg Try.prog h 37 (.agg (vsA IT x).toArray) m := ⟨n, r⟩
  obtain ⟨hl, ms, _, hs, hf⟩ := arg_struct Try.underlying37 g
  obtain ⟨m1, _, n1, r1⟩ := hf 1 _ rfl
  obtain ⟨a, ha, _⟩ := rd_ob (x := iOb x) r1
  exact ⟨(iId x, a), rfl, ha⟩
theorem arg_items {h : Hp} {a : Option Addr} {len cap m : Nat} (g : Arg Try.prog h 22 (.slice a len cap) m) : ∃ l : List It, XIRow h ⟨a, len, cap⟩ l ∧ l.length * 56 ≤ 140737488351232 := by
  obtain ⟨xs, ms, r, hb, hs, hx⟩ := arg_rows (l := IT) Try.underlying22 (by kernel_rfl) (by kernel_rfl) g
  have b1 : Try.prog.bytesOf 37 = 56 := by kernel_rfl
  have hr : reachBytes = 140737488351232 := rfl
  rw [b1, hr] at hb
  have l0 := r.len
  have k0 := r.cap
  simp only at l0 k0
  have key : ∀ k, k ≤ xs.length → ∃ l : List It, l.length = k ∧ ∀ (i : Nat) (x : StA IT) (o : It), xs[i]? = some x → l[i]? = some o → iId x = o.1 ∧ ObX h (iOb x) o.2 := by
    intro k
    induction k with
    | zero => intro _; exact ⟨[], rfl, fun i x o _ ho => by simp at ho⟩
    | succ k ih =>
      intro hk
      obtain ⟨l, hl, h1⟩ := ih (by omega)
      have hxk : xs[k]? = some (xs[k]'(by omega)) := List.getElem?_eq_getElem (by omega)
      obtain ⟨n, hr⟩ := hx k _ hxk
      obtain ⟨o, ho⟩ := rd_item hr
      refine ⟨l ++ [o], by simp [hl], fun i x p hxi hp => ?_⟩
      by_cases hi : i < l.length
      · rw [List.getElem?_append_left hi] at hp; exact h1 i x p hxi hp
      · rw [List.getElem?_append_right (by omega)] at hp
        have hp1 := (List.getElem?_eq_some_iff.1 hp).1
        simp at hp1
        have : i = k := by omega
        subst this
        rw [hl, Nat.sub_self] at hp
        simp at hp
        subst hp
        rw [hxk] at hxi; cases hxi
        exact ho
  obtain ⟨l, hl, h1⟩ := key xs.length (Nat.le_refl _)
  exact ⟨l, ⟨xs, r, hl.symm, h1⟩, by omega⟩
theorem rd_ask {h : Hp} {cs : Array Value} {m : Nat} (g : Arg Try.prog h 27 (.agg cs) m) : ∃ (x : StA KT) (l : List It) (q : Ob), cs = kCells x ∧ XIRow h (kL x) l ∧ l.length * 56 ≤ 140737488351232 ∧ ObX h (kQ x) q ∧ -9223372036854775808 ≤ kK x ∧ kK x ≤ 9223372036854775807 := by
  obtain ⟨hl, ms, _, hs, hf⟩ := arg_struct Try.underlying27 g
  obtain ⟨n, r⟩ := g
  obtain ⟨x, e⟩ := (rd_kinds (l := KT) 16 n (by kernel_rfl) (by kernel_rfl) r hl).ty
  obtain rfl : cs = kCells x := Array.ext' e
  obtain ⟨m1, _, n1, r1⟩ := hf 1 _ rfl
  obtain ⟨m2, _, n2, r2⟩ := hf 2 _ rfl
  obtain ⟨m4, _, n4, r4⟩ := hf 4 _ rfl
  obtain ⟨y4, e4, w4, _⟩ := rd_int Try.underlying3 n4 [.int .i64 (kK x)] _ r4 rfl
  obtain rfl : kK x = y4 := by simpa [Go.Proofs.YtlbpmophbmbfiaaK.encI] using e4
  obtain ⟨sv, es, gs⟩ := rd_slice Try.underlying22 (c := .slice (kL x).a (kL x).len (kL x).cap) r1
  obtain ⟨l, rl, hb⟩ := arg_items gs
  have e : (⟨sv.a, sv.len, sv.cap⟩ : Sl) = kL x := by injection es with e1 e2 e3; rw [← e1, ← e2, ← e3]
  rw [e] at rl
  obtain ⟨q, hq, _⟩ := rd_ob (x := kQ x) r2
  have k4 := okI_i64 w4
  exact ⟨x, l, q, rfl, rl, hb, hq, k4.1, k4.2⟩
theorem scanTells_row (h : Hp) (cs : Array Value) {m : Nat} (g : Arg Try.prog h 27 (.agg cs) m) : CallT Try.prog 4 [.agg cs] [.at .bool] h fun s h' => s.1 = true ∧ Ext h h' := by
  obtain ⟨x, l, q, rfl, r, hb, rq, hk⟩ := rd_ask g
  exact scanTells_ok r rq (by omega) hk
theorem scanPairs_row (h : Hp) (cs : Array Value) {m : Nat} (g : Arg Try.prog h 27 (.agg cs) m) : CallT Try.prog 3 [.agg cs] [.at .bool] h fun s h' => s.1 = true ∧ Ext h h' := by
  obtain ⟨x, l, q, rfl, r, hb, rq, hk⟩ := rd_ask g
  exact scanPairs_ok r (by omega)
theorem scanNone_row (h : Hp) (cs : Array Value) {m : Nat} (g : Arg Try.prog h 27 (.agg cs) m) : CallT Try.prog 5 [.agg cs] [.at .bool] h fun s h' => s.1 = true ∧ Ext h h' := by
  obtain ⟨x, l, q, rfl, r, hb, rq, hk⟩ := rd_ask g
  exact scanNone_ok r (by omega)
end Go.Proofs.YtlbpmophbmbfiaaF
