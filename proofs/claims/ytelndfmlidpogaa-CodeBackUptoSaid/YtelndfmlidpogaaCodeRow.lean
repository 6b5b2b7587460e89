/- Chapter 3: the laws over their arguments as memory has them. No condition of its own. -/
import Derived.Test.YtelndfmlidpogaaCodeLaw
namespace Go.Proofs.YtelndfmlidpogaaF
open Go Go.Proofs.YtelndfmlidpogaaK
set_option linter.unusedSimpArgs false
set_option linter.unusedVariables false
theorem rd_part {h : Hp} {n m : Nat} {x : StA PT} (r : Rd Try.prog h n 38 (vsA PT x) m) : (PtOk x ∧ I64 (ptM x)) ∧ (ptT x).size ≤ m := by
  have g : Arg Try.prog h 38 (.agg (vsA PT x).toArray) m := ⟨n, r⟩
  obtain ⟨hl, ms, _, hs, hf⟩ := arg_struct Try.underlying38 g
  obtain ⟨m1, _, n1, r1⟩ := hf 1 _ rfl
  obtain ⟨m2, _, n2, r2⟩ := hf 2 _ rfl
  obtain ⟨m4, h4, n4, r4⟩ := hf 4 _ rfl
  obtain ⟨m7, _, n7, r7⟩ := hf 7 _ rfl
  obtain ⟨y1, e1, w1, _⟩ := rd_int Try.underlying36 n1 [.int .u64 (ptN x)] _ r1 rfl
  obtain ⟨y2, e2, w2, _⟩ := rd_int Try.underlying3 n2 [.int .i64 (ptI x)] _ r2 rfl
  obtain ⟨y7, e7, w7, _⟩ := rd_int Try.underlying3 n7 [.int .i64 (ptM x)] _ r7 rfl
  obtain rfl : ptN x = y1 := by simpa [encI] using e1
  obtain rfl : ptI x = y2 := by simpa [encI] using e2
  obtain rfl : ptM x = y7 := by simpa [encI] using e7
  have k1 := okI_u64 w1
  have k2 := okI_i64 w2
  have k7 := okI_i64 w7
  refine ⟨⟨⟨⟨by omega, by omega⟩, k2⟩, k7⟩, ?_⟩
  have hs4 := (rd_text Try.underlying9 (s := ptT x) r4).1
  have := mem_le_sum h4
  omega
theorem sumTo_eq (f : Nat → Nat) : ∀ {l : List (StA PT)}, (∀ i x, l[i]? = some x → (ptT x).size ≤ f i) → tsz l ≤ sumTo l.length f := by
  intro l h
  have key : ∀ k, k ≤ l.length → tsz (l.take k) ≤ sumTo k f := by
    intro k
    induction k with
    | zero => intro _; simp [tsz]
    | succ k ih =>
      intro hk
      have hx : l[k]? = some l[k] := List.getElem?_eq_getElem (by omega)
      rw [← take_snoc hx, tsz_snoc, sumTo_succ]
      have := ih (by omega)
      have := h k _ hx
      omega
  have := key l.length (Nat.le_refl _)
  rwa [List.take_length] at this
theorem arg_parts {h : Hp} {a : Option Addr} {len cap m : Nat} (g : Arg Try.prog h 22 (.slice a len cap) m) (hm : m ≤ 1048576) : ∃ l : List (StA PT), IsRow (vsA PT) 8 h ⟨a, len, cap⟩ l ∧ Few l ∧ (∀ x ∈ l, I64 (ptM x)) ∧ l.length ≤ m ∧ tsz l ≤ m := by
  obtain ⟨l, ms, r, _, hs, hx⟩ := arg_rows (l := PT) Try.underlying22 (by kernel_rfl) (by kernel_rfl) g
  have hall : ∀ i x, l[i]? = some x → (PtOk x ∧ I64 (ptM x)) ∧ (ptT x).size ≤ ms i := fun i x hi => by obtain ⟨n, hr⟩ := hx i x hi; exact rd_part hr
  have h1 := sumTo_eq ms fun i x hi => (hall i x hi).2
  have h2 := sum_ones (n := l.length) (f := ms) fun i hi => by obtain ⟨n, hr⟩ := hx i _ (List.getElem?_eq_getElem hi); exact rd_one hr
  refine ⟨l, r, ⟨by omega, fun x hx => ?_⟩, fun x hx => ?_, by omega, by omega⟩
  · obtain ⟨i, hi⟩ := List.getElem?_of_mem hx; exact (hall i x hi).1.1
  · obtain ⟨i, hi⟩ := List.getElem?_of_mem hx; exact (hall i x hi).1.2
theorem codeWrites_row (h : Hp) (a0 : Option Addr) (len0 cap0 : Nat) {m0 : Nat} (g0 : Arg Try.prog h 22 (.slice a0 len0 cap0) m0) (hk : m0 ≤ 1048576) : CallT Try.prog 3 [.slice a0 len0 cap0] [.at .bool] h fun s h' => s.1 = true ∧ Ext h h' := by
  obtain ⟨l, r, hf, _⟩ := arg_parts g0 hk
  exact codeWrites_ok (s := ⟨a0, len0, cap0⟩) r hf
theorem codeNone_row (h : Hp) (cs : Array Value) {m : Nat} (g : Arg Try.prog h 38 (.agg cs) m) : CallT Try.prog 6 [.agg cs] [.at .bool] h fun s h' => s.1 = true ∧ Ext h h' := by
  obtain ⟨n, r⟩ := g
  have hl : cs.toList.length = 8 := (arg_struct Try.underlying38 ⟨n, r⟩).1
  obtain ⟨x, e⟩ := (rd_kinds (l := PT) 16 n (by kernel_rfl) (by kernel_rfl) r hl).ty
  obtain rfl : cs = #[.int .i64 (ptK x), .int .u64 (ptN x), .int .i64 (ptI x), .bool (ptF x), .string (ptT x), .int .i64 (ptL x), .int .i64 (ptH x), .int .i64 (ptM x)] := Array.ext' e
  exact codeNone_ok
end Go.Proofs.YtelndfmlidpogaaF
