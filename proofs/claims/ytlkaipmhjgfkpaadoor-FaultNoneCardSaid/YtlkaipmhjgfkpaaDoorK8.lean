/- The eighth part of the layer: small laws for those who prove over the printed formulas; from a call to a row. No condition. -/
import Derived.Test.YtlkaipmhjgfkpaaDoorK7
import Derived.Below
namespace Go.Proofs.YtlkaipmhjgfkpaaDoorK
open Go Go.RowKit
set_option linter.unusedSimpArgs false
set_option linter.unusedVariables false

theorem Let_eq {α : Sort _} (x : α) (k : α → Prop) : Let x k = k x := rfl
theorem Jn_eq {α : Sort _} (J : α) (k : α → Prop) : Jn J k = k J := rfl
theorem cnd_dec {p : Prop} [Decidable p] {A B : Prop} : cnd (decide p) A B ↔ (p → A) ∧ (¬ p → B) := by
  by_cases h : p <;> simp [h, cnd]
theorem cnd_bool {b : Bool} {A B : Prop} : cnd b A B ↔ (b = true → A) ∧ (b = false → B) := by
  cases b <;> simp [cnd]
theorem cnd_yes {b : Bool} {A B : Prop} (h : b = true) (ha : A) : cnd b A B := by subst h; exact ha
theorem cnd_no {b : Bool} {A B : Prop} (h : b = false) (hb : B) : cnd b A B := by subst h; exact hb
theorem cnd_if {b : Bool} {A B : Prop} (ha : b = true → A) (hb : b = false → B) : cnd b A B := cnd_bool.2 ⟨ha, hb⟩
theorem cnd_beq {x y : Int} {A B : Prop} : cnd (x == y) A B ↔ (x = y → A) ∧ (x ≠ y → B) := by
  rw [cnd_bool]; simp
theorem cnd_bne {x y : Int} {A B : Prop} : cnd (x != y) A B ↔ (x ≠ y → A) ∧ (x = y → B) := by
  rw [cnd_bool]; simp
theorem at_val {α : Type} {K : α → Hp → Prop} {h : Hp} {v : α} (hk : K v h) {x : α} (e : x = v) : K x h := e ▸ hk
theorem cnd_not {b : Bool} {A B : Prop} : cnd (!b) A B ↔ cnd b B A := by cases b <;> exact Iff.rfl
theorem Jn.use {S : Type} {J : S → Hp → Prop} {k : (S → Hp → Prop) → Prop} (I : S → Hp → Prop) (h1 : ∀ s h, I s h → J s h) (h2 : ∀ J', (∀ s h, I s h → J' s h) → k J') : Jn J k := h2 J h1
theorem Lp.zero_elim {S : Type} {step : S → (S → Prop) → Prop} {s : S} (h : Lp step 0 s) : False := h
theorem Lp.next {S : Type} {step : S → (S → Prop) → Prop} {n : Nat} {s : S} (h : step s (Lp step n)) : Lp step (n + 1) s := h
theorem ldA_mk {s : At} {h : Hp} {a : Addr} {K : s.T → Prop} {x : s.T} (hc : hcell h a = some (s.v x)) (hk : K x) : ldA s h a K := ⟨x, hc, hk⟩
theorem idxS_mk {a : Addr} {len : Nat} {i : Int} {size : Nat} {K : Addr → Prop} (h : 0 ≤ i ∧ i < (len : Int)) (hk : K (a.add (i.toNat * size))) : idxS (some a) len i size K := ⟨h, hk⟩
theorem someA_some {α : Type} {a : α} {K : α → Prop} : someA (some a) K = K a := rfl

theorem wrap_i64 {x : Int} (h1 : -9223372036854775808 ≤ x) (h2 : x ≤ 9223372036854775807) : IntKind.wrap .i64 x = x := by
  simp only [IntKind.wrap, IntKind.bits, IntKind.signed]
  simp
  omega
theorem wrap_i32 {x : Int} (h1 : -2147483648 ≤ x) (h2 : x ≤ 2147483647) : IntKind.wrap .i32 x = x := by
  simp only [IntKind.wrap, IntKind.bits, IntKind.signed]
  simp
  omega
theorem wrap_u64 {x : Int} (h1 : 0 ≤ x) (h2 : x ≤ 18446744073709551615) : IntKind.wrap .u64 x = x := by
  simp only [IntKind.wrap, IntKind.bits, IntKind.signed]
  simp
  omega
theorem wrap_u8 {x : Int} (h1 : 0 ≤ x) (h2 : x ≤ 255) : IntKind.wrap .u8 x = x := by
  simp only [IntKind.wrap, IntKind.bits, IntKind.signed]
  simp
  omega

theorem below_of {w w' : World} (io : IO w w') (e : Ext w.heap w'.heap) : Below w.heap.size w w' :=
  ⟨io.os, io.tape, io.output, e.size, e.get⟩
/-- From a call that answers true and keeps all memory to what a row asks. -/
theorem row_of {P : Program} {f : FuncId} {args : List Value} {W : World} (h : CallT P f args [.at .bool] W.heap fun s h' => s.1 = true ∧ Ext W.heap h') :
    Calls P f args.toArray W fun e W' => e = .returned (.bool true) ∧ Below W.heap.size W W' :=
  (h W rfl).mono fun e W' he => by
    obtain ⟨v, rfl, io, s, rfl, hs, hx⟩ := he
    exact ⟨by show Ending.returned (.bool s.1) = _; rw [hs], below_of io hx⟩

/-! Heaps. -/
theorem Ext.push (h : Hp) (o : Obj) : Ext h (h.push o) :=
  ⟨by simp, fun b hb => by rw [Array.getElem?_push, if_neg (by omega)]⟩
theorem hcell_push_new (h : Hp) (c : Array Value) (e : TypeId) (i : Nat) : hcell (h.push (.cells c e)) ⟨h.size, i, none⟩ = c[i]? := by
  unfold hcell; simp
theorem hfrozen_push_new (h : Hp) (c : Array Value) (e : TypeId) (i : Nat) : hfrozen (h.push (.cells c e)) ⟨h.size, i, none⟩ = false := by
  unfold hfrozen; simp
theorem Ext.frozen {h h' : Hp} (e : Ext h h') {a : Addr} (ha : a.block < h.size) : hfrozen h' a = hfrozen h a := by
  unfold hfrozen; rw [e.get _ ha]
theorem add_mk (b o i : Nat) : Addr.add ⟨b, o, none⟩ i = ⟨b, o + i, none⟩ := by
  unfold Addr.add
  by_cases h : i = 0
  · subst h; rfl
  · rw [if_neg h]
end Go.Proofs.YtlkaipmhjgfkpaaDoorK
