/- Chapter 15: the other laws over their arguments as memory has them. No condition of its own. -/
import Derived.Test.YthnkmmnipihkeaaStoreEach
import Derived.Test.YthnkmmnipihkeaaStoreRow
namespace Go.Proofs.YthnkmmnipihkeaaF
open Go Go.Proofs.YthnkmmnipihkeaaK
set_option linter.unusedSimpArgs false
set_option linter.unusedVariables false
/-- An item's cells as data. -/
theorem rd_item {h : Hp} {n : Nat} {x : StA IT} {m : Nat} (r : Rd Try.prog h n T_api_Item (vsA IT x) m) : ∃ it, ItR h x it := by
  cases n with
  | zero => exact r.elim
  | succ n =>
    unfold Rd at r
    have hu : Try.prog.underlying T_api_Item = some (.struct _) := Try.underlying29
    rw [hu] at r
    obtain ⟨_, hl, ms, h1, _, hf⟩ := r
    obtain ⟨_, _, r1⟩ := hf 1 _ rfl
    have r1' : Rd Try.prog h n T_api_Object [.int .i64 x.2.1, .slice (iV x).a (iV x).len (iV x).cap, .string x.2.2.2.1] _ := r1
    cases n with
    | zero => exact r1'.elim
    | succ n =>
      unfold Rd at r1'
      have hu2 : Try.prog.underlying T_api_Object = some (.struct _) := Try.underlying27
      rw [hu2] at r1'
      obtain ⟨_, hl2, ms2, h2, _, hf2⟩ := r1'
      obtain ⟨_, _, r2⟩ := hf2 1 _ rfl
      have r2' : Rd Try.prog h n T_Sint32 [.slice (iV x).a (iV x).len (iV x).cap] _ := r2
      obtain ⟨L, rL, hL⟩ := arg_i32 (h := h) (a := (iV x).a) (len := (iV x).len) (cap := (iV x).cap) ⟨n, r2'⟩
      exact ⟨⟨x.1, ⟨x.2.1, L, x.2.2.2.1⟩⟩, rfl, rfl, rfl, rL, hL⟩
theorem rd_deed {h : Hp} {n : Nat} {x : StA DT} {m : Nat} (r : Rd Try.prog h n T_waywiserlaw15_Deed (vsA DT x) m) : ∃ it, ItR h (dI x) it := by
  cases n with
  | zero => exact r.elim
  | succ n =>
    unfold Rd at r
    have hu : Try.prog.underlying T_waywiserlaw15_Deed = some (.struct _) := Try.underlying46
    rw [hu] at r
    obtain ⟨_, hl, ms, h1, _, hf⟩ := r
    obtain ⟨_, _, r1⟩ := hf 1 _ rfl
    exact rd_item (x := dI x) (show Rd Try.prog h n T_api_Item (vsA IT (dI x)) _ from r1)
theorem pick2 {α β : Type} {R : α → β → Prop} : ∀ l : List α, (∀ x ∈ l, ∃ y, R x y) → ∃ m : List β, A2 R l m
  | [], _ => ⟨[], A2.nil⟩
  | x :: l, h => by
    obtain ⟨y, hy⟩ := h x (by simp)
    obtain ⟨m, hm⟩ := pick2 l fun z hz => h z (by simp [hz])
    exact ⟨y :: m, A2.cons hy hm⟩
theorem storeDoes_row (h : Hp) (a0 : Option Addr) (len0 cap0 : Nat) {m0 : Nat} (g0 : Arg Try.prog h T_Swaywiserlaw15_Deed (.slice a0 len0 cap0) m0) : CallT Try.prog 5 [.slice a0 len0 cap0] [.at .bool] h fun s h' => s.1 = true ∧ Ext h h' := by
  obtain ⟨l, ms, r, hb, _, hx⟩ := arg_rows (l := DT) (P := Try.prog) (t := T_Swaywiserlaw15_Deed) (e := T_waywiserlaw15_Deed) (by kernel_rfl) (by kernel_rfl) (by kernel_rfl) g0
  have b1 : Try.prog.bytesOf T_waywiserlaw15_Deed = 64 := by kernel_rfl
  rw [b1] at hb
  have hr : reachBytes = 140737488351232 := rfl
  have l0 := r.len
  have k0 := r.cap
  simp only at l0 k0
  obtain ⟨m, hm⟩ := pick2 (R := fun x it => ItR h (dI x) it) l fun x hm => by
    obtain ⟨i, hi⟩ := List.getElem?_of_mem hm
    obtain ⟨n, r⟩ := hx i x hi
    exact rd_deed r
  exact storeDoes_ok (s := ⟨a0, len0, cap0⟩) r hm (by omega)
theorem storeEach_row (h : Hp) (a0 : Option Addr) (len0 cap0 : Nat) {m0 : Nat} (g0 : Arg Try.prog h T_Sapi_Item (.slice a0 len0 cap0) m0) (x1 : Int) (w1 : (Lit.int .i64 x1).wf = true) {m1 : Nat} (_ : Arg Try.prog h T_int (.int .i64 x1) m1) :
    CallT Try.prog 4 [.slice a0 len0 cap0, .int .i64 x1] [.at .bool] h fun s h' => s.1 = true ∧ Ext h h' := by
  obtain ⟨l, ms, r, hb, _, hx⟩ := arg_rows (l := IT) (P := Try.prog) (t := T_Sapi_Item) (e := T_api_Item) (by kernel_rfl) (by kernel_rfl) (by kernel_rfl) g0
  have b1 : Try.prog.bytesOf T_api_Item = 56 := by kernel_rfl
  rw [b1] at hb
  have hr : reachBytes = 140737488351232 := rfl
  have l0 := r.len
  have k0 := r.cap
  simp only at l0 k0
  obtain ⟨m, hm⟩ := pick2 (R := fun x it => ItR h x it) l fun x hm => by
    obtain ⟨i, hi⟩ := List.getElem?_of_mem hm
    obtain ⟨n, r⟩ := hx i x hi
    exact rd_item r
  exact storeEach_ok (s := ⟨a0, len0, cap0⟩) r hm (by omega)
end Go.Proofs.YthnkmmnipihkeaaF
