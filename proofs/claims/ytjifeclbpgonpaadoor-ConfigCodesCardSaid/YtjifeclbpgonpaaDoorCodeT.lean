/- Chapter 3: a part read; texts read. No condition. -/
import Derived.Test.YtjifeclbpgonpaaDoorCodeR
namespace Go.Proofs.YtjifeclbpgonpaaDoorF
open Go Go.Proofs.YtjifeclbpgonpaaDoorK
set_option linter.unusedSimpArgs false
set_option linter.unusedVariables false

theorem Bel.only {B b : Nat} {h h' : Hp} (o : Only b h h') (hb : B ≤ b) (hB : B ≤ h.size) : Bel B h h' := ⟨o.size, fun i hi => o.get i (by omega) (by omega)⟩
/-- What is left, and an error's number, once a text is read. -/
def tx (most : Int) (l : List Int) (e : Int) : List Int × List Int × Int :=
  let q := tk (fun n => decide (0 ≤ most) && decide ((n : Int) ≤ most)) l e
  if q.2.2 ≠ 0 then ([], q.2.1, q.2.2) else if q.2.1.length < q.1 then ([], q.2.1, 13) else (q.2.1.take q.1, q.2.1.drop q.1, 0)
theorem btS_row {h : Hp} {s : Sl} {l : List Int} (r : R8 h s l) (hb : By l) {a : Option Addr} {n : Nat} (ha : a = s.a) (hn : n ≤ l.length) {K : ByteArray → Prop} (hk : ∀ t, bts t = l.take n → K t) : btS h a n K := by
  subst ha
  have key : ∀ l : List Int, By l → ∃ bs : List UInt8, bs.map (fun b => (b.toNat : Int)) = l := by
    intro l
    induction l with
    | nil => exact fun _ => ⟨[], rfl⟩
    | cons c l ih =>
      intro hb
      obtain ⟨bs, e⟩ := ih fun d hd => hb d (by simp [hd])
      have hc := hb c (by simp)
      refine ⟨UInt8.ofNat c.toNat :: bs, ?_⟩
      simp only [List.map_cons, e]
      congr 1
      rw [UInt8.toNat_ofNat']; omega
  unfold btS
  cases hs : s.a with
  | none =>
    have hl : l = [] := Classical.byContradiction fun h => by obtain ⟨a, ha⟩ := r.at_ h; rw [hs] at ha; cases ha
    subst hl
    exact hk _ (by rw [List.take_nil]; rfl)
  | some a =>
    obtain ⟨bs, e⟩ := key (l.take n) fun c hc => hb c (List.mem_of_mem_take hc)
    have hbl : bs.length = n := by
      have := congrArg List.length e
      rw [List.length_map, List.length_take] at this; omega
    refine ⟨bs, hbl, fun i hi => ?_, hk _ ?_⟩
    · have hx : l[i]? = some l[i] := List.getElem?_eq_getElem (by omega)
      have := r.get a i l[i] hs hx 0 (by simp [encI])
      rw [add_zero, Nat.mul_one] at this
      rw [this]
      have e2 : (bs.map fun b => (b.toNat : Int))[i]? = some l[i] := by rw [e, List.getElem?_take, if_pos hi]; exact hx
      rw [List.getElem?_map] at e2
      cases hbi : bs[i]? with
      | none => rw [hbi] at e2; cases e2
      | some b => rw [hbi] at e2; simp at e2; simp [encI, e2]
    · unfold bts; exact e

end Go.Proofs.YtjifeclbpgonpaaDoorF
