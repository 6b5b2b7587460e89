/- The twenty-third part of the layer: a region whose order is open by what is known of each operation that has been done. No condition. -/
import Derived.Test.YtjifeclbpgonpaaDoorK21
namespace Go.Proofs.YtjifeclbpgonpaaDoorK
open Go Go.RowKit
set_option linter.unusedSimpArgs false
set_option linter.unusedVariables false

theorem wanted_no {o : Oper} (hg : o.guard = none) (y : Nat → Option Bool) : Region.wanted o y = true := by unfold Region.wanted; rw [hg]
theorem step_W {lr : Option Nat} {ds : List Deferred} {n : Nat} {P : Program} {ops : Array Oper} {Q : Exit → Act → World → Prop} {σ : AFr} {a : Act} {w : World} {K : Act → World → Prop} {i : Nat} {o : Oper} (ho : ops[i]? = some o) (hg : o.guard = none) (hs : Says ds σ n a)
    (hk : opW P σ o w.heap fun v h' => ∀ w', w'.heap = h' → IO w w' → K (a.put o.dst v) w') : wpOpIn (FF lr) 0 P ops Q i K a w := by
  unfold wpOpIn
  rw [ho]
  simp only
  rw [if_pos (wanted_no hg _)]
  exact wp_of_goes (opW_out hs hk) fun v w' io hK => hK w' rfl io
theorem step_R {lr : Option Nat} {ds : List Deferred} {n : Nat} {P : Program} {ops : Array Oper} {Q : Exit → Act → World → Prop} {σ : AFr} {a : Act} {w : World} {K : Act → World → Prop} {i : Nat} {o : Oper} (ho : ops[i]? = some o) (hg : o.guard = none) (hs : Says ds σ n a)
    (hk : opR P σ o w.heap fun v => K (a.put o.dst v) w) : wpOpIn (FF lr) 0 P ops Q i K a w := by
  unfold wpOpIn
  rw [ho]
  simp only
  rw [if_pos (wanted_no hg _)]
  obtain ⟨v, hK, hr⟩ := opR_out hs hk
  exact wpIn_of_value (hr w fun _ => Ext.refl _) hK
/-- What holds at each step holds at the end. -/
theorem any_inv {lr : Option Nat} {P : Program} {ops : Array Oper} {Q : Exit → Act → World → Prop} (hac : ∀ i o, ops[i]? = some o → ∀ e ∈ edgesOf o, e < i) (I : Array Bool → Act → World → Prop) (hsz : ∀ l a w, I l a w → l.size = ops.size)
    (step : ∀ l a w i o, I l a w → ¬ Listed l i → ops[i]? = some o → (∀ e ∈ edgesOf o, Listed l e) → wpOpIn (FF lr) 0 P ops Q i (I (l.setIfInBounds i true)) a w)
    (fin : ∀ l a w, I l a w → (∀ i, i < ops.size → Listed l i) → Q .normal a w) : ∀ (k : Nat) (l : Array Bool) (a : Act) (w : World), I l a w → k + (l.toList.filter id).length = ops.size → wpAnyIn (FF lr) 0 P .any ops Q k l a w := by
  intro k
  induction k with
  | zero =>
    intro l a w hI hcnt
    have hl := hsz l a w hI
    have hall : ∀ i, i < ops.size → Listed l i := by
      intro i hi
      have h1 : (l.toList.filter id).length = l.toList.length := by simp only [Array.length_toList, hl]; omega
      have h2 : ∀ x ∈ l.toList, id x = true := List.length_filter_eq_length_iff.1 h1
      unfold Listed
      have hil : i < l.size := by omega
      rw [Array.getElem?_eq_getElem hil]
      have := h2 l[i] (by simp)
      simpa using this
    have hr : Region.ready .any ops l = [] := by
      cases hr : Region.ready .any ops l with
      | nil => rfl
      | cons i r =>
        have hmem : i ∈ Region.ready .any ops l := by rw [hr]; simp
        obtain ⟨hi, hn, _⟩ := mem_ready hl hmem
        exact (hn (hall i hi)).elim
    exact ⟨hr, fin l a w hI hall⟩
  | succ k ih =>
    intro l a w hI hcnt
    have hl := hsz l a w hI
    refine ⟨fun hr => fin l a w hI fun i hi => Classical.byContradiction fun hn => ready_ne hl hac i hi hn hr, fun i hmem => ?_⟩
    obtain ⟨hi, hn, o, ho, he⟩ := mem_ready hl hmem
    have hli : i < l.size := by omega
    refine wpOpIn_mono (fun a' w' hI' => ih _ a' w' hI' ?_) (step l a w i o hI hn ho he)
    have : ((l.setIfInBounds i true).toList.filter id).length = (l.toList.filter id).length + 1 := by
      rw [Array.toList_setIfInBounds]
      have hv : l.toList[i]? = some false := by
        have : l[i]? ≠ some true := hn
        rw [Array.getElem?_eq_getElem hli] at this
        rw [Array.getElem?_toList, Array.getElem?_eq_getElem hli]
        cases hh : l[i] <;> simp_all
      exact count_set hv
    omega
theorem not_listed (m i : Nat) : ¬ Listed (Array.replicate m false) i := by
  intro hL
  unfold Listed at hL
  rw [Array.getElem?_replicate] at hL
  split at hL <;> simp at hL
theorem put_tmp {a : Act} {d t : Nat} {v : Value} (h : t ≠ d) : (a.put (some d) v).tmps[t]? = a.tmps[t]? := by
  rw [put_get]; rw [if_neg (fun e => h (Option.some.inj e.1).symm)]
theorem put_self {a : Act} {d : Nat} {v : Value} (h : d < a.tmps.size) : (a.put (some d) v).tmps[d]? = some v := by
  rw [put_get]; rw [if_pos ⟨rfl, h⟩]
end Go.Proofs.YtjifeclbpgonpaaDoorK
