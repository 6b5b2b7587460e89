/- The seventeenth part of the layer: slices.SortFunc by the shelf's contract, over rows of a call's own. No condition. -/
import Derived.Test.YtkldaoachbbhnaaK16
import Derived.Shelf.SlSortCmp.WholeK
namespace Go.Proofs.YtkldaoachbbhnaaK
open Go Go.RowKit Go.Sort
set_option linter.unusedSimpArgs false
set_option linter.unusedVariables false

theorem world_eq {W w' : World} (io : IO W w') (e : Ext W.heap w'.heap) : ∃ q os', w' = grow (W.drewN q) os' := by
  refine ⟨w'.drawn - W.drawn, w'.heap.extract W.heap.size w'.heap.size, ?_⟩
  have h1 := io.os
  have h2 := io.tape
  have h3 := io.output
  have h4 := io.drawn
  have h5 : w'.heap = W.heap ++ w'.heap.extract W.heap.size w'.heap.size := by
    apply Array.ext_getElem?
    intro i
    by_cases hi : i < W.heap.size
    · rw [Array.getElem?_append_left hi, e.get i hi]
    · rw [Array.getElem?_append_right (by omega), Array.getElem?_extract]
      by_cases h2 : i < w'.heap.size
      · rw [if_pos (by omega), show W.heap.size + (i - W.heap.size) = i by omega]
      · rw [if_neg (by omega), Array.getElem?_eq_none (by omega)]
  have h6 : w'.drawn = W.drawn + (w'.drawn - W.drawn) := by omega
  cases w' with
  | mk heap tape drawn os output =>
    cases W with
    | mk heap0 tape0 drawn0 os0 output0 =>
      simp only at h1 h2 h3 h4 h5 h6
      subst h1; subst h2; subst h3
      unfold grow World.drewN
      simp only
      rw [← h5, ← h6]
theorem sort_to {α : Type} [Inhabited α] {enc : α → List Value} {k : Nat} (hE : Enc enc k) (hk0 : 0 < k) {P : Program} {f g : FuncId} {cb : Array Value} {cf : α → α → Int} {B : Nat} {h : Hp} {s : Sl} {l : List α}
    (hnone : ∀ w, Calls P f #[.slice none 0 0, .func (.func g) #[] cb] w fun e w' => e = .returned (.tuple #[]) ∧ w' = w)
    (arg : α → Value) (hcon : ∀ (blk cap : Nat) (d : Array α) (w : World), (∀ (m : Nat) (os : Array Obj) (dk : Array α), dk.size = d.size → ∀ x y : α,
        Calls P g (#[arg x, arg y] ++ cb) (sortWorldK enc k w blk 0 m dk os) fun e w' => e = .returned (.int .i64 (cf x y)) ∧ ∃ q os', w' = grow ((sortWorldK enc k w blk 0 m dk os).drewN q) os') → HoldsK enc k w blk 0 d → blk < w.heap.size → d.size < 4611686018427387904 →
      Calls P f #[.slice (some ⟨blk, 0, none⟩) d.size cap, .func (.func g) #[] cb] w fun e w' => e = .returned (.tuple #[]) ∧ ∃ d' n os, PermIn 0 d.size d d' ∧ SortedIn (Go.Proofs.ltOf cf) 0 d.size d' ∧ w' = sortWorldK enc k w blk 0 n d' os)
    (hcmp : ∀ x y (h : Hp) (K : Int → Hp → Prop), (∀ h', Ext h h' → K (cf x y) h') → CallT P g ([arg x, arg y] ++ cb.toList) [.at (.int .i64)] h fun s h' => K s.1 h')
    (own : OwnRow enc k B h s l) (hl : l.length < 4611686018427387904) {K : Hp → Prop}
    (hK : ∀ l' h', l'.Perm l → (∀ (i j : Nat) x y, i < j → l'[i]? = some x → l'[j]? = some y → ¬ cf y x < 0) → OwnRow enc k B h' s l' → OnlyS s h h' → K h') :
    CallT P f [.slice s.a s.len s.cap, .func (.func g) #[] cb] [] h fun _ h' => K h' := by
  intro w hw
  have hlen := own.row.len
  have hcap := own.row.cap
  rcases own.own with ⟨h1, h2⟩ | ⟨b, c, el, h1, h2, h3, h4⟩
  · have hs0 : s.len = 0 := by omega
    have hl0 : l = [] := List.length_eq_zero_iff.1 (by omega)
    rw [h1, h2, hs0]
    refine (hnone w).mono fun e w' ⟨he, hw'⟩ => ⟨_, he, ?_, (), rfl, ?_⟩
    · rw [hw']; exact IO.refl w
    · rw [hw', hw]
      exact hK l h (List.Perm.refl _) (fun i j x y _ hx => by subst hl0; cases hx) own (OnlyS.refl _ _)
  · have hb : b < w.heap.size := by rw [hw]; exact block_lt h3
    have hH : HoldsK enc k w b 0 l.toArray := by
      intro j hj
      rw [size_flatK] at hj
      have hj' : j < l.length * k := by simpa using hj
      have hq : j / k < l.length := (Nat.div_lt_iff_lt_mul hk0).2 hj'
      have hm := Nat.mod_lt j hk0
      have hx : l[j / k]? = some l[j / k] := List.getElem?_eq_getElem hq
      have hg := own.row.get ⟨b, 0, none⟩ (j / k) _ h1 hx (j % k) (by rw [hE.len]; exact hm)
      rw [add_mk, add_mk, Nat.zero_add, Nat.div_add_mod'] at hg
      rw [get_flatK _ _ _ _ hj, Nat.zero_add, cell_eq, hw, hg]
      refine ⟨?_, ?_⟩
      · have e1 : l.toArray[j / k]! = l[j / k] := by rw [getElem!_pos _ _ (by simpa using hq)]; simp
        rw [e1, List.getElem?_eq_getElem (by rw [hE.len]; exact hm), getElem!_pos _ _ (by rw [hE.len]; exact hm)]; rfl
      · show hfrozen w.heap ⟨b, j, none⟩ = false
        rw [hw]; exact hfrozen_of h3
    have hC : ∀ (m : Nat) (os : Array Obj) (dk : Array α), dk.size = l.toArray.size → ∀ x y : α,
        Calls P g (#[arg x, arg y] ++ cb) (sortWorldK enc k w b 0 m dk os) fun e w' => e = .returned (.int .i64 (cf x y)) ∧ ∃ q os', w' = grow ((sortWorldK enc k w b 0 m dk os).drewN q) os' := by
      intro m os dk hs x y
      have := hcmp x y (sortWorldK enc k w b 0 m dk os).heap (fun r h' => r = cf x y ∧ Ext (sortWorldK enc k w b 0 m dk os).heap h') (fun h' e => ⟨rfl, e⟩)
      have hargs : (#[arg x, arg y] ++ cb : Array Value) = ([arg x, arg y] ++ cb.toList : List Value).toArray := by
        apply Array.ext'; simp
      rw [hargs]
      refine (this _ rfl).mono fun e w' ⟨v, he, io, s, hs, hr, hx⟩ => ?_
      obtain ⟨q, os', hw'⟩ := world_eq io hx
      refine ⟨?_, q, os', hw'⟩
      rw [he, hs]
      show Ending.returned (Value.int .i64 s.1) = _
      rw [hr]
    have hcall := hcon b s.cap l.toArray w hC hH hb (by simpa using hl)
    rw [h1, show s.len = l.toArray.size by simpa using hlen]
    refine hcall.mono fun e w' ⟨he, d', n, os, hp, hsort, hw'⟩ => ?_
    have hsz : d'.size = l.length := by have := hp.1; simpa using this
    have hheap : w'.heap = (h.modify b (onCells (putCells id 0 (flatK enc k d')))) ++ os := by
      rw [hw', ← hw]; rfl
    have hblk : w'.heap[b]? = some (.cells (putCells id 0 (flatK enc k d') c) el (0, 0)) := by
      rw [hheap, Array.getElem?_append_left (by rw [Array.size_modify]; exact block_lt h3), Array.getElem?_modify, if_pos rfl, h3]; rfl
    have hoth : ∀ i, i < h.size → i ≠ b → w'.heap[i]? = h[i]? := fun i hi hn => by
      rw [hheap, Array.getElem?_append_left (by rw [Array.size_modify]; exact hi), Array.getElem?_modify, if_neg (fun e => hn e.symm)]
    have hsize : h.size ≤ w'.heap.size := by rw [hheap]; simp
    refine ⟨_, he, ⟨by rw [hw']; rfl, by rw [hw']; rfl, by rw [hw']; rfl, by rw [hw']; exact Nat.le_add_right _ _, by rw [hw]; exact hsize, fun i ds hi => ?_⟩, (), rfl, ?_⟩
    · rw [hw] at hi
      rw [hoth i (block_lt hi) (fun e => by subst e; rw [h3] at hi; cases hi)]; exact hi
    · refine hK d'.toList w'.heap ?_ ?_ ⟨?_, .inr ⟨b, _, el, h1, h2, hblk, by simp [putCells, h4]⟩⟩ ⟨hsize, fun i hi hn => hoth i hi (hn ⟨b, 0, none⟩ h1)⟩
      · have := hp.2.2
        rw [show l.toArray.size = l.length by simp] at this
        have e1 : (d'.extract 0 l.length) = d' := by rw [← hsz]; simp
        have e2 : (l.toArray.extract 0 l.length) = l.toArray := by
          simp
        rw [e1, e2] at this
        simpa using this
      · intro i j x y hij hx hy
        have hj : j < d'.size := by
          have := (List.getElem?_eq_some_iff.1 hy).1
          simpa using this
        have := hsort i j (Nat.zero_le _) hij (by simpa [← hsz] using hj)
        unfold Go.Proofs.ltOf at this
        rw [decide_eq_false_iff_not] at this
        have ex : d'[i]! = x := by
          rw [Array.getElem?_toList] at hx
          rw [getElem!_pos d' i (by omega)]
          rw [Array.getElem?_eq_getElem (by omega)] at hx
          exact Option.some.inj hx
        have ey : d'[j]! = y := by
          rw [Array.getElem?_toList] at hy
          rw [getElem!_pos d' j hj]
          rw [Array.getElem?_eq_getElem hj] at hy
          exact Option.some.inj hy
        rw [ex, ey] at this; exact this
      · have hr : s = ⟨some ⟨b, 0, none⟩, s.len, s.cap⟩ := by cases s; simp only at h1; subst h1; rfl
        rw [hr]
        refine isRow_block hE hblk (by simp [hsz, hlen]) hcap fun i hi => ?_
        have hi2 : i < d'.size * k := by simpa using hi
        have hic : i < c.size := by
          rw [h4]
          have : l.length * k ≤ s.cap * k := Nat.mul_le_mul_right _ (by omega)
          rw [hsz] at hi2
          omega
        have hq : i / k < d'.size := (Nat.div_lt_iff_lt_mul hk0).2 hi2
        have hm := Nat.mod_lt i hk0
        have hx : d'.toList[i / k]? = some d'[i / k] := by rw [Array.getElem?_toList, Array.getElem?_eq_getElem hq]
        have hf := flat_get hE hx hm
        rw [Nat.div_add_mod'] at hf
        rw [hf]
        unfold putCells
        rw [Array.getElem?_mapIdx, Array.getElem?_eq_getElem hic]
        simp only [Option.map_some, size_flatK]
        rw [if_pos ⟨Nat.zero_le _, by omega⟩, Nat.sub_zero, get_flatK _ _ _ _ hi2, getElem!_pos d' _ hq, List.getElem?_eq_getElem (by rw [hE.len]; exact hm), getElem!_pos _ _ (by rw [hE.len]; exact hm)]
        rfl
theorem flat1 {α : Type} [Inhabited α] (enc : α → Value) (d : Array α) : flatK (fun x => [enc x]) 1 d = d.map enc := by
  apply Array.ext'
  apply List.ext_getElem?
  intro i
  unfold flatK
  simp only [Array.toList_map, Array.toList_range, List.getElem?_map, Nat.mul_one, Nat.div_one]
  by_cases hi : i < d.size
  · rw [List.getElem?_range hi, Array.getElem?_toList, Array.getElem?_eq_getElem hi]
    simp only [Option.map_some]
    rw [getElem!_pos d i hi, Nat.mod_one]; rfl
  · rw [List.getElem?_eq_none (by simpa using hi), Array.getElem?_toList, Array.getElem?_eq_none (by omega)]; rfl
theorem putRow1 {α : Type} [Inhabited α] (enc : α → Value) (w : World) (b o : Nat) (d : Array α) : putRowK (fun x => [enc x]) 1 w b o d = putRow enc w b o d := by
  unfold putRowK
  rw [flat1]
  unfold putRow
  congr 1
  funext c
  unfold putCells
  apply Array.ext'
  apply List.ext_getElem?
  intro i
  simp only [Array.getElem?_toList, Array.getElem?_mapIdx, Array.size_map]
  cases c[i]? with
  | none => rfl
  | some v =>
    simp only [Option.map_some]
    split
    · rename_i h
      have h2 : i - o < d.size := by omega
      rw [getElem!_pos d _ h2, getElem!_pos (d.map enc) _ (by simpa using h2)]; simp
    · rfl
theorem sortWorld1 {α : Type} [Inhabited α] (enc : α → Value) (w : World) (b o n : Nat) (d : Array α) (os : Array Obj) : sortWorldK (fun x => [enc x]) 1 w b o n d os = sortWorld enc w b o n d os := by
  unfold sortWorldK sortWorld
  rw [putRow1]
theorem holds1 {α : Type} [Inhabited α] {enc : α → Value} {w : World} {b o : Nat} {d : Array α} (h : HoldsK (fun x => [enc x]) 1 w b o d) : Holds enc w b o d := by
  intro j hj
  unfold HoldsK at h
  rw [flat1] at h
  have := h j (by simpa using hj)
  rw [getElem!_pos (d.map enc) j (by simpa using hj)] at this
  rw [getElem!_pos d j hj]
  simpa using this
theorem oneCell_of {v : Value} (h : oneCell v = true) : v.oneCell' = true := by
  cases v <;> first | rfl | (simp [oneCell] at h; done)
end Go.Proofs.YtkldaoachbbhnaaK
