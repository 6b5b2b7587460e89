/- The twenty-second part of the layer: slices.Sort over numbers by the shelf's contract. No condition. -/
import Derived.Test.YtkldaoachbbhnaaK17
namespace Go.Proofs.YtkldaoachbbhnaaK
open Go Go.RowKit Go.Sort
set_option linter.unusedSimpArgs false
set_option linter.unusedVariables false

theorem sorti_to {P : Program} {f : FuncId} (hcon : ∀ (blk cap : Nat) (zs : List Int) (w : World), Holds (Value.int .i64) w blk 0 zs.toArray → blk < w.heap.size → zs.length < 4611686018427387904 →
      Calls P f #[.slice (some ⟨blk, 0, none⟩) zs.length cap] w fun e w' => e = .returned (.tuple #[]) ∧ ∃ n os, w' = grow (putRow (Value.int .i64) (Sort.ahead w n) blk 0 (zs.mergeSort fun x y => decide (x ≤ y)).toArray) os)
    {B : Nat} {h : Hp} {s : Sl} {l : List Int} (own : OwnRow (Go.Proofs.YtkldaoachbbhnaaK.encI .i64) 1 B h s l) (hl0 : l ≠ []) (hl : l.length < 4611686018427387904) {K : Hp → Prop}
    (hK : ∀ h', OwnRow (Go.Proofs.YtkldaoachbbhnaaK.encI .i64) 1 B h' s (l.mergeSort fun x y => decide (x ≤ y)) → OnlyS s h h' → K h') :
    CallT P f [.slice s.a s.len s.cap] [] h fun _ h' => K h' := by
  intro w hw
  have hlen := own.row.len
  have hcap := own.row.cap
  rcases own.own with ⟨h1, h2⟩ | ⟨b, c, el, h1, h2, h3, h4⟩
  · exact (hl0 (List.length_eq_zero_iff.1 (by omega))).elim
  · have hb : b < w.heap.size := by rw [hw]; exact block_lt h3
    have hH : HoldsK (fun x => [Value.int .i64 x]) 1 w b 0 l.toArray := by
      intro j hj
      rw [size_flatK] at hj
      have hj' : j < l.length * 1 := by simpa using hj
      have hq : j / 1 < l.length := (Nat.div_lt_iff_lt_mul (by decide : 0 < 1)).2 hj'
      have hm := Nat.mod_lt j (by decide : 0 < 1)
      have hx : l[j / 1]? = some l[j / 1] := List.getElem?_eq_getElem hq
      have hg := own.row.get ⟨b, 0, none⟩ (j / 1) _ h1 hx (j % 1) (by rw [(encI_ok .i64).len]; exact hm)
      rw [add_mk, add_mk, Nat.zero_add, Nat.div_add_mod'] at hg
      rw [get_flatK _ _ _ _ hj, Nat.zero_add, cell_eq, hw, hg]
      refine ⟨?_, ?_⟩
      · have e1 : l.toArray[j / 1]! = l[j / 1] := by rw [getElem!_pos _ _ (by simpa using hq)]; simp
        rw [e1, show j % 1 = 0 by omega]; rfl
      · show hfrozen w.heap ⟨b, j, none⟩ = false
        rw [hw]; exact hfrozen_of h3
    have hcall := hcon b s.cap l w (holds1 hH) hb hl
    rw [h1, hlen]
    refine hcall.mono fun e w' ⟨he, n, os, hw'⟩ => ?_
    generalize hd : (l.mergeSort fun x y => decide (x ≤ y)).toArray = d' at hw'
    have hdl : d'.toList = l.mergeSort fun x y => decide (x ≤ y) := by rw [← hd]
    have hsz : d'.size = l.length := by rw [← Array.length_toList, hdl, List.length_mergeSort]
    have hk0 : 0 < 1 := by decide
    have hE := encI_ok .i64
    rw [← putRow1 (Value.int .i64)] at hw'
    have hheap : w'.heap = (h.modify b (onCells (putCells id 0 (flatK (fun x => [Value.int .i64 x]) 1 d')))) ++ os := by
      rw [hw', ← hw]; rfl
    have hblk : w'.heap[b]? = some (.cells (putCells id 0 (flatK (fun x => [Value.int .i64 x]) 1 d') c) el (0, 0)) := by
      rw [hheap, Array.getElem?_append_left (by rw [Array.size_modify]; exact block_lt h3), Array.getElem?_modify, if_pos rfl, h3]; rfl
    have hoth : ∀ i, i < h.size → i ≠ b → w'.heap[i]? = h[i]? := fun i hi hn => by
      rw [hheap, Array.getElem?_append_left (by rw [Array.size_modify]; exact hi), Array.getElem?_modify, if_neg (fun e => hn e.symm)]
    have hsize : h.size ≤ w'.heap.size := by rw [hheap]; simp
    refine ⟨_, he, ⟨by rw [hw']; rfl, by rw [hw']; rfl, by rw [hw']; rfl, by rw [hw']; exact Nat.le_add_right _ _, by rw [hw]; exact hsize, fun i ds hi => ?_⟩, (), rfl, ?_⟩
    · rw [hw] at hi
      rw [hoth i (block_lt hi) (fun e => by subst e; rw [h3] at hi; cases hi)]; exact hi
    · refine hK w'.heap ⟨?_, .inr ⟨b, _, el, h1, h2, hblk, by simp [putCells, h4]⟩⟩ ⟨hsize, fun i hi hn => hoth i hi (hn ⟨b, 0, none⟩ h1)⟩
      · have hr : s = ⟨some ⟨b, 0, none⟩, s.len, s.cap⟩ := by cases s; simp only at h1; subst h1; rfl
        rw [hr]
        refine isRow_block hE hblk (by simp [hsz, hlen]) hcap fun i hi => ?_
        have hi2 : i < d'.size * 1 := by rw [← hdl, Array.length_toList] at hi; exact hi
        have hic : i < c.size := by
          rw [h4]
          have : l.length * 1 ≤ s.cap * 1 := Nat.mul_le_mul_right _ (by omega)
          rw [hsz] at hi2
          omega
        have hq : i / 1 < d'.size := (Nat.div_lt_iff_lt_mul hk0).2 hi2
        have hm := Nat.mod_lt i hk0
        have hx : d'.toList[i / 1]? = some d'[i / 1] := by rw [Array.getElem?_toList, Array.getElem?_eq_getElem hq]
        have hf := flat_get hE hx hm
        rw [Nat.div_add_mod'] at hf
        rw [← hdl, hf]
        unfold putCells
        rw [Array.getElem?_mapIdx, Array.getElem?_eq_getElem hic]
        simp only [Option.map_some, size_flatK]
        rw [if_pos ⟨Nat.zero_le _, by omega⟩, Nat.sub_zero, get_flatK _ _ _ _ hi2, getElem!_pos d' _ hq, show i % 1 = 0 by omega]
        rfl
end Go.Proofs.YtkldaoachbbhnaaK
