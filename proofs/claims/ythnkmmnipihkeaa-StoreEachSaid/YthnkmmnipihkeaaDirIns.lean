/- slices.Insert and slices.Delete over rows of a directory. No condition. -/
import Derived.Test.YthnkmmnipihkeaaF
import Derived.Test.YthnkmmnipihkeaaK21
namespace Go.Proofs.YthnkmmnipihkeaaF
open Go Go.Proofs.YthnkmmnipihkeaaK
set_option linter.unusedSimpArgs false
set_option linter.unusedVariables false
set_option maxRecDepth 100000

abbrev RW : List At := [.int .u64, .int .i64]
theorem RW_ok : Enc (vsA RW) 2 := encA rfl
abbrev rId (x : StA RW) : Int := x.1
abbrev rSl (x : StA RW) : Int := x.2.1
theorem dr_slice : Try.prog.underlying T_Sdirect_row = some (.slice T_direct_row) := by kernel_rfl
theorem dr_zero : (Try.prog.info? T_direct_row).bind (·.zero) = some (.agg #[.int .u64 0, .int .i64 0]) := by kernel_rfl
theorem dr_info : ∃ i, Try.prog.info? T_direct_row = some i ∧ i.zero = some (.agg #[.int .u64 0, .int .i64 0]) := by
  obtain ⟨i, h1, h2⟩ := Option.bind_eq_some_iff.1 dr_zero
  exact ⟨i, h1, h2⟩
theorem dr_overlaps {h : Hp} {b1 b2 o1 o2 l1 l2 c1 c2 : Nat} {a1 a2 : Array Value} (hb1 : Blk h b1 a1) (hb2 : Blk h b2 a2) (hne : b1 ≠ b2) {K : Bool → Hp → Prop} (hK : K false h) : C_slices_overlaps_direct_row ⟨some ⟨b1, o1, none⟩, l1, c1⟩ ⟨some ⟨b2, o2, none⟩, l2, c2⟩ h K :=
  Exists.elim dr_info fun inf hi => E_slices_overlaps_direct_row_ok _ _ _ _ (overlaps_no _ dr_slice hi.1 hb1 hb2 hne ⟨(false, ()), rfl, hK⟩)
/-- l with x at place i. -/
def insAt {α : Type} (l : List α) (i : Nat) (x : α) : List α := l.take i ++ x :: l.drop i
theorem insAt_len {α : Type} {l : List α} {i : Nat} (x : α) (h : i ≤ l.length) : (insAt l i x).length = l.length + 1 := by
  unfold insAt; rw [List.length_append, List.length_cons, List.length_take, List.length_drop]; omega
theorem insAt_flat {α : Type} {enc : α → List Value} {size : Nat} (hE : Enc enc size) {l : List α} {i : Nat} {x : α} (h : i ≤ l.length) : (insAt l i x).flatMap enc = (l.flatMap enc).take (i * size) ++ enc x ++ (l.flatMap enc).drop (i * size) := by
  have h1 := flat_len hE (l.take i)
  rw [List.length_take, Nat.min_eq_left h] at h1
  have h2 : l.flatMap enc = (l.take i).flatMap enc ++ (l.drop i).flatMap enc := by rw [← List.flatMap_append, List.take_append_drop]
  unfold insAt
  rw [h2, List.take_left' h1, List.drop_left' h1, List.flatMap_append, List.flatMap_cons, List.append_assoc]
theorem c_Insert {B : Nat} {h : Hp} {s v : Sl} {l : List (StA RW)} {x : StA RW} {i : Int} {k vb : Nat} {vc : Array Value} (own : OwnRow (vsA RW) 2 B h s l) (hi : i = k) (hk : k ≤ l.length) (hB : B ≤ h.size) (hl : (l.length + 1) * 16 ≤ 140737488355328)
    (hv : v = ⟨some ⟨vb, 0, none⟩, 1, 1⟩) (bv : Blk h vb vc) (hvc : vc.toList = vsA RW x) (hne : ∀ a, s.a = some a → a.block ≠ vb)
    {K : Sl → Hp → Prop} (hK : ∀ s' h', OwnRow (vsA RW) 2 B h' s' (insAt l k x) → OnlyS s h h' → (s'.a = s.a ∨ ∃ b, s'.a = some ⟨b, 0, none⟩ ∧ h.size ≤ b) → K s' h') : C_slices_Insert_direct_row_direct_row s i v h K := by
  subst hi
  subst hv
  have hlen := own.row.len
  have hcap := own.row.cap
  have rv : IsRow (vsA RW) 2 h ⟨some ⟨vb, 0, none⟩, 1, 1⟩ [x] := Blk.row RW_ok bv (l := [x]) (cap := 1) (Nat.le_refl _) (by simpa using hvc)
  refine F_slices_Insert_direct_row_direct_row_ok _ _ _ _ _ ?_
  refine slc_any (m := k) (n := s.len) rfl rfl (by omega) (by omega) ?_
  refine cnd_no rfl (cnd_beq.2 ⟨fun hend => ?_, fun hmid => ?_⟩)
  · have hkl : k = l.length := by omega
    refine app_row RW_ok (by decide) own rv hB (by simpa using hl) (by decide) rfl fun s' h' o' u' n' => hK s' h' ?_ u' n'
    unfold insAt
    rw [hkl, List.take_length, List.drop_length]; exact o'
  · have hkl : k < l.length := by omega
    have fl := flat_len RW_ok l
    have hflat := insAt_flat (enc := vsA RW) (x := x) RW_ok hk
    refine let_to ?_
    have hs63 : (s.len : Int) + ((1 : Nat) : Int) = ((l.length + 1 : Nat) : Int) := by omega
    rw [hs63]
    rw [wrap_i64 (by omega) (by omega)]
    rcases own.own with ⟨h1, h2⟩ | ⟨b, c, el, h1, h2, h3, h4⟩
    · omega
    have hbv := hne _ h1
    simp only at hbv
    have cell : ∀ j, j < l.length * 2 → c[j]? = (l.flatMap (vsA RW))[j]? := fun j hj => by
      have := row_cell RW_ok own.row h1 hj
      rwa [add_mk, Nat.zero_add, hcell_of h3] at this
    refine cnd_dec.2 ⟨fun hgrow => ?_, fun hfit => ?_⟩
    · -- a new row
      have hgrow : s.cap < l.length + 1 := by omega
      rw [h1]
      refine slc_any (m := 0) (n := k) rfl rfl (by omega) (by omega) (let_to (let_to ?_))
      have e0 : (if s.cap = 0 then some (⟨b, 0, none⟩ : Addr) else (some (⟨b, 0, none⟩ : Addr)).map (·.add (0 * 2))) = some ⟨b, 0, none⟩ := by
        split
        · rfl
        · simp [add_mk]
      rw [e0, Nat.sub_zero, Nat.sub_zero, wrap_i64 (by omega) (by omega)]
      have rt : IsRow (vsA RW) 2 h ⟨some ⟨b, 0, none⟩, k, s.cap⟩ (l.take k) := by have := own.row.take (n := k) hk; rwa [h1] at this
      have ltk : (l.take k).length = k := by rw [List.length_take]; omega
      refine appZ_grow (s := ⟨some ⟨b, 0, none⟩, k, s.cap⟩) RW_ok rt (m := l.length + 1 - k) (by omega) (by simp only; omega) (by rw [ltk]; omega) (by decide) rfl fun cap2 h2' cs hc2 bk2 hcs htake x2 => ?_
      rw [ltk] at hc2 htake
      rw [ltk]
      have elen : k + (l.length + 1 - k) = l.length + 1 := by omega
      rw [elen] at hc2 ⊢
      refine slc_at (m := k) (n := l.length + 1) rfl rfl (by omega) (show _ ≤ cap2 by omega) (show _ < cap2 by omega) ?_
      rw [Nat.zero_add]
      refine cp_cells (t := ⟨some ⟨vb, 0, none⟩, 1, 1⟩) (n := 1) (vs := vsA RW x) bk2 (by simp only; omega) rfl (fun a ha j hj => ?_) (fun h => by cases h) (fun v hv => RW_ok.one x v hv) (by rw [hcs]; simp; omega) fun h3' bk3 o3 z3 => let_to ?_
      · cases ha
        rw [add_mk, Nat.zero_add, (bv.ext x2).cell, ← Array.getElem?_toList, hvc]
      have hk1 : (k : Int) + ((1 : Nat) : Int) = ((k + 1 : Nat) : Int) := by omega
      rw [hk1, wrap_i64 (by omega) (by omega)]
      refine slc_at (m := k + 1) (n := l.length + 1) rfl rfl (by omega) (show _ ≤ cap2 by omega) (show _ < cap2 by omega) ?_
      refine slc_at (m := k) (n := s.len) rfl rfl (by omega) (by omega) (by omega) ?_
      rw [Nat.zero_add, Nat.zero_add]
      have bold : Blk h3' b c := by
        have : Blk h b c := ⟨el, h3⟩
        exact (this.ext x2).only o3 (by have := block_lt h3; omega)
      have hdl : ((l.flatMap (vsA RW)).drop (k * 2)).length = (l.length - k) * 2 := by rw [List.length_drop, fl]; omega
      refine cp_cells (t := ⟨some ⟨b, k * 2, none⟩, s.len - k, s.cap - k⟩) (n := l.length - k) (vs := (l.flatMap (vsA RW)).drop (k * 2)) bk3 (by simp only; omega) hdl (fun a ha j hj => ?_) (fun h => by cases h)
        (fun v hv => flat_one_cell RW_ok v (List.mem_of_mem_drop hv)) (by rw [setMany_size, hcs, hdl]; omega) fun h4' bk4 o4 z4 => ?_
      · cases ha
        rw [hdl] at hj
        rw [add_mk, bold.cell, cell _ (by omega), List.getElem?_drop]
      obtain ⟨e4, bk4⟩ := bk4
      refine hK _ h4' ⟨isRow_block RW_ok bk4 (by rw [insAt_len _ hk]) hc2 fun j hj => ?_, .inr ⟨h.size, _, e4, rfl, hB, bk4, by rw [setMany_size, setMany_size]; exact hcs⟩⟩ ?_ (.inr ⟨h.size, rfl, Nat.le_refl _⟩)
      · rw [insAt_len _ hk] at hj
        have lv : (vsA RW x).length = 2 := rfl
        have lt2 : ((l.flatMap (vsA RW)).take (k * 2)).length = k * 2 := by rw [List.length_take, fl]; omega
        rw [hflat, List.append_assoc, setMany_get, setMany_get, hdl, lv, setMany_size]
        by_cases hj1 : j < k * 2
        · rw [if_neg (by omega), if_neg (by omega), List.getElem?_append_left (by omega), List.getElem?_take, if_pos hj1]
          have : (cs.toList.take (k * 2))[j]? = ((l.take k).flatMap (vsA RW))[j]? := by rw [htake]
          rw [List.getElem?_take, if_pos hj1, Array.getElem?_toList] at this
          rw [this]
          have e := List.flatMap_append (xs := l.take k) (ys := l.drop k) (f := vsA RW)
          rw [List.take_append_drop] at e
          rw [e, List.getElem?_append_left (by rw [flat_len RW_ok, ltk]; exact hj1)]
        · rw [List.getElem?_append_right (by omega), lt2]
          by_cases hj2 : j < k * 2 + 2
          · rw [if_neg (by omega), if_pos ⟨by omega, hj2, by omega⟩, List.getElem?_append_left (by omega)]
          · rw [if_pos ⟨by omega, by omega, by omega⟩, List.getElem?_append_right (by omega), lv]
            congr 1; omega
      · have hx : Ext h h4' := (x2.only_new o3 (Nat.le_refl _)).only_new o4 (Nat.le_refl _)
        exact ⟨hx.size, fun i hi _ => hx.get i hi⟩
    · -- within the capacity
      have hfit : l.length + 1 ≤ s.cap := by omega
      refine let_to ?_
      rw [h1]
      refine slc_any (m := 0) (n := l.length + 1) rfl rfl (by omega) (by omega) (let_to ?_)
      have e0 : (if s.cap = 0 then some (⟨b, 0, none⟩ : Addr) else (some (⟨b, 0, none⟩ : Addr)).map (·.add (0 * 2))) = some ⟨b, 0, none⟩ := by
        split
        · rfl
        · simp [add_mk]
      have hk1 : (k : Int) + ((1 : Nat) : Int) = ((k + 1 : Nat) : Int) := by omega
      rw [e0, Nat.sub_zero, Nat.sub_zero, hk1, wrap_i64 (by omega) (by omega)]
      refine slc_at (m := k + 1) (n := l.length + 1) rfl rfl (by omega) (by omega) (by omega) ?_
      refine dr_overlaps bv ⟨el, h3⟩ (fun e => hbv e.symm) ?_
      refine cnd_yes rfl (let_to ?_)
      refine slc_at (m := k + 1) (n := l.length + 1) rfl rfl (by omega) (by omega) (by omega) ?_
      refine slc_at (m := k) (n := l.length + 1) rfl rfl (by omega) (by omega) (by omega) ?_
      rw [Nat.zero_add, Nat.zero_add]
      have hdl : ((l.flatMap (vsA RW)).drop (k * 2)).length = (l.length - k) * 2 := by rw [List.length_drop, fl]; omega
      have hcs : (l.length + 1) * 2 ≤ s.cap * 2 := Nat.mul_le_mul_right _ hfit
      refine cp_cells (t := ⟨some ⟨b, k * 2, none⟩, l.length + 1 - k, s.cap - k⟩) (n := l.length - k) (vs := (l.flatMap (vsA RW)).drop (k * 2)) ⟨el, h3⟩ (by simp only; omega) hdl (fun a ha j hj => ?_) (fun h => by cases h)
        (fun v hv => flat_one_cell RW_ok v (List.mem_of_mem_drop hv)) (by rw [h4, hdl]; omega) fun h2' bk2 o2 z2 => ?_
      · cases ha
        rw [hdl] at hj
        rw [add_mk, hcell_of h3, cell _ (by omega), List.getElem?_drop]
      refine slc_at (m := k) (n := l.length + 1) rfl rfl (by omega) (by omega) (by omega) ?_
      rw [Nat.zero_add]
      refine cp_cells (t := ⟨some ⟨vb, 0, none⟩, 1, 1⟩) (n := 1) (vs := vsA RW x) bk2 (by simp only; omega) rfl (fun a ha j hj => ?_) (fun h => by cases h) (fun v hv => RW_ok.one x v hv) (by rw [setMany_size, h4]; simp; omega) fun h3' bk3 o3 z3 => ?_
      · cases ha
        rw [add_mk, Nat.zero_add, (bv.only o2 (fun e => hbv e.symm)).cell, ← Array.getElem?_toList, hvc]
      obtain ⟨e3, bk3⟩ := bk3
      refine hK _ h3' ⟨isRow_block RW_ok bk3 (by rw [insAt_len _ hk]) hfit fun j hj => ?_, .inr ⟨b, _, e3, rfl, h2, bk3, by rw [setMany_size, setMany_size]; exact h4⟩⟩ ⟨by omega, fun i hi hn => ?_⟩ (.inl h1.symm)
      · rw [insAt_len _ hk] at hj
        have lv : (vsA RW x).length = 2 := rfl
        have lt2 : ((l.flatMap (vsA RW)).take (k * 2)).length = k * 2 := by rw [List.length_take, fl]; omega
        rw [hflat, List.append_assoc, setMany_get, setMany_get, hdl, lv, setMany_size]
        by_cases hj1 : j < k * 2
        · rw [if_neg (by omega), if_neg (by omega), List.getElem?_append_left (by omega), List.getElem?_take, if_pos hj1, cell _ (by omega)]
        · rw [List.getElem?_append_right (by omega), lt2]
          by_cases hj2 : j < k * 2 + 2
          · rw [if_pos ⟨by omega, hj2, by omega⟩, List.getElem?_append_left (by omega)]
          · rw [if_neg (by omega), if_pos ⟨by omega, by omega, by omega⟩, List.getElem?_append_right (by omega), lv]
            congr 1; omega
      · have hib := hn ⟨b, 0, none⟩ h1
        rw [o3.get i (by omega) hib, o2.get i hi hib]
theorem dr_clear {B : Nat} {h : Hp} {s : Sl} {l : List (StA RW)} (own : OwnRow (vsA RW) 2 B h s l) {m n : Nat} (hm : m = l.length) (hn : m + n ≤ s.cap) {ty : TypeId} {c : Nat} {K : Hp → Prop} (hk : ∀ h', OwnRow (vsA RW) 2 B h' s l → OnlyS s h h' → h'.size = h.size → K h') :
    smU Try.prog (Builtin.clear_ #[T_Sdirect_row] ty #[.slice (if s.cap = m then s.a else s.a.map (·.add (m * 2))) n c]) h K :=
  Exists.elim dr_info fun inf hi => clear_tail RW_ok dr_slice hi.1 hi.2 rfl (fun v hv => by
    have hv : v = .int .u64 0 ∨ v = .int .i64 0 := by simpa [Value.cells] using hv
    rcases hv with rfl | rfl <;> rfl) own hm hn hk
theorem c_Delete {B : Nat} {h : Hp} {s : Sl} {l : List (StA RW)} {i j : Int} {k : Nat} (own : OwnRow (vsA RW) 2 B h s l) (hi : i = k) (hj : j = ((k + 1 : Nat) : Int)) (hk : k < l.length) (hB : B ≤ h.size)
    {K : Sl → Hp → Prop} (hK : ∀ h', OwnRow (vsA RW) 2 B h' ⟨s.a, l.length - 1, s.cap⟩ (l.take k ++ l.drop (k + 1)) → OnlyS s h h' → h'.size = h.size → K ⟨s.a, l.length - 1, s.cap⟩ h') : C_slices_Delete_direct_row_direct_row s i j h K := by
  subst hi; subst hj
  have hlen := own.row.len
  have hcap := own.row.cap
  obtain ⟨a, ha⟩ := own.row.at_ (by intro e; subst e; simp at hk)
  refine F_slices_Delete_direct_row_direct_row_ok _ _ _ _ _ ?_
  refine ⟨⟨by omega, by omega⟩, ⟨by omega, by omega⟩, ⟨by simp, by simp; omega⟩, ?_⟩
  refine cnd_no (by rw [beq_eq_false_iff_ne]; omega) ?_
  refine slc_to (n := k) rfl (by omega) ?_
  refine slc_any (m := k + 1) (n := s.len) rfl rfl (by omega) (by omega) ?_
  have r1 := own.take (n := k) (by omega)
  have r2 := own.row.drop (n := k + 1) (by omega)
  have ltk : (l.take k).length = k := by rw [List.length_take]; omega
  have ldk : (l.drop (k + 1)).length = l.length - (k + 1) := List.length_drop
  refine app_fit (s := ⟨s.a, k, s.cap⟩) (t := ⟨if s.cap = k + 1 then s.a else s.a.map (·.add ((k + 1) * 2)), s.len - (k + 1), s.cap - (k + 1)⟩) RW_ok r1 r2 (by rw [ltk, ldk]; simp only; omega) fun h2 o2 u2 z2 => ?_
  rw [ltk, ldk] at o2 ⊢
  have e1 : k + (l.length - (k + 1)) = l.length - 1 := by omega
  rw [e1] at o2 ⊢
  simp only at o2 u2 ⊢
  refine slc_any (m := l.length - 1) (n := s.len) rfl rfl (by omega) (by omega) ?_
  refine dr_clear (l := l.take k ++ l.drop (k + 1)) (s := ⟨s.a, l.length - 1, s.cap⟩) o2 (by rw [List.length_append, ltk, ldk]; omega) (by simp only; omega) fun h3 o3 u3 z3 => hK h3 o3 ?_ (z3.trans z2)
  · exact ⟨by omega, fun q hq hn => (u3.2 q (by omega) hn).trans (u2.2 q hq hn)⟩
end Go.Proofs.YthnkmmnipihkeaaF
