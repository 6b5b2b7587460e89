/- The twentieth part of the layer: texts as rows of numbers. No condition. -/
import Derived.Test.YtlkaipmhjgfkpaaDoorK19
import Derived.Laws.Strings
namespace Go.Proofs.YtlkaipmhjgfkpaaDoorK
open Go Go.RowKit
set_option linter.unusedSimpArgs false
set_option linter.unusedVariables false

theorem bts_get {s : ByteArray} {k : Nat} (hk : k < s.size) : (bts s)[k]? = some ((s[k]).toNat : Int) := by
  unfold bts
  have h : k < s.data.toList.length := by simpa using hk
  rw [List.getElem?_map, List.getElem?_eq_getElem h]; rfl
theorem idx_str {s : ByteArray} {i : Int} {k : Nat} {x : Int} (hi : i = k) (hx : (bts s)[k]? = some x) {K : Int → Prop} (hK : K x) : idxStr s i K := by
  subst hi
  have hk : k < s.size := by have := (List.getElem?_eq_some_iff.1 hx).1; rwa [bts_len] at this
  refine ⟨by omega, s[k], ?_, ?_⟩
  · show s[k]? = some s[k]
    exact getElem?_pos s k hk
  · rw [bts_get hk] at hx
    rw [Option.some.inj hx]; exact hK
theorem bts_extract (s : ByteArray) (m n : Nat) : bts (s.extract m n) = ((bts s).take n).drop m := by
  unfold bts
  rw [ByteArray.data_extract, Array.toList_extract, List.extract_eq_drop_take', List.map_drop, List.map_take]
theorem slc_str {s : ByteArray} {lo hi : Option Int} {m n : Nat} (hlo : lo.getD 0 = m) (hhi : hi.getD s.size = n) (hm : m ≤ n) (hn : n ≤ s.size) {K : ByteArray → Prop} (hK : ∀ t, bts t = ((bts s).take n).drop m → K t) : slcStr s lo hi K := by
  unfold slcStr
  rw [hlo, hhi]
  exact ⟨⟨by omega, by omega⟩, ⟨by omega, by omega⟩, hK _ (by rw [Int.toNat_natCast, Int.toNat_natCast]; exact bts_extract s m n)⟩
theorem cp_to {α : Type} {enc : α → List Value} {size : Nat} (hE : Enc enc size) {B : Nat} {h : Hp} {d s : Sl} {l m : List α} (own : OwnRow enc size B h d m) (src : IsRow enc size h s l) (hl : l.length = m.length) (h0 : 0 < m.length) (hsz : 0 < size) {K : Nat → Hp → Prop}
    (hK : ∀ n h', OwnRow enc size B h' d l → OnlyS d h h' → h'.size = h.size → K n h') : cpS size d.a d.len (.slice s.a s.len s.cap) h K := by
  have hdl := own.row.len
  have hsl := src.len
  have hcap := own.row.cap
  rcases own.own with ⟨h1, h2⟩ | ⟨b, c, el, h1, h2, h3, h4⟩
  · omega
  · unfold cpS
    have e1 : min s.len d.len = s.len := by omega
    simp only [e1]
    have := srcCells_row hE src (K := fun cs => (∀ i, i < cs.length → (hcell h (Addr.add ⟨b, 0, none⟩ i)).isSome = true ∧ hfrozen h (Addr.add ⟨b, 0, none⟩ i) = false) ∧ (∀ v ∈ cs, oneCell v = true) ∧ K s.len (hsets h ⟨b, 0, none⟩ cs 0)) ?_
    · rw [h1]; exact this
    · have hfl := flat_len hE l
      have hls : l.length * size ≤ d.cap * size := Nat.mul_le_mul_right _ (by omega)
      refine ⟨fun i hi => ?_, fun v hv => ?_, ?_⟩
      · rw [hfl] at hi
        rw [add_mk, Nat.zero_add, hcell_of h3, hfrozen_of h3]
        refine ⟨?_, rfl⟩
        rw [Array.getElem?_eq_getElem (by omega)]; rfl
      · obtain ⟨y, _, hy⟩ := List.mem_flatMap.1 hv
        exact hE.one y v hy
      · have hblk := hsets_block (e := el) (fr := (0, 0)) (b := b) (o := 0) (l.flatMap enc) 0 h3
        refine hK _ _ ⟨?_, .inr ⟨b, _, el, h1, h2, hblk, by rw [setMany_size]; exact h4⟩⟩ ?_ (hsets_size _ _ _ _)
        · have hr : d = ⟨some ⟨b, 0, none⟩, d.len, d.cap⟩ := by cases d; simp only at h1; subst h1; rfl
          rw [hr]
          refine isRow_block hE hblk (by omega) hcap fun i hi => ?_
          rw [setMany_get, Nat.add_zero, hfl, if_pos ⟨Nat.zero_le _, by omega, by omega⟩, Nat.sub_zero]
        · refine ⟨by rw [hsets_size]; exact Nat.le_refl _, fun i hi hne => ?_⟩
          have := hsets_only (a := ⟨b, 0, none⟩) (l.flatMap enc) 0 h
          exact this.get i hi (hne ⟨b, 0, none⟩ h1)

theorem bts_inj {a b : ByteArray} (h : bts a = bts b) : a = b := by
  have h2 : a.data.toList = b.data.toList := by
    unfold bts at h
    exact List.map_inj_right (fun x y e => UInt8.toNat_inj.1 (by omega)) |>.1 h
  cases a; cases b
  simp only at h2
  congr
  exact Array.toList_inj.1 h2
theorem strEq_iff {a b : ByteArray} : strEq a b = true ↔ bts a = bts b := by
  unfold strEq
  rw [beq_iff_eq]
  constructor
  · intro h
    rw [ByteArray.toList_eq, ByteArray.toList_eq] at h
    unfold bts; rw [h]
  · intro h; rw [bts_inj h]
theorem strEq_no {a b : ByteArray} : strEq a b = false ↔ bts a ≠ bts b := by
  rw [← Bool.not_eq_true, strEq_iff]
theorem bts_app (a b : ByteArray) : bts (a ++ b) = bts a ++ bts b := by
  unfold bts
  rw [ByteArray.data_append, Array.toList_append, List.map_append]
theorem bts_byte255 {s : ByteArray} {c : Int} (h : c ∈ bts s) : 0 ≤ c ∧ c ≤ 255 := by
  unfold bts at h
  obtain ⟨b, _, rfl⟩ := List.mem_map.1 h
  have := b.toNat_lt
  omega
theorem cat_to {a b : ByteArray} (h : a.size + b.size ≤ 9223372036854775807) {K : ByteArray → Prop} (hK : ∀ r, bts r = bts a ++ bts b → K r) : catS a b K := ⟨h, hK _ (bts_app a b)⟩
/-- 's[1:]'. -/
theorem slc_tail {s : ByteArray} {c : Int} {l : List Int} (h : bts s = c :: l) {K : ByteArray → Prop} (hK : ∀ t, bts t = l → K t) : slcStr s (some 1) none K := by
  have hl := bts_len s
  rw [h, List.length_cons] at hl
  refine slc_str (m := 1) (n := s.size) rfl rfl (by omega) (Nat.le_refl _) fun t ht => hK t ?_
  rw [ht, ← bts_len, List.take_length, h]; rfl
theorem idx_head {s : ByteArray} {c : Int} {l : List Int} (h : bts s = c :: l) {K : Int → Prop} (hK : K c) : idxStr s 0 K := idx_str (k := 0) rfl (by rw [h]; rfl) hK
theorem empty_iff {s : ByteArray} : strEq s (ByteArray.mk #[]) = true ↔ bts s = [] := strEq_iff
theorem cons_of {l : List Int} (h : l ≠ []) : ∃ c t, l = c :: t := by
  cases l with
  | nil => exact (h rfl).elim
  | cons c t => exact ⟨c, t, rfl⟩
end Go.Proofs.YtlkaipmhjgfkpaaDoorK
