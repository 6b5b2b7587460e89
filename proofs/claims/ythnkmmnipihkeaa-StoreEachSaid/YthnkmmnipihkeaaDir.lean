/- Chapter 14: the directory. No condition. -/
import Derived.Test.YthnkmmnipihkeaaDirPure
namespace Go.Proofs.YthnkmmnipihkeaaF
open Go Go.Proofs.YthnkmmnipihkeaaK
set_option linter.unusedSimpArgs false
set_option linter.unusedVariables false

/-- A directory in memory. -/
structure DW (h : Hp) (p : Nat) (s : Sl) (d : List (StA RW)) : Prop where
  b : Blk h p #[.slice s.a s.len s.cap]
  o : OwnRow (vsA RW) 2 (p + 1) h s d
  ris : Ris (d.map rId)
theorem DW.apart {h : Hp} {p : Nat} {s : Sl} {d : List (StA RW)} (q : DW h p s d) : ∀ a, s.a = some a → p ≠ a.block := fun a ha => by have := q.o.above a ha; omega
theorem own_keep {α : Type} {enc : α → List Value} {size B : Nat} {h h' : Hp} {s : Sl} {l : List α} (r : OwnRow enc size B h s l) (hk : ∀ a, s.a = some a → h'[a.block]? = h[a.block]?) : OwnRow enc size B h' s l := by
  refine ⟨⟨r.row.len, r.row.cap, r.row.at_, fun a i x ha hx j hj => ?_⟩, r.own.imp id fun ⟨b, c, e, h1, h2, h3, h4⟩ => ⟨b, c, e, h1, h2, by rw [hk _ h1]; exact h3, h4⟩⟩
  have := r.row.get a i x ha hx j hj
  rw [← this]
  unfold hcell
  rw [add_block, add_block, hk a ha]
theorem DW.keep {h h' : Hp} {p : Nat} {s : Sl} {d : List (StA RW)} (q : DW h p s d) (hp : h'[p]? = h[p]?) (hs : ∀ a, s.a = some a → h'[a.block]? = h[a.block]?) : DW h' p s d := by
  obtain ⟨e, hb⟩ := q.b
  exact ⟨⟨e, by rw [hp]; exact hb⟩, own_keep q.o hs, q.ris⟩
theorem DW.ext {h h' : Hp} {p : Nat} {s : Sl} {d : List (StA RW)} (q : DW h p s d) (x : Ext h h') : DW h' p s d := q.keep (x.get _ q.b.lt) fun a ha => x.get _ (q.o.lt a ha)
theorem DW.ld {h : Hp} {p : Nat} {s : Sl} {d : List (StA RW)} (q : DW h p s d) {K : Sl → Prop} (hK : K s) : ldA .sl h ⟨p, 0, none⟩ K := ldA_blk (s := .sl) (i := 0) (x := s) q.b rfl hK
theorem DW.get {h h' : Hp} {p : Nat} {s : Sl} {d : List (StA RW)} (q : DW h p s d) {i : Int} {k : Nat} {x : StA RW} (hi : i = k) (hx : d[k]? = some x) {K : Addr → Prop} (hK : ∀ a, cellsAt h a (vsA RW x) → K a) : idxS s.a s.len i 2 K := by
  subst hi
  exact ld_row q.o.row (i := (k : Int)) (x := x) (by omega) hx fun a _ hc => hK _ hc
/-- What turns: the directory, its row. -/
def DGrow (p : Nat) (s s' : Sl) (h h' : Hp) : Prop := OnlyP p s h h' ∧ (s'.a = s.a ∨ ∃ b, s'.a = some ⟨b, 0, none⟩ ∧ h.size ≤ b)
theorem DGrow.ext {p : Nat} {s : Sl} {h h' : Hp} (x : Ext h h') : DGrow p s s h h' := ⟨x.onlyP p s, .inl rfl⟩
theorem DGrow.trans {p : Nat} {s s' s'' : Sl} {h h' h'' : Hp} (x : DGrow p s s' h h') (y : DGrow p s' s'' h' h'') : DGrow p s s'' h h'' := by
  refine ⟨x.1.transN y.1 (Nat.le_refl _) x.2, ?_⟩
  have := x.1.1
  rcases y.2 with e | ⟨b, e, hb⟩
  · rw [e]; exact x.2
  · exact .inr ⟨b, e, by omega⟩
theorem DW.bel {h h' : Hp} {p : Nat} {s s' : Sl} {d : List (StA RW)} (q : DW h p s d) (u : DGrow p s s' h h') : Bel p h h' := u.1.bel (Nat.le_of_lt q.b.lt) (Nat.le_refl _) fun a ha => by have := q.o.above a ha; omega
theorem d_New {h : Hp} {K : Option Addr → Hp → Prop} (hK : ∀ h', DW h' h.size ⟨none, 0, 0⟩ [] → Ext h h' → K (some ⟨h.size, 0, none⟩) h') : C_direct_New h K :=
  F_direct_New_ok _ _ (push_to fun h1 b1 e1 z1 => let_to (hK h1 ⟨b1, OwnRow.nil _ _ _ _, List.Pairwise.nil⟩ e1))
theorem cmp_u64 {x y : Int} {h : Hp} {K : Int → Hp → Prop} (hK : ∀ n : Int, (n < 0 ↔ x < y) → (n = 0 ↔ x = y) → K n h) : C_cmp_Compare_uint64 x y h K := by
  refine F_cmp_Compare_uint64_ok _ _ _ _ ?_
  unfold F_cmp_Compare_uint64
  refine F_cmp_isNaN_uint64_ok _ _ _ ?_
  unfold F_cmp_isNaN_uint64
  refine F_cmp_isNaN_uint64_ok _ _ _ ?_
  unfold F_cmp_isNaN_uint64
  have e : ∀ z : Int, (z != z) = false := fun z => by simp
  rw [e, e]
  refine cnd_no rfl (cnd_no rfl (cnd_dec.2 ⟨fun h1 => hK _ (by omega) (by omega), fun h1 => cnd_dec.2 ⟨fun h2 => hK _ (by omega) (by omega), fun h2 => hK _ (by omega) (by omega)⟩⟩))
theorem map_get {α β : Type} {f : α → β} {l : List α} {i : Nat} {y : β} (h : (l.map f)[i]? = some y) : ∃ x, l[i]? = some x ∧ f x = y := by
  rw [List.getElem?_map] at h
  obtain ⟨x, hx, e⟩ := Option.map_eq_some_iff.1 h
  exact ⟨x, hx, e⟩
theorem d_place {h : Hp} {p : Nat} {s : Sl} {d : List (StA RW)} {id : Int} (q : DW h p s d) (hl : d.length ≤ 4611686018427387904) {K : Int → Bool → Hp → Prop} (hK : ∀ h', Ext h h' → K (rk (d.map rId) id : Int) (decide (id ∈ d.map rId)) h') : C_direct_Dir_place (some ⟨p, 0, none⟩) id h K := by
  have hlen := q.o.row.len
  refine F_direct_Dir_place_ok _ _ _ _ (cnd_no rfl (q.ld (F_slices_BinarySearchFunc_direct_row_direct_row_uint64_ok _ _ _ _ _ ?_)))
  unfold F_slices_BinarySearchFunc_direct_row_direct_row_uint64
  rw [Jn_eq]
  have call : ∀ {x : StA RW} {g : Hp} {K2 : Int → Hp → Prop}, (∀ n g', Ext g g' → (n < 0 ↔ rId x < id) → (n = 0 ↔ rId x = id) → K2 n g') → callV Try.prog (.func (.func 41) #[] #[]) [.agg #[.int .u64 x.1, .int .i64 x.2.1], .int .u64 id] [.at (.int .i64)] g fun s g' => K2 s.1 g' := by
    intro x g K2 hk2
    refine callV_func rfl ?_
    show C_direct_Dir_place_1 x.1 x.2.1 id g K2
    refine F_direct_Dir_place_1_ok _ _ _ _ _ (push_to fun g1 b1 e1 z1 => let_to (ldA_blk (s := .int .u64) (i := 0) (x := x.1) b1 rfl (cmp_u64 fun n h1 h2 => hk2 n g1 e1 h1 h2)))
  have dl : (d.map rId).length = d.length := List.length_map _
  refine Lp.inv (fun st => ∃ i j : Nat, st.1.1 = (i : Int) ∧ st.1.2.1 = (j : Int) ∧ i ≤ j ∧ j ≤ d.length ∧ Ext h st.2 ∧ (∀ m x, m < i → (d.map rId)[m]? = some x → x < id) ∧ (∀ m x, j ≤ m → (d.map rId)[m]? = some x → ¬ x < id)) (fun st => (st.1.2.1 - st.1.1).toNat) ?_
    ⟨0, d.length, rfl, by simp only; omega, by omega, Nat.le_refl _, Ext.refl _, fun m x hm => by omega, fun m x hm hx => by have := (List.getElem?_eq_some_iff.1 hx).1; omega⟩
  rintro ⟨⟨i', j', ⟨⟩⟩, g⟩ R ⟨i, j, rfl, rfl, hij, hj, x, hlo, hhi⟩ hR
  simp only at x
  unfold L1_slices_BinarySearchFunc_direct_row_direct_row_uint64
  dsimp only
  refine cnd_dec.2 ⟨fun hlt => let_to (let_to ⟨by decide, let_to (let_to ?_)⟩), fun hge => ?_⟩
  · have w1 : IntKind.wrap .i64 ((i : Int) + (j : Int)) = ((i + j : Nat) : Int) := by rw [wrap_i64 (by omega) (by omega)]; omega
    have w2 : IntKind.wrap .u64 ((i + j : Nat) : Int) = ((i + j : Nat) : Int) := wrap_u64 (by omega) (by omega)
    have w3 : Int.fdiv ((i + j : Nat) : Int) (2 ^ min (Int.toNat 1) (IntKind.bits .u64)) = (((i + j) / 2 : Nat) : Int) := by
      show Int.fdiv ((i + j : Nat) : Int) 2 = _
      rw [Int.fdiv_eq_ediv_of_nonneg _ (by decide)]; omega
    rw [w1, w2, w3, wrap_i64 (by omega) (by omega)]
    have hm : (i + j) / 2 < d.length := by omega
    have hx : d[(i + j) / 2]? = some d[(i + j) / 2] := List.getElem?_eq_getElem hm
    generalize d[(i + j) / 2] = y at hx
    have hx2 : (d.map rId)[(i + j) / 2]? = some (rId y) := by rw [List.getElem?_map, hx]; rfl
    have qg := q.ext x
    refine qg.get (h' := g) (k := (i + j) / 2) rfl hx fun a hc => ldA_row0 hc (x := y.1) rfl (ldA_row hc (j := 1) (x := y.2.1) rfl (call (x := y) (g := g) (K2 := fun n g' => cnd (decide (n < 0)) (Let (IntKind.wrap .i64 ((((i + j) / 2 : Nat) : Int) + 1)) fun t15 => R ((t15, (j : Int), ()), g')) (R (((i : Int), (((i + j) / 2 : Nat) : Int), ()), g'))) fun n g' e' h1 h2 => ?_))
    refine cnd_dec.2 ⟨fun hn => let_to ?_, fun hn => ?_⟩
    · rw [wrap_i64 (by omega) (by omega)]
      refine hR _ ⟨(i + j) / 2 + 1, j, by simp only; omega, rfl, by omega, hj, x.trans e', fun m z hm2 hz => ?_, hhi⟩ (by simp only; omega)
      rcases Nat.lt_or_ge m ((i + j) / 2) with h3 | h3
      · have h4 : (d.map rId)[m] < (d.map rId)[(i + j) / 2] := List.pairwise_iff_getElem.1 q.ris m ((i + j) / 2) (by omega) (by omega) h3
        have h5 := (List.getElem?_eq_some_iff.1 hz).2
        have h6 := (List.getElem?_eq_some_iff.1 hx2).2
        have := h1.1 hn
        omega
      · obtain rfl : m = (i + j) / 2 := by omega
        rw [hx2] at hz; cases hz
        exact h1.1 hn
    · refine hR _ ⟨i, (i + j) / 2, rfl, rfl, by omega, by omega, x.trans e', hlo, fun m z hm2 hz => ?_⟩ (by simp only; omega)
      have hn2 : ¬ rId y < id := fun h => hn (h1.2 h)
      rcases Nat.eq_or_lt_of_le hm2 with h3 | h3
      · subst h3
        rw [hx2] at hz; cases hz; exact hn2
      · have hml := (List.getElem?_eq_some_iff.1 hz).1
        have h4 : (d.map rId)[(i + j) / 2] < (d.map rId)[m] := List.pairwise_iff_getElem.1 q.ris ((i + j) / 2) m (by omega) hml h3
        have h5 := (List.getElem?_eq_some_iff.1 hz).2
        have h6 := (List.getElem?_eq_some_iff.1 hx2).2
        omega
  · obtain rfl : i = j := by omega
    have hrk := rk_unique q.ris (by omega) hlo hhi
    have qg := q.ext x
    unfold J1_slices_BinarySearchFunc_direct_row_direct_row_uint64
    dsimp only
    have fin : ∀ (f : Bool) (g' : Hp), Ext h g' → (f = true ↔ (d.map rId)[i]? = some id) → K (i : Int) f g' := by
      intro f g' e' hf
      have := hK g' e'
      have hmem := rk_mem (t := id) q.ris
      rw [← hrk] at this hmem
      have hfe : f = decide (id ∈ d.map rId) := by rw [Bool.eq_iff_iff, hf, decide_eq_true_iff, hmem]
      rw [hfe]; exact this
    refine cnd_dec.2 ⟨fun hlt2 => ?_, fun hge2 => fin _ g x ⟨fun h => (by cases h), fun h => ?_⟩⟩
    · have hm : i < d.length := by omega
      have hx : d[i]? = some d[i] := List.getElem?_eq_getElem hm
      generalize d[i] = y at hx
      refine qg.get (h' := g) (k := i) rfl hx fun a hc => ldA_row0 hc (x := y.1) rfl (ldA_row hc (j := 1) (x := y.2.1) rfl (call (x := y) (g := g) (K2 := fun n g' => K (i : Int) (n == 0) g') fun n g' e' h1 h2 => ?_))
      refine fin _ g' (x.trans e') ?_
      rw [beq_iff_eq, h2, List.getElem?_map, hx]
      simp
    · have := (List.getElem?_eq_some_iff.1 h).1; omega
theorem d_Len {h : Hp} {p : Nat} {s : Sl} {d : List (StA RW)} (q : DW h p s d) {K : Int → Hp → Prop} (hK : K (d.length : Int) h) : C_direct_Dir_Len (some ⟨p, 0, none⟩) h K :=
  F_direct_Dir_Len_ok _ _ _ (cnd_no rfl (q.ld (by rw [q.o.row.len]; exact hK)))
theorem d_Find {h : Hp} {p : Nat} {s : Sl} {d : List (StA RW)} {id : Int} (q : DW h p s d) (hl : d.length ≤ 4611686018427387904) {K : Int → Bool → Hp → Prop} (h1 : ∀ x h', Ext h h' → x ∈ d → rId x = id → K (rSl x) true h') (h2 : ∀ h', Ext h h' → id ∉ d.map rId → K 0 false h') : C_direct_Dir_Find (some ⟨p, 0, none⟩) id h K := by
  refine F_direct_Dir_Find_ok _ _ _ _ (d_place q hl fun h' e => cnd_not.2 (cnd_dec.2 ⟨fun hm => (q.ext e).ld ?_, fun hm => h2 h' e hm⟩))
  have hx := (rk_mem q.ris).1 hm
  obtain ⟨x, hx2, he⟩ := map_get hx
  exact (q.ext e).get (h' := h') rfl hx2 fun a hc => ldA_row hc (j := 1) (x := rSl x) rfl (h1 x h' e (List.mem_of_getElem? hx2) he)
theorem d_Put {h : Hp} {p : Nat} {s : Sl} {d : List (StA RW)} {id sl : Int} (q : DW h p s d) (hl : (d.length + 1) * 16 ≤ 140737488355328) {K : Bool → Hp → Prop} (h1 : ∀ s' h', id ∉ d.map rId → DW h' p s' (insAt d (rk (d.map rId) id) (id, sl, ())) → DGrow p s s' h h' → K true h') (h2 : ∀ h', Ext h h' → id ∈ d.map rId → K false h') : C_direct_Dir_Put (some ⟨p, 0, none⟩) id sl h K := by
  refine F_direct_Dir_Put_ok _ _ _ _ _ (d_place q (by omega) fun g e => ?_)
  rw [Jn_eq]
  refine cnd_no rfl (cnd_dec.2 ⟨fun hm => h2 g e hm, fun hm => ?_⟩)
  unfold J1_direct_Dir_Put
  have qg := q.ext e
  refine qg.ld (push_to fun g1 b1 e1 z1 => let_to ?_)
  have qg1 := qg.ext e1
  have hrk := rk_le (d.map rId) id
  rw [List.length_map] at hrk
  refine c_Insert (x := (id, sl, ())) (k := rk (d.map rId) id) qg1.o rfl hrk (by have := qg1.b.lt; omega) hl rfl b1 rfl (fun a ha => by have := qg.o.lt a ha; omega) fun s' g2 o2 u2 n2 => ?_
  have hp1 := qg1.b.lt
  have bp : Blk g2 p #[.slice s.a s.len s.cap] := qg1.b.onlyS u2 fun a ha => by have := qg1.apart a ha; exact this
  refine ⟨rfl, set_to (i := 0) bp (by simp) fun g3 b3 o3 k3 z3 => h1 s' g3 hm ⟨by simpa using b3, own_keep o2 fun a ha => o3.get _ (o2.lt a ha) (by have := o2.above a ha; omega), ?_⟩ ⟨⟨?_, fun i hi hp hs => ?_⟩, ?_⟩⟩
  · rw [insAt_map]; exact insAt_ris q.ris hm
  · have := u2.1; have := e.size; omega
  · have := e.size; have := u2.1
    rw [o3.get i (by omega) hp, u2.2 i (by omega) hs, e1.get i (by omega), e.get i hi]
  · exact n2.imp (fun e => e) fun ⟨b, hb, hb2⟩ => ⟨b, hb, by have := e.size; omega⟩
theorem d_Cut {h : Hp} {p : Nat} {s : Sl} {d : List (StA RW)} {id : Int} (q : DW h p s d) (hl : d.length ≤ 4611686018427387904) {K : Bool → Hp → Prop} (h1 : ∀ s' h', id ∈ d.map rId → DW h' p s' (d.take (rk (d.map rId) id) ++ d.drop (rk (d.map rId) id + 1)) → DGrow p s s' h h' → K true h') (h2 : ∀ h', Ext h h' → id ∉ d.map rId → K false h') : C_direct_Dir_Cut (some ⟨p, 0, none⟩) id h K := by
  refine F_direct_Dir_Cut_ok _ _ _ _ (d_place q hl fun g e => cnd_dec.2 ⟨fun hm => ?_, fun hm => by rw [decide_eq_false hm]; exact h2 g e hm⟩)
  rw [decide_eq_true hm]
  have qg := q.ext e
  refine qg.ld (let_to ?_)
  have hx := (rk_mem q.ris).1 hm
  have hlt := (List.getElem?_eq_some_iff.1 hx).1
  rw [List.length_map] at hlt
  rw [wrap_i64 (by omega) (by omega)]
  refine c_Delete (k := rk (d.map rId) id) qg.o rfl (by omega) hlt (by have := qg.b.lt; omega) fun g2 o2 u2 z2 => ?_
  have bp : Blk g2 p #[.slice s.a s.len s.cap] := qg.b.onlyS u2 fun a ha => qg.apart a ha
  refine ⟨rfl, set_to (i := 0) bp (by simp) fun g3 b3 o3 k3 z3 => h1 _ g3 hm ⟨by simpa using b3, own_keep o2 fun a ha => o3.get _ (o2.lt a ha) (by have := o2.above a ha; omega), ?_⟩ ⟨⟨?_, fun i hi hp hs => ?_⟩, .inl rfl⟩⟩
  · rw [List.map_append, List.map_take, List.map_drop]; exact cut_ris q.ris
  · have := e.size; omega
  · have := e.size
    rw [o3.get i (by omega) hp, u2.2 i (by omega) hs, e.get i hi]
abbrev eU := Go.Proofs.YthnkmmnipihkeaaK.encI .u64
theorem eU_ok : Enc eU 1 := encI_ok _
theorem d_Ids {h : Hp} {p : Nat} {s : Sl} {d : List (StA RW)} (q : DW h p s d) (hl : d.length * 8 ≤ 140737488355320) {K : Sl → Hp → Prop} (hK : ∀ t h', OwnRow eU 1 h.size h' t (d.map rId) → Ext h h' → K t h') : C_direct_Dir_Ids (some ⟨p, 0, none⟩) h K := by
  refine F_direct_Dir_Ids_ok _ _ _ (d_Len q ?_)
  refine Lp.inv (fun st => ∃ k : Nat, st.1.2.1 = (k : Int) ∧ k ≤ d.length ∧ OwnRow eU 1 h.size st.2 st.1.1 ((d.take k).map rId) ∧ Ext h st.2) (fun st => d.length - st.1.2.1.toNat) ?_ ⟨0, rfl, by omega, by simpa using OwnRow.nil _ _ _ _, Ext.refl _⟩
  rintro ⟨⟨t, i', ⟨⟩⟩, g⟩ R ⟨k, rfl, hk, o, x⟩ hR
  simp only at o x
  have ltk : (d.take k).length = k := by rw [List.length_take]; omega
  unfold L1_direct_Dir_Ids
  dsimp only
  refine cnd_dec.2 ⟨fun hlt => (q.ext x).ld ?_, fun hge => ?_⟩
  · have hx : d[k]? = some (d[k]'(by omega)) := List.getElem?_eq_getElem _
    generalize (d[k]'(by omega)) = y at hx
    refine (q.ext x).get (h' := g) rfl hx fun a hc => ldA_row0 hc (x := rId y) rfl ?_
    refine app1 (x := rId y) eU_ok (by decide) o x.size (by rw [List.length_map, ltk]; omega) (by decide) rfl rfl fun s2 g2 o2 u2 b2 n2 => let_to ?_
    rw [wrap_i64 (by omega) (by omega)]
    refine hR _ ⟨k + 1, by simp, by omega, ?_, (x.bel.trans b2).ext⟩ (by simp only; omega)
    rw [List.take_add_one, hx, List.map_append]; exact o2
  · obtain rfl : k = d.length := by omega
    rw [List.take_length] at o
    exact hK t g o x
end Go.Proofs.YthnkmmnipihkeaaF
