/- Chapter 19: the walk through the functions of pivots, and of the document's pivots. No condition. -/
import Derived.Test.YtfeimjemangpaaaPivots
namespace Go.Proofs.YtfeimjemangpaaaF
open Go Go.Proofs.YtfeimjemangpaaaK
set_option linter.unusedSimpArgs false
set_option linter.unusedVariables false

theorem own_same {α : Type} {enc : α → List Value} {size B : Nat} {h h' : Hp} {s : Sl} {l : List α} (r : OwnRow enc size B h s l) (e : ∀ a, s.a = some a → h'[a.block]? = h[a.block]?) : OwnRow enc size B h' s l := by
  rcases r.own with ⟨h1, h2⟩ | ⟨b, c, e1, h1, h2, h3, h4⟩
  · exact ⟨⟨r.row.len, r.row.cap, r.row.at_, fun a i x ha => by rw [h1] at ha; cases ha⟩, .inl ⟨h1, h2⟩⟩
  · have hb := e _ h1
    simp only at hb
    refine ⟨⟨r.row.len, r.row.cap, r.row.at_, fun a i x ha hx j hj => ?_⟩, .inr ⟨b, c, e1, h1, h2, by rw [hb]; exact h3, h4⟩⟩
    rw [h1] at ha; cases ha
    have := r.row.get _ i x h1 hx j hj
    rw [← this, add_mk, add_mk]
    unfold hcell
    simp only [hb]
theorem OwnRow.onlyP {α : Type} {enc : α → List Value} {size B : Nat} {h h' : Hp} {s t : Sl} {l : List α} {p : Nat} (r : OwnRow enc size B h s l) (u : OnlyP p t h h') (hp : ∀ a, s.a = some a → a.block ≠ p) (ht : ∀ a, s.a = some a → ∀ c, t.a = some c → a.block ≠ c.block) : OwnRow enc size B h' s l :=
  own_same r fun a ha => u.2 _ (r.lt a ha) (hp a ha) (ht a ha)
theorem Only.thenP {p : Nat} {t : Sl} {h g g' : Hp} (o : Only p h g) (u : OnlyP p t g g') (ht : ∀ a, t.a = some a → h.size ≤ a.block) : Only p h g' :=
  ⟨Nat.le_trans o.size u.1, fun i hi hn => (u.2 i (Nat.lt_of_lt_of_le hi o.size) hn fun a ha => by have := ht a ha; omega).trans (o.get i hi hn)⟩
theorem Only.thenBel {p : Nat} {h g g' : Hp} (o : Only p h g) (u : Bel h.size g g') : Only p h g' :=
  ⟨Nat.le_trans o.size u.size, fun i hi hn => (u.get i hi).trans (o.get i hi hn)⟩
theorem p_start {n : Nat} {h : Hp} {K : Sl → Hp → Prop} (hn : n ≤ 1048576) (hK : ∀ s h', OwnRow eQ 1 h.size h' s (List.replicate n BIG) → Ext h h' → K s h') : C_pivots_start (n : Int) h K := by
  refine F_pivots_start_ok _ _ _ (mk_row eQ_ok (0 : Int) rfl rfl rfl (Nat.le_refl _) (by omega) fun s h1 o1 e1 _ _ => ?_)
  refine Lp.inv (fun st => ∃ (k : Nat) (ls : List Int), st.1.1 = (k : Int) ∧ k ≤ n ∧ ls.length = n ∧ (∀ j : Nat, j < k → ls[j]? = some BIG) ∧ OwnRow eQ 1 h.size st.2 s ls ∧ Bel h.size h st.2) (fun st => n - st.1.1.toNat) ?_ ⟨0, _, rfl, by omega, List.length_replicate, fun j hj => by omega, o1, e1.bel⟩
  rintro ⟨⟨k', ⟨⟩⟩, g⟩ R ⟨k, ls, rfl, hk, hl, hs, o, bl⟩ hR
  simp only at hk o bl
  unfold L1_pivots_start
  dsimp only
  have hlen := o.row.len
  have hsz := bl.size
  refine cnd_dec.2 ⟨fun hlt => ?_, fun hge => ?_⟩
  · refine own_set (x := BIG) eQ_ok o (k := k) rfl (by omega) rfl fun g2 o2 u2 _ z2 => let_to ?_
    rw [wrap_i64 (by omega) (by omega)]
    refine hR _ ⟨k + 1, _, by simp, by omega, by rw [List.length_set]; exact hl, fun j hj => ?_, o2, bl.trans (u2.bel_of o hsz)⟩ (by simp only; omega)
    rw [List.getElem?_set]
    by_cases e : k = j
    · rw [if_pos e, if_pos (by omega)]
    · rw [if_neg e]; exact hs j (by omega)
  · have hfin : ls = List.replicate n BIG := by
      apply List.ext_getElem?
      intro i
      by_cases hi : i < n
      · rw [hs i (by omega), List.getElem?_replicate, if_pos hi]
      · rw [List.getElem?_eq_none (by omega), List.getElem?_eq_none (by simp; omega)]
    subst hfin
    exact hK _ _ o bl.ext
theorem p_far {s : Sl} {ls : List Int} {h : Hp} {K : Int → Hp → Prop} (r : R64 h s ls) (hne : ls ≠ []) (hb : ls.length ≤ 140737488355328) (hK : ∀ (i : Nat) (v : Int), FarAt ls i v → K i h) : C_pivots_farthest s h K := by
  refine F_pivots_farthest_ok _ _ _ ?_
  have hpos := List.length_pos_iff.2 hne
  have hlen := r.len
  refine Lp.inv (fun st => st.2 = h ∧ ∃ (k o : Nat) (v : Int), st.1.1 = (o : Int) ∧ st.1.2.1 = (k : Int) ∧ k ≤ ls.length ∧ o < max k 1 ∧ ls[o]? = some v ∧ (∀ (j : Nat) (x : Int), j < o → ls[j]? = some x → x < v) ∧ ∀ (j : Nat) (x : Int), j < k → ls[j]? = some x → x ≤ v)
    (fun st => ls.length - st.1.2.1.toNat) ?_ ⟨rfl, 0, 0, ls[0], rfl, rfl, by omega, by omega, List.getElem?_eq_getElem (by omega), fun j x hj => by omega, fun j x hj => by omega⟩
  rintro ⟨⟨o', k', ⟨⟩⟩, g⟩ R ⟨rfl, k, o, v, rfl, rfl, hk, ho, hv, hf, ht⟩ hR
  unfold L1_pivots_farthest
  dsimp only
  refine cnd_dec.2 ⟨fun hlt => ?_, fun hge => ?_⟩
  · have hx : ls[k]? = some (ls[k]'(by omega)) := List.getElem?_eq_getElem (by omega)
    generalize ls[k]'(by omega) = x at hx
    refine ld_int0 (i := (k : Int)) (x := x) r (by omega) (by rw [Int.toNat_natCast]; exact hx) (ld_int0 (i := (o : Int)) (x := v) r (by omega) (by rw [Int.toNat_natCast]; exact hv) (cnd_dec.2 ⟨fun hgt => let_to ?_, fun hle => let_to ?_⟩))
    · rw [wrap_i64 (by omega) (by omega)]
      refine hR _ ⟨rfl, k + 1, k, x, rfl, by simp, by omega, by omega, hx, fun j y hj hy => ?_, fun j y hj hy => ?_⟩ (by simp only; omega)
      · have := ht j y hj hy; omega
      · by_cases e : j = k
        · subst e; rw [hx] at hy; cases hy; exact Int.le_refl _
        · have := ht j y (by omega) hy; omega
    · rw [wrap_i64 (by omega) (by omega)]
      refine hR _ ⟨rfl, k + 1, o, v, rfl, by simp, by omega, by omega, hv, hf, fun j y hj hy => ?_⟩ (by simp only; omega)
      by_cases e : j = k
      · subst e; rw [hx] at hy; cases hy; omega
      · exact ht j y (by omega) hy
  · refine hK o v ⟨hv, hf, fun j x hj => ?_⟩
    have := (List.getElem?_eq_some_iff.1 hj).1
    exact ht j x (by omega) hj
theorem p_closer {pm B : Nat} {m c : Int} {h h0 : Hp} {sl s : Sl} {l : List Ob} {ls : List Int} {x : StA OT} {o : Ob} {K : Hp → Prop} (q : MQ h pm m c) (hc : 0 ≤ c ∧ c + l.length ≤ 4503599627370496) (x0 : Only pm h0 h) (ol : ARow pm h0 sl l) (rx : ObA pm h0 x o)
    (ow : OwnRow eQ 1 B h s ls) (hB0 : h0.size ≤ B) (hB : pm < B) (hB2 : B ≤ h.size) (hl : ls.length = l.length) (hK : ∀ h', MQ h' pm m (c + l.length) → OwnRow eQ 1 B h' s (clos m o l ls) → OnlyP pm s h h' → K h') : C_pivots_closer (some ⟨pm, 0, none⟩) sl s (oTag x) (oVec x) (oStr x) h K := by
  refine F_pivots_closer_ok _ _ _ _ _ _ _ _ (push_to fun h1 b1 e1 z1 => let_to ?_)
  have hpl := q.lt
  have sab := ow.above
  have slt := ow.lt
  have hcl := clos_len (m := m) (x := o) hl
  refine Lp.inv (fun st => ∃ (k : Nat) (lk : List Int), st.1.1 = (k : Int) ∧ k ≤ l.length ∧ lk.length = l.length ∧ (∀ j : Nat, j < k → lk[j]? = (clos m o l ls)[j]?) ∧ (∀ j : Nat, k ≤ j → lk[j]? = ls[j]?) ∧ OwnRow eQ 1 B st.2 s lk ∧ MQ st.2 pm m (c + k) ∧ OnlyP pm s h1 st.2)
    (fun st => l.length - st.1.1.toNat) ?_ ⟨0, ls, rfl, by omega, hl, fun j hj => by omega, fun j hj => rfl, ow.ext e1, by simpa using Blk.ext q e1, OnlyP.refl _ _ _⟩
  rintro ⟨⟨k', ⟨⟩⟩, g⟩ R ⟨k, lk, rfl, hk, hlk, hs1, hs2, og, qg, ug⟩ hR
  simp only at og qg ug
  unfold L1_pivots_closer
  dsimp only
  have hlen := ol.len
  have gsz := ug.1
  have b1g : Blk g h.size _ := b1.onlyP ug (by omega) fun a ha => by have := slt a ha; omega
  have xg : Only pm h0 g := ⟨by have := x0.size; omega, fun i hi hn => by
    have := x0.size
    rw [ug.2 i (by omega) hn (fun a ha => by have := sab a ha; omega), e1.get i (by omega), x0.get i hi hn]⟩
  refine cnd_dec.2 ⟨fun hlt => ?_, fun hge => ?_⟩
  · have hy : l[k]? = some (l[k]'(by omega)) := List.getElem?_eq_getElem (by omega)
    generalize l[k]'(by omega) = y at hy
    have hn : ls[k]? = some (ls[k]'(by omega)) := List.getElem?_eq_getElem (by omega)
    generalize ls[k]'(by omega) = n at hn
    refine ld_oa (i := (k : Int)) ol xg (by omega) (by rw [Int.toNat_natCast]; exact hy) fun a yy ca ry => ?_
    refine ldA_row0 (s := .int .i64) (x := oTag yy) ca rfl (ldA_row (s := .sl) (j := 1) (x := oVec yy) ca rfl (ldA_row (s := .str) (j := 2) (x := oStr yy) ca rfl ?_))
    refine push_to fun g1 c1 e2 z2 => let_to ?_
    refine stores_blk (vs := [.int .i64 (oTag yy), .slice (oVec yy).a (oVec yy).len (oVec yy).cap, .string (oStr yy)]) c1 rfl fun g2 c2 u2 _ z3 => ?_
    simp only [List.take_zero, List.nil_append] at c2
    have xe : Ext g g2 := e2.only_new u2 (Nat.le_refl _)
    have b1g2 := b1g.ext xe
    have og2 := og.ext xe
    have qg2 := Blk.ext qg xe
    have pg := qg.lt
    have gab := og.above
    have glt := og.lt
    refine ⟨[pm], ?_⟩
    refine ld_row og2.row (i := (k : Int)) (x := n) (by omega) (by rw [Int.toNat_natCast, hs2 k (Nat.le_refl _)]; exact hn) fun a1 ha1 ca1 => ?_
    refine ⟨?_, ldA_row0 (s := .int .i64) (x := n) ca1 rfl ⟨?_, ldA_blk (s := .int .i64) (x := oTag x) b1g2 rfl (ldA_blk (s := .sl) (i := 1) (x := oVec x) b1g2 rfl (ldA_blk (s := .str) (i := 2) (x := oStr x) b1g2 rfl ⟨?_, ldA_blk (s := .int .i64) (x := oTag yy) c2 rfl (ldA_blk (s := .sl) (i := 1) (x := oVec yy) c2 rfl (ldA_blk (s := .str) (i := 2) (x := oStr yy) c2 rfl ?_))⟩))⟩⟩
    · rw [add_block, List.mem_singleton]; have := sab a1 ha1; omega
    · rw [List.mem_singleton]; show h.size ≠ pm; omega
    · rw [List.mem_singleton]; show g.size ≠ pm; omega
    have plt := qg2.lt
    refine m_Dist qg2 (by omega) (rx.only (xg.trans (xe.only pm))) (ry.only (xg.trans (xe.only pm))) fun g3 q3 u3 => ⟨Only.extS u3, let_to ?_⟩
    have og3 : OwnRow eQ 1 B g3 s lk := own_same og2 fun a ha => u3.get _ (og2.lt a ha) (by have := sab a ha; omega)
    refine own_set (x := mn (od m o y) n) eQ_ok og3 (k := k) rfl (by omega) (by unfold mn; rfl) fun g4 o4 u4 _ z4 => let_to ?_
    rw [wrap_i64 (by omega) (by omega)]
    have z5 := u3.size
    have z6 := u4.1
    refine hR _ ⟨k + 1, _, by simp, by omega, by rw [List.length_set]; exact hlk, fun j hj => ?_, fun j hj => ?_, o4, ?_, ?_⟩ (by simp only; omega)
    · rw [List.getElem?_set]
      by_cases e : k = j
      · subst e; rw [if_pos rfl, if_pos (by omega), clos_get hy hn]
      · rw [if_neg e]; exact hs1 j (by omega)
    · rw [List.getElem?_set, if_neg (by omega)]; exact hs2 j (by omega)
    · have := Blk.onlyS q3 u4 fun a ha => by have := sab a ha; omega
      rw [show c + ((k + 1 : Nat) : Int) = c + k + 1 by omega]; exact this
    · refine ug.trans (h'' := g4) ⟨by omega, fun i hi hn ht => ?_⟩
      rw [u4.2 i (by omega) ht, u3.get i (by omega) hn, xe.get i hi]
  · obtain rfl : k = l.length := by omega
    have hfin : lk = clos m o l ls := by
      apply List.ext_getElem?
      intro i
      by_cases hi : i < l.length
      · exact hs1 i hi
      · rw [List.getElem?_eq_none (by omega), List.getElem?_eq_none (by omega)]
    subst hfin
    exact hK _ qg og ⟨by omega, fun i hi hn ht => by rw [ug.2 i (by omega) hn ht, e1.get i hi]⟩
end Go.Proofs.YtfeimjemangpaaaF
