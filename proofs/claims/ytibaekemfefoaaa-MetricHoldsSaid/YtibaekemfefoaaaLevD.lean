/- Chapters 7 and 8: how far texts are apart. No condition. -/
import Derived.Test.YtibaekemfefoaaaF
import Derived.Test.YtibaekemfefoaaaLevPure
namespace Go.Proofs.YtibaekemfefoaaaF
open Go Go.Proofs.YtibaekemfefoaaaK
set_option linter.unusedSimpArgs false
set_option linter.unusedVariables false

abbrev eJ := Go.Proofs.YtibaekemfefoaaaK.encI .i64
theorem eJ_ok : Enc eJ 1 := encI_ok _
theorem bts_get {s : ByteArray} {k : Nat} (hk : k < s.size) : (bts s)[k]? = some ((s[k]).toNat : Int) := by
  unfold bts
  have h : k < s.data.toList.length := by simpa using hk
  rw [List.getElem?_map, List.getElem?_eq_getElem h]; rfl
theorem idx_str {s : ByteArray} {i : Int} {k : Nat} {x : Int} (hi : i = k) (hx : (bts s)[k]? = some x) {K : Int → Prop} (hK : K x) : idxStr s i K := by
  subst hi
  have hk : k < s.size := by have := (List.getElem?_eq_some_iff.1 hx).1; rwa [bts_len] at this
  refine ⟨by omega, s[k], ?_, ?_⟩
  · show s[k]? = some s[k]
    exact getElem?_pos s k hk
  · rw [bts_get hk] at hx
    rw [Option.some.inj hx]; exact hK
theorem bts_extract (s : ByteArray) (m n : Nat) : bts (s.extract m n) = ((bts s).take n).drop m := by
  unfold bts
  rw [ByteArray.data_extract, Array.toList_extract, List.extract_eq_drop_take', List.map_drop, List.map_take]
theorem slc_str {s : ByteArray} {lo hi : Option Int} {m n : Nat} (hlo : lo.getD 0 = m) (hhi : hi.getD s.size = n) (hm : m ≤ n) (hn : n ≤ s.size) {K : ByteArray → Prop} (hK : ∀ t, bts t = ((bts s).take n).drop m → K t) : slcStr s lo hi K := by
  unfold slcStr
  rw [hlo, hhi]
  exact ⟨⟨by omega, by omega⟩, ⟨by omega, by omega⟩, hK _ (by rw [Int.toNat_natCast, Int.toNat_natCast]; exact bts_extract s m n)⟩
theorem cp_to {α : Type} {enc : α → List Value} {size : Nat} (hE : Enc enc size) {B : Nat} {h : Hp} {d s : Sl} {l m : List α} (own : OwnRow enc size B h d m) (src : IsRow enc size h s l) (hl : l.length = m.length) (h0 : 0 < m.length) (hsz : 0 < size) {K : Nat → Hp → Prop}
    (hK : ∀ n h', OwnRow enc size B h' d l → OnlyS d h h' → h'.size = h.size → K n h') : cpS size d.a d.len (.slice s.a s.len s.cap) h K := by
  have hdl := own.row.len
  have hsl := src.len
  have hcap := own.row.cap
  rcases own.own with ⟨h1, h2⟩ | ⟨b, c, el, h1, h2, h3, h4⟩
  · omega
  · unfold cpS
    have e1 : min s.len d.len = s.len := by omega
    simp only [e1]
    have := srcCells_row hE src (K := fun cs => (∀ i, i < cs.length → (hcell h (Addr.add ⟨b, 0, none⟩ i)).isSome = true ∧ hfrozen h (Addr.add ⟨b, 0, none⟩ i) = false) ∧ (∀ v ∈ cs, oneCell v = true) ∧ K s.len (hsets h ⟨b, 0, none⟩ cs 0)) ?_
    · rw [h1]; exact this
    · have hfl := flat_len hE l
      have hls : l.length * size ≤ d.cap * size := Nat.mul_le_mul_right _ (by omega)
      refine ⟨fun i hi => ?_, fun v hv => ?_, ?_⟩
      · rw [hfl] at hi
        rw [add_mk, Nat.zero_add, hcell_of h3, hfrozen_of h3]
        refine ⟨?_, rfl⟩
        rw [Array.getElem?_eq_getElem (by omega)]; rfl
      · obtain ⟨y, _, hy⟩ := List.mem_flatMap.1 hv
        exact hE.one y v hy
      · have hblk := hsets_block (e := el) (fr := (0, 0)) (b := b) (o := 0) (l.flatMap enc) 0 h3
        refine hK _ _ ⟨?_, .inr ⟨b, _, el, h1, h2, hblk, by rw [setMany_size]; exact h4⟩⟩ ?_ (hsets_size _ _ _ _)
        · have hr : d = ⟨some ⟨b, 0, none⟩, d.len, d.cap⟩ := by cases d; simp only at h1; subst h1; rfl
          rw [hr]
          refine isRow_block hE hblk (by omega) hcap fun i hi => ?_
          rw [setMany_get, Nat.add_zero, hfl, if_pos ⟨Nat.zero_le _, by omega, by omega⟩, Nat.sub_zero]
        · refine ⟨by rw [hsets_size]; exact Nat.le_refl _, fun i hi hne => ?_⟩
          have := hsets_only (a := ⟨b, 0, none⟩) (l.flatMap enc) 0 h
          exact this.get i hi (hne ⟨b, 0, none⟩ h1)

/-! Place by place. -/
def dif (a b : List Int) (k : Nat) : List Nat := (List.range k).filter fun i => !(a[i]? == b[i]?)
theorem dif_succ (a b : List Int) (k : Nat) : dif a b (k + 1) = dif a b k ++ (if a[k]? = b[k]? then [] else [k]) := by
  unfold dif
  rw [List.range_succ, List.filter_append]
  congr 1
  by_cases h : a[k]? = b[k]?
  · rw [if_pos h]; simp [h]
  · rw [if_neg h]; simp [h]
theorem dif_len (a b : List Int) (k : Nat) : (dif a b k).length ≤ k := by
  unfold dif
  have := List.length_filter_le (fun i => !(a[i]? == b[i]?)) (List.range k)
  rwa [List.length_range] at this
def hamd (a b : List Int) : Nat := (dif a b (min a.length b.length)).length + (max a.length b.length - min a.length b.length)
theorem ham_Dist {a b : ByteArray} {h : Hp} {K : Int → Hp → Prop} (ha : a.size ≤ 1048576) (hb : b.size ≤ 1048576) (hK : ∀ h', Ext h h' → K (hamd (bts a) (bts b)) h') : C_ham_Dist a b h K := by
  have la := bts_len a
  have lb := bts_len b
  refine F_ham_Dist_ok _ _ _ _ (F_ham_longer_ok _ _ _ _ (let_to (let_to (let_to ?_))))
  rw [wrap_i64 (x := (a.size : Int) - b.size) (by omega) (by omega), wrap_i64 (x := (b.size : Int) - a.size) (by omega) (by omega)]
  refine F_ham_Places_ok _ _ _ _ (let_to ?_)
  have em : (if (b.size : Int) < a.size then (b.size : Int) else a.size) = ((min a.size b.size : Nat) : Int) := by split <;> omega
  rw [em]
  refine Lp.inv (fun st => ∃ k : Nat, st.1.2.1 = (k : Int) ∧ k ≤ min a.size b.size ∧ OwnRow eJ 1 h.size st.2 st.1.1 ((dif (bts a) (bts b) k).map fun i : Nat => (i : Int)) ∧ Ext h st.2) (fun st => min a.size b.size - st.1.2.1.toNat) ?_
    ⟨0, rfl, by omega, by simpa [dif] using OwnRow.nil _ _ _ _, Ext.refl _⟩
  rintro ⟨⟨s, i, ⟨⟩⟩, g⟩ R ⟨k, rfl, hk, o, x⟩ hR
  simp only at hk o x
  unfold L1_ham_Places
  dsimp only
  refine cnd_dec.2 ⟨fun hlt => ?_, fun hge => ?_⟩
  · have hka : k < a.size := by omega
    have hkb : k < b.size := by omega
    have h1 := bts_get hka
    have h2 := bts_get hkb
    have hd := dif_len (bts a) (bts b) k
    refine idx_str rfl h1 (idx_str rfl h2 (cnd_bne.2 ⟨fun hne => ?_, fun he => let_to ?_⟩))
    · have e : dif (bts a) (bts b) (k + 1) = dif (bts a) (bts b) k ++ [k] := by rw [dif_succ, h1, h2, if_neg (fun e => hne (Option.some.inj e))]
      refine app1 (x := (k : Int)) eJ_ok (by decide) o x.size (by rw [List.length_map]; omega) (by decide) rfl rfl fun s2 g2 o2 u2 b2 n2 => let_to ?_
      rw [wrap_i64 (by omega) (by omega)]
      refine hR _ ⟨k + 1, by simp, by omega, ?_, (x.bel.trans b2).ext⟩ (by simp only; omega)
      rw [e, List.map_append]; exact o2
    · have e : dif (bts a) (bts b) (k + 1) = dif (bts a) (bts b) k := by rw [dif_succ, h1, h2, if_pos (by rw [he]), List.append_nil]
      rw [wrap_i64 (by omega) (by omega)]
      exact hR _ ⟨k + 1, by simp, by omega, by rw [e]; exact o, x⟩ (by simp only; omega)
  · obtain rfl : k = min a.size b.size := by omega
    have hl := o.row.len
    rw [List.length_map] at hl
    have hd := dif_len (bts a) (bts b) (min a.size b.size)
    refine let_to ?_
    rw [hl, wrap_i64 (by split <;> omega) (by split <;> omega)]
    refine at_val (hK g x) ?_
    unfold hamd
    rw [la, lb]
    split <;> omega
/-! Edits. -/
theorem wrapI (x : Int) (h1 : -1000000000 ≤ x) (h2 : x ≤ 1000000000) : IntKind.wrap .i64 x = x := wrap_i64 (by omega) (by omega)
theorem lev_Trim {a b : ByteArray} {h : Hp} {K : ByteArray → ByteArray → Hp → Prop} (ha : a.size ≤ 1048576) (hb : b.size ≤ 1048576)
    (hK : ∀ c d p q, bts a = p ++ bts c ++ q → bts b = p ++ bts d ++ q → K c d h) : C_lev_Trim a b h K := by
  have la := bts_len a
  have lb := bts_len b
  have mn : ∀ x y : Nat, (if (y : Int) < (x : Int) then (y : Int) else (x : Int)) = ((min x y : Nat) : Int) := fun x y => by split <;> omega
  refine F_lev_Trim_ok _ _ _ _ ?_
  unfold F_lev_Trim
  rw [Jn_eq]
  refine Lp.inv (fun st => ∃ k : Nat, st.1.1 = (k : Int) ∧ k ≤ min a.size b.size ∧ (bts a).take k = (bts b).take k ∧ st.2 = h) (fun st => min a.size b.size - st.1.1.toNat) ?_ ⟨0, rfl, by omega, rfl, rfl⟩
  rintro ⟨⟨i, ⟨⟩⟩, g⟩ R ⟨k, rfl, hk, ht, rfl⟩ hR
  -- behind the first loop
  have J1 : J1_lev_Trim a b K ((k : Int), ()) g := by
    unfold J1_lev_Trim
    dsimp only
    refine slc_str (m := k) (n := a.size) rfl rfl (by omega) (Nat.le_refl _) fun c hc => slc_str (m := k) (n := b.size) rfl rfl (by omega) (Nat.le_refl _) fun d hd => ?_
    rw [← la, List.take_length] at hc
    rw [← lb, List.take_length] at hd
    have lc : c.size = a.size - k := by rw [← bts_len, hc, List.length_drop, la]
    have ld : d.size = b.size - k := by rw [← bts_len, hd, List.length_drop, lb]
    rw [Jn_eq]
    refine Lp.inv (fun st => ∃ n : Nat, st.1.1 = (n : Int) ∧ n ≤ min c.size d.size ∧ (bts c).drop (c.size - n) = (bts d).drop (d.size - n) ∧ st.2 = g) (fun st => min c.size d.size - st.1.1.toNat) ?_
      ⟨0, rfl, by omega, by rw [Nat.sub_zero, Nat.sub_zero, ← bts_len c, ← bts_len d, List.drop_length, List.drop_length], rfl⟩
    rintro ⟨⟨j, ⟨⟩⟩, g2⟩ R2 ⟨n, rfl, hn, hs, rfl⟩ hR2
    have J2 : J2_lev_Trim K c d ((n : Int), ()) g2 := by
      unfold J2_lev_Trim
      dsimp only
      refine let_to ?_
      rw [wrap_i64 (by omega) (by omega)]
      refine slc_str (lo := none) (hi := some ((c.size : Int) - n)) (m := 0) (n := c.size - n) rfl (by simp only [Option.getD_some]; omega) (by omega) (by omega) fun c2 hc2 => let_to ?_
      rw [wrap_i64 (by omega) (by omega)]
      refine slc_str (lo := none) (hi := some ((d.size : Int) - n)) (m := 0) (n := d.size - n) rfl (by simp only [Option.getD_some]; omega) (by omega) (by omega) fun d2 hd2 => ?_
      refine hK c2 d2 ((bts a).take k) ((bts c).drop (c.size - n)) ?_ ?_
      · rw [hc2, List.drop_zero, List.append_assoc, List.take_append_drop, hc, List.take_append_drop]
      · rw [hd2, List.drop_zero, hs, List.append_assoc, List.take_append_drop, hd, ht, List.take_append_drop]
    unfold L1_lev_Trim
    dsimp only
    refine let_to ?_
    rw [mn]
    refine cnd_dec.2 ⟨fun hlt => let_to (let_to ?_), fun hge => J2⟩
    rw [wrap_i64 (x := (c.size : Int) - 1) (by omega) (by omega), wrap_i64 (by omega) (by omega)]
    have h1 := bts_get (s := c) (k := c.size - 1 - n) (by omega)
    have h2 := bts_get (s := d) (k := d.size - 1 - n) (by omega)
    refine idx_str (k := c.size - 1 - n) (by omega) h1 (let_to (let_to ?_))
    rw [wrap_i64 (x := (d.size : Int) - 1) (by omega) (by omega), wrap_i64 (by omega) (by omega)]
    refine idx_str (k := d.size - 1 - n) (by omega) h2 (cnd_beq.2 ⟨fun he => let_to ?_, fun _ => J2⟩)
    rw [wrap_i64 (by omega) (by omega)]
    refine hR2 _ ⟨n + 1, by simp, by omega, ?_, rfl⟩ (by simp only; omega)
    have e1 : (bts c).drop (c.size - (n + 1)) = ((c[c.size - 1 - n]).toNat : Int) :: (bts c).drop (c.size - n) := by
      have := List.drop_eq_getElem_cons (l := bts c) (i := c.size - (n + 1)) (by rw [bts_len]; omega)
      rw [this, show c.size - (n + 1) + 1 = c.size - n by omega]
      congr 1
      have hg := (List.getElem?_eq_some_iff.1 h1).2
      rw [← hg]
      congr 1; omega
    have e2 : (bts d).drop (d.size - (n + 1)) = ((d[d.size - 1 - n]).toNat : Int) :: (bts d).drop (d.size - n) := by
      have := List.drop_eq_getElem_cons (l := bts d) (i := d.size - (n + 1)) (by rw [bts_len]; omega)
      rw [this, show d.size - (n + 1) + 1 = d.size - n by omega]
      congr 1
      have hg := (List.getElem?_eq_some_iff.1 h2).2
      rw [← hg]
      congr 1; omega
    rw [e1, e2, he, hs]
  unfold L2_lev_Trim
  dsimp only
  refine let_to ?_
  rw [mn]
  refine cnd_dec.2 ⟨fun hlt => ?_, fun hge => J1⟩
  have h1 := bts_get (s := a) (k := k) (by omega)
  have h2 := bts_get (s := b) (k := k) (by omega)
  refine idx_str rfl h1 (idx_str rfl h2 (cnd_beq.2 ⟨fun he => let_to ?_, fun _ => J1⟩))
  rw [wrap_i64 (by omega) (by omega)]
  refine hR _ ⟨k + 1, by simp, by omega, ?_, rfl⟩ (by simp only; omega)
  rw [List.take_add_one, List.take_add_one, h1, h2, ht, he]
def rowT (a b : List Int) (i : Nat) : List Int := (List.range (b.length + 1)).map fun k => (T a b i k : Int)
theorem rowT_len (a b : List Int) (i : Nat) : (rowT a b i).length = b.length + 1 := by simp [rowT]
theorem rowT_get {a b : List Int} {i k : Nat} (hk : k ≤ b.length) : (rowT a b i)[k]? = some (T a b i k : Int) := by
  unfold rowT
  rw [List.getElem?_map, List.getElem?_range (by omega)]; rfl
theorem mk0 {n : Nat} {h : Hp} {x y : Int} {e : TypeId} {bytes : Nat} (hx : x = n) (hy : y = n) (hn : n ≤ 1048577) (hb : 0 < bytes ∧ bytes ≤ 65536) {K : Sl → Hp → Prop} (hK : ∀ s' h', OwnRow eJ 1 h.size h' s' (List.replicate n 0) → Ext h h' → K s' h') : mkS e 1 bytes [.int .i64 0] x y h K :=
  mk_row eJ_ok (0 : Int) rfl hx hy (Nat.le_refl _) ⟨hb.1, by have : n * bytes ≤ 1048577 * 65536 := Nat.mul_le_mul hn hb.2; omega⟩ fun s' h' o e _ _ => hK s' h' o e
theorem lev_first {n : Nat} {h : Hp} {K : Sl → Hp → Prop} (hn : n ≤ 1048576) (hK : ∀ s' h', OwnRow eJ 1 h.size h' s' ((List.range (n + 1)).map fun i : Nat => (i : Int)) → Ext h h' → K s' h') : C_lev_first n h K := by
  refine F_lev_first_ok _ _ _ (let_to ?_)
  rw [wrap_i64 (by omega) (by omega)]
  refine mk0 (n := n + 1) (by omega) (by omega) (by omega) (by decide) fun s1 h1 o1 e1 => ?_
  have hl := o1.row.len
  rw [List.length_replicate] at hl
  refine Lp.inv (fun st => ∃ k : Nat, st.1.1 = (k : Int) ∧ k ≤ n + 1 ∧ OwnRow eJ 1 h.size st.2 s1 ((List.range (n + 1)).map fun i : Nat => if i < k then (i : Int) else 0) ∧ Ext h st.2) (fun st => n + 1 - st.1.1.toNat) ?_ ⟨0, rfl, by omega, ?_, e1⟩
  · rintro ⟨⟨i, ⟨⟩⟩, g⟩ R ⟨k, rfl, hk, o, x⟩ hR
    simp only at hk o x
    unfold L1_lev_first
    dsimp only
    refine cnd_dec.2 ⟨fun hlt => ?_, fun hge => ?_⟩
    · refine own_set eJ_ok o (k := k) rfl (by simp; omega) (x := (k : Int)) rfl fun g2 o2 u2 _ z2 => let_to ?_
      rw [wrap_i64 (by omega) (by omega)]
      refine hR _ ⟨k + 1, by simp, by omega, ?_, (x.bel.trans (u2.bel x.size o.above)).ext⟩ (by simp only; omega)
      have e : ((List.range (n + 1)).map fun i : Nat => if i < k then (i : Int) else 0).set k (k : Int) = (List.range (n + 1)).map fun i : Nat => if i < k + 1 then (i : Int) else 0 := by
        apply List.ext_getElem?
        intro j
        rw [List.getElem?_set]
        simp only [List.length_map, List.length_range, List.getElem?_map]
        by_cases hj : j < n + 1
        · rw [List.getElem?_range hj]
          simp only [Option.map_some]
          by_cases e : k = j
          · subst e; rw [if_pos rfl, if_pos hj, if_pos (by omega)]
          · rw [if_neg e]
            congr 1
            by_cases h2 : j < k
            · rw [if_pos h2, if_pos (by omega)]
            · rw [if_neg h2, if_neg (by omega)]
        · rw [if_neg (by omega), List.getElem?_eq_none (by simpa using hj)]; rfl
      rw [← e]; exact o2
    · obtain rfl : k = n + 1 := by omega
      have e : ((List.range (n + 1)).map fun i : Nat => if i < n + 1 then (i : Int) else 0) = (List.range (n + 1)).map fun i : Nat => (i : Int) := by
        apply List.map_congr_left
        intro i hi
        rw [if_pos (List.mem_range.1 hi)]
      rw [e] at o
      exact hK s1 g o x
  · have e : ((List.range (n + 1)).map fun i : Nat => if i < 0 then (i : Int) else 0) = List.replicate (n + 1) 0 := by
      refine List.eq_replicate_iff.2 ⟨by simp, fun x hx => ?_⟩
      obtain ⟨i, _, rfl⟩ := List.mem_map.1 hx
      rw [if_neg (by omega)]
    rw [e]; exact o1
def mixT (a b : List Int) (i j : Nat) : List Int := (List.range (b.length + 1)).map fun k => ((if k ≤ j then T a b (i + 1) k else T a b i k : Nat) : Int)
theorem mixT_get {a b : List Int} {i j k : Nat} (hk : k ≤ b.length) : (mixT a b i j)[k]? = some ((if k ≤ j then T a b (i + 1) k else T a b i k : Nat) : Int) := by
  unfold mixT
  rw [List.getElem?_map, List.getElem?_range (by omega)]; rfl
theorem mixT_len (a b : List Int) (i j : Nat) : (mixT a b i j).length = b.length + 1 := by simp [mixT]
theorem mixT_set {a b : List Int} {i j : Nat} (hj : j + 1 ≤ b.length) : (mixT a b i j).set (j + 1) (T a b (i + 1) (j + 1) : Int) = mixT a b i (j + 1) := by
  apply List.ext_getElem?
  intro k
  rw [List.getElem?_set, mixT_len]
  by_cases hk : k ≤ b.length
  · rw [mixT_get hk, mixT_get hk]
    by_cases e : j + 1 = k
    · subst e; rw [if_pos rfl, if_pos (by omega), if_pos (Nat.le_refl _)]
    · rw [if_neg e]
      by_cases h2 : k ≤ j
      · rw [if_pos h2, if_pos (by omega)]
      · rw [if_neg h2, if_neg (by omega)]
  · rw [if_neg (by omega), List.getElem?_eq_none (by rw [mixT_len]; omega), List.getElem?_eq_none (by rw [mixT_len]; omega)]
theorem lev_next {a b : List Int} {bs : ByteArray} (hb : b = bts bs) (hbl : b.length ≤ 1048576) (hal : a.length ≤ 1048576) {i : Nat} {c : Int} (hc : a[i]? = some c) {B : Nat} {h : Hp} {s : Sl} {K : Sl → Hp → Prop} (o : OwnRow eJ 1 B h s (rowT a b i)) (hB : B ≤ h.size)
    (hK : ∀ h', OwnRow eJ 1 B h' s (rowT a b (i + 1)) → Bel B h h' → K s h') : C_lev_next s c bs h K := by
  have hil := (List.getElem?_eq_some_iff.1 hc).1
  have hsl := o.row.len
  rw [rowT_len] at hsl
  have lbs : bs.size = b.length := by rw [hb, bts_len]
  refine F_lev_next_ok _ _ _ _ _ (mk0 (n := b.length + 1) (by omega) (by omega) (by omega) (by decide) fun s1 h1 o1 e1 => ?_)
  have r1 := o.row.ext e1
  refine cp_to eJ_ok o1 r1 (by rw [rowT_len, List.length_replicate]) (by rw [List.length_replicate]; omega) (by decide) fun n h2 o2 u2 z2 => ?_
  have b2 : Bel h.size h h2 := (e1.belOf (Nat.le_refl _)).trans (u2.bel (B := h.size) e1.size o1.above)
  have os2 : OwnRow eJ 1 B h2 s (rowT a b i) := o.bel b2 o.lt
  have z0 : (0 : Int).toNat = 0 := rfl
  refine ld_int0 (i := 0) (x := (T a b i 0 : Int)) os2.row (by omega) (rowT_get (by omega)) (let_to ?_)
  rw [T_zeroR a b (by omega), wrap_i64 (by omega) (by omega)]
  refine own_set eJ_ok os2 (k := 0) rfl (by rw [rowT_len]; omega) (x := (i : Int) + 1) rfl fun h3 o3 u3 _ z3 => ?_
  have slt := o.lt
  have sz2 : h.size ≤ h2.size := b2.size
  have wasO : OwnRow eJ 1 h.size h3 s1 (rowT a b i) := o2.onlyS u3 fun c hc a ha => by have := slt c hc; have := o2.above a ha; omega
  have m0 : (rowT a b i).set 0 ((i : Int) + 1) = mixT a b i 0 := by
    apply List.ext_getElem?
    intro k
    rw [List.getElem?_set, rowT_len]
    by_cases hk : k ≤ b.length
    · rw [rowT_get hk, mixT_get hk]
      by_cases e : 0 = k
      · subst e; rw [if_pos rfl, if_pos (by omega), if_pos (Nat.le_refl _), T_zeroR a b (by omega)]; rfl
      · rw [if_neg e, if_neg (by omega)]
    · rw [if_neg (by omega), List.getElem?_eq_none (by rw [rowT_len]; omega), List.getElem?_eq_none (by rw [mixT_len]; omega)]
  rw [m0] at o3
  have b3 : Bel B h h3 := (b2.mono hB).trans (u3.bel (by omega) o.above)
  refine Lp.inv (fun st => ∃ j : Nat, st.1.1 = (j : Int) ∧ j ≤ b.length ∧ OwnRow eJ 1 B st.2 s (mixT a b i j) ∧ OwnRow eJ 1 h.size st.2 s1 (rowT a b i) ∧ Bel B h st.2) (fun st => b.length - st.1.1.toNat) ?_ ⟨0, rfl, by omega, o3, wasO, b3⟩
  rintro ⟨⟨j, ⟨⟩⟩, g⟩ R ⟨j, rfl, hj, oR, oW, bl⟩ hR
  simp only at hj oR oW bl
  unfold L1_lev_next
  dsimp only
  refine cnd_dec.2 ⟨fun hlt => ?_, fun hge => ?_⟩
  · have hjb : j < b.length := by omega
    have hy : b[j]? = some b[j] := List.getElem?_eq_getElem hjb
    have hy' : (bts bs)[j]? = some b[j] := by rw [← hb]; exact hy
    have t1 := T_le a b i j
    have t2 := T_le a b i (j + 1)
    have t3 := T_le a b (i + 1) j
    have t4 := T_le a b (i + 1) (j + 1)
    have put : ∀ d : Int, d = (T a b (i + 1) (j + 1) : Int) → J1_lev_next s (((j : Int), ()), g) R (d, ()) g := by
      intro d hd
      unfold J1_lev_next
      dsimp only
      refine let_to ?_
      rw [wrap_i64 (by omega) (by omega)]
      refine own_set eJ_ok oR (k := j + 1) (by omega) (by rw [mixT_len]; omega) (x := d) rfl fun g2 o4 u4 _ z4 => let_to ?_
      rw [hd, mixT_set (by omega)] at o4
      have sg : h.size ≤ g.size := bl.size
      refine hR _ ⟨j + 1, by simp only; omega, by omega, o4, oW.onlyS u4 fun c hc a ha => by have := slt c hc; have := oW.above a ha; omega, bl.trans (u4.bel (by omega) o.above)⟩ (by simp only; omega)
    refine ld_int0 (i := (j : Int)) (x := (T a b i j : Int)) oW.row (by omega) (rowT_get (by omega)) ?_
    rw [Jn_eq]
    refine idx_str rfl hy' (cnd_bne.2 ⟨fun hne => let_to ?_, fun he => put _ ?_⟩)
    · rw [wrap_i64 (by omega) (by omega), show (j : Int) + 1 = ((j + 1 : Nat) : Int) by omega]
      refine ld_int0 (i := ((j + 1 : Nat) : Int)) (x := (T a b i (j + 1) : Int)) oW.row (by omega) (rowT_get (by omega)) ?_
      refine ld_int0 (i := (j : Int)) (x := (T a b (i + 1) j : Int)) oR.row (by omega) (by rw [Int.toNat_natCast, mixT_get (by omega), if_pos (Nat.le_refl _)]) (let_to (let_to (let_to (put _ ?_))))
      have hst := T_step hc hy
      rw [show bne1 c b[j] = 1 by unfold bne1; rw [if_neg (fun e => hne e.symm)]] at hst
      rw [wrap_i64 (by (repeat' split) <;> omega) (by (repeat' split) <;> omega)]
      (repeat' split) <;> omega
    · have := T_same hc (by rw [hy, he] : b[j]? = some c)
      rw [this]
  · obtain rfl : j = b.length := by omega
    have e : mixT a b i b.length = rowT a b (i + 1) := by
      apply List.ext_getElem?
      intro k
      by_cases hk : k ≤ b.length
      · rw [mixT_get hk, rowT_get hk, if_pos hk]
      · rw [List.getElem?_eq_none (by rw [mixT_len]; omega), List.getElem?_eq_none (by rw [rowT_len]; omega)]
    rw [e] at oR
    exact hK g oR bl
theorem lev_Dist {a b : ByteArray} {h : Hp} {K : Int → Hp → Prop} (ha : a.size ≤ 1048576) (hb : b.size ≤ 1048576) (hK : ∀ h', Ext h h' → K (ed (bts a) (bts b)) h') : C_lev_Dist a b h K := by
  refine F_lev_Dist_ok _ _ _ _ (lev_Trim ha hb fun c d p q hc hd => ?_)
  have la := bts_len a
  have lb := bts_len b
  have lc := bts_len c
  have ld := bts_len d
  have hle : c.size ≤ a.size ∧ d.size ≤ b.size := by
    have h1 := congrArg List.length hc
    have h2 := congrArg List.length hd
    simp only [List.length_append] at h1 h2
    omega
  have hed : ed (bts a) (bts b) = ed (bts c) (bts d) := by
    rw [hc, hd, List.append_assoc, List.append_assoc, ed_prefix, ed_suffix]
  rw [hed] at hK
  refine lev_first (n := d.size) (by omega) fun s1 h1 o1 e1 => ?_
  have e0 : ((List.range (d.size + 1)).map fun i : Nat => (i : Int)) = rowT (bts c) (bts d) 0 := by
    unfold rowT
    rw [ld]
    apply List.map_congr_left
    intro k hk
    rw [T_zeroL _ _ (by have := List.mem_range.1 hk; omega)]
  rw [e0] at o1
  rw [Jn_eq]
  refine Lp.inv (fun st => ∃ i : Nat, st.1.2.1 = (i : Int) ∧ i ≤ c.size ∧ st.1.1 = s1 ∧ OwnRow eJ 1 h.size st.2 s1 (rowT (bts c) (bts d) i) ∧ Ext h st.2) (fun st => c.size - st.1.2.1.toNat) ?_ ⟨0, rfl, by omega, rfl, o1, e1⟩
  rintro ⟨⟨s, i, ⟨⟩⟩, g⟩ R ⟨i, rfl, hi, rfl, o, x⟩ hR
  simp only at hi o x
  unfold L1_lev_Dist
  dsimp only
  refine cnd_dec.2 ⟨fun hlt => ?_, fun hge => ?_⟩
  · have hx := bts_get (s := c) (k := i) (by omega)
    refine idx_str rfl hx (lev_next (s := s) rfl (by omega) (by omega) hx o x.size fun g2 o2 b2 => let_to ?_)
    rw [wrap_i64 (by omega) (by omega)]
    exact hR _ ⟨i + 1, by simp, by omega, rfl, o2, (x.bel.trans b2).ext⟩ (by simp only; omega)
  · obtain rfl : i = c.size := by omega
    unfold J1_lev_Dist
    refine ld_int0 (i := (d.size : Int)) (x := (T (bts c) (bts d) c.size d.size : Int)) o.row (by omega) (rowT_get (by omega)) ?_
    have : T (bts c) (bts d) c.size d.size = ed (bts c) (bts d) := by rw [← lc, ← ld, T_all]
    rw [this]
    exact hK g x
end Go.Proofs.YtibaekemfefoaaaF
