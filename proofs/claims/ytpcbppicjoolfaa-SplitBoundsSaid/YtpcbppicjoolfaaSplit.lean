/- Chapter 18: parting by ranks. No condition. -/
import Derived.Test.YtpcbppicjoolfaaLayFar
import Derived.Test.YtpcbppicjoolfaaSplitPure
import Derived.Test.YtpcbppicjoolfaaK18
namespace Go.Proofs.YtpcbppicjoolfaaF
open Go Go.Proofs.YtpcbppicjoolfaaK
set_option linter.unusedSimpArgs false
set_option linter.unusedVariables false

abbrev RF := IsRow (vsA FT) 2
theorem f_get {h : Hp} {s : Sl} {d : List (StA FT)} (r : RF h s d) {i : Int} {k : Nat} {x : StA FT} (hi : i = k) (hx : d[k]? = some x) {K : Addr → Prop} (hK : ∀ a, cellsAt h a (vsA FT x) → K a) : idxS s.a s.len i 2 K := by
  subst hi
  exact ld_row r (i := (k : Int)) (x := x) (by omega) hx fun a _ hc => hK _ hc
theorem f_ld {h : Hp} {s : Sl} {d : List (StA FT)} (r : RF h s d) {i : Int} {k : Nat} {x : StA FT} (hi : i = k) (hx : d[k]? = some x) {K : Int → Int → Prop} (hK : K (fAt x) (fDi x)) : idxS s.a s.len i 2 fun p => ldA (.int .i64) h p fun a => ldA (.int .i64) h (Addr.add p 1) fun b => K a b :=
  f_get r hi hx fun a hc => ldA_row0 hc (x := fAt x) rfl (ldA_row hc (j := 1) (x := fDi x) rfl hK)
theorem f_ldA {h : Hp} {s : Sl} {d : List (StA FT)} (r : RF h s d) {i : Int} {k : Nat} {x : StA FT} (hi : i = k) (hx : d[k]? = some x) {K : Int → Prop} (hK : K (fAt x)) : idxS s.a s.len i 2 fun p => ldA (.int .i64) h p K :=
  f_get r hi hx fun a hc => ldA_row0 hc (x := fAt x) rfl hK
theorem f_ldD {h : Hp} {s : Sl} {d : List (StA FT)} (r : RF h s d) {i : Int} {k : Nat} {x : StA FT} (hi : i = k) (hx : d[k]? = some x) {K : Int → Prop} (hK : K (fDi x)) : idxS s.a s.len i 2 fun p => ldA (.int .i64) h (Addr.add p 1) K :=
  f_get r hi hx fun a hc => ldA_row hc (j := 1) (x := fDi x) rfl hK
/-- A struct of two numbers laid into a box. -/
theorem set2 {h : Hp} {b : Nat} {x y : Int} {c : Array Value} (r : Blk h b c) (hc : c.size = 2) {K : Hp → Prop} (hk : ∀ h', Blk h' b #[.int .i64 x, .int .i64 y] → Only b h h' → h'.size = h.size → K h') :
    stC h ⟨b, 0, none⟩ (Let (hset h ⟨b, 0, none⟩ (.int .i64 x)) fun h1 => stC h1 (Addr.add ⟨b, 0, none⟩ 1) (Let (hset h1 (Addr.add ⟨b, 0, none⟩ 1) (.int .i64 y)) K)) :=
  (show stores h ⟨b, 0, none⟩ 0 [.int .i64 x, .int .i64 y] K from stores_blk (i := 0) (vs := [.int .i64 x, .int .i64 y]) r (by simp [hc]) fun h' b' o' _ z' => hk h' (by simpa using b') o' z')
theorem box2 {h : Hp} {e : TypeId} {x y z w : Int} {K : Addr → Hp → Prop} (hk : ∀ h', Blk h' h.size #[.int .i64 x, .int .i64 y] → Ext h h' → h'.size = h.size + 1 → K ⟨h.size, 0, none⟩ h') :
    Let (Array.push h (Obj.cells #[.int .i64 z, .int .i64 w] e)) fun h1 => Let (Addr.mk (Array.size h) 0 none) fun p => stC h1 p (Let (hset h1 p (.int .i64 x)) fun h2 => stC h2 (Addr.add p 1) (Let (hset h2 (Addr.add p 1) (.int .i64 y)) (K p))) :=
  push_to fun h1 b1 e1 z1 => let_to (set2 b1 rfl fun h2 b2 o2 z2 => hk h2 b2 (e1.only_new o2 (Nat.le_refl _)) (by omega))
theorem ld2 {h : Hp} {b : Nat} {x y : Int} (r : Blk h b #[.int .i64 x, .int .i64 y]) {K : Int → Int → Prop} (hk : K x y) : ldA (.int .i64) h ⟨b, 0, none⟩ fun a => ldA (.int .i64) h (Addr.add ⟨b, 0, none⟩ 1) fun c => K a c :=
  ldA_blk (s := .int .i64) (x := x) r rfl (ldA_blk (s := .int .i64) (i := 1) (x := y) r rfl hk)
theorem c_order {x y : StA FT} {h : Hp} {K : Int → Hp → Prop} (hK : ∀ h', Ext h h' → K (fcmp x y) h') : C_split_order (fAt x) (fDi x) (fAt y) (fDi y) h K := by
  refine F_split_order_ok _ _ _ _ _ _ (push_to fun h1 b1 e1 z1 => let_to (push_to fun h2 b2 e2 z2 => let_to ?_))
  have c1 := b1.ext e2
  refine ldA_blk (s := .int .i64) (i := 1) (x := fDi x) c1 rfl (ldA_blk (s := .int .i64) (i := 1) (x := fDi y) b2 rfl (c_Cmp_int ⟨Ext.refl _, ldA_blk (s := .int .i64) (x := fAt x) c1 rfl (ldA_blk (s := .int .i64) (x := fAt y) b2 rfl (c_Cmp_int (push_to fun h3 b3 e3 z3 => let_to ?_)))⟩))
  exact c_Or (Blk.row encI64h b3 (l := [cmpI (fDi x) (fDi y), cmpI (fAt x) (fAt y)]) (cap := 2) (Nat.le_refl _) rfl) (hK _ (e1.trans (e2.trans e3)))
theorem c_around {h : Hp} {s : Sl} {m : List (StA FT)} {p : StA FT} (r : RF h s m) (hl : m.length ≤ 1048576) {K : Sl → Sl → Hp → Prop} (hK : ∀ ta tb h', RF h' ta (bel m p) → RF h' tb (abv m p) → Ext h h' → K ta tb h') : C_split_around s (fAt p) (fDi p) h K := by
  have hlen := r.len
  refine F_split_around_ok _ _ _ _ _ (push_to fun h1 b1 e1 z1 => let_to ?_)
  refine Lp.inv (fun st => ∃ k : Nat, st.1.2.2.1 = (k : Int) ∧ k ≤ m.length ∧ OwnRow (vsA FT) 2 (h.size + 1) st.2 st.1.1 (bel (m.take k) p) ∧ OwnRow (vsA FT) 2 (h.size + 1) st.2 st.1.2.1 (abv (m.take k) p) ∧
      (∀ a, st.1.1.a = some a → ∀ c, st.1.2.1.a = some c → a.block ≠ c.block) ∧ Ext h1 st.2) (fun st => m.length - st.1.2.2.1.toNat) ?_
    ⟨0, rfl, by omega, by simpa using OwnRow.nil _ _ _ _, by simpa using OwnRow.nil _ _ _ _, (fun a ha => by cases ha), Ext.refl _⟩
  rintro ⟨⟨ta, tb, i', ⟨⟩⟩, g⟩ R ⟨k, rfl, hk, oa, ob, hne, x⟩ hR
  simp only at oa ob hne x
  have la : (bel (m.take k) p).length ≤ (m.take k).length := List.length_filter_le (fun y => flt y p) (m.take k)
  have lb : (abv (m.take k) p).length ≤ (m.take k).length := List.length_filter_le (fun y => flt p y) (m.take k)
  rw [List.length_take] at la lb
  unfold L1_split_around
  dsimp only
  refine cnd_dec.2 ⟨fun hlt => ?_, fun hge => ?_⟩
  · have hx : m[k]? = some (m[k]'(by omega)) := List.getElem?_eq_getElem _
    generalize (m[k]'(by omega)) = y at hx
    have es : ∀ q : StA FT → Bool, (m.take (k + 1)).filter q = (m.take k).filter q ++ if q y = true then [y] else [] := fun q => by
      rw [List.take_add_one, hx, List.filter_append]
      congr 1
      by_cases hh : q y = true <;> simp [hh]
    have xg : Ext h g := e1.trans x
    refine f_ld (r.ext xg) rfl hx (box2 fun g1 c1 x1 y1 => ?_)
    have sz1 := x.size
    refine ld2 c1 (ld2 ((b1.ext x).ext x1) (c_order (x := y) (y := p) fun g2 x2 => ?_))
    have c2 := c1.ext x2
    have oa2 := (oa.ext x1).ext x2
    have ob2 := (ob.ext x1).ext x2
    have xx : Ext h1 g2 := (x.trans x1).trans x2
    refine cnd_dec.2 ⟨fun hn => ?_, fun hn => cnd_dec.2 ⟨fun hp => ?_, fun hp => let_to ?_⟩⟩
    · have hb := fcmp_lt.1 hn
      refine ld2 c2 (app1 (x := y) encFT (by decide) oa2 (by have := xx.size; omega) (by omega) (by decide) rfl rfl fun s3 g3 o3 u3 b3 n3 => let_to ?_)
      rw [wrap_i64 (by omega) (by omega)]
      have ub := ob2.onlyS u3 fun c hc a ha => fun e => hne c hc a ha e.symm
      refine hR _ ⟨k + 1, by simp, by omega, by show OwnRow _ _ _ _ _ (List.filter _ _); rw [es, if_pos hb]; exact o3, by show OwnRow _ _ _ _ _ (List.filter _ _); rw [es, if_neg (by rw [flt_asym hb]; simp), List.append_nil]; exact ub, fun a ha c hc => ?_, (xx.bel.trans (b3.mono (by omega))).ext⟩ (by simp only; omega)
      rcases n3 with e | ⟨q, e, hq⟩
      · exact hne a (by rw [← e]; exact ha) c hc
      · rw [e] at ha; cases ha
        have := ob2.lt c hc
        simp only; omega
    · have hb := fcmp_gt.1 hp
      refine ld2 c2 (app1 (x := y) encFT (by decide) ob2 (by have := xx.size; omega) (by omega) (by decide) rfl rfl fun s3 g3 o3 u3 b3 n3 => let_to ?_)
      rw [wrap_i64 (by omega) (by omega)]
      have ua := oa2.onlyS u3 fun c hc a ha => hne a ha c hc
      refine hR _ ⟨k + 1, by simp, by omega, by show OwnRow _ _ _ _ _ (List.filter _ _); rw [es, if_neg (by rw [flt_asym hb]; simp), List.append_nil]; exact ua, by show OwnRow _ _ _ _ _ (List.filter _ _); rw [es, if_pos hb]; exact o3, fun a ha c hc => ?_, (xx.bel.trans (b3.mono (by omega))).ext⟩ (by simp only; omega)
      rcases n3 with e | ⟨q, e, hq⟩
      · exact hne a ha c (by rw [← e]; exact hc)
      · rw [e] at hc; cases hc
        have := oa2.lt a ha
        simp only; omega
    · rw [wrap_i64 (by omega) (by omega)]
      have h1' : flt y p = false := by
        cases hh : flt y p with
        | true => exact (hn (fcmp_lt.2 hh)).elim
        | false => rfl
      have h2' : flt p y = false := by
        cases hh : flt p y with
        | true => exact (hp (fcmp_gt.2 hh)).elim
        | false => rfl
      refine hR _ ⟨k + 1, by simp, by omega, by show OwnRow _ _ _ _ _ (List.filter _ _); rw [es, if_neg (by rw [h1']; simp), List.append_nil]; exact oa2, by show OwnRow _ _ _ _ _ (List.filter _ _); rw [es, if_neg (by rw [h2']; simp), List.append_nil]; exact ob2, hne, xx⟩ (by simp only; omega)
  · obtain rfl : k = m.length := by omega
    rw [List.take_length] at oa ob
    exact hK ta tb g oa.row ob.row (e1.trans x)
theorem c_middle {h : Hp} {s : Sl} {m : List (StA FT)} (r : RF h s m) (h0 : 0 < m.length) (hl : m.length ≤ 1048576) {K : Int → Int → Hp → Prop} (hK : ∀ p h', p ∈ m → Ext h h' → K (fAt p) (fDi p) h') : C_split_middle s h K := by
  have hlen := r.len
  refine F_split_middle_ok _ _ _ (push_to fun h1 b1 e1 z1 => let_to ?_)
  have r1 := r.ext e1
  have h0' : m[0]? = some (m[0]'h0) := List.getElem?_eq_getElem _
  have h1' : m[m.length / 2]? = some (m[m.length / 2]'(by omega)) := List.getElem?_eq_getElem _
  have h2' : m[m.length - 1]? = some (m[m.length - 1]'(by omega)) := List.getElem?_eq_getElem _
  generalize (m[0]'h0) = x0 at h0'
  generalize (m[m.length / 2]'(by omega)) = x1 at h1'
  generalize (m[m.length - 1]'(by omega)) = x2 at h2'
  refine f_ld (k := 0) r1 rfl h0' ⟨by decide, let_to ?_⟩
  have w : IntKind.wrap .i64 (Int.tdiv (s.len : Int) 2) = ((m.length / 2 : Nat) : Int) := by
    rw [hlen]
    have : Int.tdiv (m.length : Int) 2 = ((m.length / 2 : Nat) : Int) := by rw [Int.tdiv_eq_ediv_of_nonneg (by omega)]; omega
    rw [this, wrap_i64 (by omega) (by omega)]
  rw [w]
  refine f_ld (k := m.length / 2) r1 rfl h1' (let_to ?_)
  rw [wrap_i64 (by omega) (by omega)]
  refine f_ld (k := m.length - 1) r1 (by omega) h2' (push_to fun h3 b3 e3 z3 => let_to ?_)
  have own : OwnRow (vsA FT) 2 (h.size + 1) h3 ⟨some ⟨h1.size, 0, none⟩, 3, 3⟩ [x0, x1, x2] := by
    obtain ⟨el, hb⟩ := b3
    exact ⟨Blk.row encFT (⟨el, hb⟩ : Blk h3 h1.size _) (l := [x0, x1, x2]) (cap := 3) (by simp) rfl, .inr ⟨h1.size, _, el, rfl, by omega, hb, rfl⟩⟩
  refine c_SortFunc_split_Far_split_Far encFT (cf := fcmp) fSWO (by kernel_rfl) (fun x y h K hk => c_order (x := x) (y := y) hk) own (by simp) fun l' h4 p hs o4 u4 => ?_
  have hl4 := o4.row.len
  simp only at hl4
  have hy : l'[1]? = some (l'[1]'(by omega)) := List.getElem?_eq_getElem _
  have hmem : (l'[1]'(by omega)) ∈ m := by
    have h5 : (l'[1]'(by omega)) ∈ [x0, x1, x2] := p.mem_iff.1 (List.getElem_mem _)
    rcases List.mem_cons.1 h5 with h | h5
    · rw [h]; exact List.mem_of_getElem? h0'
    · rcases List.mem_cons.1 h5 with h | h5
      · rw [h]; exact List.mem_of_getElem? h1'
      · rw [List.mem_singleton.1 h5]; exact List.mem_of_getElem? h2'
  generalize (l'[1]'(by omega)) = y at hy hmem
  refine f_ld (s := ⟨some ⟨h1.size, 0, none⟩, 3, 3⟩) (k := 1) o4.row rfl hy ?_
  have b4 : Blk h4 h.size #[.int .i64 0, .int .i64 0] := (b1.ext e3).onlyS u4 fun a ha => by cases ha; simp only; omega
  have x4 : Ext h h4 := (e1.trans e3).bel.trans (u4.bel (B := h.size) (by have := e1.size; have := e3.size; omega) fun a ha => by cases ha; simp only; omega) |>.ext
  refine set2 b4 rfl fun h5 b5 o5 z5 => ld2 b5 (hK y h5 hmem (x4.only_new o5 (Nat.le_refl _)))
/-- The k-th one. -/
theorem c_Nth {h : Hp} {s : Sl} {l : List (StA FT)} {k : Int} (r : RF h s l) (hn : l.Nodup) (hl : l.length ≤ 1048576) {K : Int → Int → Bool → Hp → Prop}
    (h1 : ∀ x h', x ∈ l → (rank l x : Int) = k → Ext h h' → K (fAt x) (fDi x) true h') (h2 : ∀ h', ¬ (0 ≤ k ∧ k < l.length) → Ext h h' → K 0 0 false h') : C_split_Nth s k h K := by
  have hlen := r.len
  refine F_split_Nth_ok _ _ _ _ (push_to fun g1 b1 e1 z1 => let_to ?_)
  rw [Jn_eq]
  have no : ¬ (0 ≤ k ∧ k < l.length) → J1_split_Nth s k K ⟨h.size, 0, none⟩ (true, ()) g1 := fun hk => by
    unfold J1_split_Nth
    exact cnd_yes rfl (set2 b1 rfl fun g2 b2 o2 z2 => ld2 b2 (h2 g2 hk (e1.only_new o2 (Nat.le_refl _))))
  refine cnd_dec.2 ⟨fun hneg => no (by omega), fun hpos => ?_⟩
  by_cases hkl : k ≥ (s.len : Int)
  · rw [decide_eq_true hkl]; exact no (by omega)
  rw [decide_eq_false hkl]
  unfold J1_split_Nth
  refine cnd_no rfl ?_
  obtain ⟨k, rfl⟩ := Int.eq_ofNat_of_zero_le (by omega : 0 ≤ k)
  refine Lp.inv (fun st => ∃ (m : List (StA FT)) (o j : Nat), RF st.2 st.1.1 m ∧ st.1.2.1 = (j : Int) ∧ j < m.length ∧ k = o + j ∧ m.Nodup ∧ m.length ≤ l.length ∧ (∀ x, x ∈ m → x ∈ l ∧ rank l x = o + rank m x) ∧ Ext g1 st.2) (fun st => st.1.1.len) ?_
    ⟨l, 0, k, r.ext e1, rfl, by omega, by omega, hn, Nat.le_refl _, fun x hx => ⟨hx, by omega⟩, Ext.refl _⟩
  rintro ⟨⟨t, k', ⟨⟩⟩, g⟩ R ⟨m, o, j, rm, rfl, hj, hko, hmn, hml, hin, x⟩ hR
  simp only at rm x
  have hmlen := rm.len
  unfold L1_split_Nth
  dsimp only
  refine c_middle rm (by omega) (by omega) fun p g2 hp x2 => box2 fun g3 b3 x3 y3 => ld2 b3 ?_
  have rm3 := (rm.ext x2).ext x3
  refine c_around rm3 (by omega) fun ta tb g4 ra rb x4 => ?_
  have hpl := part_len hmn hp
  have la := ra.len
  have lb := rb.len
  have xx : Ext g1 g4 := ((x.trans x2).trans x3).trans x4
  refine cnd_dec.2 ⟨fun hlt => ?_, fun hge => let_to (cnd_dec.2 ⟨fun hge2 => let_to (let_to ?_), fun hmid => ?_⟩)⟩
  · refine hR _ ⟨bel m p, o, j, ra, rfl, by omega, hko, hmn.filter _, by omega, fun y hy => ?_, xx⟩ (by simp only; omega)
    obtain ⟨hy1, hy2⟩ := List.mem_filter.1 hy
    rw [rank_bel hy2]; exact hin y hy1
  · rw [wrap_i64 (x := (t.len : Int) - (tb.len : Int)) (by omega) (by omega)] at hge2 ⊢
    rw [wrap_i64 (by omega) (by omega)]
    refine hR _ ⟨abv m p, o + ((bel m p).length + 1), j - ((bel m p).length + 1), rb, by simp only; omega, by omega, by omega, hmn.filter _, by omega, fun y hy => ?_, xx⟩ (by simp only; omega)
    obtain ⟨hy1, hy2⟩ := List.mem_filter.1 hy
    have := hin y hy1
    rw [rank_abv hmn hp hy2] at this
    have hrp : rank m p = (bel m p).length := rfl
    exact ⟨this.1, by rw [this.2]; omega⟩
  · rw [wrap_i64 (by omega) (by omega)] at hmid
    have b4 := b3.ext x4
    have bp : Blk g4 h.size #[.int .i64 0, .int .i64 0] := b1.ext xx
    have hpr := hin p hp
    refine ld2 b4 (set2 bp rfl fun g5 b5 o5 z5 => ld2 b5 (h1 p g5 hpr.1 ?_ ((e1.trans xx).only_new o5 (Nat.le_refl _))))
    rw [hpr.2]
    have : rank m p = (bel m p).length := rfl
    omega
theorem c_fClone {h : Hp} {s : Sl} {l : List (StA FT)} {K : Sl → Hp → Prop} (r : RF h s l) (hb : l.length * 16 ≤ 140737488355328) (hK : ∀ s' h', OwnRow (vsA FT) 2 h.size h' s' l → Ext h h' → K s' h') : C_slices_Clone_split_Far_split_Far s h K :=
  F_slices_Clone_split_Far_split_Far_ok _ _ _ (clone_to encFT (by decide) r hb (by decide) rfl hK)
/-- The first ones, and the others. -/
abbrev HA (l : List (StA FT)) (k : Int) : List (StA FT) := l.filter fun x => decide ((rank l x : Int) < k)
abbrev HB (l : List (StA FT)) (k : Int) : List (StA FT) := l.filter fun x => !decide ((rank l x : Int) < k)
theorem c_Halve {h : Hp} {s : Sl} {l : List (StA FT)} {k : Int} (r : RF h s l) (hn : l.Nodup) (hl : l.length ≤ 1048576) {K : Sl → Sl → Hp → Prop} (hK : ∀ ta tb h', RF h' ta (HA l k) → RF h' tb (HB l k) → Ext h h' → K ta tb h') : C_split_Halve s k h K := by
  have hlen := r.len
  refine F_split_Halve_ok _ _ _ _ (let_to ?_)
  have ek : (if 0 > k then 0 else k) = max k 0 := by split <;> omega
  rw [ek]
  refine c_Nth r hn hl (fun p g hp hrk x => box2 fun g1 b1 x1 y1 => cnd_no rfl ?_) fun g hno x => box2 fun g1 b1 x1 y1 => cnd_yes rfl ?_
  · have pr : ∀ y ∈ l, flt y p = decide ((rank l y : Int) < k) := fun y hy => by
      rw [rank_iff hy hp, Bool.eq_iff_iff, decide_eq_true_iff, decide_eq_true_iff]; omega
    have xg := x.trans x1
    refine Lp.inv (fun st => ∃ j : Nat, st.1.2.2.1 = (j : Int) ∧ j ≤ l.length ∧ OwnRow (vsA FT) 2 (g.size + 1) st.2 st.1.1 ((l.take j).filter fun y => flt y p) ∧ OwnRow (vsA FT) 2 (g.size + 1) st.2 st.1.2.1 ((l.take j).filter fun y => !flt y p) ∧
        (∀ a, st.1.1.a = some a → ∀ c, st.1.2.1.a = some c → a.block ≠ c.block) ∧ Ext g1 st.2) (fun st => l.length - st.1.2.2.1.toNat) ?_
      ⟨0, rfl, by omega, by simpa using OwnRow.nil _ _ _ _, by simpa using OwnRow.nil _ _ _ _, (fun a ha => by cases ha), Ext.refl _⟩
    rintro ⟨⟨ta, tb, i', ⟨⟩⟩, g2⟩ R ⟨j, rfl, hj, oa, ob, hne, x2⟩ hR
    simp only at oa ob hne x2
    have la := List.length_filter_le (fun y => flt y p) (l.take j)
    have lb := List.length_filter_le (fun y => !flt y p) (l.take j)
    rw [List.length_take] at la lb
    unfold L1_split_Halve
    dsimp only
    refine cnd_dec.2 ⟨fun hlt => ?_, fun hge => ?_⟩
    · have hx : l[j]? = some (l[j]'(by omega)) := List.getElem?_eq_getElem _
      generalize (l[j]'(by omega)) = y at hx
      have es : ∀ q : StA FT → Bool, (l.take (j + 1)).filter q = (l.take j).filter q ++ if q y = true then [y] else [] := fun q => by
        rw [List.take_add_one, hx, List.filter_append]
        congr 1
        by_cases hh : q y = true <;> simp [hh]
      refine f_ld ((r.ext xg).ext x2) rfl hx (box2 fun g3 c3 x3 y3 => ?_)
      refine ld2 c3 (ld2 ((b1.ext x2).ext x3) (c_order (x := y) (y := p) fun g4 x4 => ?_))
      have c4 := c3.ext x4
      have oa2 := (oa.ext x3).ext x4
      have ob2 := (ob.ext x3).ext x4
      have xx : Ext g1 g4 := (x2.trans x3).trans x4
      refine cnd_dec.2 ⟨fun hneg => ?_, fun hneg => ?_⟩
      · have hb := fcmp_lt.1 hneg
        refine ld2 c4 (app1 (x := y) encFT (by decide) oa2 (by have := xx.size; omega) (by omega) (by decide) rfl rfl fun s5 g5 o5 u5 b5 n5 => let_to ?_)
        rw [wrap_i64 (by omega) (by omega)]
        have ub := ob2.onlyS u5 fun c hc a ha => fun e => hne c hc a ha e.symm
        refine hR _ ⟨j + 1, by simp, by omega, by rw [es, if_pos hb]; exact o5, by rw [es, if_neg (by simp [hb]), List.append_nil]; exact ub, fun a ha c hc => ?_, (xx.bel.trans (b5.mono (by omega))).ext⟩ (by simp only; omega)
        rcases n5 with e | ⟨q, e, hq⟩
        · exact hne a (by rw [← e]; exact ha) c hc
        · rw [e] at ha; cases ha
          have := ob2.lt c hc
          simp only; omega
      · have hb : flt y p = false := by
          cases hh : flt y p with
          | true => exact (hneg (fcmp_lt.2 hh)).elim
          | false => rfl
        refine ld2 c4 (app1 (x := y) encFT (by decide) ob2 (by have := xx.size; omega) (by omega) (by decide) rfl rfl fun s5 g5 o5 u5 b5 n5 => let_to ?_)
        rw [wrap_i64 (by omega) (by omega)]
        have ua := oa2.onlyS u5 fun c hc a ha => hne a ha c hc
        refine hR _ ⟨j + 1, by simp, by omega, by rw [es, if_neg (by simp [hb]), List.append_nil]; exact ua, by rw [es, if_pos (by simp [hb])]; exact o5, fun a ha c hc => ?_, (xx.bel.trans (b5.mono (by omega))).ext⟩ (by simp only; omega)
        rcases n5 with e | ⟨q, e, hq⟩
        · exact hne a ha c (by rw [← e]; exact hc)
        · rw [e] at hc; cases hc
          have := oa2.lt a ha
          simp only; omega
    · obtain rfl : j = l.length := by omega
      rw [List.take_length] at oa ob
      rw [List.filter_congr (q := fun x => decide ((rank l x : Int) < k)) fun y hy => pr y hy] at oa
      rw [List.filter_congr (q := fun x => !decide ((rank l x : Int) < k)) fun y hy => by rw [pr y hy]] at ob
      exact hK ta tb g2 oa.row ob.row (xg.trans x2)
  · have xg := x.trans x1
    refine c_fClone (r.ext xg) (by omega) fun s2 g2 o2 e2 => ?_
    have hrl : ∀ y ∈ l, (rank l y : Int) < k := fun y hy => by have := rank_lt hn hy; omega
    have eA : HA l k = l := List.filter_eq_self.2 fun y hy => decide_eq_true (hrl y hy)
    have eB : HB l k = [] := List.filter_eq_nil_iff.2 fun y hy => by rw [decide_eq_true (hrl y hy)]; simp
    refine hK s2 _ g2 (by rw [eA]; exact o2.row) (by rw [eB]; exact IsRow.nil _ _ _ _) (xg.trans e2)
/-- Between which distances they are. -/
def Bd (l : List (StA FT)) (lo hi : Int) : Prop := (l = [] ∧ lo = 1 ∧ hi = 0) ∨ ((∃ x ∈ l, fDi x = lo) ∧ (∃ x ∈ l, fDi x = hi) ∧ ∀ x ∈ l, lo ≤ fDi x ∧ fDi x ≤ hi)
theorem Bd.one {l : List (StA FT)} {a b c d : Int} (h : Bd l a b) (h' : Bd l c d) : a = c ∧ b = d := by
  rcases h with ⟨e, rfl, rfl⟩ | ⟨⟨x, hx, rfl⟩, ⟨y, hy, rfl⟩, h1⟩
  · subst e
    rcases h' with ⟨_, rfl, rfl⟩ | ⟨⟨x, hx, _⟩, _⟩
    · exact ⟨rfl, rfl⟩
    · cases hx
  · rcases h' with ⟨e, _⟩ | ⟨⟨z, hz, rfl⟩, ⟨w, hw, rfl⟩, h2⟩
    · subst e; cases hx
    · have := h1 z hz; have := h2 x hx; have := h1 w hw; have := h2 y hy
      omega
theorem c_Bounds {h : Hp} {s : Sl} {l : List (StA FT)} (r : RF h s l) (hl : l.length ≤ 1048576) {K : Int → Int → Hp → Prop} (hK : ∀ lo hi h', Bd l lo hi → Ext h h' → K lo hi h') : C_split_Bounds s h K := by
  have hlen := r.len
  refine F_split_Bounds_ok _ _ _ (cnd_beq.2 ⟨fun h0 => hK 1 0 h (.inl ⟨List.length_eq_zero_iff.1 (by omega), rfl, rfl⟩) (Ext.refl _), fun h0 => ?_⟩)
  have hx0 : l[0]? = some (l[0]'(by omega)) := List.getElem?_eq_getElem _
  generalize (l[0]'(by omega)) = x0 at hx0
  have hm0 := List.mem_of_getElem? hx0
  refine f_ldD (k := 0) r rfl hx0 (f_ldD (k := 0) r rfl hx0 ?_)
  refine Lp.inv (fun st => ∃ k : Nat, st.1.2.2.1 = (k : Int) ∧ k ≤ l.length ∧ Ext h st.2 ∧ (∃ x ∈ l, fDi x = st.1.1) ∧ (∃ x ∈ l, fDi x = st.1.2.1) ∧ ∀ x ∈ l.take k, st.1.1 ≤ fDi x ∧ fDi x ≤ st.1.2.1) (fun st => l.length - st.1.2.2.1.toNat) ?_
    ⟨0, rfl, by omega, Ext.refl _, ⟨x0, hm0, rfl⟩, ⟨x0, hm0, rfl⟩, fun x hx => by simp at hx⟩
  rintro ⟨⟨lo, hi, i', ⟨⟩⟩, g⟩ R ⟨k, rfl, hk, x, ⟨a, ha, rfl⟩, ⟨b, hb, rfl⟩, hin⟩ hR
  simp only at x hin
  unfold L1_split_Bounds
  dsimp only
  refine cnd_dec.2 ⟨fun hlt => ?_, fun hge => ?_⟩
  · have hx : l[k]? = some (l[k]'(by omega)) := List.getElem?_eq_getElem _
    generalize (l[k]'(by omega)) = y at hx
    have hy := List.mem_of_getElem? hx
    refine f_ld (r.ext x) rfl hx (box2 fun g1 b1 x1 y1 => ?_)
    refine ldA_blk (s := .int .i64) (i := 1) (x := fDi y) b1 rfl (let_to (ldA_blk (s := .int .i64) (i := 1) (x := fDi y) b1 rfl (let_to (let_to ?_))))
    rw [wrap_i64 (by omega) (by omega)]
    refine hR _ ⟨k + 1, by simp, by omega, x.trans x1, ?_, ?_, fun z hz => ?_⟩ (by simp only; omega)
    · simp only
      split
      · exact ⟨y, hy, rfl⟩
      · exact ⟨a, ha, rfl⟩
    · simp only
      split
      · exact ⟨y, hy, rfl⟩
      · exact ⟨b, hb, rfl⟩
    · rw [List.take_add_one, hx] at hz
      simp only
      rcases List.mem_append.1 hz with hz | hz
      · have := hin z hz
        (repeat' split) <;> omega
      · have hz : z = y := by simpa using hz
        subst hz
        have e1 : ∀ w : StA FT, fDi w = fDi w := fun _ => rfl
        (repeat' split) <;> omega
  · obtain rfl : k = l.length := by omega
    rw [List.take_length] at hin
    exact hK _ _ g (.inr ⟨⟨a, ha, rfl⟩, ⟨b, hb, rfl⟩, hin⟩) x
end Go.Proofs.YtpcbppicjoolfaaF
