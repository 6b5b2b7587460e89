/- Chapter 14: the laws. No condition. -/
import Derived.Test.YtednnilgiebnoaaDirRef
namespace Go.Proofs.YtednnilgiebnoaaF
open Go Go.Proofs.YtednnilgiebnoaaK
set_option linter.unusedSimpArgs false
set_option linter.unusedVariables false

theorem lives14 {h : Hp} {K : Bool → Hp → Prop} (hK : ∀ h', Ext h h' → K true h') : C_law14_lives h K := by
  refine F_law14_lives_ok _ _ (d_New fun h1 q1 e1 => d_Put q1 (by simp) (fun s2 h2 _ q2 g2 => d_Put q2 (by simp [insAt]) (fun s3 h3 hn q3 g3 => ?_) fun g _ hm => ?_) fun g _ hm => ?_)
  · have e3 : insAt (insAt ([] : List (StA RW)) (rk (([] : List (StA RW)).map rId) 9) (9, 1, ())) (rk ((insAt ([] : List (StA RW)) (rk (([] : List (StA RW)).map rId) 9) (9, 1, ())).map rId) 4) (4, 2, ()) = [(4, 2, ()), (9, 1, ())] := by rfl
    rw [e3] at q3
    have x3 : Ext h h3 := (e1.bel.trans ((q1.bel g2).trans (q2.bel g3))).ext
    refine d_Find q3 (by simp) (fun x g e hx hid => ?_) fun g _ hm => (hm (by simp)).elim
    have : x = (4, 2, ()) := by
      rcases List.mem_cons.1 hx with rfl | hx
      · rfl
      · have hx : x = (9, 1, ()) := by simpa using hx
        subst hx; exact absurd hid (by decide)
    subst this
    refine cnd_yes rfl (cnd_yes rfl (d_Rank (q3.ext e) (by simp) fun g2 e2 => cnd_yes rfl (d_Len ((q3.ext e).ext e2) (hK g2 ((x3.trans e).trans e2)))))
  · have : (4 : Int) ∈ [(9 : Int)] := hm
    simp at this
  · simp at hm
/-- A row that lies apart from the directory. -/
def RR (h : Hp) (p : Nat) (s rs : Sl) (r : List (StA RW)) : Prop := IsRow (vsA RW) 2 h rs r ∧ ∀ a, rs.a = some a → a.block < h.size ∧ a.block ≠ p ∧ ∀ c, s.a = some c → a.block ≠ c.block
theorem RR.grow {h h' : Hp} {p : Nat} {s s' rs : Sl} {r : List (StA RW)} (o : RR h p s rs r) (u : DGrow p s s' h h') : RR h' p s' rs r := by
  refine ⟨⟨o.1.len, o.1.cap, o.1.at_, fun a i x ha hx j hj => ?_⟩, fun a ha => ⟨by have := (o.2 a ha).1; have := u.1.1; omega, (o.2 a ha).2.1, fun c hc => ?_⟩⟩
  · have := o.1.get a i x ha hx j hj
    rw [← this]
    unfold hcell
    rw [add_block, add_block, u.1.2 a.block (o.2 a ha).1 (o.2 a ha).2.1 (o.2 a ha).2.2]
  · rcases u.2 with e | ⟨b, e, hb⟩
    · exact (o.2 a ha).2.2 c (by rw [← e]; exact hc)
    · rw [e] at hc; cases hc
      have := (o.2 a ha).1
      simp only; omega
theorem RR.ext {h h' : Hp} {p : Nat} {s rs : Sl} {r : List (StA RW)} (o : RR h p s rs r) (x : Ext h h') : RR h' p s rs r := o.grow (DGrow.ext x)
theorem RR.fresh {h h' : Hp} {p : Nat} {s rs : Sl} {r : List (StA RW)} {d : List (StA RW)} (q : DW h p s d) (o : OwnRow (vsA RW) 2 h.size h' rs r) : RR h' p s rs r :=
  ⟨o.row, fun a ha => ⟨o.lt a ha, by have := o.above a ha; have := q.b.lt; omega, fun c hc => by have := o.above a ha; have := q.o.lt c hc; omega⟩⟩
abbrev DT : List At := [.bool, .int .u64, .int .i64]
theorem DT_ok : Enc (vsA DT) 3 := encA rfl
abbrev dC (x : StA DT) : Bool := x.1
abbrev dI (x : StA DT) : Int := x.2.1
abbrev dS (x : StA DT) : Int := x.2.2.1
theorem filter_cut {d : List (StA RW)} {id : Int} (hr : Ris (d.map rId)) (hm : id ∈ d.map rId) : d.filter (fun x => rId x != id) = d.take (rk (d.map rId) id) ++ d.drop (rk (d.map rId) id + 1) := by
  have hx := (rk_mem hr).1 hm
  obtain ⟨x, hx2, he⟩ := map_get hx
  have hk := (List.getElem?_eq_some_iff.1 hx2).1
  have e : d = d.take (rk (d.map rId) id) ++ x :: d.drop (rk (d.map rId) id + 1) := by
    conv => lhs; rw [← List.take_append_drop (rk (d.map rId) id) d, List.drop_eq_getElem_cons hk]
    rw [(List.getElem?_eq_some_iff.1 hx2).2]
  have ne : ∀ j y, j ≠ rk (d.map rId) id → d[j]? = some y → (rId y != id) = true := fun j y hj hy => by
    simp only [bne_iff_ne, ne_eq]
    intro hid
    have : (d.map rId)[j]? = some id := by rw [List.getElem?_map, hy]; simp [hid]
    exact hj (hr.inj this hx)
  conv => lhs; rw [e]
  rw [List.filter_append, List.filter_cons, if_neg (by simp [he])]
  congr 1
  · rw [List.filter_eq_self]
    intro y hy
    obtain ⟨j, hj⟩ := List.getElem?_of_mem hy
    rw [List.getElem?_take] at hj
    split at hj
    · exact ne j y (by omega) hj
    · cases hj
  · rw [List.filter_eq_self]
    intro y hy
    obtain ⟨j, hj⟩ := List.getElem?_of_mem hy
    rw [List.getElem?_drop] at hj
    exact ne _ y (by omega) hj
theorem same_slot {d : List (StA RW)} {x y : StA RW} {id : Int} (hr : Ris (d.map rId)) (hx : x ∈ d) (hy : y ∈ d) (h1 : rId x = id) (h2 : rId y = id) : x = y := by
  obtain ⟨i, hi⟩ := List.getElem?_of_mem hx
  obtain ⟨j, hj⟩ := List.getElem?_of_mem hy
  have := hr.inj (i := i) (j := j) (x := id) (by rw [List.getElem?_map, hi]; simp [h1]) (by rw [List.getElem?_map, hj]; simp [h2])
  subst this
  rw [hi] at hj; cases hj; rfl
theorem directDoes_ok {h : Hp} {s : Sl} {l : List (StA DT)} {at_ : Int} (o : IsRow (vsA DT) 3 h s l) (hl : l.length * 24 ≤ 140737488355328) : C_law14_DirectDoes s at_ h fun r h' => r = true ∧ Ext h h' := by
  have hlen := o.len
  refine F_law14_DirectDoes_ok _ _ _ _ (d_New fun h1 q1 e1 => ?_)
  refine Lp.inv (fun st => ∃ (k : Nat) (ds : Sl) (d r : List (StA RW)), st.1.2.1 = (k : Int) ∧ k ≤ l.length ∧ DW st.2 h.size ds d ∧ RR st.2 h.size ds st.1.1 r ∧ d.Perm r ∧ d.length ≤ k ∧ Ext h st.2) (fun st => l.length - st.1.2.1.toNat) ?_
    ⟨0, ⟨none, 0, 0⟩, [], [], rfl, by omega, q1, ⟨⟨rfl, Nat.le_refl _, fun hne => (hne rfl).elim, fun a i x ha hx => by cases hx⟩, fun a ha => by cases ha⟩, List.Perm.refl _, Nat.le_refl _, e1⟩
  rintro ⟨⟨rs, i', ⟨⟩⟩, g⟩ R ⟨k, ds, d, r, rfl, hk, q, rr, pm, hdk, x⟩ hR
  simp only at q rr x
  unfold L1_law14_DirectDoes
  dsimp only
  refine cnd_dec.2 ⟨fun hlt2 => ?_, fun hge => lives14 fun h' e => ⟨rfl, x.trans e⟩⟩
  have hx : l[k]? = some (l[k]'(by omega)) := List.getElem?_eq_getElem _
  generalize (l[k]'(by omega)) = y at hx
  have arg : ∀ {g2 : Hp}, Ext h g2 → IsRow (vsA DT) 3 g2 s l := fun e => o.ext e
  have ldI : ∀ {g2 : Hp} {K : Int → Prop}, Ext h g2 → K (dI y) → idxS s.a s.len (k : Int) 3 fun p => ldA (.int .u64) g2 (Addr.add p 1) K := fun e hk => row_get0 (arg e) rfl hx fun a hc => ldA_row hc (j := 1) (x := dI y) rfl hk
  have ldS : ∀ {g2 : Hp} {K : Int → Prop}, Ext h g2 → K (dS y) → idxS s.a s.len (k : Int) 3 fun p => ldA (.int .i64) g2 (Addr.add p 2) K := fun e hk => row_get0 (arg e) rfl hx fun a hc => ldA_row hc (j := 2) (x := dS y) rfl hk
  have prk : ∀ {d r : List (StA RW)}, d.Perm r → ∀ t, rk (r.map rId) t = rk (d.map rId) t := fun pm t => ((pm.map rId).countP_eq _).symm
  -- behind the deed
  have J1 : ∀ (ds2 : Sl) (d2 r2 : List (StA RW)) (rs2 : Sl) (ok : Bool) (g2 : Hp), DW g2 h.size ds2 d2 → RR g2 h.size ds2 rs2 r2 → d2.Perm r2 → d2.length ≤ k + 1 → Ext h g2 →
      J1_law14_DirectDoes s at_ (fun r h' => r = true ∧ Ext h h') (some ⟨h.size, 0, none⟩) ((rs, (k : Int), ()), g) R (rs2, ok, ok, ()) g2 := by
    intro ds2 d2 r2 rs2 ok g2 q2 rr2 pm2 hd2 x2
    have hlp := pm2.length_eq
    unfold J1_law14_DirectDoes
    dsimp only
    refine ldI x2 ?_
    have rest : ∀ (n : Int) (f : Bool) (g3 : Hp), Ext g2 g3 → C_ref14_Ids rs2 g3 (fun t13 h14 => C_direct_Dir_At (some ⟨h.size, 0, none⟩) at_ h14 fun t15 t16 h17 => Jn (J2_law14_DirectDoes s (fun r h' => r = true ∧ Ext h h') (some ⟨h.size, 0, none⟩) ((rs, (k : Int), ()), g) R (rs2, ok, ok, ()) n f n f t13) fun J2 =>
        cnd (decide (at_ ≥ 0)) (cnd (!(t16 == (decide (at_ < (t13.len : Int))))) (false = true ∧ Ext h h17) (cnd t16 (idxS t13.a t13.len at_ 1 fun p33 => ldA (.int .u64) h17 p33 fun t34 => cnd (t15 != t34) (false = true ∧ Ext h h17) (cnd (!t16) (cnd (t15 != 0) (false = true ∧ Ext h h17) (J2 () h17)) (J2 () h17))) (cnd (!t16) (cnd (t15 != 0) (false = true ∧ Ext h h17) (J2 () h17)) (J2 () h17))))
        (cnd (!(t16 == false)) (false = true ∧ Ext h h17) (cnd t16 (idxS t13.a t13.len at_ 1 fun p35 => ldA (.int .u64) h17 p35 fun t36 => cnd (t15 != t36) (false = true ∧ Ext h h17) (cnd (!t16) (cnd (t15 != 0) (false = true ∧ Ext h h17) (J2 () h17)) (J2 () h17))) (cnd (!t16) (cnd (t15 != 0) (false = true ∧ Ext h h17) (J2 () h17)) (J2 () h17))))) := by
      intro n f g3 e3
      have q3 := q2.ext e3
      have rr3 := rr2.ext e3
      refine r_Ids rr3.1 pm2 q3.ris (by omega) fun t g4 ot e4 => ?_
      have q4 := q3.ext e4
      have rr4 := rr3.ext e4
      have x4 := (x2.trans e3).trans e4
      have tl := ot.row.len
      rw [List.length_map] at tl
      -- what stands behind the tests
      have J2 : J2_law14_DirectDoes s (fun r h' => r = true ∧ Ext h h') (some ⟨h.size, 0, none⟩) ((rs, (k : Int), ()), g) R (rs2, ok, ok, ()) n f n f t () g4 := by
        unfold J2_law14_DirectDoes
        dsimp only
        refine cnd_no (by simp) (cnd_no (by simp) (cnd_no (by simp) (d_Len q4 (cnd_no (by rw [rr4.1.len]; simp; omega) (d_Ids q4 (by omega) fun t2 g5 ot2 e5 => ?_)))))
        have ot5 := ot.row.ext e5
        refine r_Same ot2.row ot5 (by rw [List.length_map]; omega) (cnd_no (by simp) (ldI (x4.trans e5) (d_Rank (q4.ext e5) (by omega) fun g6 e6 => ⟨e6, ?_⟩)))
        refine ldI (x4.trans e5) (r_Rank ((rr4.ext e5).ext e6).1 (by omega) ?_)
        rw [prk pm2]
        refine cnd_no (by simp) (let_to ?_)
        rw [wrap_i64 (by omega) (by omega)]
        exact hR _ ⟨k + 1, ds2, d2, r2, by simp, by omega, (q4.ext e5).ext e6, (rr4.ext e5).ext e6, pm2, hd2, (x4.trans e5).trans e6⟩ (by simp only; omega)
      refine d_At q4 (fun j z hj hz => ?_) fun hn => ?_
      · have hjl := (List.getElem?_eq_some_iff.1 hz).1
        rw [Jn_eq]
        refine cnd_yes (decide_eq_true (by omega)) (cnd_no (by rw [decide_eq_true (by omega : at_ < (t.len : Int))]; rfl) (cnd_yes rfl ?_))
        subst hj
        refine ld_int0 (i := (j : Int)) (x := rId z) ot.row (by omega) (by rw [Int.toNat_natCast, List.getElem?_map, hz]; rfl) (cnd_no (by simp) (cnd_no rfl J2))
      · rw [Jn_eq]
        refine cnd_dec.2 ⟨fun h0 => cnd_no (by rw [decide_eq_false (by omega : ¬ at_ < (t.len : Int))]; rfl) (cnd_no rfl (cnd_yes rfl (cnd_no rfl J2))), fun h0 => cnd_no rfl (cnd_no rfl (cnd_yes rfl (cnd_no rfl J2)))⟩
    refine d_Find q2 (by omega) (fun z g3 e3 hz hid => ldI (x2.trans e3) (r_Find (rr2.ext e3).1 (by omega) (fun z2 hz2 hid2 => ?_) fun hn => ?_)) fun g3 e3 hn => ldI (x2.trans e3) (r_Find (rr2.ext e3).1 (by omega) (fun z2 hz2 hid2 => ?_) fun hn2 => ?_)
    · have := same_slot q2.ris hz (pm2.mem_iff.2 hz2) hid hid2
      subst this
      exact rest _ _ g3 e3
    · exact (hn (((pm2.map rId).mem_iff).1 (hid ▸ List.mem_map_of_mem hz))).elim
    · exact (hn (((pm2.map rId).mem_iff).2 (hid2 ▸ List.mem_map_of_mem hz2))).elim
    · exact rest _ _ g3 e3
  rw [Jn_eq]
  have hlp := pm.length_eq
  refine row_get0 (arg x) rfl hx fun a hc => ldA_row0 hc (x := dC y) rfl (cnd_if (fun hcut => ldI x ?_) fun hput => ldI x (ldS x ?_))
  · refine d_Cut q (by omega) (fun s' g2 hm q2 u2 => ldI ((x.bel.trans (q.bel u2)).ext) ?_) fun g2 e2 hn => ldI (x.trans e2) ?_
    · have rr2 := rr.grow u2
      refine r_Cut rr2.1 (by omega) (fun a ha => (rr2.2 a ha).1) fun t g3 ot e3 => ?_
      have pf : (d.take (rk (d.map rId) (dI y)) ++ d.drop (rk (d.map rId) (dI y) + 1)).Perm (r.filter fun x => rId x != dI y) := by
        rw [← filter_cut q.ris hm]; exact pm.filter _
      have hl2 := pf.length_eq
      have hrk := (List.getElem?_eq_some_iff.1 ((rk_mem q.ris).1 hm)).1
      rw [List.length_map] at hrk
      have hl3 : (d.take (rk (d.map rId) (dI y)) ++ d.drop (rk (d.map rId) (dI y) + 1)).length = d.length - 1 := by rw [List.length_append, List.length_take, List.length_drop]; omega
      rw [decide_eq_true (by omega)]
      exact J1 s' _ _ t true g3 (q2.ext e3) (RR.fresh q2 ot) pf (by omega) ((x.bel.trans (q.bel u2)).ext.trans e3)
    · have rr2 := rr.ext e2
      refine r_Cut rr2.1 (by omega) (fun a ha => (rr2.2 a ha).1) fun t g3 ot e3 => ?_
      have hf : r.filter (fun x => rId x != dI y) = r := by
        rw [List.filter_eq_self]
        intro z hz
        simp only [bne_iff_ne, ne_eq]
        intro e
        exact hn (((pm.map rId).mem_iff).2 (e ▸ List.mem_map_of_mem hz))
      rw [hf] at ot ⊢
      rw [decide_eq_false (by omega)]
      exact J1 ds d r t false g3 ((q.ext e2).ext e3) (RR.fresh (q.ext e2) ot) pm (by omega) ((x.trans e2).trans e3)
  · refine d_Put q (by omega) (fun s' g2 hn q2 u2 => ?_) fun g2 e2 hm => ldI (x.trans e2) (ldS (x.trans e2) ?_)
    · have x2 := (x.bel.trans (q.bel u2)).ext
      have rr2 := rr.grow u2
      refine ldI x2 (ldS x2 (r_Put rr2.1 (by omega) (fun hm => (hn (((pm.map rId).mem_iff).2 hm)).elim) fun t g3 _ ot e3 => ?_))
      have p3 : (insAt d (rk (d.map rId) (dI y)) (dI y, dS y, ())).Perm (r ++ [(dI y, dS y, ())]) :=
        (insAt_perm _ _ _).trans ((List.Perm.cons _ pm).trans (List.perm_append_singleton _ _).symm)
      have hrk := rk_le (d.map rId) (dI y)
      rw [List.length_map] at hrk
      exact J1 s' _ _ t true g3 (q2.ext e3) (RR.fresh q2 ot) p3 (by rw [insAt_len _ hrk]; omega) (x2.trans e3)
    · have rr2 := rr.ext e2
      refine r_Put rr2.1 (by omega) (fun _ => J1 ds d r rs false g2 (q.ext e2) rr2 pm (by omega) (x.trans e2)) fun t g3 hn _ _ => (hn (((pm.map rId).mem_iff).1 hm)).elim
theorem directNone_ok {id at_ : Int} {h : Hp} : C_law14_DirectNone id at_ h fun r h' => r = true ∧ Ext h h' := by
  have pl : ∀ {K : Int → Bool → Hp → Prop} {g : Hp}, K 0 false g → C_direct_Dir_place none id g K := fun hk => F_direct_Dir_place_ok _ _ _ _ (cnd_yes rfl hk)
  have ln : ∀ {K : Int → Hp → Prop} {g : Hp}, K 0 g → C_direct_Dir_Len none g K := fun hk => F_direct_Dir_Len_ok _ _ _ (cnd_yes rfl hk)
  have at0 : ∀ {K : Int → Bool → Hp → Prop} {g : Hp}, K 0 false g → C_direct_Dir_At none at_ g K := fun hk => F_direct_Dir_At_ok _ _ _ _ (by
    unfold F_direct_Dir_At
    rw [Jn_eq]
    exact cnd_dec.2 ⟨fun _ => hk, fun h1 => ln (cnd_dec.2 ⟨fun _ => hk, fun h2 => by omega⟩)⟩)
  have put0 : ∀ {K : Bool → Hp → Prop} {g : Hp}, K false g → C_direct_Dir_Put none id at_ g K := fun hk => F_direct_Dir_Put_ok _ _ _ _ _ (pl (by rw [Jn_eq]; exact cnd_yes rfl hk))
  have ids0 : ∀ {K : Sl → Hp → Prop} {g : Hp}, K ⟨none, 0, 0⟩ g → C_direct_Dir_Ids none g K := fun {K g} hk => F_direct_Dir_Ids_ok _ _ _ (ln ⟨1, by
    show L1_direct_Dir_Ids none K 0 _ _
    unfold L1_direct_Dir_Ids
    exact cnd_no rfl hk⟩)
  refine F_law14_DirectNone_ok _ _ _ _ (F_direct_Dir_Find_ok _ _ _ _ (pl (cnd_yes rfl (at0 (put0 (cnd_yes rfl (cnd_yes rfl (cnd_yes rfl (F_direct_Dir_Cut_ok _ _ _ _ (pl (cnd_no rfl (cnd_yes rfl (ln (cnd_yes rfl (ids0 (cnd_yes rfl (F_direct_Dir_Rank_ok _ _ _ _ (pl (cnd_yes rfl (cnd_yes rfl (cnd_yes rfl (lives14 fun h' e => ⟨rfl, e⟩))))))))))))))))))))))
theorem directRanks_ok {h : Hp} {s : Sl} {l : List Int} (o : IsRow eU 1 h s l) (hl : l.length ≤ 1048576) : C_law14_DirectRanks s h fun r h' => r = true ∧ Ext h h' := by
  have hlen := o.len
  refine F_law14_DirectRanks_ok _ _ _ (d_New fun h1 q1 e1 => ?_)
  rw [Jn_eq]
  refine Lp.inv (fun st => ∃ (k : Nat) (ds : Sl) (d : List (StA RW)), st.1.1 = (k : Int) ∧ k ≤ l.length ∧ DW st.2 h.size ds d ∧ d.length ≤ k ∧ (∀ x, x ∈ l.take k → x ∈ d.map rId) ∧ Ext h st.2) (fun st => l.length - st.1.1.toNat) ?_
    ⟨0, ⟨none, 0, 0⟩, [], rfl, by omega, q1, Nat.le_refl _, fun x hx => by simp at hx, e1⟩
  rintro ⟨⟨i', ⟨⟩⟩, g⟩ R ⟨k, ds, d, rfl, hk, q, hdk, hin, x⟩ hR
  simp only at q x
  unfold L2_law14_DirectRanks
  dsimp only
  refine cnd_dec.2 ⟨fun hlt2 => ?_, fun hge => ?_⟩
  · have hx : l[k]? = some (l[k]'(by omega)) := List.getElem?_eq_getElem _
    generalize (l[k]'(by omega)) = y at hx
    have tk : ∀ z, z ∈ l.take (k + 1) → z ∈ l.take k ∨ z = y := fun z hz => by
      rw [List.take_add_one, hx] at hz
      rcases List.mem_append.1 hz with h | h
      · exact .inl h
      · exact .inr (by simpa using h)
    refine ld_int0 (i := (k : Int)) (x := y) (o.ext x) (by omega) hx (d_Put q (by omega) (fun s' g2 hn q2 u2 => let_to ?_) fun g2 e2 hm => let_to ?_)
    · rw [wrap_i64 (by omega) (by omega)]
      have hrk := rk_le (d.map rId) y
      rw [List.length_map] at hrk
      have pmi := (insAt_perm d (rk (d.map rId) y) (y, (k : Int), ())).map rId
      refine hR _ ⟨k + 1, s', _, by simp, by omega, q2, by rw [insAt_len _ hrk]; omega, fun z hz => pmi.mem_iff.2 ?_, (x.bel.trans (q.bel u2)).ext⟩ (by simp only; omega)
      rcases tk z hz with h | h
      · exact List.mem_cons_of_mem _ (hin z h)
      · subst h; exact List.mem_cons_self
    · rw [wrap_i64 (by omega) (by omega)]
      refine hR _ ⟨k + 1, ds, d, by simp, by omega, q.ext e2, by omega, fun z hz => ?_, x.trans e2⟩ (by simp only; omega)
      rcases tk z hz with h | h
      · exact hin z h
      · subst h; exact hm
  · obtain rfl : k = l.length := by omega
    rw [List.take_length] at hin
    unfold J1_law14_DirectRanks
    refine Lp.inv (fun st => ∃ k : Nat, st.1.1 = (k : Int) ∧ k ≤ l.length ∧ DW st.2 h.size ds d ∧ Ext h st.2) (fun st => l.length - st.1.1.toNat) ?_ ⟨0, rfl, by omega, q, x⟩
    rintro ⟨⟨i', ⟨⟩⟩, g2⟩ R2 ⟨k, rfl, hk2, q2, x2⟩ hR2
    simp only at q2 x2
    unfold L1_law14_DirectRanks
    dsimp only
    refine cnd_dec.2 ⟨fun hlt2 => ?_, fun hge => lives14 fun h' e => ⟨rfl, x2.trans e⟩⟩
    have hx : l[k]? = some (l[k]'(by omega)) := List.getElem?_eq_getElem _
    generalize (l[k]'(by omega)) = y at hx
    have hm := hin y (List.mem_of_getElem? hx)
    have hat := (rk_mem q2.ris).1 hm
    obtain ⟨z, hz, he⟩ := map_get hat
    refine ld_int0 (i := (k : Int)) (x := y) (o.ext x2) (by omega) hx (d_Rank q2 (by omega) fun g3 e3 => d_At (q2.ext e3) (fun j z2 hj hz2 => cnd_no rfl ?_) fun hn => ?_)
    · have : j = rk (d.map rId) y := by omega
      subst this
      rw [hz] at hz2; cases hz2
      refine ld_int0 (i := (k : Int)) (x := y) (o.ext (x2.trans e3)) (by omega) hx (cnd_no (by simp [he]) (let_to ?_))
      rw [wrap_i64 (by omega) (by omega)]
      exact hR2 _ ⟨k + 1, by simp, by omega, q2.ext e3, x2.trans e3⟩ (by simp only; omega)
    · have := (List.getElem?_eq_some_iff.1 hz).1
      exact (hn ⟨by omega, by omega⟩).elim
end Go.Proofs.YtednnilgiebnoaaF
