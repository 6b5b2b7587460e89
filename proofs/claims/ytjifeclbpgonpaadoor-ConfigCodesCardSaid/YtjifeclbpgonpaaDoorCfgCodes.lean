/- Chapter 28: ConfigCodes. No condition of its own, but that errors' variable holds what it was laid with. -/
import Derived.Test.YtjifeclbpgonpaaDoorCfgReg
namespace Go.Proofs.YtjifeclbpgonpaaDoorF
open Go Go.Proofs.YtjifeclbpgonpaaDoorK
set_option linter.unusedSimpArgs false
set_option linter.unusedVariables false
set_option maxRecDepth 100000

abbrev prt (n : Int) : StA PT := (1, 0, n, false, ByteArray.mk #[], 0, 0, 0, ())
theorem tP1 {lo hi : Int} {l : List Int} {e : Int} : tP 1 0 lo hi 0 l e = (0, sgn (tk (inI lo hi) l e).1, false, [], (tk (inI lo hi) l e).2) := by
  unfold tP; rw [if_neg (by decide), if_pos rfl]
theorem tk_same {may : Nat → Bool} {l : List Int} {e : Int} : (tk may (if e ≠ 0 then [] else l) e).1 = (tk may l e).1 ∧ (tk may (if e ≠ 0 then [] else l) e).2.2 = (tk may l e).2.2 ∧ ((tk may l e).2.2 = 0 → (tk may (if e ≠ 0 then [] else l) e).2.1 = (tk may l e).2.1) := by
  by_cases he : e = 0
  · rw [if_neg (by simpa using he)]; exact ⟨rfl, rfl, fun _ => rfl⟩
  · rw [if_pos he, tk_err he, tk_err he]; exact ⟨rfl, rfl, fun h => (he h).elim⟩
theorem gets_by : ∀ (t : List (Int × Int)) (l : List Int) (e : Int), By l → By (gets t l e).2.1
  | [], _, _, h => h
  | x :: t, l, e, h => by unfold gets; exact gets_by t _ _ (tk_by h)
theorem gets_le : ∀ (t : List (Int × Int)) (l : List Int) (e : Int), (gets t l e).2.1.length ≤ l.length
  | [], _, _ => Nat.le_refl _
  | x :: t, l, e => by unfold gets; exact Nat.le_trans (gets_le t _ _) (tk_le _ _ _)
theorem pbs_all1 : ∀ c : List Int, (c.map prt).flatMap pbs = wz c
  | [] => rfl
  | n :: c => by
    have h1 : pbs (prt n) = vb (zig n) := by unfold pbs; rw [if_neg (show ¬ ((1 : Int) = 0) by decide), if_pos rfl]
    rw [List.map_cons, List.flatMap_cons, pbs_all1 c, h1]; simp [wz]
theorem tsz0 : ∀ c : List Int, tsz (c.map prt) = 0
  | [] => rfl
  | n :: c => by have := tsz0 c; unfold tsz at *; simp at *; exact ⟨rfl, this⟩
theorem few1 {c : List Int} (hc : c.length = 8) (hi : ∀ n ∈ c, I64 n) : Few (c.map prt) :=
  ⟨by rw [tsz0, List.length_map]; omega, fun x hx => by
    obtain ⟨n, hn, rfl⟩ := List.mem_map.1 hx
    exact ⟨⟨Int.le_refl 0, show (0 : Int) < 18446744073709551616 by decide⟩, hi n hn⟩⟩
theorem codes_J2 {h g : Hp} {c : List Int} {p rb pr : Nat} {s sr sp sq : Sl} {lp : List Int} {e : Int} {sg : Sl} (hg : rt0 h) (xg : Ext h g) (hc : c.length = 8) (hi : ∀ n ∈ c, I64 n) (q : WQ g p s (wz c)) (o1 : OwnRow (vsA PT) 8 (rb + 1) g sp (c.map prt))
    (bq : Blk g rb #[rsl sr, i64 e]) (rr : R8 h sr (if e ≠ 0 then [] else lp)) (qr : RQ g pr sq lp e) :
    J2_law28_ConfigCodes (fun t h' => t = true ∧ Ext h h') (some ⟨p, 0, none⟩) ⟨rb, 0, none⟩ (sp, sg, ()) (some ⟨pr, 0, none⟩) () g := by
  unfold J2_law28_ConfigCodes
  have hwl : (wz c).length ≤ 80 := by have := wz_len hi; omega
  refine ⟨[], w_Bytes q (by omega) fun s1 h1 w1 x1 => ?_⟩
  refine r_Write (o1.row.ext x1) (few1 hc hi) fun s2 h2 w2 x2 => ?_
  rw [pbs_all1] at w2
  refine s_Same (w1.row.ext x2) w2.row (by omega) (cnd_yes (by simp) ?_)
  have X2 := x1.trans x2
  have q2 := qr.ext X2
  have b2 := bq.ext X2
  have r2 := rr.ext (xg.trans X2)
  have rl := r2.len
  refine c_Left q2 ⟨⟨Nat.le_refl _, fun _ _ _ => rfl⟩, by simp, ldA_blk (s := .sl) (i := 0) (x := sr) b2 rfl (cnd_yes ?_ ?_)⟩
  · rw [rl]
    by_cases he : e = 0
    · rw [if_neg (by simpa using he), if_neg (by simpa using he)]; simp
    · rw [if_pos he, if_pos he]; rfl
  refine c_End q2 ⟨⟨Nat.le_refl _, fun _ _ _ => rfl⟩, by simp, ldA_blk (s := .sl) (i := 0) (x := sr) b2 rfl (ldA_blk (s := .int .i64) (i := 1) (x := e) b2 rfl ?_)⟩
  refine r_End r2 fun h3 x3 => cnd_yes ?_ ?_
  · rw [beq_iff_eq]
    by_cases he : e = 0
    · rw [if_neg (show ¬ e ≠ 0 by simpa using he)]
    · rw [if_neg (fun h => he h.1), if_neg (fun h => he h.1)]
  have X3 := (xg.trans X2).trans x3
  exact c_lives28 (X3.cell hg) fun h4 x4 => ⟨rfl, X3.trans x4⟩
theorem codes_J1 {h g : Hp} {c lb : List Int} {p rb : Nat} {s sr sp sg sb : Sl} (hg : rt0 h) (xg : Ext h g) (hc : c.length = 8) (hi : ∀ n ∈ c, I64 n) (q : WQ g p s (wz c)) (r : R8 h sb lb) (hb : By lb) (hm : lb.length ≤ 140737488355328)
    (o1 : OwnRow (vsA PT) 8 (rb + 1) g sp (c.map prt)) (o2 : OwnRow (encI .i64) 1 (rb + 1) g sg (gets cfLim lb 0).1) (bq : Blk g rb #[rsl sr, i64 (gets cfLim lb 0).2.2]) (rr : R8 h sr (if (gets cfLim lb 0).2.2 ≠ 0 then [] else (gets cfLim lb 0).2.1)) :
    J1_law28_ConfigCodes sb (fun t h' => t = true ∧ Ext h h') (some ⟨p, 0, none⟩) ⟨rb, 0, none⟩ (sp, sg, ()) g := by
  unfold J1_law28_ConfigCodes
  refine c_NewReader (r.ext xg) hb hm fun pr s1 h1 q1 x1 hpr => ?_
  refine c_Get q1 fun a0 a1 a2 a3 a4 a5 a6 a7 s2 h2 hgv q2 u2 => ?_
  have X2 : Ext g h2 := x1.only_new u2 hpr
  refine push_to fun h3 b3 x3 z3 => let_to ?_
  simp only [add_mk, Nat.zero_add]
  refine stores_blk (i := 0) (vs := [i64 a0, i64 a1, i64 a2, i64 a3, i64 a4, i64 a5, i64 a6, i64 a7]) b3 rfl fun h4 b4 u4 _ z4 => ?_
  simp only [List.take_zero, List.nil_append] at b4
  have X4 : Ext h2 h4 := x3.only_new u4 (Nat.le_refl _)
  refine ldA_blk (s := .int .i64) (x := a0) (i := 0) b4 rfl (ldA_blk (s := .int .i64) (x := a1) (i := 1) b4 rfl (ldA_blk (s := .int .i64) (x := a2) (i := 2) b4 rfl (ldA_blk (s := .int .i64) (x := a3) (i := 3) b4 rfl
    (ldA_blk (s := .int .i64) (x := a4) (i := 4) b4 rfl (ldA_blk (s := .int .i64) (x := a5) (i := 5) b4 rfl (ldA_blk (s := .int .i64) (x := a6) (i := 6) b4 rfl (ldA_blk (s := .int .i64) (x := a7) (i := 7) b4 rfl ?_)))))))
  refine r_Fields fun t1 t2 t3 t4 h5 x5 r1 _ _ _ _ _ => ?_
  rw [← hgv] at r1
  have X5 : Ext g h5 := (X2.trans X4).trans x5
  have J := codes_J2 (g := h5) (sg := sg) hg (xg.trans X5) hc hi (q.ext X5) (o1.ext X5) (bq.ext X5) rr (q2.ext (X4.trans x5))
  have b5 := bq.ext X5
  have o5 := o2.ext X5
  have hl8 : (gets cfLim lb 0).1.length = 8 := gets_len _ _ _
  have hv8 : (gotV lb 0).length = 8 := by rw [hgv]; rfl
  have hvk : (gets cfLim lb 0).2.2 = 0 → gotV lb 0 = (gets cfLim lb 0).1 := fun he => by unfold gotV; rw [if_neg (by simpa using he)]
  have hv0 : (gets cfLim lb 0).2.2 ≠ 0 → gotV lb 0 = List.replicate 8 0 := fun he => by unfold gotV; rw [if_pos he]; rfl
  rw [Jn_eq]
  refine Lp.inv (fun st => ∃ k : Nat, st.1.1 = (k : Int) ∧ k ≤ 8 ∧ st.2 = h5) (fun st => 8 - st.1.1.toNat) ?_ ⟨0, rfl, by omega, rfl⟩
  rintro ⟨⟨i, ⟨⟩⟩, gg⟩ R ⟨k, hik, hk8, hgg⟩ hR
  simp only at hik hgg
  subst hik; subst hgg
  unfold L1_law28_ConfigCodes
  dsimp only
  refine cnd_dec.2 ⟨fun hlt => ?_, fun hge => J⟩
  have hkl : k < 8 := by omega
  simp only [add_mk, Nat.zero_add]
  have hy : (gotV lb 0)[k]? = some ((gotV lb 0)[k]'(by omega)) := List.getElem?_eq_getElem (by omega)
  generalize ((gotV lb 0)[k]'(by omega)) = y at hy
  have fin : R ((((k + 1 : Nat) : Int), ()), gg) := hR _ ⟨k + 1, rfl, by omega, rfl⟩ (by simp only; omega)
  have fin' : R ((IntKind.wrap .i64 ((k : Int) + 1), ()), gg) := by rw [wrap_i64 (by omega) (by omega)]; exact fin
  refine ldA_blk (s := .int .i64) (x := (gets cfLim lb 0).2.2) (i := 1) b5 rfl (cnd_beq.2 ⟨fun he => ?_, fun he => ?_⟩)
  · refine ld_int0 r1 (i := (k : Int)) (x := y) (by omega) (by rw [Int.toNat_natCast]; exact hy) ?_
    refine ld_int0 o5.row (i := (k : Int)) (x := y) (by omega) (by rw [Int.toNat_natCast, ← hvk he]; exact hy) ?_
    refine cnd_no (by simp) (ldA_blk (s := .int .i64) (x := (gets cfLim lb 0).2.2) (i := 1) b5 rfl (cnd_no (by simp [he]) (let_to fin')))
  · refine ldA_blk (s := .int .i64) (x := (gets cfLim lb 0).2.2) (i := 1) b5 rfl (cnd_yes (by simpa using he) ?_)
    refine ld_int0 r1 (i := (k : Int)) (x := y) (by omega) (by rw [Int.toNat_natCast]; exact hy) ?_
    have hy0 : y = 0 := by
      rw [hv0 he, List.getElem?_replicate, if_pos hkl] at hy
      exact (Option.some.inj hy).symm
    exact cnd_no (by simp [hy0]) (let_to fin')
theorem configCodes_ok {c0 c1 c2 c3 c4 c5 c6 c7 : Int} (hi : ∀ n ∈ [c0, c1, c2, c3, c4, c5, c6, c7], I64 n) {h : Hp} (hg : rt0 h) {sb : Sl} {lb : List Int} (r : R8 h sb lb) (hb : By lb) (hm : lb.length ≤ 140737488355328) :
    C_law28_ConfigCodes c0 c1 c2 c3 c4 c5 c6 c7 sb h fun t h' => t = true ∧ Ext h h' := by
  refine F_law28_ConfigCodes_ok _ _ _ _ _ _ _ _ _ _ _ ?_
  unfold F_law28_ConfigCodes
  refine push_to fun h1 b1 x1 z1 => let_to (w_New fun h2 x2 q2 => ?_)
  simp only [add_mk, Nat.zero_add]
  have b2 := b1.ext x2
  refine ldA_blk (s := .int .i64) (x := c0) (i := 0) b2 rfl (ldA_blk (s := .int .i64) (x := c1) (i := 1) b2 rfl (ldA_blk (s := .int .i64) (x := c2) (i := 2) b2 rfl (ldA_blk (s := .int .i64) (x := c3) (i := 3) b2 rfl
    (ldA_blk (s := .int .i64) (x := c4) (i := 4) b2 rfl (ldA_blk (s := .int .i64) (x := c5) (i := 5) b2 rfl (ldA_blk (s := .int .i64) (x := c6) (i := 6) b2 rfl (ldA_blk (s := .int .i64) (x := c7) (i := 7) b2 rfl ?_)))))))
  refine c_Put q2 hi (by simp) fun s3 h3 q3 w3 => ?_
  have x3 : Ext h1 h3 := w3.ext q2 x2 (Nat.le_refl _)
  rw [List.nil_append] at q3
  have b3 := b1.ext x3
  refine ldA_blk (s := .int .i64) (x := c0) (i := 0) b3 rfl (ldA_blk (s := .int .i64) (x := c1) (i := 1) b3 rfl (ldA_blk (s := .int .i64) (x := c2) (i := 2) b3 rfl (ldA_blk (s := .int .i64) (x := c3) (i := 3) b3 rfl
    (ldA_blk (s := .int .i64) (x := c4) (i := 4) b3 rfl (ldA_blk (s := .int .i64) (x := c5) (i := 5) b3 rfl (ldA_blk (s := .int .i64) (x := c6) (i := 6) b3 rfl (ldA_blk (s := .int .i64) (x := c7) (i := 7) b3 rfl ?_)))))))
  refine r_Fields fun t1 t2 t3 t4 h4 x4 r1 r2 r3 _ _ _ => ?_
  generalize hc : [c0, c1, c2, c3, c4, c5, c6, c7] = c at hi r1 q3
  have hc8 : c.length = 8 := by rw [← hc]; rfl
  refine push_to fun h5 b5 x5 z5 => let_to ?_
  refine stores_blk (i := 0) (vs := [rsl sb, i64 0]) b5 rfl fun h6 b6 u6 _ z6 => ?_
  simp only [List.take_zero, List.nil_append] at b6
  have X6 : Ext h4 h6 := x5.only_new u6 (Nat.le_refl _)
  have X : Ext h h6 := ((x1.trans x3).trans x4).trans X6
  have q6 := (q3.ext x4).ext X6
  have hs1 := x1.size
  have hs3 := x3.size
  have hs4 := x4.size
  have lt1 : SBelow t1 h4.size := r1.blt enc64 (by decide) (by rw [← List.length_pos_iff]; omega)
  have lt2 : SBelow t2 h4.size := r2.blt enc64 (by decide) (by decide)
  have lt3 : SBelow t3 h4.size := r3.blt enc64 (by decide) (by decide)
  have r1 := r1.ext X6
  have r2 := r2.ext X6
  have r3 := r3.ext X6
  have lts : ∀ a, s3.a = some a → a.block < h4.size := fun a ha => by have := q3.o.lt a ha; omega
  have hpl : h1.size < h4.size := by have := q3.b.lt; omega
  generalize h4.size = rb at lt1 lt2 lt3 lts hpl b5 b6 u6 hs4 z5
  clear b5 u6 x5
  have hrb : rb < h6.size := b6.lt
  refine Lp.inv (fun st => ∃ (k : Nat) (sr : Sl), st.1.2.2.1 = (k : Int) ∧ k ≤ 8 ∧ OwnRow (vsA PT) 8 (rb + 1) st.2 st.1.1 ((c.take k).map prt) ∧ OwnRow (encI .i64) 1 (rb + 1) st.2 st.1.2.1 (gets (cfLim.take k) lb 0).1 ∧
      (∀ a b, st.1.1.a = some a → st.1.2.1.a = some b → a.block ≠ b.block) ∧ Blk st.2 rb #[rsl sr, i64 (gets (cfLim.take k) lb 0).2.2] ∧ R8 h sr (if (gets (cfLim.take k) lb 0).2.2 ≠ 0 then [] else (gets (cfLim.take k) lb 0).2.1) ∧ Bel rb h6 st.2)
    (fun st => 8 - st.1.2.2.1.toNat) ?_ ⟨0, sb, rfl, by omega, OwnRow.nil _ _ _ _, OwnRow.nil _ _ _ _, fun a b ha => (by cases ha), b6, by simpa [gets] using r, Bel.refl _ _⟩
  rintro ⟨⟨sp, sg, i, ⟨⟩⟩, g⟩ R ⟨k, sr, hik, hk8, op, og, hap, bq, rr, be⟩ hR
  simp only at hik op og hap bq be
  subst hik
  unfold L2_law28_ConfigCodes
  dsimp only
  have xg : Ext h g := (X.bel.trans (be.mono (by omega))).ext
  have hzg := be.size
  refine cnd_dec.2 ⟨fun hlt => ?_, fun hge => ?_⟩
  · have hkl : k < 8 := by omega
    have hx : c[k]? = some (c[k]'(by omega)) := List.getElem?_eq_getElem (by omega)
    have hxi : I64 (c[k]'(by omega)) := hi _ (List.getElem_mem _)
    generalize (c[k]'(by omega)) = x at hx hxi
    obtain ⟨nm, lo, hi', hlo, hhi, _⟩ := cf_at hkl
    have hlim := lim_at hlo hhi
    refine ld_int0 (r1.bel lt1 be) (i := (k : Int)) (x := x) (by omega) (by rw [Int.toNat_natCast]; exact hx) ?_
    have hptl : ((c.take k).map prt).length ≤ 8 := by rw [List.length_map, List.length_take]; omega
    have hgtl : (gets (cfLim.take k) lb 0).1.length ≤ 8 := by rw [gets_len, List.length_take]; exact Nat.le_trans (Nat.min_le_left _ _) (by omega)
    refine app1 (x := prt x) encPT (by decide) op (by omega) (by omega) (by decide) rfl rfl fun sp1 g1 op1 up1 bp1 np1 => ?_
    have og1 : OwnRow (encI .i64) 1 (rb + 1) g1 sg (gets (cfLim.take k) lb 0).1 := og.onlyS up1 fun a ha b hb' e => hap a b ha hb' e.symm
    have bq1 : Blk g1 rb _ := bq.bel bp1 (by omega)
    have xg1 : Ext h g1 := (xg.bel.trans (bp1.mono (by omega))).ext
    have be1 : Bel rb h6 g1 := be.trans (bp1.mono (by omega))
    have hz1 := bp1.size
    obtain ⟨a2, ha2⟩ := r2.at_ (by decide)
    obtain ⟨a3, ha3⟩ := r3.at_ (by decide)
    have r2g := r2.bel lt2 be1
    have r3g := r3.bel lt3 be1
    have l2 := r2g.len
    have l3 := r3g.len
    have hl2 : cfLow.length = 8 := rfl
    have hl3 : cfHigh.length = 8 := rfl
    have clo : hcell g1 (a2.add ((k : Int).toNat * 1)) = some (.int .i64 lo) := by
      have := r2g.get a2 k lo ha2 hlo
      rw [Int.toNat_natCast]; exact this.cell0 rfl
    have chi : hcell g1 (a3.add ((k : Int).toNat * 1)) = some (.int .i64 hi') := by
      have := r3g.get a3 k hi' ha3 hhi
      rw [Int.toNat_natCast]; exact this.cell0 rfl
    have hgb := gets_by (cfLim.take k) lb 0 hb
    have hgle := gets_le (cfLim.take k) lb 0
    have hsn := gets_snoc (cfLim.take k) (lo, hi') lb 0
    rw [take_snoc hlim] at hsn
    generalize gets (cfLim.take k) lb 0 = G at og1 bq1 rr hgb hgle hsn hgtl
    obtain ⟨vals, lp, e⟩ := G
    simp only at og1 bq1 rr hgb hgle hsn hgtl
    have hlb : By (if e ≠ 0 then [] else lp) := by split; (· intro c hc; cases hc); (· exact hgb)
    have hll : (if e ≠ 0 then [] else lp).length ≤ 140737488355328 := by split; (· simp); (· omega)
    have G := @rd_reg rb sr e g1 bq1 t2 t3 (k : Int) lo hi' a2 a3 ha2 ⟨by omega, by omega⟩ clo ha3 ⟨by omega, by omega⟩ chi
      (fun Y Z => ∃ (n i : Int) (f : Bool) (t : ByteArray) (l' : List Int) (e' : Int) (s' : Sl), Y = (1, n, i, f, t, 0, 0, 0, ()) ∧ Z = (s', e', ()) ∧ tP 1 0 lo hi' 0 (if e ≠ 0 then [] else lp) e = (n, i, f, bts t, l', e') ∧ R8 h s' (if e' ≠ 0 then [] else l'))
      (fun g' e' K' hK' => r_Take (I := 0) (F := false) (T := ByteArray.mk #[]) (K := fun k n i f t a b c s' e' h' => K' (resV (k, n, i, f, t, a, b, c, ()) (s', e', ())) h') rr (xg1.trans e') hlb hll (show I64 0 from ⟨by decide, by decide⟩) (fun he => by rw [if_pos he]) (fun n i f t l' e' s' h' ht x' hr _ => hK' _ _ h' x' ⟨n, i, f, t, l', e', s', rfl, rfl, ht, hr⟩))
    unfold rdOps at G
    refine G fun p q' Y Z g2 hC bp bz hne hp hq x7 => ?_
    clear G
    obtain ⟨n, v, f, t, l', e', s', rfl, rfl, ht, hr⟩ := hC
    rw [tP1] at ht
    obtain ⟨k1, k2, k3⟩ := @tk_same (inI lo hi') lp e
    simp only [Prod.mk.injEq] at ht
    obtain ⟨_, hv, _, _, htl⟩ := ht
    rw [k1] at hv
    have he' : e' = (tk (inI lo hi') lp e).2.2 := by rw [← k2, htl]
    have hl' : e' = 0 → l' = (tk (inI lo hi') lp e).2.1 := fun h0 => by rw [← k3 (by rw [← he']; exact h0), htl]
    have hrbg : rb < g1.size := bq1.lt
    simp only [add_mk, Nat.zero_add]
    refine ldA_blk (s := .sl) (i := 0) (x := s') bz rfl (ldA_blk (s := .int .i64) (i := 1) (x := e') bz rfl ?_)
    refine stores_blk (i := 0) (vs := [rsl s', i64 e']) (bq1.ext x7) rfl fun g3 b3' u3 _ z3 => ?_
    simp only [List.take_zero, List.nil_append] at b3'
    have bp3 := bp.only u3 (by omega)
    refine ldA_blk (s := .int .i64) (i := 2) (x := v) bp3 rfl ?_
    have op3 := (op1.ext x7).only u3 (by omega)
    have og3 := (og1.ext x7).only u3 (by omega)
    have hz3 := x7.size
    refine app1 (x := v) enc64 (by decide) og3 (by omega) (by omega) (by decide) rfl rfl fun sg4 g4 og4 ug4 bg4 ng4 => let_to ?_
    rw [wrap_i64 (by omega) (by omega)]
    have hlp := op1.lt
    have hlg := og1.lt
    have ap1 : ∀ a b, sp1.a = some a → sg.a = some b → a.block ≠ b.block := fun a b ha hb' => by
      rcases np1 with e0 | ⟨b0, e0, hb0⟩
      · rw [e0] at ha; exact hap a b ha hb'
      · rw [e0] at ha; cases ha
        have := og.lt b hb'
        simp only; omega
    have op4 : OwnRow (vsA PT) 8 (rb + 1) g4 sp1 _ := op3.onlyS ug4 fun b hb' a ha => ap1 a b ha hb'
    have be4 : Bel rb h6 g4 := ((be1.extR x7 (by omega)).only_new u3 (Nat.le_refl _) (by omega)).trans (bg4.mono (by omega))
    refine hR _ ⟨k + 1, s', by simp, by omega, ?_, ?_, ?_, ?_, ?_, be4⟩ (by simp only; omega)
    · have e0 : (c.take k).map prt ++ [prt x] = (c.take (k + 1)).map prt := by rw [← take_snoc hx]; simp
      rw [← e0]; exact op4
    · rw [hsn]
      show OwnRow (encI .i64) 1 (rb + 1) g4 sg4 (vals ++ [sgn (tk (inI lo hi') lp e).1])
      rw [hv]; exact og4
    · intro a b ha hb'
      rcases ng4 with e0 | ⟨b0, e0, hb0⟩
      · simp only at ha hb'
        rw [e0] at hb'; exact ap1 a b ha hb'
      · simp only at ha hb'
        rw [e0] at hb'; cases hb'
        have := hlp a ha
        simp only; omega
    · rw [hsn]
      show Blk g4 rb #[rsl s', i64 (tk (inI lo hi') lp e).2.2]
      rw [← he']; exact b3'.bel bg4 (by omega)
    · rw [hsn]
      show R8 h s' (if (tk (inI lo hi') lp e).2.2 ≠ 0 then [] else (tk (inI lo hi') lp e).2.1)
      rw [← he']
      by_cases h0 : e' = 0
      · rw [if_neg (by simpa using h0)] at hr ⊢; rw [← hl' h0]; exact hr
      · rw [if_pos h0] at hr ⊢; exact hr
  · obtain rfl : k = 8 := by omega
    rw [List.take_of_length_le (by omega)] at op
    have ht : cfLim.take 8 = cfLim := rfl
    rw [ht] at og bq rr
    have qg : WQ g h1.size s3 (wz c) := ⟨q6.b.bel be hpl, q6.o.bel be lts⟩
    exact codes_J1 hg xg hc8 hi qg r hb hm op og bq rr
end Go.Proofs.YtjifeclbpgonpaaDoorF
