/- Chapter 3: the reader reads as the reference does: CodeReads. No condition of its own. -/
import Derived.Test.YtojihngfbodeoaaReadsReg
import Derived.Test.YtojihngfbodeoaaCodeBack
import Derived.Test.YtojihngfbodeoaaK20
namespace Go.Proofs.YtojihngfbodeoaaF
open Go Go.Proofs.YtojihngfbodeoaaK
set_option linter.unusedSimpArgs false
set_option linter.unusedVariables false
theorem encPT8 : Enc (vsA PT) 8 := encA rfl
theorem tP_rdp (k N lo hi mo : Int) (l : List Int) (e : Int) : tP k N lo hi mo l e = ((rdp k N lo hi mo l e).1.1, (rdp k N lo hi mo l e).1.2.1, (rdp k N lo hi mo l e).1.2.2.1, (rdp k N lo hi mo l e).1.2.2.2, (rdp k N lo hi mo l e).2.1, (rdp k N lo hi mo l e).2.2) := by
  unfold tP rdp
  (repeat' split) <;> rfl
theorem same_take {k N lo hi mo : Int} {lp l' : List Int} {e n i e' : Int} {f : Bool} {t : List Int} (ht : tP k N lo hi mo (if e ≠ 0 then [] else lp) e = (n, i, f, t, l', e')) :
    n = (rdp k N lo hi mo lp e).1.1 ∧ i = (rdp k N lo hi mo lp e).1.2.1 ∧ f = (rdp k N lo hi mo lp e).1.2.2.1 ∧ t = (rdp k N lo hi mo lp e).1.2.2.2 ∧ e' = (rdp k N lo hi mo lp e).2.2 ∧ (e' = 0 → l' = (rdp k N lo hi mo lp e).2.1) := by
  have h2 := tP_rdp k N lo hi mo lp e
  by_cases he : e = 0
  · rw [if_neg (by simpa using he), h2] at ht
    simp only [Prod.mk.injEq] at ht
    obtain ⟨h1, h2, h3, h4, h5, h6⟩ := ht
    exact ⟨h1.symm, h2.symm, h3.symm, h4.symm, h6.symm, fun _ => h5.symm⟩
  · rw [if_pos he, tP_err he] at ht
    rw [tP_err he] at h2
    simp only [Prod.mk.injEq] at ht h2
    obtain ⟨h1, h2', h3, h4, h5, h6⟩ := ht
    obtain ⟨g1, g2, g3, g4, g5, g6⟩ := h2
    refine ⟨h1.symm.trans g1, h2'.symm.trans g2, h3.symm.trans g3, h4.symm.trans g4, h6.symm.trans g6, fun h0 => ?_⟩
    exact (he (by rw [h6]; exact h0)).elim
theorem ba_self (t : ByteArray) : (t == t) = true := by cases t; exact beq_self_eq_true (α := Array UInt8) _
theorem extS_refl (S : List Nat) (h : Hp) : ExtS S h h := ⟨Nat.le_refl _, fun _ _ _ => rfl⟩
theorem end_eq {e : Int} {l : List Int} : (if e = 0 ∧ l ≠ [] then (12 : Int) else e) = (if e = 0 ∧ (if e ≠ 0 then [] else l) ≠ [] then 12 else e) := by
  by_cases he : e = 0
  · rw [if_neg (show ¬ e ≠ 0 by simpa using he)]
  · rw [if_neg (fun h => he h.1), if_neg (fun h => he h.1)]
theorem codeReads_ok {h : Hp} {s rl : Sl} {l : List Int} {ps : List (StA PT)} (r : R8 h s l) (hb : By l) (hm : l.length ≤ 140737488355328) (R : IsRow (vsA PT) 8 h rl ps) (hpl : ps.length ≤ 4611686018427387904) (hmo : ∀ x ∈ ps, I64 (ptM x)) :
    C_law03_CodeReads s rl h fun t h' => t = true ∧ Ext h h' := by
  refine F_law03_CodeReads_ok _ _ _ _ (c_NewReader r hb hm fun pr s1 h1 q1 e1 hpr => push_to fun h2 b2 e2 z2 => let_to ?_)
  refine stores_blk (vs := [rsl s, .int .i64 0]) b2 rfl fun h3 b3 u3 _ z3 => ?_
  simp only [List.take_zero, List.nil_append] at b3
  show ∃ n, Lp (L1_law03_CodeReads rl (fun t h' => t = true ∧ Ext h h') (some ⟨pr, 0, none⟩) ⟨h1.size, 0, none⟩ (J1_law03_CodeReads (fun t h' => t = true ∧ Ext h h') (some ⟨pr, 0, none⟩) ⟨h1.size, 0, none⟩)) n ((0, ()), h3)
  have hprlt := q1.b.lt
  have hs1 := e1.size
  have x3 : Ext h h3 := (e1.trans e2).only_new u3 hs1
  have q3 : RQ h3 pr s1 l 0 := (q1.ext e2).only u3 (by omega) (fun a ha => by have := q1.lt a ha; omega)
  have hrl := R.len
  refine Lp.inv (fun st => ∃ (k : Nat) (sp sr : Sl) (lp : List Int) (e : Int), st.1.1 = (k : Int) ∧ k ≤ ps.length ∧ Ext h st.2 ∧ RQ st.2 pr sp lp e ∧ Blk st.2 h1.size #[rsl sr, .int .i64 e] ∧ R8 h sr (if e ≠ 0 then [] else lp) ∧ lp.length ≤ 140737488355328) (fun st => ps.length - st.1.1.toNat) ?_ ⟨0, s1, s, l, 0, rfl, by omega, x3, q3, b3, by simpa using r, hm⟩
  rintro ⟨⟨i, ⟨⟩⟩, g⟩ R' ⟨k, sp, sr, lp, e, hi, hk, xg, q, bq, rr, hlp⟩ hR
  simp only at hi xg q bq
  subst hi
  unfold L1_law03_CodeReads
  dsimp only
  refine cnd_dec.2 ⟨fun hlt => ?_, fun hge => ?_⟩
  · have hkl : k < ps.length := by omega
    have hx : ps[k]? = some (ps[k]'hkl) := List.getElem?_eq_getElem hkl
    have hxm : I64 (ptM (ps[k]'hkl)) := hmo _ (List.getElem_mem hkl)
    generalize (ps[k]'hkl) = x at hx hxm
    have hpn : ps ≠ [] := fun h => by rw [h] at hkl; simp at hkl
    obtain ⟨ad, hra⟩ := R.at_ hpn
    have el : ∀ g', Ext h g' → cellsAt g' (ad.add ((k : Int).toNat * 8)) (vsA PT x) := fun g' e' => by
      have := ld_row (R.ext e') (i := (k : Int)) (x := x) (by omega) (by rw [Int.toNat_natCast]; exact hx) (K := fun p => cellsAt g' p (vsA PT x)) (fun a ha hc => hc)
      rw [hra] at this
      exact this.2
    have hlb : By (if e ≠ 0 then [] else lp) := by split; (· intro c hc; cases hc); (· exact q.by_)
    have hll : (if e ≠ 0 then [] else lp).length ≤ 140737488355328 := by split; (· simp); (· exact hlp)
    have G := @rd_reg h1.size sr e g bq rl (k : Int) ad hra ⟨by omega, hlt⟩ x (fun g' e' => el g' (xg.trans e'))
      (fun Y Z => ∃ (n i : Int) (f : Bool) (t : ByteArray) (l' : List Int) (e' : Int) (s' : Sl), Y = (ptK x, n, i, f, t, 0, 0, 0, ()) ∧ Z = (s', e', ()) ∧ tP (ptK x) (ptN x) (ptL x) (ptH x) (ptM x) (if e ≠ 0 then [] else lp) e = (n, i, f, bts t, l', e') ∧ R8 h s' (if e' ≠ 0 then [] else l'))
      (fun g' e' K' hK' => r_Take (I := ptI x) (F := ptF x) (T := ptT x) (K := fun k n i f t a b c s' e' h' => K' (resV (k, n, i, f, t, a, b, c, ()) (s', e', ())) h') rr (xg.trans e') hlb hll hxm (fun he => by rw [if_pos he]) (fun n i f t l' e' s' h' ht x' hr _ => hK' _ _ h' x' ⟨n, i, f, t, l', e', s', rfl, rfl, ht, hr⟩))
    unfold rdOps at G
    refine G fun p q' Y Z h4 hC bp bqq hne hp hq x4 => ?_
    clear G
    obtain ⟨n, i, f, t, l', e', s', rfl, rfl, ht, hr⟩ := hC
    have hpb := bq.lt
    refine ldA_blk (s := .sl) (i := 0) (x := s') bqq rfl (ldA_blk (s := .int .i64) (i := 1) (x := e') bqq rfl ?_)
    refine stores_blk (vs := [rsl s', .int .i64 e']) (bq.ext x4) rfl fun h5 b5 u5 _ z5 => ?_
    simp only [List.take_zero, List.nil_append] at b5
    have x5 : Ext h h5 := (xg.trans x4).only_new u5 hs1
    have q5 : RQ h5 pr sp lp e := (q.ext x4).only u5 (by omega) (fun a ha => by have := q.lt a ha; omega)
    have bp5 := bp.only u5 (by omega)
    refine ⟨[pr], ld_row (R.ext x5) (i := (k : Int)) (x := x) (by omega) (by rw [Int.toNat_natCast]; exact hx) fun a ha hc => ⟨?_, ?_⟩⟩
    · have := notAt_of encPT8 (by decide) R hpr hpn a ha
      rw [add_block]
      simpa using this
    refine ldA_row0 (s := .int .i64) (x := ptK x) hc rfl (ldA_row (s := .int .u64) (j := 1) (x := ptN x) hc rfl (ldA_row (s := .int .i64) (j := 2) (x := ptI x) hc rfl (ldA_row (s := .bool) (j := 3) (x := ptF x) hc rfl (ldA_row (s := .str) (j := 4) (x := ptT x) hc rfl (ldA_row (s := .int .i64) (j := 5) (x := ptL x) hc rfl (ldA_row (s := .int .i64) (j := 6) (x := ptH x) hc rfl (ldA_row (s := .int .i64) (j := 7) (x := ptM x) hc rfl ?_)))))))
    refine c_rtake q5 hxm hlp fun t2 s2 h6 ht2 q6 o6 => ⟨o6.extS, ?_⟩
    obtain ⟨hn, hi, hf, htt, he, hl⟩ := same_take ht
    have hlen := @rdp_len (ptK x) (ptN x) (ptL x) (ptH x) (ptM x) lp e
    obtain rfl : t2 = t := bts_inj (ht2.trans htt.symm)
    rw [← hn, ← hi, ← hf]
    rw [← he] at q6
    refine ⟨by show p ∉ [pr]; simp; omega, ?_⟩
    refine ldA_blk (s := .int .i64) (i := 0) (x := ptK x) bp5 rfl (ldA_blk (s := .int .u64) (i := 1) (x := n) bp5 rfl (ldA_blk (s := .int .i64) (i := 2) (x := i) bp5 rfl (ldA_blk (s := .bool) (i := 3) (x := f) bp5 rfl (ldA_blk (s := .str) (i := 4) (x := t2) bp5 rfl (ldA_blk (s := .int .i64) (i := 5) (x := 0) bp5 rfl (ldA_blk (s := .int .i64) (i := 6) (x := 0) bp5 rfl (ldA_blk (s := .int .i64) (i := 7) (x := 0) bp5 rfl ?_)))))))
    refine cnd_no (by simp [ba_self]) ?_
    have x6 : Ext h h6 := x5.only_new o6 hpr
    have b6 := b5.only o6 (by omega)
    have rl' : R8 h s' (if e' ≠ 0 then [] else (rdp (ptK x) (ptN x) (ptL x) (ptH x) (ptM x) lp e).2.1) := by
      by_cases h0 : e' = 0
      · rw [if_neg (by simpa using h0)] at hr ⊢; rw [← hl h0]; exact hr
      · rw [if_pos h0] at hr ⊢; exact hr
    have hpbn : h1.size ∉ [pr] := by simp; omega
    refine c_Left q6 ⟨extS_refl _ _, hpbn, ldA_blk (s := .sl) (i := 0) (x := s') b6 rfl (cnd_bne.2 ⟨fun hne => (hne ?_).elim, fun _ => ?_⟩)⟩
    · rw [rl'.len]
      by_cases h0 : e' = 0
      · rw [if_neg (by simpa using h0), if_neg (by simpa using h0)]
      · rw [if_pos h0, if_pos h0]; rfl
    refine c_End q6 ⟨extS_refl _ _, hpbn, ldA_blk (s := .sl) (i := 0) (x := s') b6 rfl (ldA_blk (s := .int .i64) (i := 1) (x := e') b6 rfl ?_)⟩
    refine r_End (rl'.ext x6) fun h7 e7 => cnd_bne.2 ⟨fun hne => (hne end_eq).elim, fun _ => let_to ?_⟩
    rw [wrap_i64 (by omega) (by omega)]
    exact hR _ ⟨k + 1, s2, s', _, e', by simp, by omega, x6.trans e7, q6.ext e7, b6.ext e7, rl', by omega⟩ (by simp only; omega)
  · unfold J1_law03_CodeReads
    refine ⟨[], c_End q ⟨extS_refl _ _, by simp, ldA_blk (s := .sl) (i := 0) (x := sr) bq rfl (ldA_blk (s := .int .i64) (i := 1) (x := e) bq rfl ?_)⟩⟩
    exact r_End (rr.ext xg) fun h7 e7 => cnd_yes (beq_iff_eq.2 end_eq) (c_lives fun h8 e8 => ⟨rfl, (xg.trans e7).trans e8⟩)
end Go.Proofs.YtojihngfbodeoaaF
