/- Chapter 45, ReportShape: the document's answer, and that the statement answers true. No condition. -/
import Derived.Test.YtaakopekdpopnaaShape
namespace Go.Proofs.YtaakopekdpopnaaF
open Go Go.Proofs.YtaakopekdpopnaaK
set_option linter.unusedSimpArgs false
set_option linter.unusedVariables false

abbrev SV (s : Sl) : Value := .slice s.a s.len s.cap
abbrev sl0 : Sl := ⟨none, 0, 0⟩
theorem r64_nil (h : Hp) : R64 h sl0 [] := IsRow.nil _ _ _ 0

theorem par_J2 {sb sv sm sp sr s0 s1 : Sl} {d : Int} {l0 l1 : List Int} {mn : List (StA MN)} {h h0 : Hp} {b0 b1 : Nat} {K : Sl → Hp → Prop} (im : Blk h b0 #[SV sb, SV sv, SV sm, .int .i64 d, SV sp, SV sr]) (ls : Blk h b1 #[SV s0, SV s1, SV sl0])
    (f : Ext h0 h) (hb0 : h0.size ≤ b0) (hb1 : b0 < b1) (rm : IsRow (vsA MN) 3 h0 sm mn) (hm : mn.length * 8 ≤ 140737488355328) (r0 : R64 h s0 l0) (r1 : R64 h s1 l1)
    (t0 : ∀ a, s0.a = some a → a.block < h.size ∧ a.block ≠ b1) (t1 : ∀ a, s1.a = some a → a.block < h.size ∧ a.block ≠ b1)
    (hk : ∀ h' s2, Blk h' b1 #[SV s0, SV s1, SV s2] → R64 h' s0 l0 → R64 h' s1 l1 → R64 h' s2 (mn.map mnPar) → Ext h0 h' → K ⟨some ⟨b1, 0, none⟩, 3, 3⟩ h') :
    J2_ref45_parents K ⟨b0, 0, none⟩ ⟨some ⟨b1, 0, none⟩, 3, 3⟩ () h := by
  have hlt := ls.lt
  unfold J2_ref45_parents
  refine Lp.inv (fun st => ∃ (k : Nat) (s2 : Sl), st.1.1 = (k : Int) ∧ k ≤ mn.length ∧ OwnRow (encI .i64) 1 h.size st.2 s2 ((mn.take k).map mnPar) ∧ Blk st.2 b0 #[SV sb, SV sv, SV sm, .int .i64 d, SV sp, SV sr] ∧ Blk st.2 b1 #[SV s0, SV s1, SV s2] ∧ R64 st.2 s0 l0 ∧ R64 st.2 s1 l1 ∧ Ext h0 st.2 ∧ h.size ≤ st.2.size)
    (fun st => mn.length - st.1.1.toNat) ?_ ⟨0, sl0, rfl, by omega, by simpa using OwnRow.nil _ _ _ _, im, ls, r0, r1, f, Nat.le_refl _⟩
  rintro ⟨⟨i, ⟨⟩⟩, g1⟩ R ⟨k, s2, rfl, hk1, o1, im1, ls1, q0, q1, f1, sz1⟩ hR
  simp only at o1 im1 ls1 q0 q1 f1 hk1 sz1
  unfold L1_ref45_parents
  dsimp only
  refine ldA_blk (s := .sl) (i := 2) (x := sm) im1 rfl (cnd_dec.2 ⟨fun hlt2 => ?_, fun hge => ?_⟩)
  · rw [rm.len] at hlt2
    have hkl : k < mn.length := by omega
    have hx : mn[k]? = some mn[k] := List.getElem?_eq_getElem hkl
    have htk := take_snoc hx
    refine idx_blk (by omega) (ldA_blk (s := .sl) (x := s2) ls1 rfl (ldA_blk (s := .sl) (i := 2) (x := sm) im1 rfl ?_))
    refine ld_row (i := (k : Int)) (x := mn[k]) (rm.ext f1) (by omega) (by rw [Int.toNat_natCast]; exact hx) fun a ha hc => ?_
    refine ldA_row (s := .int .i64) (j := 1) (x := mnPar mn[k]) hc rfl ?_
    refine app1x encI64 (by omega) o1 sz1 (by simp; omega) (by simp) rfl (mnPar mn[k]) rfl fun s3 g3 o3 os3 bl3 _ => ?_
    rw [← List.map_singleton, ← List.map_append, htk] at o3
    have sz3 := os3.1
    have hsz := f.size
    refine idx_blk (by omega) ⟨rfl, set_to (ls1.bel bl3 hlt) (by simp) fun g4 w4 q4 _ y4 => let_to ?_⟩
    simp only [List.setIfInBounds_toArray, List.set_cons_succ, List.set_cons_zero, show (2 : Int).toNat * 1 = 2 from rfl] at w4
    rw [wrap_i64 (by omega) (by omega)]
    refine hR _ ⟨k + 1, s3, by simp, by omega, o3.only q4 hlt, (im1.bel bl3 (by omega)).only q4 (by omega), w4, (q0.bel (fun a ha => (t0 a ha).1) bl3).only q4 fun a ha => (t0 a ha).2, (q1.bel (fun a ha => (t1 a ha).1) bl3).only q4 fun a ha => (t1 a ha).2,
      (f1.bel.trans (bl3.mono (by omega))).ext.only_new q4 (by omega), by simp only; omega⟩ (by simp only; omega)
  · rw [rm.len] at hge
    have : k = mn.length := by omega
    subst this
    rw [List.take_length] at o1
    exact hk _ s2 ls1 q0 q1 o1.row f1
theorem par_J1 {sb sv sm sp sr s0 : Sl} {d : Int} {l0 : List Int} {vp : List (StA VP)} {mn : List (StA MN)} {h h0 : Hp} {b0 b1 : Nat} {K : Sl → Hp → Prop} (im : Blk h b0 #[SV sb, SV sv, SV sm, .int .i64 d, SV sp, SV sr]) (ls : Blk h b1 #[SV s0, SV sl0, SV sl0])
    (f : Ext h0 h) (hb0 : h0.size ≤ b0) (hb1 : b0 < b1) (rv : IsRow (vsA VP) 14 h0 sv vp) (rm : IsRow (vsA MN) 3 h0 sm mn) (hv : vp.length * 8 ≤ 140737488355328) (hm : mn.length * 8 ≤ 140737488355328) (r0 : R64 h s0 l0)
    (t0 : ∀ a, s0.a = some a → a.block < h.size ∧ a.block ≠ b1)
    (hk : ∀ h' s1 s2, Blk h' b1 #[SV s0, SV s1, SV s2] → R64 h' s0 l0 → R64 h' s1 (vp.map vpPar) → R64 h' s2 (mn.map mnPar) → Ext h0 h' → K ⟨some ⟨b1, 0, none⟩, 3, 3⟩ h') :
    J1_ref45_parents K ⟨b0, 0, none⟩ ⟨some ⟨b1, 0, none⟩, 3, 3⟩ () h := by
  have hlt := ls.lt
  unfold J1_ref45_parents
  rw [Jn_eq]
  refine Lp.inv (fun st => ∃ (k : Nat) (s2 : Sl), st.1.1 = (k : Int) ∧ k ≤ vp.length ∧ OwnRow (encI .i64) 1 h.size st.2 s2 ((vp.take k).map vpPar) ∧ Blk st.2 b0 #[SV sb, SV sv, SV sm, .int .i64 d, SV sp, SV sr] ∧ Blk st.2 b1 #[SV s0, SV s2, SV sl0] ∧ R64 st.2 s0 l0 ∧ Ext h0 st.2 ∧ h.size ≤ st.2.size)
    (fun st => vp.length - st.1.1.toNat) ?_ ⟨0, sl0, rfl, by omega, by simpa using OwnRow.nil _ _ _ _, im, ls, r0, f, Nat.le_refl _⟩
  rintro ⟨⟨i, ⟨⟩⟩, g1⟩ R ⟨k, s2, rfl, hk1, o1, im1, ls1, q0, f1, sz1⟩ hR
  simp only at o1 im1 ls1 q0 f1 hk1 sz1
  unfold L2_ref45_parents
  dsimp only
  refine ldA_blk (s := .sl) (i := 1) (x := sv) im1 rfl (cnd_dec.2 ⟨fun hlt2 => ?_, fun hge => ?_⟩)
  · rw [rv.len] at hlt2
    have hkl : k < vp.length := by omega
    have hx : vp[k]? = some vp[k] := List.getElem?_eq_getElem hkl
    have htk := take_snoc hx
    refine idx_blk (by omega) (ldA_blk (s := .sl) (x := s2) ls1 rfl (ldA_blk (s := .sl) (i := 1) (x := sv) im1 rfl ?_))
    refine ld_row (i := (k : Int)) (x := vp[k]) (rv.ext f1) (by omega) (by rw [Int.toNat_natCast]; exact hx) fun a ha hc => ?_
    refine ldA_row (s := .int .i64) (j := 7) (x := vpPar vp[k]) hc rfl ?_
    refine app1x encI64 (by omega) o1 sz1 (by simp; omega) (by simp) rfl (vpPar vp[k]) rfl fun s3 g3 o3 os3 bl3 _ => ?_
    rw [← List.map_singleton, ← List.map_append, htk] at o3
    have sz3 := os3.1
    have hsz := f.size
    refine idx_blk (by omega) ⟨rfl, set_to (ls1.bel bl3 hlt) (by simp) fun g4 w4 q4 _ y4 => let_to ?_⟩
    simp only [List.setIfInBounds_toArray, List.set_cons_succ, List.set_cons_zero, show (1 : Int).toNat * 1 = 1 from rfl] at w4
    rw [wrap_i64 (by omega) (by omega)]
    refine hR _ ⟨k + 1, s3, by simp, by omega, o3.only q4 hlt, (im1.bel bl3 (by omega)).only q4 (by omega), w4, (q0.bel (fun a ha => (t0 a ha).1) bl3).only q4 fun a ha => (t0 a ha).2,
      (f1.bel.trans (bl3.mono (by omega))).ext.only_new q4 (by omega), by simp only; omega⟩ (by simp only; omega)
  · rw [rv.len] at hge
    have : k = vp.length := by omega
    subst this
    rw [List.take_length] at o1
    exact par_J2 im1 ls1 f1 hb0 hb1 rm hm q0 o1.row (fun a ha => ⟨by have := (t0 a ha).1; omega, (t0 a ha).2⟩) (fun a ha => ⟨o1.lt a ha, by have := o1.above a ha; omega⟩) fun h' s3 => hk h' s2 s3
theorem r_parents {sb sv sm sp sr : Sl} {d : Int} {bk : List (StA BK)} {vp : List (StA VP)} {mn : List (StA MN)} {h : Hp} {K : Sl → Hp → Prop} (rb : IsRow (vsA BK) 7 h sb bk) (rv : IsRow (vsA VP) 14 h sv vp) (rm : IsRow (vsA MN) 3 h sm mn)
    (hb : bk.length * 8 ≤ 140737488355328) (hv : vp.length * 8 ≤ 140737488355328) (hm : mn.length * 8 ≤ 140737488355328)
    (hk : ∀ h' b s0 s1 s2, Blk h' b #[SV s0, SV s1, SV s2] → R64 h' s0 (bk.map bkPar) → R64 h' s1 (vp.map vpPar) → R64 h' s2 (mn.map mnPar) → Ext h h' → K ⟨some ⟨b, 0, none⟩, 3, 3⟩ h') :
    C_ref45_parents sb sv sm d sp sr h K := by
  refine F_ref45_parents_ok _ _ _ _ _ _ _ _ (push_to fun h1 w1 u1 y1 => let_to ?_)
  refine mk_blk (n := 3) (by rfl) (by rfl) (by decide) (cs := #[SV sl0, SV sl0, SV sl0]) (by rfl) (by rfl) fun h2 w2 u2 y2 => ?_
  rw [Jn_eq]
  refine Lp.inv (fun st => ∃ (k : Nat) (s2 : Sl), st.1.1 = (k : Int) ∧ k ≤ bk.length ∧ OwnRow (encI .i64) 1 h2.size st.2 s2 ((bk.take k).map bkPar) ∧ Blk st.2 h.size #[SV sb, SV sv, SV sm, .int .i64 d, SV sp, SV sr] ∧ Blk st.2 h1.size #[SV s2, SV sl0, SV sl0] ∧ Ext h st.2 ∧ h2.size ≤ st.2.size)
    (fun st => bk.length - st.1.1.toNat) ?_ ⟨0, sl0, rfl, by omega, by simpa using OwnRow.nil _ _ _ _, w1.ext u2, w2, u1.trans u2, Nat.le_refl _⟩
  rintro ⟨⟨i, ⟨⟩⟩, g1⟩ R ⟨k, s2, rfl, hk1, o1, im1, ls1, f1, sz1⟩ hR
  simp only at o1 im1 ls1 f1 hk1 sz1
  unfold L3_ref45_parents
  dsimp only
  refine ldA_blk (s := .sl) (x := sb) im1 rfl (cnd_dec.2 ⟨fun hlt2 => ?_, fun hge => ?_⟩)
  · rw [rb.len] at hlt2
    have hkl : k < bk.length := by omega
    have hx : bk[k]? = some bk[k] := List.getElem?_eq_getElem hkl
    have htk := take_snoc hx
    refine idx_blk (by omega) (ldA_blk (s := .sl) (x := s2) ls1 rfl (ldA_blk (s := .sl) (x := sb) im1 rfl ?_))
    refine ld_row (i := (k : Int)) (x := bk[k]) (rb.ext f1) (by omega) (by rw [Int.toNat_natCast]; exact hx) fun a ha hc => ?_
    refine ldA_row (s := .int .i64) (j := 5) (x := bkPar bk[k]) hc rfl ?_
    refine app1x encI64 (by omega) o1 sz1 (by simp; omega) (by simp) rfl (bkPar bk[k]) rfl fun s3 g3 o3 os3 bl3 _ => ?_
    rw [← List.map_singleton, ← List.map_append, htk] at o3
    have sz3 := os3.1
    refine idx_blk (by omega) ⟨rfl, set_to (ls1.bel bl3 (by omega)) (by simp) fun g4 w4 q4 _ y4 => let_to ?_⟩
    simp only [List.setIfInBounds_toArray, List.set_cons_succ, List.set_cons_zero, show (0 : Int).toNat * 1 = 0 from rfl] at w4
    rw [wrap_i64 (by omega) (by omega)]
    refine hR _ ⟨k + 1, s3, by simp, by omega, o3.only q4 (by omega), (im1.bel bl3 (by omega)).only q4 (by omega), w4, (f1.bel.trans (bl3.mono (by omega))).ext.only_new q4 (by omega), by simp only; omega⟩ (by simp only; omega)
  · rw [rb.len] at hge
    have : k = bk.length := by omega
    subst this
    rw [List.take_length] at o1
    exact par_J1 im1 ls1 f1 (Nat.le_refl _) (by omega) rv rm hv hm o1.row (fun a ha => ⟨o1.lt a ha, by have := o1.above a ha; omega⟩) fun h' s1 s3 => hk h' h1.size s2 s1 s3
end Go.Proofs.YtaakopekdpopnaaF
