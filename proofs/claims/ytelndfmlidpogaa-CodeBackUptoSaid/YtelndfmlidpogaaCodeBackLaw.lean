/- Chapter 3: the law of there and back. No condition. -/
import Derived.Test.YtelndfmlidpogaaCodeBack
namespace Go.Proofs.YtelndfmlidpogaaF
open Go Go.Proofs.YtelndfmlidpogaaK
set_option linter.unusedSimpArgs false
set_option linter.unusedVariables false

theorem WS.bel {p : Nat} {s s' : Sl} {h h' : Hp} {l : List Int} (w : WS p s h s' h') (q : WQ h p s l) : Bel p h h' :=
  ⟨w.o.1, fun i hi => w.o.2 i (by have := q.b.lt; omega) (by omega) fun a ha => by have := q.o.above a ha; omega⟩
theorem strEq_of {a b : ByteArray} (h : bts a = bts b) : strEq a b = true := by
  unfold bts at h
  have e : a.data.toList = b.data.toList := by
    have inj : ∀ (l m : List UInt8), l.map (fun b => (b.toNat : Int)) = m.map (fun b => (b.toNat : Int)) → l = m := by
      intro l
      induction l with
      | nil => intro m h; cases m <;> simp_all
      | cons x l ih =>
        intro m h
        cases m with
        | nil => simp at h
        | cons y m =>
          simp only [List.map_cons, List.cons.injEq] at h
          have h1 : x.toNat = y.toNat := by omega
          rw [UInt8.toNat_inj.1 h1, ih m h.2]
    exact inj _ _ h
  have e2 : a = b := by
    cases a with | mk da => cases b with | mk db => simp only at e; rw [Array.ext' e]
  subst e2
  unfold strEq; simp
theorem codeBack_ok {s sb : Sl} {l : List (StA PT)} {b : List Int} {h : Hp} (r : IsRow (vsA PT) 8 h s l) (hf : Few l) (hM : ∀ x ∈ l, I64 (ptM x)) (rb : R8 h sb b) (hb : By b) (hl : l.length ≤ 1048576) (hbl : b.length ≤ 1048576) : C_law03_CodeBack s sb h fun b h' => b = true ∧ Ext h h' := by
  have hblt := fun hl => r.blt encPT (by decide) hl
  have hls := r.len
  have hlen : (l.flatMap pbs).length ≤ 140737488355328 := by
    have := pbs_all (l := l) fun x hx => ⟨hf.2 x hx, by have := hf.tx hx; omega⟩
    have := hf.1
    omega
  refine F_law03_CodeBack_ok _ _ _ _ (w_New fun h1 e1 q1 => ?_)
  refine w_write q1 (r.ext e1) hf (fun hl a ha => hblt hl a ha) fun s2 h2 q2 w2 => ?_
  have x2 := w2.ext q1 e1 (Nat.le_refl _)
  refine w_Bytes q2 hlen fun s3 h3 o3 e3 => ?_
  have hby : By (l.flatMap pbs) := fun c hc => by
    obtain ⟨x, hx, hc⟩ := List.mem_flatMap.1 hc
    have hv : ∀ n, By (vb n) := fun n => by
      induction n using Nat.strongRecOn with
      | _ n ih =>
        by_cases h : n < 128
        · rw [vb_small h]; intro c hc; simp at hc; omega
        · rw [vb_big h]
          intro c hc
          rcases List.mem_cons.1 hc with e | hc
          · omega
          · exact ih (n / 128) (by omega) c hc
    unfold pbs at hc
    split at hc
    · exact hv _ c hc
    · split at hc
      · exact hv _ c hc
      · split at hc
        · exact hv _ c hc
        · rcases List.mem_append.1 hc with hc | hc
          · exact hv _ c hc
          · obtain ⟨u, _, rfl⟩ := List.mem_map.1 hc
            have := u.toNat_lt
            omega
  refine c_NewReader o3.row hby hlen fun p s4 h4 q4 e4 hp => ?_
  have x4 := x2.trans (e3.trans e4)
  have hp0 : h.size ≤ p := by have := x2.size; have := e3.size; omega
  rw [Jn_eq]
  refine Lp.inv (fun st => ∃ (k : Nat) (s' : Sl), st.1.1 = (k : Int) ∧ k ≤ l.length ∧ RQ st.2 p s' ((l.drop k).flatMap pbs) 0 ∧ Ext h st.2) (fun st => l.length - st.1.1.toNat) ?_ ⟨0, s4, rfl, by omega, by simpa using q4, x4⟩
  rintro ⟨⟨i, ⟨⟩⟩, g⟩ R ⟨k, s5, rfl, hk, q5, x5⟩ hR
  simp only at hk q5 x5
  unfold L2_law03_CodeBack
  dsimp only
  refine cnd_dec.2 ⟨fun hlt => ?_, fun hge => ?_⟩
  · have hkl : k < l.length := by omega
    have hx : l[k]? = some l[k] := List.getElem?_eq_getElem hkl
    have hx' : l[(k : Int).toNat]? = some l[k] := hx
    have hm : l[k] ∈ l := List.mem_of_getElem? hx
    have ok := hf.2 _ hm
    have htx := hf.tx hm
    have hdk : l.drop k = l[k] :: l.drop (k + 1) := List.drop_eq_getElem_cons hkl
    rw [hdk, List.flatMap_cons] at q5
    have hlr : (pbs l[k] ++ (l.drop (k + 1)).flatMap pbs).length ≤ 140737488355328 := by
      rw [← List.flatMap_cons, ← hdk]
      have e := congrArg List.length (List.flatMap_append (f := pbs) (xs := l.take k) (ys := l.drop k))
      rw [List.take_append_drop, List.length_append] at e
      omega
    refine ld_row (i := (k : Int)) (x := l[k]) (r.ext x5) (by omega) hx' fun a ha hc => ldA_row0 (s := .int .i64) (x := ptK l[k]) hc rfl (ldA_row (s := .int .u64) (x := ptN l[k]) hc rfl (ldA_row (s := .int .i64) (x := ptI l[k]) hc rfl (ldA_row (s := .bool) (x := ptF l[k]) hc rfl (ldA_row (s := .str) (x := ptT l[k]) hc rfl (ldA_row (s := .int .i64) (x := ptL l[k]) hc rfl (ldA_row (s := .int .i64) (x := ptH l[k]) hc rfl (ldA_row (s := .int .i64) (x := ptM l[k]) hc rfl (?_))))))))
    refine push_to fun g1 b1 e1 z1 => let_to ?_
    refine stores_blk (vs := [.int .i64 (ptK l[k]), .int .u64 (ptN l[k]), .int .i64 (ptI l[k]), .bool (ptF l[k]), .string (ptT l[k]), .int .i64 (ptL l[k]), .int .i64 (ptH l[k]), .int .i64 (ptM l[k])]) b1 rfl fun g2 b2 u2 _ z2 => ?_
    simp only [List.take_zero, List.nil_append] at b2
    have y2 : Ext g g2 := e1.only_new u2 (Nat.le_refl _)
    refine ldA_blk (s := .int .i64) (i := 0) (x := ptK l[k]) b2 rfl (ldA_blk (s := .int .u64) (i := 1) (x := ptN l[k]) b2 rfl (ldA_blk (s := .int .i64) (i := 2) (x := ptI l[k]) b2 rfl (ldA_blk (s := .int .i64) (i := 2) (x := ptI l[k]) b2 rfl (ldA_blk (s := .str) (i := 4) (x := ptT l[k]) b2 rfl (?_)))))
    have back := rdp_back ok htx ((l.drop (k + 1)).flatMap pbs)
    refine c_rtake (q5.ext y2) ⟨by omega, by omega⟩ hlr fun t s6 g3 ht q6 o6 => ?_
    rw [back.1] at q6
    simp only at q6
    have pg := q5.b.lt
    have c2 : Blk g3 g.size #[.int .i64 (ptK l[k]), .int .u64 (ptN l[k]), .int .i64 (ptI l[k]), .bool (ptF l[k]), .string (ptT l[k]), .int .i64 (ptL l[k]), .int .i64 (ptH l[k]), .int .i64 (ptM l[k])] := b2.only o6 (by omega)
    obtain ⟨_, bk0, bk1, bk2, bk3⟩ := back
    generalize rdp (ptK l[k]) (ptN l[k]) (ptI l[k]) (ptI l[k]) (ptT l[k]).size (pbs l[k] ++ (l.drop (k + 1)).flatMap pbs) 0 = w at ht bk0 bk1 bk2 bk3 ⊢
    obtain ⟨⟨wn, wi, wf, wt⟩, wl, we⟩ := w
    simp only at ht bk0 bk1 bk2 bk3 ⊢
    refine push_to fun g4 b4 e4' z4 => let_to ?_
    refine stores_blk (vs := [.int .i64 (ptK l[k]), .int .u64 wn, .int .i64 wi, .bool wf, .string t, .int .i64 0, .int .i64 0, .int .i64 0]) b4 rfl fun g5 b5 u5 _ z5 => ?_
    simp only [List.take_zero, List.nil_append] at b5
    have sz1 := y2.size
    have sz3 := o6.size
    have d2 : Blk g5 g.size _ := (c2.ext e4').only u5 (by omega)
    have q7 : RQ g5 p s6 ((l.drop (k + 1)).flatMap pbs) 0 := (q6.ext e4').only u5 (by omega) fun a ha => by have := q6.lt a ha; omega
    have x7 : Ext h g5 := (((x5.trans y2).only_new o6 hp0).trans e4').only_new u5 (by have := x5.size; omega)
    have next : Let (IntKind.wrap .i64 ((k : Int) + 1)) fun t => R ((t, ()), g5) := by
      rw [Let_eq, wrap_i64 (by omega) (by omega)]
      exact hR _ ⟨k + 1, s6, by simp, by omega, q7, x7⟩ (by simp only; omega)
    refine ldA_blk (s := .int .i64) (i := 0) (x := ptK l[k]) d2 rfl (?_)
    by_cases k0 : ptK l[k] = 0
    · refine cnd_yes (by rw [beq_iff_eq]; exact k0) (ldA_blk (s := .int .u64) (i := 1) (x := wn) b5 rfl (ldA_blk (s := .int .u64) (i := 1) (x := ptN l[k]) d2 rfl (cnd_bne.2 ⟨fun hne => (hne (bk0 k0)).elim, fun _ => ?_⟩)))
      refine ldA_blk (s := .int .i64) (i := 0) (x := ptK l[k]) d2 rfl (cnd_no (by rw [k0]; rfl) (ldA_blk (s := .int .i64) (i := 0) (x := ptK l[k]) d2 rfl (cnd_no (by rw [k0]; rfl) (ldA_blk (s := .int .i64) (i := 0) (x := ptK l[k]) d2 rfl (cnd_no (by rw [k0]; rfl) (ldA_blk (s := .int .i64) (i := 0) (x := ptK l[k]) d2 rfl (cnd_no (by rw [k0]; rfl) next)))))))
    · refine cnd_no (by rw [beq_eq_false_iff_ne]; exact k0) (ldA_blk (s := .int .i64) (i := 0) (x := ptK l[k]) d2 rfl (?_))
      by_cases k1 : ptK l[k] = 1
      · refine cnd_yes (by rw [beq_iff_eq]; exact k1) (ldA_blk (s := .int .i64) (i := 2) (x := wi) b5 rfl (ldA_blk (s := .int .i64) (i := 2) (x := ptI l[k]) d2 rfl (cnd_bne.2 ⟨fun hne => (hne (bk1 k1)).elim, fun _ => ?_⟩)))
        refine ldA_blk (s := .int .i64) (i := 0) (x := ptK l[k]) d2 rfl (cnd_no (by rw [k1]; rfl) (ldA_blk (s := .int .i64) (i := 0) (x := ptK l[k]) d2 rfl (cnd_no (by rw [k1]; rfl) (ldA_blk (s := .int .i64) (i := 0) (x := ptK l[k]) d2 rfl (cnd_no (by rw [k1]; rfl) next)))))
      · refine cnd_no (by rw [beq_eq_false_iff_ne]; exact k1) (ldA_blk (s := .int .i64) (i := 0) (x := ptK l[k]) d2 rfl (?_))
        by_cases k2 : ptK l[k] = 2
        · refine cnd_yes (by rw [beq_iff_eq]; exact k2) (ldA_blk (s := .bool) (i := 3) (x := wf) b5 rfl (ldA_blk (s := .bool) (i := 3) (x := ptF l[k]) d2 rfl (cnd_no (by rw [bk2 k2]; simp) ?_)))
          refine ldA_blk (s := .int .i64) (i := 0) (x := ptK l[k]) d2 rfl (cnd_no (by rw [k2]; rfl) (ldA_blk (s := .int .i64) (i := 0) (x := ptK l[k]) d2 rfl (cnd_no (by rw [k2]; rfl) next)))
        · have hs : strEq t (ptT l[k]) = true := strEq_of (ht.trans (bk3 k0 k1 k2))
          refine cnd_no (by rw [beq_eq_false_iff_ne]; exact k2) (ldA_blk (s := .int .i64) (i := 0) (x := ptK l[k]) d2 rfl (cnd_dec.2 ⟨fun hneg => ?_, fun hpos => ?_⟩))
          · refine ldA_blk (s := .str) (i := 4) (x := t) b5 rfl (ldA_blk (s := .str) (i := 4) (x := ptT l[k]) d2 rfl (cnd_no (by rw [hs]; rfl) next))
          · refine ldA_blk (s := .int .i64) (i := 0) (x := ptK l[k]) d2 rfl (cnd_dec.2 ⟨fun hbig => ?_, fun hno => ?_⟩)
            · refine ldA_blk (s := .str) (i := 4) (x := t) b5 rfl (ldA_blk (s := .str) (i := 4) (x := ptT l[k]) d2 rfl (cnd_no (by rw [hs]; rfl) next))
            · omega
  · obtain rfl : k = l.length := by omega
    rw [List.drop_length, List.flatMap_nil] at q5
    clear hR R
    unfold J1_law03_CodeBack
    refine c_End q5 (cnd_no (by simp) ?_)
    refine c_NewReader (rb.ext x5) hb (by omega) fun p6 s6 h6 q6 e6 hp6 => ?_
    have x6 := x5.trans e6
    have hg := x5.size
    have hp6l := q6.b.lt
    rw [Jn_eq]
    refine Lp.inv (fun st => ∃ (k : Nat) (all : List (StA PT)) (sR : Sl) (lR : List Int) (eR : Int), st.1.2.1 = (k : Int) ∧ k ≤ l.length ∧ all.length = k ∧ RQ st.2 p6 sR lR eR ∧ OwnRow (vsA PT) 8 h6.size st.2 st.1.1 all ∧ (∀ x ∈ all, PtOk x) ∧ tsz all + lR.length ≤ b.length ∧ (eR = 0 → all.flatMap pbs ++ lR = b) ∧ Ext h st.2 ∧ h6.size ≤ st.2.size) (fun st => l.length - st.1.2.1.toNat) ?_
      ⟨0, [], s6, b, 0, rfl, by omega, rfl, q6, OwnRow.nil _ _ _ _, fun x hx => (by cases hx), by simp [tsz], fun _ => rfl, x6, Nat.le_refl _⟩
    rintro ⟨⟨sA, i, ⟨⟩⟩, g⟩ R ⟨k, all, sR, lR, eR, rfl, hk2, hal, q7, oA, okA, hts, heq, x7, sz7⟩ hR
    simp only at hk2 hal q7 oA okA hts heq x7 sz7
    unfold L1_law03_CodeBack
    dsimp only
    refine cnd_dec.2 ⟨fun hlt => ?_, fun hge2 => ?_⟩
    · have hkl : k < l.length := by omega
      have hx : l[k]? = some l[k] := List.getElem?_eq_getElem hkl
      have hx' : l[(k : Int).toNat]? = some l[k] := hx
      have hm : l[k] ∈ l := List.mem_of_getElem? hx
      refine ld_row (i := (k : Int)) (x := l[k]) (r.ext x7) (by omega) hx' fun a ha hc => ldA_row0 (s := .int .i64) (x := ptK l[k]) hc rfl (ldA_row (s := .int .u64) (x := ptN l[k]) hc rfl (ldA_row (s := .int .i64) (x := ptI l[k]) hc rfl (ldA_row (s := .bool) (x := ptF l[k]) hc rfl (ldA_row (s := .str) (x := ptT l[k]) hc rfl (ldA_row (s := .int .i64) (x := ptL l[k]) hc rfl (ldA_row (s := .int .i64) (x := ptH l[k]) hc rfl (ldA_row (s := .int .i64) (x := ptM l[k]) hc rfl (?_))))))))
      refine c_rtake q7 (hM _ hm) (by omega) fun t s8 g2 ht q8 o8 => ?_
      have rlen := rdp_len (k := ptK l[k]) (N := ptN l[k]) (lo := ptL l[k]) (hi := ptH l[k]) (mo := ptM l[k]) (l := lR) (e := eR)
      have rok := rdp_ok (k := ptK l[k]) (N := ptN l[k]) (lo := ptL l[k]) (hi := ptH l[k]) (mo := ptM l[k]) (l := lR) (e := eR) q7.by_ t
      have rinv := @rdp_inv (ptK l[k]) (ptN l[k]) (ptL l[k]) (ptH l[k]) (ptM l[k]) lR eR q7.by_
      generalize rdp (ptK l[k]) (ptN l[k]) (ptL l[k]) (ptH l[k]) (ptM l[k]) lR eR = w at ht q8 rlen rok rinv ⊢
      obtain ⟨⟨wn, wi, wf, wt⟩, wl, we⟩ := w
      simp only at ht q8 rlen rok rinv ⊢
      have hts2 : t.size = wt.length := by rw [← bts_len, ht]
      have sz8 := o8.size
      have oA2 : OwnRow (vsA PT) 8 h6.size g2 sA all := oA.only o8 (by omega)
      refine app1 (x := ((ptK l[k], wn, wi, wf, t, 0, 0, 0, ()) : StA PT)) encPT (by decide) oA2 (by omega) (by omega) (by decide) rfl rfl fun sB g3 oB uB blB nB => let_to ?_
      rw [wrap_i64 (by omega) (by omega)]
      have x8 : Ext h g2 := x7.only_new o8 (by omega)
      refine hR _ ⟨k + 1, all ++ [(ptK l[k], wn, wi, wf, t, 0, 0, 0, ())], s8, wl, we, by simp, by omega, by simp [hal], q8.bel blB hp6l, oB, fun x hx => ?_, ?_, fun hz => ?_, (x8.bel.trans (blB.mono (by have := x6.size; omega))).ext, by show h6.size ≤ g3.size; have := uB.1; omega⟩ (by simp only; omega)
      · rcases List.mem_append.1 hx with hx | hx
        · exact okA x hx
        · simp at hx; subst hx; exact rok
      · rw [tsz_snoc]; show tsz all + t.size + wl.length ≤ b.length; omega
      · obtain ⟨e0, e1⟩ := rinv hz ht
        rw [List.flatMap_append, List.append_assoc]
        simp only [List.flatMap_cons, List.flatMap_nil, List.append_nil]
        rw [← e1]; exact heq e0
    · obtain rfl : k = l.length := by omega
      have hfa : Few all := ⟨by omega, okA⟩
      have hlen2 : (all.flatMap pbs).length ≤ 140737488355328 := by
        have := pbs_all (l := all) fun x hx => ⟨okA x hx, by have := hfa.tx hx; omega⟩
        have := hfa.1
        omega
      unfold J2_law03_CodeBack
      refine w_New fun h8 e8 q8 => ?_
      refine w_write q8 (oA.row.ext e8) hfa (fun _ a ha => oA.lt a ha) fun s9 h9 q9 w9 => ?_
      have x9 := w9.ext q8 (x7.trans e8) x7.size
      have qR := (q7.ext e8).bel (w9.bel q8) q7.b.lt
      refine c_End qR (cnd_bne.2 ⟨fun hne => ?_, fun hz => ?_⟩)
      · exact c_lives fun h10 e10 => ⟨rfl, x9.trans e10⟩
      · have hz2 : eR = 0 ∧ lR = [] := by
          by_cases hc : eR = 0 ∧ lR ≠ []
          · rw [if_pos hc] at hz; omega
          · rw [if_neg hc] at hz
            exact ⟨hz, Classical.byContradiction fun hn => hc ⟨hz, hn⟩⟩
        have hfin := heq hz2.1
        rw [hz2.2, List.append_nil] at hfin
        refine w_Bytes q9 hlen2 fun s10 h10 o10 e10 => ?_
        refine s_Same o10.row ((rb.ext x9).ext e10) hlen2 (cnd_yes (by rw [hfin]; simp) ?_)
        exact c_lives fun h11 e11 => ⟨rfl, (x9.trans e10).trans e11⟩
end Go.Proofs.YtelndfmlidpogaaF
