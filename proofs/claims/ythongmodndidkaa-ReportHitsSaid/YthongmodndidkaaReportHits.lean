/- Chapter 45: ReportHits. No condition. -/
import Derived.Test.YthongmodndidkaaBuckets
import Derived.Test.YthongmodndidkaaHits
namespace Go.Proofs.YthongmodndidkaaF
open Go Go.Proofs.YthongmodndidkaaK
set_option linter.unusedSimpArgs false
set_option linter.unusedVariables false

abbrev I64h (x : Int) : Prop := -9223372036854775808 ≤ x ∧ x ≤ 9223372036854775807
def mid (l : List (StA HT)) (k : Nat) : Int := (l[k]?.map hDi).getD 0
theorem half (n : Nat) : Int.tdiv (n : Int) 2 = ((n / 2 : Nat) : Int) := rfl
theorem ld_dist {h : Hp} {s : Sl} {l : List (StA HT)} (r : RH h s l) {i : Int} {k : Nat} (hi : i = k) (hk : k < l.length) {K : Int → Prop} (hK : K (mid l k)) : idxS s.a s.len i 2 fun p => ldA (.int .i64) h (Addr.add p 1) K := by
  subst hi
  have hx : l[k]? = some l[k] := List.getElem?_eq_getElem hk
  refine ld_row (i := (k : Int)) (x := l[k]) r (by omega) hx fun a ha hc => ldA_row (x := hDi l[k]) hc rfl ?_
  unfold mid at hK
  rw [hx] at hK; exact hK
theorem r_Spread {h : Hp} {s : Sl} {l : List (StA HT)} {K : Int → Int → Int → Hp → Prop} (r : RH h s l) (hb : l.length * 16 ≤ 140737488355328) (h0 : l = [] → K 0 0 0 h)
    (hK : l ≠ [] → ∀ h', Ext h h' → K (mid (srt l) 0) (mid (srt l) (l.length / 2)) (mid (srt l) (l.length - 1)) h') : C_report_Spread s h K := by
  have hls := r.len
  refine F_report_Spread_ok _ _ _ (cnd_beq.2 ⟨fun hz => h0 (List.length_eq_zero_iff.1 (by omega)), fun hne => ?_⟩)
  have hl : l ≠ [] := fun e => by subst e; simp at hls; omega
  have hpos := List.length_pos_iff.2 hl
  refine c_hSort r hb fun s1 h1 o1 e1 => ?_
  have hl1 := o1.row.len
  rw [srt_len] at hl1
  have hsl := srt_len l
  refine ld_dist o1.row (k := 0) rfl (by omega) ⟨by decide, let_to ?_⟩
  rw [show Int.tdiv (s1.len : Int) 2 = ((l.length / 2 : Nat) : Int) by rw [hl1]; rfl, wrap_i64 (by omega) (by omega)]
  refine ld_dist o1.row (k := l.length / 2) rfl (by omega) (let_to ?_)
  rw [wrap_i64 (by omega) (by omega)]
  exact ld_dist o1.row (k := l.length - 1) (by omega) (by omega) (hK hl h1 e1)
theorem reportHits_ok {h : Hp} {s : Sl} {l : List (StA HT)} {w m : Int} (r : RH h s l) (hb : (l.length + 1) * 16 ≤ 140737488355328) (hw : I64h w) (hd : ∀ x ∈ l, I64h (hDi x)) : C_law45_ReportHits s w m h fun b h' => b = true ∧ Ext h h' := by
  have hls := r.len
  -- the second half: how far they are
  have tail : ∀ g, Ext h g → J1_law45_ReportHits s (fun b h' => b = true ∧ Ext h h') () g := by
    intro g xg
    unfold J1_law45_ReportHits
    refine r_Spread (r.ext xg) (by omega) (fun hz => ?_) fun hne g1 e1 => ?_
    · refine c_rSort (r.ext xg) hb fun s2 g2 o2 e2 => ?_
      refine cnd_yes (by rw [hls, hz]; rfl) (cnd_yes rfl (cnd_yes rfl (cnd_yes rfl ?_)))
      exact lives45 fun g3 e3 => ⟨rfl, xg.trans (e2.trans e3)⟩
    · have hpos := List.length_pos_iff.2 hne
      refine c_rSort ((r.ext xg).ext e1) hb fun s2 g2 o2 e2 => ?_
      have hl2 := o2.row.len
      rw [srt_len] at hl2
      have hsl := srt_len l
      refine cnd_no (by rw [beq_eq_false_iff_ne]; omega) ?_
      refine ld_dist o2.row (k := 0) rfl (by omega) (cnd_yes (beq_self_eq_true _) ⟨by decide, let_to ?_⟩)
      rw [show Int.tdiv (s2.len : Int) 2 = ((l.length / 2 : Nat) : Int) by rw [hl2]; rfl, wrap_i64 (by omega) (by omega)]
      refine ld_dist o2.row (k := l.length / 2) rfl (by omega) (cnd_yes (beq_self_eq_true _) (let_to ?_))
      rw [wrap_i64 (by omega) (by omega)]
      refine ld_dist o2.row (k := l.length - 1) (by omega) (by omega) (cnd_yes (beq_self_eq_true _) ?_)
      exact lives45 fun g3 e3 => ⟨rfl, xg.trans (e1.trans (e2.trans e3))⟩
  refine F_law45_ReportHits_ok _ _ _ _ _ ?_
  unfold F_law45_ReportHits
  by_cases hm : 1 ≤ m ∧ m ≤ 1000
  · refine r_Buckets r (by omega) hw hd hm.1 hm.2 fun h1 s1 r1 e1 => ?_
    rw [Jn_eq, Jn_eq]
    have go : J2_law45_ReportHits s w m (fun b h' => b = true ∧ Ext h h') s1 (J1_law45_ReportHits s (fun b h' => b = true ∧ Ext h h')) (false, ()) h1 := by
      unfold J2_law45_ReportHits
      have hmn : m = ((m.toNat : Nat) : Int) := by omega
      refine cnd_no rfl (mk_row encI64 (0 : Int) (by rfl) hmn hmn (Nat.le_refl _) (by refine ⟨by decide, by omega⟩) fun s2 g1 o1 u1 _ _ => ?_)
      rw [Jn_eq]
      refine Lp.inv (fun st => ∃ k : Nat, st.1.1 = (k : Int) ∧ k ≤ l.length ∧ OwnRow (Go.Proofs.YthongmodndidkaaK.encI .i64) 1 h1.size st.2 s2 (tally w m ((l.take k).map (·.2.1))) ∧ Ext h1 st.2) (fun st => l.length - st.1.1.toNat) ?_ ⟨0, rfl, by omega, by simpa [tally] using o1, u1⟩
      rintro ⟨⟨i, ⟨⟩⟩, g2⟩ R ⟨k, rfl, hk1, o2, e2⟩ hR
      simp only at o2 e2 hk1
      unfold L2_law45_ReportHits
      dsimp only
      refine cnd_dec.2 ⟨fun hlt => ?_, fun hge => ?_⟩
      · have hkl : k < l.length := by omega
        have hx : l[k]? = some l[k] := List.getElem?_eq_getElem hkl
        have htk := take_snoc hx
        have hdk := hd l[k] (List.getElem_mem hkl)
        have rg := (r.ext e1).ext e2
        refine ld_row (i := (k : Int)) (x := l[k]) rg (by omega) hx fun a ha hc => ldA_row (x := hDi l[k]) hc rfl (ref_Bucket hw hdk hm ?_)
        have hbd := bkt_bd (w := w) (d := hDi l[k]) hm.1
        generalize hT : tally w m ((l.take k).map (·.2.1)) = T at o2
        have hTl : T.length = m.toNat := by rw [← hT, tally_len]
        have hgt : T[(bkt w m (hDi l[k])).toNat]? = some (T[(bkt w m (hDi l[k])).toNat]'(by omega)) := List.getElem?_eq_getElem (by omega)
        have hTb := tally_bd w m ((l.take k).map (·.2.1)) (T[(bkt w m (hDi l[k])).toNat]'(by omega)) (by rw [hT]; exact List.getElem_mem _)
        simp only [List.length_map, List.length_take] at hTb
        refine ld_int0 (i := bkt w m (hDi l[k])) (x := T[(bkt w m (hDi l[k])).toNat]'(by omega)) o2.row hbd.1 hgt (let_to ?_)
        rw [wrap_i64 (by omega) (by omega)]
        refine own_set encI64 o2 (k := (bkt w m (hDi l[k])).toNat) (by omega) (by omega) (x := T[(bkt w m (hDi l[k])).toNat]'(by omega) + 1) rfl fun g4 o4 os4 _ y4 => let_to ?_
        rw [wrap_i64 (by omega) (by omega)]
        refine hR _ ⟨k + 1, by simp, by omega, ?_, ?_⟩ (by simp only; omega)
        · rw [← htk, List.map_append, List.map_singleton, tally_snoc, hT, bump, hgt]; exact o4
        · exact (e2.bel.trans (os4.bel_of o2 e2.size)).ext
      · have : k = l.length := by omega
        subst this
        rw [List.take_length] at o2
        clear hR R
        unfold J3_law45_ReportHits
        rw [Jn_eq]
        generalize hT : tally w m (l.map (·.2.1)) = T at o2
        have r1' : R64 h1 s1 T := by rw [← hT]; exact r1
        have rT := r1'.ext e2
        have hTl : T.length = m.toNat := by rw [← hT, tally_len]
        have hTs : T.sum = l.length := by rw [← hT, tally_sum hm.1]; simp
        have hTn : ∀ x ∈ T, 0 ≤ x := fun x hx => (tally_bd w m (l.map (·.2.1)) x (by rw [hT]; exact hx)).1
        have hl1 := rT.len
        refine Lp.inv (fun st => ∃ k : Nat, st.1.2.1 = (k : Int) ∧ k ≤ T.length ∧ st.1.1 = (T.take k).sum ∧ st.2 = g2) (fun st => T.length - st.1.2.1.toNat) ?_ ⟨0, rfl, by omega, rfl, rfl⟩
        rintro ⟨⟨sm, i, ⟨⟩⟩, g3⟩ R ⟨k, rfl, hk3, rfl, rfl⟩ hR
        unfold L1_law45_ReportHits
        dsimp only
        refine cnd_dec.2 ⟨fun hlt => ?_, fun hge => ?_⟩
        · have hx : T[k]? = some (T[k]'(by omega)) := List.getElem?_eq_getElem (by omega)
          refine ld_int0 (i := (k : Int)) (x := T[k]'(by omega)) rT (by omega) hx (let_to (let_to ?_))
          have p1 := pre_sum hTn k
          have p2 := pre_sum hTn (k + 1)
          have e : (T.take (k + 1)).sum = (T.take k).sum + T[k]'(by omega) := by rw [← take_snoc hx, List.sum_append]; simp
          rw [e] at p2
          rw [wrap_i64 (by omega) (by omega), wrap_i64 (by omega) (by omega)]
          exact hR _ ⟨k + 1, by simp, by omega, e.symm, rfl⟩ (by simp only; omega)
        · have : k = T.length := by omega
          subst this
          rw [List.take_length]
          unfold J4_law45_ReportHits
          refine ref_Ints rT o2.row (by omega) fun t ht => ?_
          rw [ht.2 rfl]
          refine cnd_no rfl (cnd_no (by rw [bne_eq_false_iff_eq]; show T.sum = (s.len : Int); omega) ?_)
          exact tail _ (e1.trans e2)
    refine cnd_no (by rw [decide_eq_false_iff_not]; omega) ?_
    rw [show decide (m > 1000) = false by rw [decide_eq_false_iff_not]; omega]
    exact go
  · have hB : ∀ K : Sl → Hp → Prop, K ⟨none, 0, 0⟩ h → C_report_Buckets s w m h K := fun K hk => by
      refine F_report_Buckets_ok _ _ _ _ _ ?_
      unfold F_report_Buckets
      rw [Jn_eq]
      refine cnd_dec.2 ⟨fun _ => hk, fun _ => cnd_dec.2 ⟨fun _ => hk, fun _ => by omega⟩⟩
    refine hB _ ?_
    rw [Jn_eq, Jn_eq]
    have go : J2_law45_ReportHits s w m (fun b h' => b = true ∧ Ext h h') ⟨none, 0, 0⟩ (J1_law45_ReportHits s (fun b h' => b = true ∧ Ext h h')) (true, ()) h := by
      unfold J2_law45_ReportHits
      exact cnd_yes rfl (cnd_no rfl (tail h (Ext.refl _)))
    refine cnd_dec.2 ⟨fun _ => go, fun _ => ?_⟩
    rw [show decide (m > 1000) = true by rw [decide_eq_true_iff]; omega]
    exact go
end Go.Proofs.YthongmodndidkaaF
