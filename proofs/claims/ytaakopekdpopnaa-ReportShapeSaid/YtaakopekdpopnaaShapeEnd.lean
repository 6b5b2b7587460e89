/- Chapter 45, ReportShape: buckets, comparison, the statement. No condition. -/
import Derived.Test.YtaakopekdpopnaaShapeLaw
namespace Go.Proofs.YtaakopekdpopnaaF
open Go Go.Proofs.YtaakopekdpopnaaK
set_option linter.unusedSimpArgs false
set_option linter.unusedVariables false

theorem ref_Ints {sa sb : Sl} {la lb : List Int} {h : Hp} {K : Bool → Hp → Prop} (ra : R64 h sa la) (rb : R64 h sb lb) (hl : la.length ≤ 140737488355328) (hk : ∀ t : Bool, (t = true ↔ la = lb) → K t h) : C_ref07_Ints sa sb h K := by
  refine F_ref07_Ints_ok _ _ _ _ ?_
  unfold F_ref07_Ints
  rw [ra.len, rb.len, cnd_bne]
  refine ⟨fun hne => hk false ⟨fun e => (by cases e), fun e => (by subst e; exact (hne rfl).elim)⟩, fun heq => ?_⟩
  have heq : la.length = lb.length := by omega
  refine Lp.inv (fun st => ∃ k : Nat, st = (((((k : Int), ()), h)) : (Int × Unit) × Hp) ∧ k ≤ la.length ∧ ∀ i, i < k → la[i]? = lb[i]?) (fun st => la.length - st.1.1.toNat) ?_ ⟨0, rfl, by omega, fun i hi => by omega⟩
  rintro _ R ⟨k, rfl, hk1, hs⟩ hR
  unfold L1_ref07_Ints
  dsimp only
  refine cnd_dec.2 ⟨fun hlt => ?_, fun hge => ?_⟩
  · rw [ra.len] at hlt
    have hx : la[k]? = some (la[k]'(by omega)) := List.getElem?_eq_getElem (by omega)
    have hy : lb[k]? = some (lb[k]'(by omega)) := List.getElem?_eq_getElem (by omega)
    refine ld_int0 (i := (k : Int)) (x := la[k]'(by omega)) ra (by omega) (by rw [Int.toNat_natCast]; exact hx) (ld_int0 (i := (k : Int)) (x := lb[k]'(by omega)) rb (by omega) (by rw [Int.toNat_natCast]; exact hy) (cnd_bne.2 ⟨fun hne => hk false ⟨fun e => (by cases e), fun e => (by subst e; exact (hne rfl).elim)⟩, fun he => let_to ?_⟩))
    rw [wrap_i64 (by omega) (by omega)]
    refine hR _ ⟨k + 1, rfl, by omega, fun i hi => ?_⟩ (by simp only; omega)
    by_cases e : i = k
    · subst e; rw [hx, hy, he]
    · exact hs i (by omega)
  · rw [ra.len] at hge
    refine hk true ⟨fun _ => ?_, fun _ => rfl⟩
    apply List.ext_getElem?
    intro i
    by_cases hi : i < k
    · exact hs i hi
    · rw [List.getElem?_eq_none (by omega), List.getElem?_eq_none (by omega)]
theorem r_figures {a b c d e : Int} {h : Hp} {K : Sl → Hp → Prop} (hk : ∀ h' s', R64 h' s' [a, b, c, d, e] → Ext h h' → K s' h') : C_law45_figures a b c d e h K := by
  refine F_law45_figures_ok _ _ _ _ _ _ _ (push_to fun h1 w1 u1 y1 => let_to ?_)
  refine ldA_blk (s := .int .i64) (x := a) w1 rfl (ldA_blk (s := .int .i64) (i := 1) (x := b) w1 rfl (ldA_blk (s := .int .i64) (i := 2) (x := c) w1 rfl (ldA_blk (s := .int .i64) (i := 3) (x := d) w1 rfl (ldA_blk (s := .int .i64) (i := 4) (x := e) w1 rfl ?_))))
  refine push_to fun h2 w2 u2 y2 => let_to ?_
  exact hk h2 _ (Blk.row encI64 w2 (l := [a, b, c, d, e]) (cap := 5) (by simp) rfl) (u1.trans u2)

/-! Buckets. -/
abbrev HIT : List At := [.int .u64, .int .i64]
def bkt (w m d : Int) : Int := if (if m - 1 < Int.tdiv d (if 1 > w then 1 else w) then m - 1 else Int.tdiv d (if 1 > w then 1 else w)) > 0 then (if m - 1 < Int.tdiv d (if 1 > w then 1 else w) then m - 1 else Int.tdiv d (if 1 > w then 1 else w)) else 0
theorem bkt_bd {w m d : Int} (hm : 1 ≤ m) : 0 ≤ bkt w m d ∧ bkt w m d < m := by
  unfold bkt
  (repeat' split) <;> omega
def bump (t : List Int) (b : Nat) : List Int := t.set b (t[b]?.getD 0 + 1)
def tally (w m : Int) (ds : List Int) : List Int := ds.foldl (fun t d => bump t (bkt w m d).toNat) (List.replicate m.toNat 0)
theorem tally_snoc (w m : Int) (ds : List Int) (d : Int) : tally w m (ds ++ [d]) = bump (tally w m ds) (bkt w m d).toNat := by unfold tally; rw [List.foldl_append]; rfl
theorem tally_len0 (w m : Int) : ∀ (ds : List Int) (t : List Int), (ds.foldl (fun t d => bump t (bkt w m d).toNat) t).length = t.length
  | [], t => rfl
  | d :: ds, t => by rw [List.foldl_cons, tally_len0 w m ds, bump, List.length_set]
theorem tally_len (w m : Int) (ds : List Int) : (tally w m ds).length = m.toNat := by unfold tally; rw [tally_len0]; simp
theorem tally_bd0 (w m : Int) : ∀ (ds : List Int) (t : List Int) (n : Nat), (∀ x ∈ t, 0 ≤ x ∧ x ≤ n) → ∀ x ∈ ds.foldl (fun t d => bump t (bkt w m d).toNat) t, 0 ≤ x ∧ x ≤ ((n + ds.length : Nat) : Int)
  | [], t, n, ht => by simpa using ht
  | d :: ds, t, n, ht => by
    rw [List.foldl_cons, List.length_cons, show n + (ds.length + 1) = (n + 1) + ds.length by omega]
    refine tally_bd0 w m ds _ (n + 1) fun x hx => ?_
    unfold bump at hx
    rcases List.mem_or_eq_of_mem_set hx with hx | rfl
    · have := ht x hx; omega
    · cases hg : t[(bkt w m d).toNat]? with
      | none => simp; omega
      | some y => have := ht y (List.mem_of_getElem? hg); simp; omega
theorem tally_bd (w m : Int) (ds : List Int) : ∀ x ∈ tally w m ds, 0 ≤ x ∧ x ≤ ds.length := by
  intro x hx
  have := tally_bd0 w m ds (List.replicate m.toNat 0) 0 (fun x hx => by simp at hx; omega) x hx
  simpa using this
theorem tdiv_bd {d c : Int} (hc : 1 ≤ c) (hd : -9223372036854775808 ≤ d ∧ d ≤ 9223372036854775807) : -9223372036854775808 ≤ Int.tdiv d c ∧ Int.tdiv d c ≤ 9223372036854775807 := by
  by_cases h : 0 ≤ d
  · rw [Int.tdiv_eq_ediv_of_nonneg h]
    have h1 := Int.ediv_le_self c h
    have h2 := Int.ediv_nonneg h (show 0 ≤ c by omega)
    omega
  · have e : d = -(-d) := by omega
    rw [e, Int.neg_tdiv, Int.tdiv_eq_ediv_of_nonneg (by omega)]
    have h1 := Int.ediv_le_self c (a := -d) (by omega)
    have h2 := Int.ediv_nonneg (a := -d) (b := c) (by omega) (by omega)
    omega
theorem r_Buckets {s : Sl} {l : List (StA HIT)} {w m : Int} {h : Hp} {K : Sl → Hp → Prop} (r : IsRow (vsA HIT) 2 h s l) (hl : l.length ≤ 140737488355328) (hw : -9223372036854775808 ≤ w ∧ w ≤ 9223372036854775807) (hd : ∀ x ∈ l, -9223372036854775808 ≤ x.2.1 ∧ x.2.1 ≤ 9223372036854775807)
    (h1 : 1 ≤ m) (h2 : m ≤ 1000) (hk : ∀ h' s', R64 h' s' (tally w m (l.map (·.2.1))) → Ext h h' → K s' h') : C_report_Buckets s w m h K := by
  refine F_report_Buckets_ok _ _ _ _ _ ?_
  unfold F_report_Buckets
  rw [Jn_eq]
  refine cnd_dec.2 ⟨fun h => by omega, fun _ => cnd_dec.2 ⟨fun h => by omega, fun _ => ?_⟩⟩
  unfold J1_report_Buckets
  have hmn : m = ((m.toNat : Nat) : Int) := by omega
  refine mk_row encI64 (0 : Int) (by rfl) hmn hmn (Nat.le_refl _) (by refine ⟨by decide, by omega⟩) fun s1 g1 o1 e1 _ _ => ?_
  refine Lp.inv (fun st => ∃ k : Nat, st.1.1 = (k : Int) ∧ k ≤ l.length ∧ OwnRow (encI .i64) 1 h.size st.2 s1 (tally w m ((l.take k).map (·.2.1))) ∧ Ext h st.2) (fun st => l.length - st.1.1.toNat) ?_ ⟨0, rfl, by omega, by simpa [tally] using o1, e1⟩
  rintro ⟨⟨i, ⟨⟩⟩, g2⟩ R ⟨k, rfl, hk1, o2, e2⟩ hR
  simp only at o2 e2 hk1
  unfold L1_report_Buckets
  dsimp only
  refine cnd_dec.2 ⟨fun hlt => ?_, fun hge => ?_⟩
  · rw [r.len] at hlt
    have hkl : k < l.length := by omega
    have hx : l[k]? = some l[k] := List.getElem?_eq_getElem hkl
    have htk := take_snoc hx
    have hdk := hd l[k] (List.getElem_mem hkl)
    refine ld_row (i := (k : Int)) (x := l[k]) (r.ext e2) (by omega) (by rw [Int.toNat_natCast]; exact hx) fun a ha hc => ?_
    refine ldA_row0 hc rfl (ldA_row hc rfl ?_)
    refine box_to (vsA HIT l[k]) rfl fun g3 w3 u3 y3 => ldA_blk (s := .int .i64) (i := 1) (x := l[k].2.1) w3 rfl (let_to ⟨by split <;> omega, let_to (let_to (let_to (let_to ?_)))⟩)
    have hq := tdiv_bd (c := if 1 > w then 1 else w) (by split <;> omega) hdk
    rw [wrap_i64 hq.1 hq.2, wrap_i64 (x := m - 1) (by omega) (by omega)]
    have hbd := bkt_bd (w := w) (d := l[k].2.1) h1
    have hbe : bkt w m l[k].2.1 = if (if m - 1 < Int.tdiv l[k].2.1 (if 1 > w then 1 else w) then m - 1 else Int.tdiv l[k].2.1 (if 1 > w then 1 else w)) > 0 then (if m - 1 < Int.tdiv l[k].2.1 (if 1 > w then 1 else w) then m - 1 else Int.tdiv l[k].2.1 (if 1 > w then 1 else w)) else 0 := rfl
    rw [← hbe]
    generalize hT : tally w m ((l.take k).map (·.2.1)) = T at o2
    have hTl : T.length = m.toNat := by rw [← hT, tally_len]
    have hgt : T[(bkt w m l[k].2.1).toNat]? = some (T[(bkt w m l[k].2.1).toNat]'(by omega)) := List.getElem?_eq_getElem (by omega)
    have hTb := tally_bd w m ((l.take k).map (·.2.1)) (T[(bkt w m l[k].2.1).toNat]'(by omega)) (by rw [hT]; exact List.getElem_mem _)
    simp only [List.length_map, List.length_take] at hTb
    refine ld_int0 (i := bkt w m l[k].2.1) (x := T[(bkt w m l[k].2.1).toNat]'(by omega)) (o2.row.ext u3) hbd.1 hgt (let_to ?_)
    rw [wrap_i64 (by omega) (by omega)]
    refine own_set encI64 (o2.ext u3) (k := (bkt w m l[k].2.1).toNat) (by omega) (by omega) (x := T[(bkt w m l[k].2.1).toNat]'(by omega) + 1) rfl fun g4 o4 os4 _ y4 => let_to ?_
    rw [wrap_i64 (by omega) (by omega)]
    refine hR _ ⟨k + 1, by simp, by omega, ?_, ?_⟩ (by simp only; omega)
    · rw [← htk, List.map_append, List.map_singleton, tally_snoc, hT, bump, hgt]; exact o4
    · exact ((e2.trans u3).bel.trans ((os4.bel_of (o2.ext u3) (by have := e2.size; have := u3.size; omega)))).ext
  · rw [r.len] at hge
    have : k = l.length := by omega
    subst this
    rw [List.take_length] at o2
    exact hk _ _ o2.row e2
theorem lives45 {h : Hp} {K : Bool → Hp → Prop} (hk : ∀ h', Ext h h' → K true h') : C_law45_lives h K := by
  refine F_law45_lives_ok _ _ (push_to fun h1 w1 u1 y1 => let_to ?_)
  refine r_Buckets (s := ⟨_, 3, 3⟩) (l := [(0, 0, ()), (0, 3, ()), (0, 9, ())]) (Blk.row (encA (l := HIT) rfl) w1 (l := [(0, 0, ()), (0, 3, ()), (0, 9, ())]) (cap := 3) (by simp) rfl) (by simp) (by omega) (fun x hx => by simp at hx; rcases hx with rfl | rfl | rfl <;> simp) (by omega) (by omega) fun h2 s2 r2 u2 => ?_
  refine push_to fun h3 w3 u3 y3 => let_to ?_
  refine ref_Ints (la := [2, 1]) (sb := ⟨_, 2, 2⟩) (lb := [2, 1]) ?_ (Blk.row encI64 w3 (l := [2, 1]) (cap := 2) (by simp) rfl) (by simp) fun t ht => ?_
  · have := r2.ext u3
    rwa [show tally 4 2 (List.map (fun x : StA HIT => x.2.1) [(0, 0, ()), (0, 3, ()), (0, 9, ())]) = [2, 1] by decide] at this
  · rw [ht.2 rfl]; exact hk _ (u1.trans (u2.trans u3))

theorem reportShape_ok {sb sv sm sp sr : Sl} {d : Int} {bk : List (StA BK)} {vp : List (StA VP)} {mn : List (StA MN)} {h : Hp} (rb : IsRow (vsA BK) 7 h sb bk) (rv : IsRow (vsA VP) 14 h sv vp) (rm : IsRow (vsA MN) 3 h sm mn)
    (hb : bk.length * 8 ≤ 140737488355328) (hv : vp.length * 8 ≤ 140737488355328) (hm : mn.length * 8 ≤ 140737488355328) : C_law45_ReportShape sb sv sm d sp sr h fun r h' => r = true ∧ Ext h h' := by
  refine F_law45_ReportShape_ok _ _ _ _ _ _ _ _ (push_to fun h1 w1 u1 y1 => let_to ?_)
  refine ldA_blk (s := .sl) (x := sb) w1 rfl (ldA_blk (s := .sl) (i := 1) (x := sv) w1 rfl (ldA_blk (s := .sl) (i := 2) (x := sm) w1 rfl (ldA_blk (s := .int .i64) (i := 3) (x := d) w1 rfl (ldA_blk (s := .sl) (i := 4) (x := sp) w1 rfl (ldA_blk (s := .sl) (i := 5) (x := sr) w1 rfl ?_)))))
  refine r_Shape (rb.ext u1) (rv.ext u1) (rm.ext u1) hb hv hm fun h2 u2 => ⟨u2, r_figures fun h3 s3 r3 u3 => ⟨u3, ?_⟩⟩
  have w3 := w1
  refine ldA_blk (s := .sl) (x := sb) w1 rfl (ldA_blk (s := .sl) (i := 1) (x := sv) w1 rfl (ldA_blk (s := .sl) (i := 2) (x := sm) w1 rfl (ldA_blk (s := .int .i64) (i := 3) (x := d) w1 rfl (ldA_blk (s := .sl) (i := 4) (x := sp) w1 rfl (ldA_blk (s := .sl) (i := 5) (x := sr) w1 rfl ?_)))))
  have x3 := u1.trans (u2.trans u3)
  refine ref_Shape (rb.ext x3) (rv.ext x3) (rm.ext x3) hb hv hm fun h4 s4 r4 u4 => ?_
  refine ref_Ints (r3.ext u4) r4 (by simp) fun t ht => cnd_yes (ht.2 rfl) (lives45 fun h5 u5 => ⟨rfl, x3.trans (u4.trans u5)⟩)
end Go.Proofs.YtaakopekdpopnaaF
