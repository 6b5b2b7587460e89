/- Chapter 19: PivotsSpread, PivotsApart. No condition of their own. -/
import Derived.Test.YtfeimjemangpaaaPivotsLaw
namespace Go.Proofs.YtfeimjemangpaaaF
open Go Go.Proofs.YtfeimjemangpaaaK
set_option linter.unusedSimpArgs false
set_option linter.unusedVariables false

theorem inr_le (l : List Ob) (c : List Int) : (inr' l c).length ≤ c.length := List.length_filter_le _ _
theorem pivotsSpread_ok {m p f : Int} {sl sc : Sl} {l : List Ob} {c : List Int} {h : Hp} (r : XRow h sl l) (hlb : l.length ≤ 140737488355328) (rc : R64 h sc c) : C_law19_PivotsSpread m p f sl sc h fun b h' => b = true ∧ Ext h h' := by
  refine F_law19_PivotsSpread_ok _ _ _ _ _ _ _ (push_to fun h1 b1 e1 z1 => let_to ?_)
  have hlen := r.len
  have clen := rc.len
  have live : ∀ g, Ext h g → J1_law19_PivotsSpread sc (fun b h' => b = true ∧ Ext h h') ⟨h.size, 0, none⟩ (true, ()) g := fun g xg => by
    unfold J1_law19_PivotsSpread
    exact cnd_yes rfl (l_lives fun h' e => ⟨rfl, xg.trans e⟩)
  rw [Jn_eq]
  refine ldA_blk (s := .sl) (i := 3) (x := sl) b1 rfl (cnd_dec.2 ⟨fun _ => live _ e1, fun hle => cnd_dec.2 ⟨fun _ => live _ e1, fun hle2 => ldA_blk (s := .sl) (i := 3) (x := sl) b1 rfl (r_Short (r.ext e1) hlb fun t ht => ?_)⟩⟩)
  cases t with
  | false => exact live _ e1
  | true =>
    have ol : ORow h1 sl l := (r.ext e1).short (ht rfl) (by decide)
    have rc1 := rc.ext e1
    unfold J1_law19_PivotsSpread
    refine cnd_no rfl ?_
    rw [Jn_eq]
    have hil := inr_le l c
    have j3 : ∀ (w : Int) (g : Hp), Ext h1 g → (inr' l c = [] → w = 0) → (inr' l c ≠ [] → ∀ i v, FarAt (nears m l c) i v → w = v) → J3_law19_PivotsSpread sc (fun b h' => b = true ∧ Ext h h') ⟨h.size, 0, none⟩ (((inr' l c).length : Int), ()) (w, ()) g := by
      intro w g xg hw0 hw1
      unfold J3_law19_PivotsSpread
      dsimp only
      refine ldA_blk (s := .int .i64) (x := m) (b1.ext xg) rfl (m_New fun h7 e7 q7 => ?_)
      have b7 := (b1.ext xg).ext e7
      refine ldA_blk (s := .sl) (i := 3) (x := sl) b7 rfl (p_Spread q7 (e7.only _) ((ol.ext xg).apart (Nat.le_refl _)) (rc1.ext xg) (notAt_of eQ_ok (by decide) (rc1.ext xg) (Nat.le_refl _)) (by omega) (by omega) fun v h10 hv0 hv1 q10 on => ?_)
      have hvw : v = w := by
        by_cases hn : inr' l c = []
        · rw [hv0 hn, hw0 hn]
        · obtain ⟨i, hi⟩ := hv1 hn
          exact (hw1 hn i v hi).symm
      have x10 : Ext g h10 := e7.only_new on (Nat.le_refl _)
      rw [hvw]
      refine cnd_yes (beq_self_eq_true _) (m_Calls q10 ⟨Ext.refl _, ldA_blk (s := .sl) (i := 3) (x := sl) (b1.ext (xg.trans x10)) rfl (let_to (cnd_yes ?_ (l_lives fun h' e => ⟨rfl, e1.trans (xg.trans (x10.trans e))⟩)))⟩)
      have hmul : 0 ≤ ((inr' l c).length : Int) * l.length ∧ ((inr' l c).length : Int) * l.length ≤ 40 * 40 := ⟨Int.mul_nonneg (by omega) (by omega), Int.mul_le_mul (by omega) (by omega) (by omega) (by omega)⟩
      rw [hlen, wrap_i64 (by omega) (by omega), beq_self_eq_true]
    have j2 : J2_law19_PivotsSpread sc (fun b h' => b = true ∧ Ext h h') ⟨h.size, 0, none⟩ (((inr' l c).length : Int), ()) h1 := by
      unfold J2_law19_PivotsSpread
      rw [Jn_eq]
      refine Lp.inv (fun st => Ext h1 st.2 ∧ ∃ k : Nat, st.1.2.1 = (k : Int) ∧ k ≤ l.length ∧ 0 ≤ st.1.1 ∧ (∀ (j : Nat) (x : Int), j < k → (nears m l c)[j]? = some x → x ≤ st.1.1) ∧ (st.1.1 = 0 ∨ ∃ j : Nat, (nears m l c)[j]? = some st.1.1) ∧ (inr' l c = [] → st.1.1 = 0))
        (fun st => l.length - st.1.2.1.toNat) ?_ ⟨Ext.refl _, 0, rfl, by omega, Int.le_refl _, fun j x hj => by omega, .inl rfl, fun _ => rfl⟩
      rintro ⟨⟨w, k', ⟨⟩⟩, g⟩ R ⟨xg, k, rfl, hk, hw, hle', hat, hz⟩ hR
      simp only at xg hw hle' hat hz
      unfold L1_law19_PivotsSpread
      rw [Jn_eq]
      dsimp only
      have bg := b1.ext xg
      refine ldA_blk (s := .sl) (i := 3) (x := sl) bg rfl (cnd_dec.2 ⟨fun hlt => cnd_dec.2 ⟨fun hin => ?_, fun hnin => ?_⟩, fun hge => ?_⟩)
      · unfold J4_law19_PivotsSpread
        dsimp only
        have hy : l[k]? = some (l[k]'(by omega)) := List.getElem?_eq_getElem (by omega)
        generalize l[k]'(by omega) = y at hy
        have hny := nears_get (m := m) (c := c) hy
        refine ldA_blk (s := .int .i64) (x := m) bg rfl (ldA_blk (s := .sl) (i := 3) (x := sl) bg rfl (ldA_blk (s := .sl) (i := 3) (x := sl) bg rfl ?_))
        refine ld_ob ol xg (i := (k : Int)) (by omega) (by rw [Int.toNat_natCast]; exact hy) fun a yy ca ry => ?_
        refine ldA_row0 (s := .int .i64) (x := oTag yy) ca rfl (ldA_row (s := .sl) (j := 1) (x := oVec yy) ca rfl (ldA_row (s := .str) (j := 2) (x := oStr yy) ca rfl ?_))
        refine r_Near xg ol (rc1.ext xg) ry (by omega) fun g3 e3 => let_to (let_to ?_)
        rw [wrap_i64 (by omega) (by omega)]
        refine hR _ ⟨xg.trans e3, k + 1, by simp, by omega, ?_, fun j x hj hx => ?_, ?_, fun hn => ?_⟩ (by simp only; omega)
        · simp only; split <;> omega
        · simp only
          by_cases e : j = k
          · subst e; rw [hny] at hx; cases hx; split <;> omega
          · have := hle' j x (by omega) hx
            split <;> omega
        · simp only
          split
          · exact .inr ⟨k, hny⟩
          · exact hat
        · rw [hn] at hin; simp at hin
      · exact j3 w g xg hz fun hne => by
          have := List.length_pos_iff.2 hne; omega
      · refine j3 w g xg hz fun hne i v f => ?_
        have hvl := (List.getElem?_eq_some_iff.1 f.at_).1
        rw [nears_len] at hvl
        have h1' := hle' i v (by omega) f.at_
        have hyi : l[i]? = some (l[i]'hvl) := List.getElem?_eq_getElem hvl
        have hvv := f.at_
        rw [nears_get hyi] at hvv
        injection hvv with hvv
        have h2' := near_nn m l (l[i]'hvl) c
        rcases hat with e | ⟨j, hj⟩
        · omega
        · have := f.top _ _ hj; omega
    refine Lp.inv (fun st => st.2 = h1 ∧ ∃ k : Nat, st.1.2.1 = (k : Int) ∧ k ≤ c.length ∧ st.1.1 = ((inr' l (c.take k)).length : Int)) (fun st => c.length - st.1.2.1.toNat) ?_ ⟨rfl, 0, rfl, by omega, rfl⟩
    rintro ⟨⟨n', k', ⟨⟩⟩, g⟩ R ⟨rfl, k, rfl, hk, hn⟩ hR
    simp only at hn
    subst hn
    unfold L2_law19_PivotsSpread
    dsimp only
    refine cnd_dec.2 ⟨fun hlt => ?_, fun hge => ?_⟩
    · have hi : c[k]? = some (c[k]'(by omega)) := List.getElem?_eq_getElem (by omega)
      have hsn := inr_snoc l (c.take k) (c[k]'(by omega))
      rw [take_snoc hi] at hsn
      generalize c[k]'(by omega) = i at hi hsn
      have hb := inr_le l (c.take k)
      rw [List.length_take] at hb
      rw [Jn_eq]
      have hJ : ∀ b : Bool, (b = true ↔ 0 ≤ i ∧ i < (l.length : Int)) → J5_law19_PivotsSpread ((((inr' l (c.take k)).length : Int), (k : Int), ()), g) R (b, ()) g := by
        intro b hb'
        unfold J5_law19_PivotsSpread
        dsimp only
        refine cnd_if (fun hbt => let_to (let_to ?_)) (fun hbf => let_to ?_)
        · rw [if_pos (hb'.1 hbt)] at hsn
          rw [wrap_i64 (by omega) (by omega), wrap_i64 (by omega) (by omega)]
          exact hR _ ⟨rfl, k + 1, by simp, by omega, by rw [hsn]; simp⟩ (by simp only; omega)
        · rw [if_neg (fun hh => by rw [hb'.2 hh] at hbf; cases hbf), List.append_nil] at hsn
          rw [wrap_i64 (by omega) (by omega)]
          exact hR _ ⟨rfl, k + 1, by simp, by omega, by rw [hsn]⟩ (by simp only; omega)
      refine ld_int0 (i := (k : Int)) (x := i) rc1 (by omega) (by rw [Int.toNat_natCast]; exact hi) (cnd_dec.2 ⟨fun h0 => ?_, fun h0 => hJ false ⟨fun h => (by cases h), fun h => absurd h.1 h0⟩⟩)
      refine ld_int0 (i := (k : Int)) (x := i) rc1 (by omega) (by rw [Int.toNat_natCast]; exact hi) (ldA_blk (s := .sl) (i := 3) (x := sl) b1 rfl (hJ _ ?_))
      rw [hlen, decide_eq_true_iff]
      exact ⟨fun h => ⟨h0, h⟩, fun h => h.2⟩
    · obtain rfl : k = c.length := by omega
      rw [List.take_length]
      exact j2
/-! PivotsApart. -/
theorem apart_pair {m : Int} {l : List Ob} {r : List Int} (g : Good m l r) {N i k : Nat} {a b c : Int} {x y z : Ob} (hN : r[N]? = some a) (hx : l[a.toNat]? = some x) (hiN : i ≤ N) (hki : k < i) (hi : r[i]? = some b) (hy : l[b.toNat]? = some y) (hk : r[k]? = some c) (hz : l[c.toNat]? = some z) :
    near m l (r.take N) x ≤ od m y z := by
  have h1 : near m l (r.take i) y ≤ od m z y := by
    refine near_le (j := k) (i := c) ?_ (g.rng c (List.mem_of_getElem? hk)).1 hz
    rw [List.getElem?_take, if_pos hki]; exact hk
  have h2 := g.dec i b y (by omega) hi hy x (List.mem_of_getElem? hx)
  have h3 : near m l (r.take N) x ≤ near m l (r.take i) x := by
    have e : r.take N = r.take i ++ (r.take N).drop i := by
      have := List.take_append_drop i (r.take N)
      rw [List.take_take, Nat.min_eq_left hiN] at this
      exact this.symm
    rw [e]; exact near_append _ _ _ _ _
  rw [od_comm]; omega
theorem apart_all {m : Int} {l : List Ob} {r : List Int} (g : Good m l r) {N : Nat} {a : Int} {x y : Ob} (h0 : 0 < N) (hl : r.length = N + 1) (hN : r[N]? = some a) (hx : l[a.toNat]? = some x) (hy : y ∈ l) : near m l r y ≤ near m l (r.take N) x := by
  have h1 := g.dec N a x h0 hN hx y hy
  have h2 : near m l r y ≤ near m l (r.take N) y := by
    have e : r = r.take N ++ r.drop N := (List.take_append_drop N r).symm
    rw [e, List.take_append_of_le_length (by rw [List.length_take]; omega), List.take_take, Nat.min_self]; exact near_append _ _ _ _ _
  omega
theorem pivotsApart_ok {m p f : Int} {sl : Sl} {l : List Ob} {h : Hp} (r : XRow h sl l) (hlb : l.length ≤ 140737488355328) (hf : -9223372036854775808 ≤ f ∧ f ≤ 9223372036854775807) : C_law19_PivotsApart m p f sl h fun b h' => b = true ∧ Ext h h' := by
  refine F_law19_PivotsApart_ok _ _ _ _ _ _ (push_to fun h1 b1 e1 z1 => let_to ?_)
  have hlen := r.len
  have live : ∀ g, Ext h g → J1_law19_PivotsApart (fun b h' => b = true ∧ Ext h h') ⟨h.size, 0, none⟩ (true, ()) g := fun g xg => by
    unfold J1_law19_PivotsApart
    exact cnd_yes rfl (l_lives fun h' e => ⟨rfl, xg.trans e⟩)
  rw [Jn_eq]
  refine ldA_blk (s := .sl) (i := 3) (x := sl) b1 rfl (cnd_dec.2 ⟨fun _ => live _ e1, fun hle => ldA_blk (s := .sl) (i := 3) (x := sl) b1 rfl (r_Short (r.ext e1) hlb fun t ht => ?_)⟩)
  cases t with
  | false => exact live _ e1
  | true =>
    have ol : ORow h1 sl l := (r.ext e1).short (ht rfl) (by decide)
    have hl40 : l.length ≤ 40 := by omega
    obtain ⟨rr, hr, hr0, gr⟩ := run_all m f p l
    have grl := gr.len
    unfold J1_law19_PivotsApart
    refine cnd_no rfl (ldA_blk (s := .int .i64) (x := m) b1 rfl (m_New fun h7 e7 q7 => ⟨e7, ?_⟩))
    have b7 := b1.ext e7
    refine ldA_blk (s := .sl) (i := 3) (x := sl) b1 rfl (ldA_blk (s := .int .i64) (i := 1) (x := p) b1 rfl (ldA_blk (s := .int .i64) (i := 2) (x := f) b1 rfl ?_))
    refine p_Choose q7 (e7.only _) (ol.apart (Nat.le_refl _)) (by omega) hr hr0 (by omega) hf fun s h12 os q12 on => ?_
    have x12 : Ext h1 h12 := e7.only_new on (Nat.le_refl _)
    have b12 := b1.ext x12
    have slen := os.row.len
    refine cnd_dec.2 ⟨fun _ => l_lives fun h' e => ⟨rfl, e1.trans (x12.trans e)⟩, fun hge2 => ?_⟩
    refine ldA_blk (s := .int .i64) (x := m) b12 rfl (ldA_blk (s := .sl) (i := 3) (x := sl) b12 rfl (let_to ?_))
    have scap := os.row.cap
    obtain ⟨N, hN⟩ : ∃ N, rr.length = N + 1 := ⟨rr.length - 1, by omega⟩
    have ha : rr[N]? = some (rr[N]'(by omega)) := List.getElem?_eq_getElem (by omega)
    generalize rr[N]'(by omega) = a at ha
    have hra := gr.rng a (List.mem_of_getElem? ha)
    have hx : l[a.toNat]? = some (l[a.toNat]'(by omega)) := List.getElem?_eq_getElem (by omega)
    generalize l[a.toNat]'(by omega) = x at hx
    have hw : IntKind.wrap .i64 ((s.len : Int) - 1) = (N : Int) := by rw [wrap_i64 (by omega) (by omega)]; omega
    refine slc_to (n := N) hw (by omega) (ldA_blk (s := .sl) (i := 3) (x := sl) b12 rfl (let_to ?_))
    rw [hw]
    refine ld_int0 (i := (N : Int)) (x := a) os.row (by omega) (by rw [Int.toNat_natCast]; exact ha) ?_
    refine ld_ob ol x12 hra.1 hx fun ad xx ca rx => ?_
    refine ldA_row0 (s := .int .i64) (x := oTag xx) ca rfl (ldA_row (s := .sl) (j := 1) (x := oVec xx) ca rfl (ldA_row (s := .str) (j := 2) (x := oStr xx) ca rfl ?_))
    refine r_Near (sc := ⟨s.a, N, s.cap⟩) x12 ol (os.row.take (n := N) (by omega)) rx (by rw [List.length_take]; omega) fun h30 e30 => ?_
    generalize hlast : near m l (rr.take N) x = last
    have x30 := x12.trans e30
    have j2 : ∀ g, Ext h30 g → J2_law19_PivotsApart (fun b h' => b = true ∧ Ext h h') ⟨h.size, 0, none⟩ s last () g := by
      intro g0 x0
      unfold J2_law19_PivotsApart
      refine Lp.inv (fun st => Ext h30 st.2 ∧ ∃ k : Nat, st.1.1 = (k : Int) ∧ k ≤ l.length) (fun st => l.length - st.1.1.toNat) ?_ ⟨x0, 0, rfl, by omega⟩
      rintro ⟨⟨k', ⟨⟩⟩, g⟩ R ⟨xg, k, rfl, hk⟩ hR
      simp only at xg
      unfold L1_law19_PivotsApart
      dsimp only
      have xg1 := x30.trans xg
      have bg := b1.ext xg1
      refine ldA_blk (s := .sl) (i := 3) (x := sl) bg rfl (cnd_dec.2 ⟨fun hlt => ?_, fun _ => l_lives fun h' e => ⟨rfl, e1.trans (xg1.trans e)⟩⟩)
      have hy : l[k]? = some (l[k]'(by omega)) := List.getElem?_eq_getElem (by omega)
      generalize l[k]'(by omega) = y at hy
      refine ldA_blk (s := .int .i64) (x := m) bg rfl (ldA_blk (s := .sl) (i := 3) (x := sl) bg rfl (ldA_blk (s := .sl) (i := 3) (x := sl) bg rfl ?_))
      refine ld_ob ol xg1 (i := (k : Int)) (by omega) (by rw [Int.toNat_natCast]; exact hy) fun ad yy ca ry => ?_
      refine ldA_row0 (s := .int .i64) (x := oTag yy) ca rfl (ldA_row (s := .sl) (j := 1) (x := oVec yy) ca rfl (ldA_row (s := .str) (j := 2) (x := oStr yy) ca rfl ?_))
      refine r_Near xg1 ol (os.row.ext (e30.trans xg)) ry (by omega) fun g3 e3 => ?_
      have hap := apart_all gr (by omega) hN ha hx (List.mem_of_getElem? hy)
      refine cnd_no (by rw [decide_eq_false_iff_not]; omega) (let_to ?_)
      rw [wrap_i64 (by omega) (by omega)]
      exact hR _ ⟨xg.trans e3, k + 1, by simp, by omega⟩ (by simp only; omega)
    rw [Jn_eq]
    refine Lp.inv (fun st => Ext h30 st.2 ∧ ∃ i : Nat, st.1.1 = (i : Int) ∧ i ≤ rr.length) (fun st => rr.length - st.1.1.toNat) ?_ ⟨Ext.refl _, 0, rfl, by omega⟩
    rintro ⟨⟨i', ⟨⟩⟩, g⟩ R ⟨xg, i, rfl, hi⟩ hR
    simp only at xg
    unfold L2_law19_PivotsApart
    dsimp only
    refine cnd_dec.2 ⟨fun hlt => ?_, fun _ => j2 g xg⟩
    refine Lp.inv (fun st => Ext g st.2 ∧ ∃ k : Nat, st.1.1 = (k : Int) ∧ k ≤ i) (fun st => i - st.1.1.toNat) ?_ ⟨Ext.refl _, 0, rfl, by omega⟩
    rintro ⟨⟨k', ⟨⟩⟩, g2⟩ R2 ⟨xg2, k, rfl, hk⟩ hR2
    simp only at xg2
    unfold L3_law19_PivotsApart
    dsimp only
    refine cnd_dec.2 ⟨fun hki => ?_, fun hki => let_to ?_⟩
    · have x2 := x30.trans (xg.trans xg2)
      have b2 := b1.ext x2
      have o2 := os.row.ext (e30.trans (xg.trans xg2))
      have hb : rr[i]? = some (rr[i]'(by omega)) := List.getElem?_eq_getElem (by omega)
      have hc : rr[k]? = some (rr[k]'(by omega)) := List.getElem?_eq_getElem (by omega)
      generalize rr[i]'(by omega) = b at hb
      generalize rr[k]'(by omega) = c at hc
      have hrb := gr.rng b (List.mem_of_getElem? hb)
      have hrc := gr.rng c (List.mem_of_getElem? hc)
      have hy : l[b.toNat]? = some (l[b.toNat]'(by omega)) := List.getElem?_eq_getElem (by omega)
      have hz : l[c.toNat]? = some (l[c.toNat]'(by omega)) := List.getElem?_eq_getElem (by omega)
      generalize l[b.toNat]'(by omega) = y at hy
      generalize l[c.toNat]'(by omega) = z at hz
      refine ldA_blk (s := .int .i64) (x := m) b2 rfl (ldA_blk (s := .sl) (i := 3) (x := sl) b2 rfl ?_)
      refine ld_int0 (i := (i : Int)) (x := b) o2 (by omega) (by rw [Int.toNat_natCast]; exact hb) ?_
      refine ld_ob ol x2 hrb.1 hy fun ad yy ca ry => ?_
      refine ldA_row0 (s := .int .i64) (x := oTag yy) ca rfl (ldA_row (s := .sl) (j := 1) (x := oVec yy) ca rfl (ldA_row (s := .str) (j := 2) (x := oStr yy) ca rfl ?_))
      refine ldA_blk (s := .sl) (i := 3) (x := sl) b2 rfl ?_
      refine ld_int0 (i := (k : Int)) (x := c) o2 (by omega) (by rw [Int.toNat_natCast]; exact hc) ?_
      refine ld_ob ol x2 hrc.1 hz fun ad2 zz cz rz => ?_
      refine ldA_row0 (s := .int .i64) (x := oTag zz) cz rfl (ldA_row (s := .sl) (j := 1) (x := oVec zz) cz rfl (ldA_row (s := .str) (j := 2) (x := oStr zz) cz rfl ?_))
      refine c_rDist (ry.ext x2) (rz.ext x2) fun g3 e3 => ?_
      have hap := apart_pair gr (N := N) ha hx (by omega) (by omega) hb hy hc hz
      refine cnd_no (by rw [decide_eq_false_iff_not]; omega) (let_to ?_)
      rw [wrap_i64 (by omega) (by omega)]
      exact hR2 _ ⟨xg2.trans e3, k + 1, by simp, by omega⟩ (by simp only; omega)
    · rw [wrap_i64 (by omega) (by omega)]
      exact hR _ ⟨xg.trans xg2, i + 1, by simp, by omega⟩ (by simp only; omega)
end Go.Proofs.YtfeimjemangpaaaF
