/- Chapter 45, ReportShape: the document's numbers, and that the statement answers true. No condition. -/
import Derived.Test.YtaakopekdpopnaaShapeRef
namespace Go.Proofs.YtaakopekdpopnaaF
open Go Go.Proofs.YtaakopekdpopnaaK
set_option linter.unusedSimpArgs false
set_option linter.unusedVariables false

/-- The three lists of parents, one by one. -/
def p3 (l0 l1 l2 : List Int) : Nat → List Int
  | 0 => l0
  | 1 => l1
  | _ => l2
def d3 (l0 l1 l2 : List Int) : Nat → Int
  | 0 => 0
  | k + 1 => max (d3 l0 l1 l2 k) (mxd (p3 l0 l1 l2 k) (p3 l0 l1 l2 k).length)
theorem d3_three (l0 l1 l2 : List Int) : d3 l0 l1 l2 3 = max (max (mxd l0 l0.length) (mxd l1 l1.length)) (mxd l2 l2.length) := by
  have := (mxd_bd l0 l0.length).1
  simp only [d3, p3]; omega
theorem d3_nn (l0 l1 l2 : List Int) : ∀ k, 0 ≤ d3 l0 l1 l2 k
  | 0 => Int.le_refl _
  | k + 1 => by have := d3_nn l0 l1 l2 k; simp only [d3]; omega

structure Ls (h : Hp) (b : Nat) (s0 s1 s2 : Sl) (l0 l1 l2 : List Int) : Prop where
  blk : Blk h b #[SV s0, SV s1, SV s2]
  r0 : R64 h s0 l0
  r1 : R64 h s1 l1
  r2 : R64 h s2 l2
theorem Ls.ld {h : Hp} {b : Nat} {s0 s1 s2 : Sl} {l0 l1 l2 : List Int} (r : Ls h b s0 s1 s2 l0 l1 l2) {k : Nat} (hk : k < 3) {K : Sl → Prop} (hK : ∀ s, R64 h s (p3 l0 l1 l2 k) → K s) : idxS (some ⟨b, 0, none⟩) 3 (k : Int) 1 fun p => ldA .sl h p K := by
  refine idx_blk (by omega) ?_
  simp only [Int.toNat_natCast, Nat.mul_one]
  match k, hk with
  | 0, _ => exact ldA_blk (s := .sl) (x := s0) r.blk rfl (hK _ r.r0)
  | 1, _ => exact ldA_blk (s := .sl) (x := s1) r.blk rfl (hK _ r.r1)
  | 2, _ => exact ldA_blk (s := .sl) (x := s2) r.blk rfl (hK _ r.r2)

theorem rs_J3 {sb sv sm sp sr s0 s1 s2 : Sl} {d dp g : Int} {l0 l1 l2 : List Int} {h : Hp} {b0 b1 : Nat} {K : Sl → Hp → Prop} (im : Blk h b0 #[SV sb, SV sv, SV sm, .int .i64 d, SV sp, SV sr]) (ls : Ls h b1 s0 s1 s2 l0 l1 l2)
    (h0 : l0.length * 8 ≤ 140737488355328) (h1 : l1.length * 8 ≤ 140737488355328) (h2 : l2.length * 8 ≤ 140737488355328)
    (hk : ∀ h' s', R64 h' s' [(l0.length : Int) + l1.length + l2.length, dp, g, sp.len, sr.len] → Ext h h' → K s' h') : J3_ref45_Shape K ⟨b0, 0, none⟩ ⟨some ⟨b1, 0, none⟩, 3, 3⟩ (dp, ()) (g, ()) h := by
  unfold J3_ref45_Shape
  dsimp only
  refine Ls.ld ls (k := 0) (by omega) fun t0 q0 => Ls.ld ls (k := 1) (by omega) fun t1 q1 => let_to (Ls.ld ls (k := 2) (by omega) fun t2 q2 => let_to ?_)
  rw [q0.len, q1.len, q2.len]
  simp only [p3]
  rw [wrap_i64 (x := (l0.length : Int) + l1.length) (by omega) (by omega), wrap_i64 (by omega) (by omega)]
  refine ldA_blk (s := .sl) (i := 4) (x := sp) im rfl (ldA_blk (s := .sl) (i := 5) (x := sr) im rfl (push_to fun h1 w1 u1 y1 => let_to ?_))
  exact hk h1 _ (Blk.row encI64 w1 (l := [(l0.length : Int) + l1.length + l2.length, dp, g, sp.len, sr.len]) (cap := 5) (by simp) rfl) u1
theorem rs_J2 {sb sv sm sp sr s0 s1 s2 : Sl} {d dp g : Int} {l0 l1 l2 : List Int} {vp : List (StA VP)} {h : Hp} {b0 b1 : Nat} {K : Sl → Hp → Prop} (im : Blk h b0 #[SV sb, SV sv, SV sm, .int .i64 d, SV sp, SV sr]) (ls : Ls h b1 s0 s1 s2 l0 l1 l2)
    (h0 : l0.length * 8 ≤ 140737488355328) (h1 : l1.length * 8 ≤ 140737488355328) (h2 : l2.length * 8 ≤ 140737488355328) (rv : IsRow (vsA VP) 14 h sv vp) (hv : vp.length * 8 ≤ 140737488355328) (hg : 0 ≤ g ∧ g ≤ 140737488355328)
    (hk : ∀ h' s', R64 h' s' [(l0.length : Int) + l1.length + l2.length, dp, g + cnt vpGone vp, sp.len, sr.len] → Ext h h' → K s' h') : J2_ref45_Shape K ⟨b0, 0, none⟩ ⟨some ⟨b1, 0, none⟩, 3, 3⟩ (dp, ()) (g, ()) h := by
  unfold J2_ref45_Shape
  rw [Jn_eq]
  refine Lp.inv (fun st => ∃ k : Nat, st = ((((g + cnt vpGone (vp.take k), (k : Int), ()), h)) : (Int × Int × Unit) × Hp) ∧ k ≤ vp.length) (fun st => vp.length - st.1.2.1.toNat) ?_ ⟨0, by simp [cnt], by omega⟩
  rintro _ R ⟨k, rfl, hk1⟩ hR
  unfold L1_ref45_Shape
  dsimp only
  refine ldA_blk (s := .sl) (i := 1) (x := sv) im rfl (cnd_dec.2 ⟨fun hlt => ?_, fun hge => ?_⟩)
  · rw [rv.len] at hlt
    have hkl : k < vp.length := by omega
    have hx : vp[k]? = some vp[k] := List.getElem?_eq_getElem hkl
    have hcg := cnt_le vpGone (vp.take k)
    rw [List.length_take] at hcg
    have htk := take_snoc hx
    refine ldA_blk (s := .sl) (i := 1) (x := sv) im rfl (ld_row (i := (k : Int)) (x := vp[k]) rv (by omega) (by rw [Int.toNat_natCast]; exact hx) fun a ha hc => ldA_row (s := .bool) (j := 6) (x := vpGone vp[k]) hc rfl (cnd_if (fun hg2 => let_to (let_to ?_)) fun hg2 => let_to ?_))
    · rw [wrap_i64 (by omega) (by omega), wrap_i64 (by omega) (by omega)]
      refine hR _ ⟨k + 1, ?_, by omega⟩ (by simp only; omega)
      rw [← htk, cnt_snoc, if_pos hg2]; simp [Int.add_assoc]
    · rw [wrap_i64 (by omega) (by omega)]
      refine hR _ ⟨k + 1, ?_, by omega⟩ (by simp only; omega)
      rw [← htk, cnt_snoc, if_neg (by rw [hg2]; simp)]; simp
  · rw [rv.len] at hge
    have : k = vp.length := by omega
    subst this
    rw [List.take_length]
    exact rs_J3 im ls h0 h1 h2 hk
theorem rs_J1 {sb sv sm sp sr s0 s1 s2 : Sl} {d dp : Int} {l0 l1 l2 : List Int} {bk : List (StA BK)} {vp : List (StA VP)} {h : Hp} {b0 b1 : Nat} {K : Sl → Hp → Prop} (im : Blk h b0 #[SV sb, SV sv, SV sm, .int .i64 d, SV sp, SV sr]) (ls : Ls h b1 s0 s1 s2 l0 l1 l2)
    (h0 : l0.length * 8 ≤ 140737488355328) (h1 : l1.length * 8 ≤ 140737488355328) (h2 : l2.length * 8 ≤ 140737488355328) (rb : IsRow (vsA BK) 7 h sb bk) (rv : IsRow (vsA VP) 14 h sv vp) (hb : bk.length * 8 ≤ 140737488355328) (hv : vp.length * 8 ≤ 140737488355328)
    (hk : ∀ h' s', R64 h' s' [(l0.length : Int) + l1.length + l2.length, dp, cnt bkGone bk + cnt vpGone vp, sp.len, sr.len] → Ext h h' → K s' h') : J1_ref45_Shape K ⟨b0, 0, none⟩ ⟨some ⟨b1, 0, none⟩, 3, 3⟩ (dp, ()) h := by
  unfold J1_ref45_Shape
  rw [Jn_eq]
  refine Lp.inv (fun st => ∃ k : Nat, st = (((((cnt bkGone (bk.take k) : Nat) : Int), (k : Int), ()), h) : (Int × Int × Unit) × Hp) ∧ k ≤ bk.length) (fun st => bk.length - st.1.2.1.toNat) ?_ ⟨0, by simp [cnt], by omega⟩
  rintro _ R ⟨k, rfl, hk1⟩ hR
  unfold L2_ref45_Shape
  dsimp only
  refine ldA_blk (s := .sl) (x := sb) im rfl (cnd_dec.2 ⟨fun hlt => ?_, fun hge => ?_⟩)
  · rw [rb.len] at hlt
    have hkl : k < bk.length := by omega
    have hx : bk[k]? = some bk[k] := List.getElem?_eq_getElem hkl
    have hcg := cnt_le bkGone (bk.take k)
    rw [List.length_take] at hcg
    have htk := take_snoc hx
    refine ldA_blk (s := .sl) (x := sb) im rfl (ld_row (i := (k : Int)) (x := bk[k]) rb (by omega) (by rw [Int.toNat_natCast]; exact hx) fun a ha hc => ldA_row (s := .bool) (j := 4) (x := bkGone bk[k]) hc rfl (cnd_if (fun hg2 => let_to (let_to ?_)) fun hg2 => let_to ?_))
    · rw [wrap_i64 (by omega) (by omega), wrap_i64 (by omega) (by omega)]
      refine hR _ ⟨k + 1, ?_, by omega⟩ (by simp only; omega)
      rw [← htk, cnt_snoc, if_pos hg2]; simp
    · rw [wrap_i64 (by omega) (by omega)]
      refine hR _ ⟨k + 1, ?_, by omega⟩ (by simp only; omega)
      rw [← htk, cnt_snoc, if_neg (by rw [hg2]; simp)]; simp
  · rw [rb.len] at hge
    have : k = bk.length := by omega
    subst this
    rw [List.take_length]
    have hcb := cnt_le bkGone bk
    exact rs_J2 im ls h0 h1 h2 rv hv ⟨by omega, by omega⟩ hk
theorem p3_len {l0 l1 l2 : List Int} {m : Nat} (h0 : l0.length ≤ m) (h1 : l1.length ≤ m) (h2 : l2.length ≤ m) (k : Nat) : (p3 l0 l1 l2 k).length ≤ m := by
  match k with
  | 0 => exact h0
  | 1 => exact h1
  | k + 2 => exact h2
theorem d3_le {l0 l1 l2 : List Int} {m : Nat} (h0 : l0.length ≤ m) (h1 : l1.length ≤ m) (h2 : l2.length ≤ m) : ∀ k, d3 l0 l1 l2 k ≤ m
  | 0 => by simp [d3]
  | k + 1 => by
    have := d3_le h0 h1 h2 k
    have h3 := p3_len h0 h1 h2 k
    have h4 := (mxd_bd (p3 l0 l1 l2 k) (p3 l0 l1 l2 k).length).2
    simp only [d3]; omega
theorem ref_Shape {sb sv sm sp sr : Sl} {d : Int} {bk : List (StA BK)} {vp : List (StA VP)} {mn : List (StA MN)} {h : Hp} {K : Sl → Hp → Prop} (rb : IsRow (vsA BK) 7 h sb bk) (rv : IsRow (vsA VP) 14 h sv vp) (rm : IsRow (vsA MN) 3 h sm mn)
    (hb : bk.length * 8 ≤ 140737488355328) (hv : vp.length * 8 ≤ 140737488355328) (hm : mn.length * 8 ≤ 140737488355328)
    (hk : ∀ h' s', R64 h' s' [(bk.length : Int) + vp.length + mn.length, max (max (mxd (bk.map bkPar) bk.length) (mxd (vp.map vpPar) vp.length)) (mxd (mn.map mnPar) mn.length), cnt bkGone bk + cnt vpGone vp, sp.len, sr.len] → Ext h h' → K s' h') :
    C_ref45_Shape sb sv sm d sp sr h K := by
  refine F_ref45_Shape_ok _ _ _ _ _ _ _ _ (push_to fun h1 w1 u1 y1 => let_to ?_)
  refine ldA_blk (s := .sl) (x := sb) w1 rfl (ldA_blk (s := .sl) (i := 1) (x := sv) w1 rfl (ldA_blk (s := .sl) (i := 2) (x := sm) w1 rfl (ldA_blk (s := .int .i64) (i := 3) (x := d) w1 rfl (ldA_blk (s := .sl) (i := 4) (x := sp) w1 rfl (ldA_blk (s := .sl) (i := 5) (x := sr) w1 rfl ?_)))))
  refine r_parents (rb.ext u1) (rv.ext u1) (rm.ext u1) hb hv hm fun h2 b s0 s1 s2 w2 q0 q1 q2 u2 => ?_
  have ls : Ls h2 b s0 s1 s2 (bk.map bkPar) (vp.map vpPar) (mn.map mnPar) := ⟨w2, q0, q1, q2⟩
  generalize hl0 : bk.map bkPar = l0 at ls
  generalize hl1 : vp.map vpPar = l1 at ls
  generalize hl2 : mn.map mnPar = l2 at ls
  have n0 : l0.length = bk.length := by rw [← hl0]; simp
  have n1 : l1.length = vp.length := by rw [← hl1]; simp
  have n2 : l2.length = mn.length := by rw [← hl2]; simp
  have im := w1.ext u2
  have x2 := u1.trans u2
  rw [hl0, hl1, hl2] at hk
  rw [Jn_eq]
  refine Lp.inv (fun st => ∃ k : Nat, st = (((d3 l0 l1 l2 k, (k : Int), ()), h2) : (Int × Int × Unit) × Hp) ∧ k ≤ 3) (fun st => 3 - st.1.2.1.toNat) ?_ ⟨0, rfl, by omega⟩
  rintro _ R ⟨k, rfl, hk3⟩ hR
  unfold L3_ref45_Shape
  dsimp only
  refine cnd_dec.2 ⟨fun hlt => ?_, fun hge => ?_⟩
  · have hk3 : k < 3 := by omega
    have hm0 := d3_nn l0 l1 l2 k
    have hm1 := d3_le (m := 17592186044416) (l0 := l0) (l1 := l1) (l2 := l2) (by omega) (by omega) (by omega) k
    have hpl := p3_len (m := 17592186044416) (l0 := l0) (l1 := l1) (l2 := l2) (by omega) (by omega) (by omega) k
    generalize hL : p3 l0 l1 l2 k = L at hpl
    refine Lp.inv (fun st => ∃ i : Nat, st = (((max (d3 l0 l1 l2 k) (mxd L i), (i : Int), ()), h2) : (Int × Int × Unit) × Hp) ∧ i ≤ L.length) (fun st => L.length - st.1.2.1.toNat) ?_ ⟨0, by simp only [mxd]; rw [show max (d3 l0 l1 l2 k) 0 = d3 l0 l1 l2 k by omega]; rfl, by omega⟩
    rintro _ R2 ⟨i, rfl, hi⟩ hR2
    unfold L4_ref45_Shape
    dsimp only
    refine Ls.ld ls hk3 fun t0 q0 => ?_
    rw [hL] at q0
    refine cnd_dec.2 ⟨fun hlt2 => ?_, fun hge2 => ?_⟩
    · rw [q0.len] at hlt2
      have hil : i < L.length := by omega
      have hdi := dep_le L i
      have hmi := mxd_bd L i
      -- the chain of parents
      refine Lp.inv (fun st => ∃ (n j : Nat), st = ((((n : Int), (j : Int), ()), h2) : (Int × Int × Unit) × Hp) ∧ j ≤ i ∧ n + dep L j = dep L i + 1) (fun st => st.1.2.1.toNat) ?_ ⟨1, i, rfl, by omega, by omega⟩
      rintro _ R3 ⟨n, j, rfl, hji, hnj⟩ hR3
      unfold L5_ref45_Shape
      rw [Jn_eq]
      dsimp only
      have hx : L[j]? = some L[j] := List.getElem?_eq_getElem (by omega)
      have hdj := dep_le L j
      have fin : ¬ (0 ≤ L[j] ∧ L[j] < (j : Int)) → R2 ((if (n : Int) > max (d3 l0 l1 l2 k) (mxd L i) then (n : Int) else max (d3 l0 l1 l2 k) (mxd L i), IntKind.wrap .i64 ((i : Int) + 1), ()), h2) := by
        intro hn
        have h1 := dep_top hx hn
        rw [wrap_i64 (by omega) (by omega)]
        refine hR2 _ ⟨i + 1, ?_, by omega⟩ (by simp only; omega)
        have : (if (n : Int) > max (d3 l0 l1 l2 k) (mxd L i) then (n : Int) else max (d3 l0 l1 l2 k) (mxd L i)) = max (d3 l0 l1 l2 k) (mxd L (i + 1)) := by
          simp only [mxd]
          split <;> omega
        rw [this]; rfl
      refine Ls.ld ls hk3 fun t1 q1 => ?_
      rw [hL] at q1
      refine ld_int0 (i := (j : Int)) (x := L[j]) q1 (by omega) (by rw [Int.toNat_natCast]; exact hx) (cnd_dec.2 ⟨fun h0 => ?_, fun h0 => ?_⟩)
      · refine Ls.ld ls hk3 fun t2 q2 => ?_
        rw [hL] at q2
        refine ld_int0 (i := (j : Int)) (x := L[j]) q2 (by omega) (by rw [Int.toNat_natCast]; exact hx) (cnd_dec.2 ⟨fun h1 => ?_, fun h1 => ?_⟩)
        · unfold J4_ref45_Shape
          dsimp only
          have hup := dep_up hx ⟨h0, h1⟩
          refine let_to (Ls.ld ls hk3 fun t3 q3 => ?_)
          rw [hL] at q3
          refine ld_int0 (i := (j : Int)) (x := L[j]) q3 (by omega) (by rw [Int.toNat_natCast]; exact hx) ?_
          rw [wrap_i64 (by omega) (by omega)]
          refine hR3 _ ⟨n + 1, L[j].toNat, ?_, by omega, by omega⟩ (by simp only; omega)
          rw [Int.toNat_of_nonneg h0]; rfl
        · exact let_to (let_to (fin fun h => h1 h.2))
      · exact let_to (let_to (fin fun h => h0 h.1))
    · rw [q0.len] at hge2
      have : i = L.length := by omega
      subst this
      refine let_to ?_
      rw [wrap_i64 (by omega) (by omega)]
      refine hR _ ⟨k + 1, ?_, by omega⟩ (by simp only; omega)
      simp only [d3, hL]; rfl
  · have : k = 3 := by omega
    subst this
    rw [d3_three]
    refine rs_J1 im ls (by omega) (by omega) (by omega) (rb.ext x2) (rv.ext x2) hb hv fun h' s' r' u' => hk h' s' ?_ (x2.trans u')
    rw [n0, n1, n2] at r'; exact r'
end Go.Proofs.YtaakopekdpopnaaF
