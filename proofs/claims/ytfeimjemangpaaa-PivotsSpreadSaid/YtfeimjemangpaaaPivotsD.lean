/- Chapter 19: the document's Choose; Spread; Short. No condition. -/
import Derived.Test.YtfeimjemangpaaaPivotsC
namespace Go.Proofs.YtfeimjemangpaaaF
open Go Go.Proofs.YtfeimjemangpaaaK
set_option linter.unusedSimpArgs false
set_option linter.unusedVariables false

theorem r_Choose {m f p : Int} {h h0 : Hp} {sl : Sl} {l : List Ob} {K : Sl → Hp → Prop} (x0 : Ext h0 h) (ol : ORow h0 sl l) (hl : l.length ≤ 1048576) {r : List Int} (hr : l ≠ [] → Run m l (clampI f l.length) p [] r) (hr0 : l = [] → r = []) (hrl : r.length ≤ 1048576)
    (hf : -9223372036854775808 ≤ f ∧ f ≤ 9223372036854775807) (hK : ∀ s h', OwnRow eQ 1 h.size h' s r → Ext h h' → K s h') : C_ref19_Choose m sl p f h K := by
  refine F_ref19_Choose_ok _ _ _ _ _ _ ?_
  have hlen := ol.len
  by_cases hl0 : l = []
  · subst hl0
    obtain rfl := hr0 rfl
    simp at hlen
    refine ⟨1, Lp.next ?_⟩
    unfold L1_ref19_Choose
    rw [Jn_eq]
    refine cnd_if (fun _ => cnd_no (by rw [hlen]; rfl) ?_) (fun _ => ?_)
    · exact hK _ _ (OwnRow.nil _ _ _ _) (Ext.refl _)
    · exact hK _ _ (OwnRow.nil _ _ _ _) (Ext.refl _)
  have hlpos := List.length_pos_iff.2 hl0
  have hr := hr hl0
  generalize hst : clampI f l.length = st at hr
  have hs : 0 ≤ st ∧ st < (l.length : Int) := by subst hst; unfold clampI; omega
  refine Lp.inv (fun w => ∃ out : List Int, Run m l st p out r ∧ OwnRow eQ 1 h.size w.2 w.1.1 out ∧ Ext h w.2) (fun w => r.length - w.1.1.len) ?_ ⟨[], hr, OwnRow.nil _ _ _ _, Ext.refl _⟩
  rintro ⟨⟨s, ⟨⟩⟩, g⟩ R ⟨out, hr, os, x1⟩ hR
  simp only at os x1
  have oslen := os.row.len
  have gz := x1.size
  unfold L1_ref19_Choose
  rw [Jn_eq]
  dsimp only
  refine cnd_dec.2 ⟨fun hlt => cnd_yes (by rw [decide_eq_true_iff]; omega) ?_, fun hge => ?_⟩
  case refine_2 =>
    cases hr with
    | full _ => exact hK _ _ os x1
    | stop _ => exact hK _ _ os x1
    | go hlt _ _ => rw [oslen] at hge; exact absurd hlt hge
  rw [oslen] at hlt
  unfold J1_ref19_Choose
  refine let_to (let_to (let_to ?_))
  rw [wrap_i64 (by omega) (by omega), hlen]
  have hc : (if ((l.length : Int) - 1) < (if 0 > f then 0 else f) then ((l.length : Int) - 1) else (if 0 > f then 0 else f)) = st := by
    rw [← hst]; unfold clampI
    (repeat' split) <;> omega
  rw [hc, Jn_eq]
  have push : ∀ n : Int, Run m l st p (out ++ [n]) r → ∀ g2, Ext g g2 → ∀ {e1 e : TypeId}, Let (Array.push g2 (Obj.cells #[.int .i64 n] e1)) fun h4 => Let (Addr.mk (Array.size g2) 0 none) fun p5 => appS e 1 8 [.int .i64 0] s.a s.len s.cap (.slice (some p5) 1 1) h4 fun t6 h7 => R ((t6, ()), h7) := by
    intro n hr g2 e2 e1 e
    have hle := hr.le
    rw [List.length_append, List.length_singleton] at hle
    have os2 := os.ext e2
    have z2 := e2.size
    refine app1 (x := n) eQ_ok (by decide) os2 (by omega) (by omega) (by decide) rfl rfl fun s3 g3 o3 u3 b3 _ => ?_
    refine hR _ ⟨out ++ [n], hr, o3, (x1.trans e2).thenBel (b3.mono (by have := (x1.trans e2).size; omega))⟩ ?_
    have := o3.row.len
    rw [List.length_append, List.length_singleton] at this
    simp only; omega
  by_cases ho : out = []
  · subst ho
    simp at oslen
    have hr2 : Run m l st p ([] ++ [st]) r := by
      cases hr with
      | full h => exact absurd hlt h
      | stop h => cases h.uniq (.inl ⟨rfl, rfl⟩)
      | go _ h h2 => cases h.uniq (.inl ⟨rfl, rfl⟩); exact h2
    refine ⟨1, Lp.next ?_⟩
    unfold L2_ref19_Choose
    rw [Jn_eq]
    dsimp only
    refine cnd_yes (by rw [decide_eq_true_iff]; omega) (cnd_no (by rw [decide_eq_false_iff_not]; omega) ?_)
    unfold J2_ref19_Choose
    dsimp only
    exact cnd_no (by rw [decide_eq_false_iff_not]; omega) (push st hr2 g (Ext.refl _))
  · have hop := List.length_pos_iff.2 ho
    have hle0 := hr.le
    have nl := nears_len m l out
    refine Lp.inv (fun w => Ext g w.2 ∧ ∃ k : Nat, w.1.2.2.1 = (k : Int) ∧ k ≤ l.length ∧ ((w.1.2.1 = 0 ∧ ∀ (j : Nat) (x : Int), j < k → (nears m l out)[j]? = some x → x ≤ 0) ∨ (0 < w.1.2.1 ∧ ∃ nx : Nat, w.1.1 = (nx : Int) ∧ nx < k ∧ (nears m l out)[nx]? = some w.1.2.1 ∧ (∀ (j : Nat) (x : Int), j < nx → (nears m l out)[j]? = some x → x < w.1.2.1) ∧ ∀ (j : Nat) (x : Int), j < k → (nears m l out)[j]? = some x → x ≤ w.1.2.1)))
      (fun w => l.length - w.1.2.2.1.toNat) ?_ ⟨Ext.refl _, 0, rfl, by omega, .inl ⟨rfl, fun j x hj => by omega⟩⟩
    rintro ⟨⟨next, far, k', ⟨⟩⟩, g2⟩ R2 ⟨e2, k, rfl, hk, inv⟩ hR2
    simp only at e2 inv
    unfold L2_ref19_Choose
    rw [Jn_eq]
    dsimp only
    refine cnd_dec.2 ⟨fun hkl => cnd_yes (by rw [decide_eq_true_iff]; omega) ?_, fun hkl => ?_⟩
    · unfold J3_ref19_Choose
      dsimp only
      have hy : l[k]? = some (l[k]'(by omega)) := List.getElem?_eq_getElem (by omega)
      generalize l[k]'(by omega) = y at hy
      have hny := nears_get (m := m) (c := out) hy
      refine ld_ob ol (x0.trans (x1.trans e2)) (i := (k : Int)) (by omega) (by rw [Int.toNat_natCast]; exact hy) fun a yy ca ry => ?_
      refine ldA_row0 (s := .int .i64) (x := oTag yy) ca rfl (ldA_row (s := .sl) (j := 1) (x := oVec yy) ca rfl (ldA_row (s := .str) (j := 2) (x := oStr yy) ca rfl ?_))
      refine r_Near (sc := s) (x0.trans (x1.trans e2)) ol (os.ext e2).row ry (by omega) fun g3 e3 => cnd_dec.2 ⟨fun hgt => let_to ?_, fun hng => let_to ?_⟩
      · rw [wrap_i64 (by omega) (by omega)]
        have hfar0 : 0 ≤ far := by rcases inv with ⟨h, _⟩ | ⟨h, _⟩ <;> omega
        refine hR2 _ ⟨e2.trans e3, k + 1, by simp, by omega, .inr ⟨by show 0 < near m l out y; omega, k, rfl, by omega, hny, fun j x hj hx => ?_, fun j x hj hx => ?_⟩⟩ (by simp only; omega)
        · simp only
          rcases inv with ⟨h0, h1⟩ | ⟨h0, nx, _, _, _, _, h1⟩
          · have := h1 j x hj hx; omega
          · have := h1 j x hj hx; omega
        · simp only
          by_cases e : j = k
          · subst e; rw [hny] at hx; cases hx; exact Int.le_refl _
          · rcases inv with ⟨h0, h1⟩ | ⟨h0, nx, _, _, _, _, h1⟩
            · have := h1 j x (by omega) hx; omega
            · have := h1 j x (by omega) hx; omega
      · rw [wrap_i64 (by omega) (by omega)]
        refine hR2 _ ⟨e2.trans e3, k + 1, by simp, by omega, ?_⟩ (by simp only; omega)
        simp only
        rcases inv with ⟨h0, h1⟩ | ⟨h0, nx, h1, h2, h3, h4, h5⟩
        · refine .inl ⟨h0, fun j x hj hx => ?_⟩
          by_cases e : j = k
          · subst e; rw [hny] at hx; cases hx; omega
          · exact h1 j x (by omega) hx
        · refine .inr ⟨h0, nx, h1, by omega, h3, h4, fun j x hj hx => ?_⟩
          by_cases e : j = k
          · subst e; rw [hny] at hx; cases hx; omega
          · exact h5 j x (by omega) hx
    · have hkl : k = l.length := by omega
      unfold J2_ref19_Choose
      dsimp only
      refine cnd_yes (by rw [decide_eq_true_iff]; omega) (cnd_beq.2 ⟨fun hf0 => ?_, fun hf0 => ?_⟩)
      · have hN : Nxt m l st out none := by
          obtain ⟨i, v, fa⟩ := far_ex (nears m l out) (fun e => by rw [e] at nl; simp at nl; omega)
          rcases inv with ⟨_, h1⟩ | ⟨h0, _⟩
          · have hi := (List.getElem?_eq_some_iff.1 fa.at_).1
            have hv1 := h1 i v (by omega) fa.at_
            have hyi : l[i]? = some (l[i]'(by omega)) := List.getElem?_eq_getElem (by omega)
            have hvv := fa.at_
            rw [nears_get hyi] at hvv
            injection hvv with hvv
            have := near_nn m l (l[i]'(by omega)) out
            exact .inr ⟨ho, i, v, fa, .inl ⟨by omega, rfl⟩⟩
          · omega
        have hfin : r = out := by
          cases hr with
          | full _ => rfl
          | stop _ => rfl
          | go _ h _ => cases h.uniq hN
        subst hfin
        exact hK _ _ (os.ext e2) (x1.trans e2)
      · rcases inv with ⟨h0, _⟩ | ⟨h0, nx, rfl, h2, h3, h4, h5⟩
        · exact absurd h0 hf0
        · have hN : Nxt m l st out (some (nx : Int)) := .inr ⟨ho, nx, far, ⟨h3, h4, fun j x hx => h5 j x (by have := (List.getElem?_eq_some_iff.1 hx).1; omega) hx⟩, .inr ⟨hf0, rfl⟩⟩
          have hr2 : Run m l st p (out ++ [(nx : Int)]) r := by
            cases hr with
            | full h => exact absurd hlt h
            | stop h => cases h.uniq hN
            | go _ h h2 => cases h.uniq hN; exact h2
          exact push _ hr2 g2 e2
/-! Spread. -/
def inr' (l : List Ob) (c : List Int) : List Int := c.filter fun i => decide (0 ≤ i ∧ i < (l.length : Int))
theorem inr_snoc (l : List Ob) (c : List Int) (i : Int) : inr' l (c ++ [i]) = inr' l c ++ (if 0 ≤ i ∧ i < (l.length : Int) then [i] else []) := by
  unfold inr'
  rw [List.filter_append]
  congr 1
  by_cases h : 0 ≤ i ∧ i < (l.length : Int)
  · rw [if_pos h, List.filter_cons_of_pos (by simpa using h)]; rfl
  · rw [if_neg h, List.filter_cons_of_neg (by simpa using h)]; rfl
theorem nears_skip {m : Int} {l : List Ob} {c : List Int} {i : Int} (h : ¬ (0 ≤ i ∧ i < (l.length : Int))) : nears m l (c ++ [i]) = nears m l c := by
  unfold nears
  apply List.map_congr_left
  intro x _
  rw [near_snoc, nstep_out h]
theorem p_Spread {pm : Nat} {m : Int} {h h0 : Hp} {sl sc : Sl} {l : List Ob} {c : List Int} {K : Int → Hp → Prop} (q : MQ h pm m 0) (x0 : Only pm h0 h) (ol : ARow pm h0 sl l) (rc : R64 h0 sc c) (nc : NotAt pm sc c) (hl : l.length ≤ 1048576) (hcl : c.length ≤ 1048576)
    (hK : ∀ w h', (inr' l c = [] → w = 0) → (inr' l c ≠ [] → ∃ i, FarAt (nears m l c) i w) → MQ h' pm m (((inr' l c).length : Int) * l.length) → Only pm h h' → K w h') : C_pivots_Spread (some ⟨pm, 0, none⟩) sl sc h K := by
  refine F_pivots_Spread_ok _ _ _ _ _ ?_
  have hlen := ol.len
  have clen := rc.len
  unfold F_pivots_Spread
  rw [hlen]
  refine p_start hl fun t h2 o2 e2 => ?_
  rw [← nears_nil m l] at o2
  have tlt := o2.lt
  have hpl := q.lt
  have hz2 := e2.size
  rw [Jn_eq]
  refine Lp.inv (fun w => ∃ k : Nat, w.1.2.1 = (k : Int) ∧ k ≤ c.length ∧ (w.1.1 = true ↔ inr' l (c.take k) = []) ∧ OwnRow eQ 1 h.size w.2 t (nears m l (c.take k)) ∧ MQ w.2 pm m (((inr' l (c.take k)).length : Int) * l.length) ∧ Only pm h w.2 ∧ h.size ≤ w.2.size)
    (fun w => c.length - w.1.2.1.toNat) ?_ ⟨0, rfl, by omega, by simp [inr'], o2, by simpa [inr'] using Blk.ext q e2, e2.only pm, hz2⟩
  rintro ⟨⟨none', k', ⟨⟩⟩, g⟩ R ⟨k, rfl, hk, hno, ot, qm, on, hg⟩ hR
  simp only at hno ot qm on hg
  have tab := ot.above
  have x1 : Only pm h0 g := x0.trans on
  have xz := x0.size
  unfold L1_pivots_Spread
  dsimp only
  refine cnd_dec.2 ⟨fun hlt => ?_, fun hge => ?_⟩
  · rw [clen] at hlt
    have hi : c[k]? = some (c[k]'(by omega)) := List.getElem?_eq_getElem (by omega)
    have hsn := inr_snoc l (c.take k) (c[k]'(by omega))
    have hsk := nears_skip (m := m) (l := l) (c := c.take k) (i := c[k]'(by omega))
    have hcn := fun x => clos_nears (m := m) (l := l) (c := c.take k) (i := c[k]'(by omega)) (x := x)
    rw [take_snoc hi] at hsn hsk hcn
    generalize c[k]'(by omega) = i at hi hsn hsk hcn
    refine ld_int0 (i := (k : Int)) (x := i) (isRow_only rc x1 nc) (by omega) (by rw [Int.toNat_natCast]; exact hi) ?_
    rw [Jn_eq]
    have hJ : ∀ b : Bool, (b = true ↔ 0 ≤ i ∧ i < (l.length : Int)) → J2_pivots_Spread (some ⟨pm, 0, none⟩) sl t ((none', (k : Int), ()), g) R i (b, ()) g := by
      intro b hb'
      unfold J2_pivots_Spread
      dsimp only
      refine cnd_if (fun hbt => ?_) (fun hbf => let_to ?_)
      · obtain ⟨hi0, hil⟩ := hb'.1 hbt
        have hy : l[i.toNat]? = some (l[i.toNat]'(by omega)) := List.getElem?_eq_getElem (by omega)
        generalize l[i.toNat]'(by omega) = y at hy
        rw [if_pos ⟨hi0, hil⟩] at hsn
        refine ld_oa ol x1 hi0 hy fun a yy ca ry => ?_
        refine ldA_row0 (s := .int .i64) (x := oTag yy) ca rfl (ldA_row (s := .sl) (j := 1) (x := oVec yy) ca rfl (ldA_row (s := .str) (j := 2) (x := oStr yy) ca rfl ?_))
        have hil' : (inr' l (c.take k)).length ≤ c.length := by
          have := List.length_filter_le (fun i => decide (0 ≤ i ∧ i < (l.length : Int))) (c.take k)
          rw [List.length_take] at this
          show (List.filter _ _).length ≤ _; omega
        have hmul : 0 ≤ ((inr' l (c.take k)).length : Int) * l.length ∧ ((inr' l (c.take k)).length : Int) * l.length ≤ 1048576 * 1048576 := ⟨Int.mul_nonneg (by omega) (by omega), Int.mul_le_mul (by omega) (by omega) (by omega) (by omega)⟩
        refine p_closer (B := h.size) qm (by omega) x1 ol ry ot xz hpl hg (nears_len _ _ _) fun g4 q4 o4 u4 => let_to ?_
        rw [hcn _ hi0 hy] at o4
        rw [wrap_i64 (by omega) (by omega)]
        have z4 := u4.1
        refine hR _ ⟨k + 1, by simp, by omega, ⟨fun h => (by cases h), fun h => (by rw [hsn] at h; simp at h)⟩, o4, ?_, Only.thenP on u4 tab, by show h.size ≤ g4.size; omega⟩ (by simp only; omega)
        rw [hsn, List.length_append, List.length_singleton, Int.natCast_add, Int.add_mul]; simpa using q4
      · have hn : ¬ (0 ≤ i ∧ i < (l.length : Int)) := fun hh => by rw [hb'.2 hh] at hbf; cases hbf
        rw [if_neg hn, List.append_nil] at hsn
        rw [wrap_i64 (by omega) (by omega)]
        refine hR _ ⟨k + 1, by simp, by omega, by rw [hsn]; exact hno, by rw [hsk hn]; exact ot, by rw [hsn]; exact qm, on, hg⟩ (by simp only; omega)
    refine cnd_dec.2 ⟨fun h0 => hJ _ ?_, fun h0 => hJ false ⟨fun h => (by cases h), fun h => absurd h.1 h0⟩⟩
    rw [hlen, decide_eq_true_iff]
    exact ⟨fun h => ⟨h0, h⟩, fun h => h.2⟩
  · obtain rfl : k = c.length := by omega
    rw [List.take_length] at hno ot qm
    unfold J1_pivots_Spread
    dsimp only
    refine cnd_if (fun hb => hK 0 g (fun _ => rfl) (fun h => absurd (hno.1 hb) h) qm on) fun hb => ?_
    have hne : inr' l c ≠ [] := fun h => by rw [hno.2 h] at hb; cases hb
    have hnn : nears m l c ≠ [] := fun e => by
      have := nears_len m l c
      rw [e] at this
      obtain rfl := List.length_eq_zero_iff.1 this.symm
      apply hne
      unfold inr'
      rw [List.filter_eq_nil_iff]
      intro a _
      simp
    refine p_far ot.row hnn (by rw [nears_len]; omega) fun i v f => ?_
    exact ld_int0 (i := (i : Int)) (x := v) ot.row (by omega) (by rw [Int.toNat_natCast]; exact f.at_) (hK v g (fun h => absurd h hne) (fun _ => ⟨i, f⟩) qm on)
end Go.Proofs.YtfeimjemangpaaaF
