/- Chapter 19: Choose and Spread, and the document's answers. No condition. -/
import Derived.Test.YtfeimjemangpaaaPivotsW
namespace Go.Proofs.YtfeimjemangpaaaF
open Go Go.Proofs.YtfeimjemangpaaaK
set_option linter.unusedSimpArgs false
set_option linter.unusedVariables false

theorem r_Near {m : Int} {sl sc : Sl} {l : List Ob} {c : List Int} {x : StA OT} {o : Ob} {h h0 : Hp} {K : Int → Hp → Prop} (x0 : Ext h0 h) (ol : ORow h0 sl l) (rc : R64 h sc c) (rx : ObR h0 x o) (hb : c.length ≤ 1048576)
    (hK : ∀ h', Ext h h' → K (near m l c o) h') : C_ref19_Near m sl sc (oTag x) (oVec x) (oStr x) h K := by
  refine F_ref19_Near_ok _ _ _ _ _ _ _ _ (push_to fun h1 b1 e1 z1 => let_to ?_)
  have hlen := ol.len
  have clen := rc.len
  refine Lp.inv (fun st => ∃ (k : Nat), st.1.1 = near m l (c.take k) o ∧ st.1.2.1 = (k : Int) ∧ k ≤ c.length ∧ Ext h1 st.2) (fun st => c.length - st.1.2.1.toNat) ?_ ⟨0, rfl, rfl, by omega, Ext.refl _⟩
  rintro ⟨⟨n', k', ⟨⟩⟩, g⟩ R ⟨k, rfl, rfl, hk, x1⟩ hR
  simp only at x1
  unfold L1_ref19_Near
  dsimp only
  have xg := e1.trans x1
  refine cnd_dec.2 ⟨fun hlt => ?_, fun hge => ?_⟩
  · rw [clen] at hlt
    have hi : c[k]? = some (c[k]'(by omega)) := List.getElem?_eq_getElem (by omega)
    have hs := near_snoc m l (c.take k) (c[k]'(by omega)) o
    rw [take_snoc hi] at hs
    generalize c[k]'(by omega) = i at hi hs
    have rg := rc.ext xg
    have bg := b1.ext x1
    have hJ : ∀ b : Bool, (b = true ↔ 0 ≤ i ∧ i < (l.length : Int)) → J1_ref19_Near m sl sc ⟨h.size, 0, none⟩ ((near m l (c.take k) o, (k : Int), ()), g) R (b, ()) g := by
      intro b hb'
      unfold J1_ref19_Near
      dsimp only
      refine cnd_if (fun hbt => ?_) (fun hbf => let_to ?_)
      · obtain ⟨hi0, hil⟩ := hb'.1 hbt
        have hy : l[i.toNat]? = some (l[i.toNat]'(by omega)) := List.getElem?_eq_getElem (by omega)
        generalize l[i.toNat]'(by omega) = y at hy
        refine ld_int0 (i := (k : Int)) (x := i) rg (by omega) (by rw [Int.toNat_natCast]; exact hi) ?_
        refine ld_ob ol (x0.trans xg) hi0 hy fun a yy ca ry => ?_
        refine ldA_row0 (s := .int .i64) (x := oTag yy) ca rfl (ldA_row (s := .sl) (j := 1) (x := oVec yy) ca rfl (ldA_row (s := .str) (j := 2) (x := oStr yy) ca rfl ?_))
        refine ldA_blk (s := .int .i64) (x := oTag x) bg rfl (ldA_blk (s := .sl) (i := 1) (x := oVec x) bg rfl (ldA_blk (s := .str) (i := 2) (x := oStr x) bg rfl ?_))
        refine c_rDist (ry.ext (x0.trans xg)) (rx.ext (x0.trans xg)) fun g2 e2 => let_to (let_to ?_)
        rw [wrap_i64 (by omega) (by omega)]
        refine hR _ ⟨k + 1, ?_, by simp, by omega, x1.trans e2⟩ (by simp only; omega)
        rw [hs, nstep_in hi0 hy]; rfl
      · rw [wrap_i64 (by omega) (by omega)]
        refine hR _ ⟨k + 1, ?_, by simp, by omega, x1⟩ (by simp only; omega)
        rw [hs, nstep_out fun hh => by rw [hb'.2 hh] at hbf; cases hbf]
    rw [Jn_eq]
    refine ld_int0 (i := (k : Int)) (x := i) rg (by omega) (by rw [Int.toNat_natCast]; exact hi) (cnd_dec.2 ⟨fun h0 => ?_, fun h0 => hJ false ⟨fun h => (by cases h), fun h => absurd h.1 h0⟩⟩)
    refine ld_int0 (i := (k : Int)) (x := i) rg (by omega) (by rw [Int.toNat_natCast]; exact hi) (hJ _ ?_)
    rw [hlen, decide_eq_true_iff]
    exact ⟨fun h => ⟨h0, h⟩, fun h => h.2⟩
  · obtain rfl : k = c.length := by omega
    rw [List.take_length]
    exact hK g xg
abbrev clampI (f : Int) (n : Nat) : Int := max 0 (min f ((n : Int) - 1))
theorem Run.le {m : Int} {l : List Ob} {st p : Int} {out r : List Int} (hr : Run m l st p out r) : out.length ≤ r.length := by
  induction hr with
  | full _ => exact Nat.le_refl _
  | stop _ => exact Nat.le_refl _
  | go _ _ _ ih => rw [List.length_append] at ih; omega
theorem p_loop {pm : Nat} {m st p : Int} {h h0 h2 : Hp} {sl t : Sl} {l : List Ob} {K : Sl → Hp → Prop} (x0 : Only pm h0 h) (ol : ARow pm h0 sl l) (hpm : pm < h.size) (e2 : Ext h h2) (tlt : ∀ a, t.a = some a → a.block < h2.size) (hs : 0 ≤ st ∧ st < (l.length : Int)) (hl : l.length ≤ 1048576)
    {r : List Int} (hr : Run m l st p [] r) (hrl : r.length ≤ 1048576) (hK : ∀ s h', OwnRow eQ 1 h.size h' s r → MQ h' pm m ((r.length : Int) * l.length) → Only pm h h' → K s h')
    (ot : OwnRow eQ 1 h.size h2 t (nears m l [])) (qm : MQ h2 pm m 0) : ∃ n, Lp (L1_pivots_Choose (some ⟨pm, 0, none⟩) sl p K t) n ((st, ⟨none, 0, 0⟩, ()), h2) := by
  have hz2 := e2.size
  refine Lp.inv (fun w => ∃ out : List Int, Run m l st p out r ∧ (Nxt m l st out (some w.1.1) ∨ ¬ (out.length : Int) < p) ∧ OwnRow eQ 1 h2.size w.2 w.1.2.1 out ∧ OwnRow eQ 1 h.size w.2 t (nears m l out) ∧ MQ w.2 pm m ((out.length : Int) * l.length) ∧ Only pm h w.2 ∧ h2.size ≤ w.2.size)
    (fun w => r.length - w.1.2.1.len) ?_ ⟨[], hr, .inl (.inl ⟨rfl, rfl⟩), OwnRow.nil _ _ _ _, ot, by simpa using qm, e2.only pm, Nat.le_refl _⟩
  rintro ⟨⟨next, s, ⟨⟩⟩, g⟩ R ⟨out, hr, hx, os, ot, qm, on, hg⟩ hR
  simp only at hx os ot qm on hg
  have oslen := os.row.len
  have sab := os.above
  have tab := ot.above
  unfold L1_pivots_Choose
  dsimp only
  cases hr with
  | full hn => exact cnd_no (by rw [oslen, decide_eq_false_iff_not]; exact hn) (hK s g (os.weaken hz2) qm on)
  | stop hN =>
    rcases hx with hx | hx
    · cases hN.uniq hx
    · exact cnd_no (by rw [oslen, decide_eq_false_iff_not]; exact hx) (hK s g (os.weaken hz2) qm on)
  | @go _ _ n hlt hN hr =>
    rcases hx with hx | hx
    case inr => exact absurd hlt hx
    have e := hN.uniq hx
    injection e with e
    subst e
    have hrng := hN.rng hs
    have hle := hr.le
    rw [List.length_append, List.length_singleton] at hle
    refine cnd_yes (by rw [oslen, decide_eq_true_iff]; exact hlt) ?_
    refine app1 (x := n) eQ_ok (by decide) os hg (by omega) (by decide) rfl rfl fun s3 g3 o3 u3 bl3 _ => ?_
    have hlx : l[n.toNat]? = some (l[n.toNat]'(by omega)) := List.getElem?_eq_getElem (by omega)
    generalize l[n.toNat]'(by omega) = x at hlx
    have ot3 : OwnRow eQ 1 h.size g3 t (nears m l out) := ot.bel bl3 tlt
    have q3 : MQ g3 pm m ((out.length : Int) * l.length) := Blk.bel qm bl3 (by omega)
    have on3 : Only pm h g3 := Only.thenBel on (bl3.mono hz2)
    have x3 : Only pm h0 g3 := x0.trans on3
    have xz := x0.size
    have z3 := bl3.size
    refine ld_oa ol x3 hrng.1 hlx fun a xx ca rx => ?_
    refine ldA_row0 (s := .int .i64) (x := oTag xx) ca rfl (ldA_row (s := .sl) (j := 1) (x := oVec xx) ca rfl (ldA_row (s := .str) (j := 2) (x := oStr xx) ca rfl ?_))
    have hmul : 0 ≤ (out.length : Int) * l.length ∧ (out.length : Int) * l.length ≤ 1048576 * 1048576 := ⟨Int.mul_nonneg (by omega) (by omega), Int.mul_le_mul (by omega) (by omega) (by omega) (by omega)⟩
    refine p_closer (B := h.size) q3 (by omega) x3 ol rx ot3 xz hpm (by omega) (nears_len _ _ _) fun g4 q4 o4 u4 => ?_
    rw [clos_nears hrng.1 hlx] at o4
    have hmul2 : (out.length : Int) * l.length + l.length = ((out ++ [n]).length : Int) * l.length := by
      rw [List.length_append, List.length_singleton, Int.natCast_add, Int.add_mul]; simp
    rw [hmul2] at q4
    have on4 : Only pm h g4 := Only.thenP on3 u4 tab
    have os4 : OwnRow eQ 1 h2.size g4 s3 (out ++ [n]) := OwnRow.onlyP o3 u4 (fun a ha => by have := o3.above a ha; omega) fun a ha c hc => by have := o3.above a ha; have := tlt c hc; omega
    have hlpos : 0 < l.length := by omega
    have hnn : nears m l (out ++ [n]) ≠ [] := fun e => by have := nears_len m l (out ++ [n]); rw [e] at this; simp at this; omega
    refine p_far o4.row hnn (by rw [nears_len]; omega) fun i v f => ?_
    have z4 := u4.1
    refine ld_int0 (i := (i : Int)) (x := v) o4.row (by omega) (by rw [Int.toNat_natCast]; exact f.at_) (cnd_beq.2 ⟨fun hv => ?_, fun hv => ?_⟩)
    · have hNn : Nxt m l st (out ++ [n]) none := .inr ⟨by simp, i, v, f, .inl ⟨hv, rfl⟩⟩
      have hfin : r = out ++ [n] := by
        cases hr with
        | full _ => rfl
        | stop _ => rfl
        | go _ h _ => cases hNn.uniq h
      subst hfin
      exact hK _ _ (os4.weaken hz2) q4 on4
    · refine hR _ ⟨out ++ [n], hr, .inl (.inr ⟨by simp, i, v, f, .inr ⟨hv, rfl⟩⟩), os4, o4, q4, on4, by show h2.size ≤ g4.size; omega⟩ ?_
      have := os4.row.len
      rw [List.length_append, List.length_singleton] at this
      simp only; omega
theorem p_Choose {pm : Nat} {m f p : Int} {h h0 : Hp} {sl : Sl} {l : List Ob} {K : Sl → Hp → Prop} (q : MQ h pm m 0) (x0 : Only pm h0 h) (ol : ARow pm h0 sl l) (hl : l.length ≤ 1048576) {r : List Int} (hr : l ≠ [] → Run m l (clampI f l.length) p [] r) (hr0 : l = [] → r = []) (hrl : r.length ≤ 1048576)
    (hf : -9223372036854775808 ≤ f ∧ f ≤ 9223372036854775807) (hK : ∀ s h', OwnRow eQ 1 h.size h' s r → MQ h' pm m ((r.length : Int) * l.length) → Only pm h h' → K s h') : C_pivots_Choose (some ⟨pm, 0, none⟩) sl p f h K := by
  refine F_pivots_Choose_ok _ _ _ _ _ _ ?_
  unfold F_pivots_Choose
  have hlen := ol.len
  have nil : r = [] → K ⟨none, 0, 0⟩ h := fun e => by
    subst e
    exact hK _ _ (OwnRow.nil _ _ _ _) (by simpa using q) (Only.refl _ _)
  rw [Jn_eq]
  refine cnd_beq.2 ⟨fun h0' => nil (hr0 (List.length_eq_zero_iff.1 (by omega))), fun hne => cnd_dec.2 ⟨fun hp1 => nil ?_, fun hp1 => ?_⟩⟩
  · have hne' : l ≠ [] := fun e => by subst e; simp at hlen; omega
    cases hr hne' with
    | full _ => rfl
    | stop _ => rfl
    | go hlt _ _ => simp at hlt; omega
  · have hne' : l ≠ [] := fun e => by subst e; simp at hlen; omega
    unfold J1_pivots_Choose
    rw [hlen]
    refine p_start hl fun t h2 o2 e2 => let_to (let_to (let_to ?_))
    rw [wrap_i64 (by omega) (by omega)]
    have hst : ∀ a b : Int, (if (if a < b then a else b) > 0 then (if a < b then a else b) else 0) = max 0 (min b a) := fun a b => by (repeat' split) <;> omega
    rw [hst]
    rw [← nears_nil m l] at o2
    exact p_loop x0 ol q.lt e2 o2.lt (by omega) hl (hr hne') hrl hK o2 (Blk.ext q e2)
end Go.Proofs.YtfeimjemangpaaaF
