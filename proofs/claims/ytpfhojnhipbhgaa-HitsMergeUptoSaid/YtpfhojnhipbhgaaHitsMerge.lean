/- Chapter 11: two rows of hits. No condition. -/
import Derived.Test.YtpfhojnhipbhgaaHitsSame
import Derived.Test.YtpfhojnhipbhgaaHitsLives
import Derived.Test.YtpfhojnhipbhgaaK21
namespace Go.Proofs.YtpfhojnhipbhgaaF
open Go Go.Proofs.YtpfhojnhipbhgaaK
set_option linter.unusedSimpArgs false
set_option linter.unusedVariables false

theorem hle_trans {x y z : StA HT} (h1 : hlt y x = false) (h2 : hlt z y = false) : hlt z x = false := by
  rw [hlt_no] at *; omega
theorem hlt_asym {x y : StA HT} (h : hlt x y = true) : hlt y x = false := by
  rw [hlt_iff] at h; rw [hlt_no]; omega
theorem chain_srt : ∀ {l : List (StA HT)}, (∀ (i : Nat) x y, l[i]? = some x → l[i + 1]? = some y → hlt y x = false) → Srt hlt l
  | [], _ => List.Pairwise.nil
  | x :: l, h => by
    have ih := chain_srt (l := l) fun i a b ha hb => h (i + 1) a b (by simpa using ha) (by simpa using hb)
    refine List.pairwise_cons.2 ⟨fun z hz => ?_, ih⟩
    cases l with
    | nil => cases hz
    | cons y m =>
      have hxy := h 0 x y rfl rfl
      rcases List.mem_cons.1 hz with rfl | hz
      · exact hxy
      · exact hle_trans hxy ((List.pairwise_cons.1 ih).1 z hz)
theorem srt_chain {l : List (StA HT)} (h : Srt hlt l) {i : Nat} {x y : StA HT} (hx : l[i]? = some x) (hy : l[i + 1]? = some y) : hlt y x = false := by
  have h1 := (List.getElem?_eq_some_iff.1 hx)
  have h2 := (List.getElem?_eq_some_iff.1 hy)
  obtain ⟨h1l, h1e⟩ := h1
  obtain ⟨h2l, h2e⟩ := h2
  have := List.pairwise_iff_getElem.1 h i (i + 1) h1l h2l (by omega)
  rw [h1e, h2e] at this; exact this
theorem h_get {h : Hp} {s : Sl} {d : List (StA HT)} (r : RH h s d) {i : Int} {k : Nat} {x : StA HT} (hi : i = k) (hx : d[k]? = some x) {K : Addr → Prop} (hK : ∀ a, cellsAt h a (vsA HT x) → K a) : idxS s.a s.len i 2 K := by
  subst hi
  exact ld_row r (i := (k : Int)) (x := x) (by omega) hx fun a _ hc => hK _ hc
theorem h_ld {h : Hp} {s : Sl} {d : List (StA HT)} (r : RH h s d) {i : Int} {k : Nat} {x : StA HT} (hi : i = k) (hx : d[k]? = some x) {K : Int → Int → Prop} (hK : K (hId x) (hDi x)) : idxS s.a s.len i 2 fun p => ldA (.int .u64) h p fun a => ldA (.int .i64) h (Addr.add p 1) fun b => K a b :=
  h_get r hi hx fun a hc => ldA_row0 hc (x := hId x) rfl (ldA_row hc (j := 1) (x := hDi x) rfl hK)
theorem c_hSorted {h : Hp} {s : Sl} {l : List (StA HT)} (r : RH h s l) (hl : l.length ≤ 4611686018427387904) {K : Bool → Hp → Prop} (hK : ∀ b h', Ext h h' → (b = true ↔ Srt hlt l) → K b h') : C_hits_Sorted s h K := by
  have hlen := r.len
  refine F_hits_Sorted_ok _ _ _ (F_slices_IsSortedFunc_api_Hit_api_Hit_ok _ _ _ _ (let_to ?_))
  rw [wrap_i64 (by omega) (by omega)]
  refine Lp.inv (fun st => Ext h st.2 ∧ st.1.1 ≤ (l.length : Int) - 1 ∧ -1 ≤ st.1.1 ∧ ∀ (j : Nat) x y, st.1.1 ≤ (j : Int) → l[j]? = some x → l[j + 1]? = some y → hlt y x = false) (fun st => (st.1.1 + 1).toNat) ?_
    ⟨Ext.refl _, by simp only; omega, by simp only; omega, fun j x y hj hx hy => by have := (List.getElem?_eq_some_iff.1 hy).1; simp only at hj; omega⟩
  rintro ⟨⟨i, ⟨⟩⟩, g⟩ R ⟨x, hi, hi0, hin⟩ hR
  simp only at x hi hi0 hin
  unfold L1_slices_IsSortedFunc_api_Hit_api_Hit
  dsimp only
  refine cnd_dec.2 ⟨fun hpos => ?_, fun hz => hK _ g x ⟨fun _ => chain_srt fun j a b ha hb => hin j a b (by omega) ha hb, fun _ => rfl⟩⟩
  obtain ⟨k, rfl⟩ : ∃ k : Nat, i = ((k + 1 : Nat) : Int) := ⟨(i - 1).toNat, by omega⟩
  have rg := r.ext x
  have h1 : l[k + 1]? = some (l[k + 1]'(by omega)) := List.getElem?_eq_getElem _
  have h0 : l[k]? = some (l[k]'(by omega)) := List.getElem?_eq_getElem _
  generalize (l[k + 1]'(by omega)) = b at h1
  generalize (l[k]'(by omega)) = a at h0
  refine h_ld (k := k + 1) rg rfl h1 (let_to ?_)
  rw [wrap_i64 (by omega) (by omega)]
  refine h_ld (k := k) rg (by omega) h0 ?_
  refine callV_func (by kernel_rfl) ?_
  show C_hits_Cmp (hId b) (hDi b) (hId a) (hDi a) g (fun n h10 => cnd (decide (n < 0)) (K false h10) (Let (((k + 1 : Nat) : Int) - 1) fun t11 => R ((t11, ()), h10)))
  refine c_hCmp (x := b) (y := a) fun g2 e2 => ?_
  refine cnd_dec.2 ⟨fun hn => hK _ g2 (x.trans e2) ⟨fun h => (by cases h), fun hs => ?_⟩, fun hn => let_to ?_⟩
  · have := srt_chain hs h0 h1
    rw [hcmp_lt, this] at hn; cases hn
  · refine hR _ ⟨x.trans e2, by simp only; omega, by simp only; omega, fun j u v hj hu hv => ?_⟩ (by simp only; omega)
    simp only at hj
    rcases Nat.lt_or_ge j (k + 1) with h | h
    · obtain rfl : j = k := by omega
      rw [h0] at hu; rw [h1] at hv
      cases hu; cases hv
      cases hh : hlt b a with
      | true => exact (hn (hcmp_lt.2 hh)).elim
      | false => rfl
    · exact hin j u v (by omega) hu hv
theorem c_hGrow {h : Hp} {n : Nat} {z : Int} (hz : z = n) (hn : n * 16 ≤ 140737488355328) {K : Sl → Hp → Prop} (hK : ∀ s h', OwnRow (vsA HT) 2 h.size h' s [] → Ext h h' → K s h') : C_slices_Grow_api_Hit_api_Hit ⟨none, 0, 0⟩ z h K := by
  subst hz
  refine F_slices_Grow_api_Hit_api_Hit_ok _ _ _ _ ?_
  unfold F_slices_Grow_api_Hit_api_Hit
  rw [Jn_eq]
  refine cnd_dec.2 ⟨fun hneg => by omega, fun _ => ?_⟩
  unfold J1_slices_Grow_api_Hit_api_Hit
  refine let_to (let_to ?_)
  have w : IntKind.wrap .i64 ((n : Int) - IntKind.wrap .i64 (((0 : Nat) : Int) - ((0 : Nat) : Int))) = (n : Int) := by
    rw [wrap_i64 (x := ((0 : Nat) : Int) - ((0 : Nat) : Int)) (by omega) (by omega), wrap_i64 (by omega) (by omega)]; omega
  simp only [w]
  refine cnd_dec.2 ⟨fun hpos => ?_, fun _ => hK _ h (OwnRow.nil _ _ _ _) (Ext.refl _)⟩
  refine slc_any (m := 0) (n := 0) rfl rfl (by omega) (by omega) ?_
  have e0 : (if (0 : Nat) = 0 then (none : Option Addr) else (none : Option Addr).map (·.add (0 * 2))) = none := by simp
  rw [e0]
  refine appZ_grow (s := ⟨none, 0, 0⟩) (l := ([] : List (StA HT))) encHT (IsRow.nil _ _ _ _) (m := n) rfl (by simp; omega) (by simpa using hn) (by decide) rfl fun c h2 cs hc bk hcs _ x2 => ?_
  refine slc_to (n := 0) rfl (by simp) ?_
  obtain ⟨e, bk⟩ := bk
  refine hK _ h2 ⟨⟨rfl, by simp, fun hne => (hne rfl).elim, fun a i x ha hx => by cases hx⟩, .inr ⟨h.size, cs, e, rfl, Nat.le_refl _, bk, hcs⟩⟩ x2
abbrev eSl (s : Sl) : List Value := [.slice s.a s.len s.cap]
theorem eSl_ok : Enc eSl 1 := ⟨fun _ => rfl, fun x v hv => by obtain rfl := List.mem_singleton.1 hv; rfl⟩
theorem c_hConcat {h : Hp} {t sa sb : Sl} {la lb : List (StA HT)} (rt : IsRow eSl 1 h t [sa, sb]) (ra : RH h sa la) (rb : RH h sb lb) (hn : (la.length + lb.length) * 16 ≤ 140737488355328) {K : Sl → Hp → Prop} (hK : ∀ s h', OwnRow (vsA HT) 2 h.size h' s (la ++ lb) → Ext h h' → K s h') : C_slices_Concat_api_Hit_api_Hit t h K := by
  have hlt := rt.len
  have hla := ra.len
  have hlb := rb.len
  simp only [List.length_cons, List.length_nil] at hlt
  have ld : ∀ {g : Hp} {i : Nat} {x : Sl} {K : Sl → Prop}, IsRow eSl 1 g t [sa, sb] → [sa, sb][i]? = some x → K x → idxS t.a t.len (i : Int) 1 fun p => ldA .sl g p K := fun r hx hk =>
    ld_row r (by omega) (by simpa using hx) fun a _ hc => ⟨_, hc.cell0 (v := .slice _ _ _) rfl, hk⟩
  refine F_slices_Concat_api_Hit_api_Hit_ok _ _ _ ?_
  unfold F_slices_Concat_api_Hit_api_Hit
  rw [Jn_eq]
  refine Lp.inv (fun st => st.2 = h ∧ ∃ k : Nat, st.1.2.1 = (k : Int) ∧ k ≤ 2 ∧ st.1.1 = (((([la, lb] : List (List (StA HT))).take k).map List.length).sum : Int)) (fun st => 2 - st.1.2.1.toNat) ?_ ⟨rfl, 0, rfl, by omega, rfl⟩
  rintro ⟨⟨n', i', ⟨⟩⟩, g⟩ R ⟨rfl, k, rfl, hk, hn'⟩ hR
  simp only at hn'
  subst hn'
  unfold L2_slices_Concat_api_Hit_api_Hit
  dsimp only
  refine cnd_dec.2 ⟨fun hlt2 => ?_, fun hge => ?_⟩
  · have hk2 : k = 0 ∨ k = 1 := by omega
    rcases hk2 with rfl | rfl
    · refine ld (i := 0) rt rfl (let_to ?_)
      rw [hla, wrap_i64 (by simp <;> omega) (by simp <;> omega)]
      refine cnd_dec.2 ⟨fun hneg => by omega, fun _ => let_to (hR _ ⟨rfl, 1, rfl, by omega, by simp⟩ (by show 2 - (1 : Nat) < 2 - 0; omega))⟩
    · refine ld (i := 1) rt rfl (let_to ?_)
      rw [hlb, wrap_i64 (by simp <;> omega) (by simp <;> omega)]
      refine cnd_dec.2 ⟨fun hneg => by omega, fun _ => let_to (hR _ ⟨rfl, 2, rfl, by omega, by simp⟩ (by show 2 - (2 : Nat) < 2 - 1; omega))⟩
  · obtain rfl : k = 2 := by omega
    unfold J1_slices_Concat_api_Hit_api_Hit
    refine c_hGrow (n := la.length + lb.length) (by simp) hn fun s1 h2 o2 e2 => ?_
    have r2 := rt.ext e2
    refine ⟨3, ?_⟩
    show L1_slices_Concat_api_Hit_api_Hit t K _ (Lp _ 2)
    unfold L1_slices_Concat_api_Hit_api_Hit
    refine cnd_yes (decide_eq_true (by simp only; omega)) (ld (i := 0) r2 rfl ?_)
    refine app_row encHT (by decide) o2 (ra.ext e2) (by have := e2.size; omega) (by simp; omega) (by decide) rfl fun s3 h3 o3 u3 n3 => let_to ?_
    have e3 : Ext g h3 := (e2.bel.trans (u3.bel e2.size o2.above)).ext
    show L1_slices_Concat_api_Hit_api_Hit t K _ (Lp _ 1)
    unfold L1_slices_Concat_api_Hit_api_Hit
    refine cnd_yes (decide_eq_true (by simp only; rw [wrap_i64 (by omega) (by omega)]; omega)) ?_
    refine ld (i := 1) (rt.ext e3) rfl ?_
    refine app_row encHT (by decide) o3 (rb.ext e3) e3.size (by simpa using hn) (by decide) rfl fun s4 h4 o4 u4 n4 => let_to ?_
    have e4 : Ext g h4 := (e3.bel.trans (u4.bel e3.size o3.above)).ext
    show L1_slices_Concat_api_Hit_api_Hit t K _ (Lp _ 0)
    unfold L1_slices_Concat_api_Hit_api_Hit
    refine cnd_no (decide_eq_false (by simp only; rw [wrap_i64 (x := (0 : Int) + 1) (by omega) (by omega), wrap_i64 (by omega) (by omega)]; omega)) ?_
    simpa using hK s4 h4 (by simpa using o4) e4
theorem hits_take1 {s : Sl} {h : Hp} {x : StA HT} {l : List (StA HT)} (r : RH h s (x :: l)) {K : Option Addr → Nat → Nat → Prop} (hK : ∀ t : Sl, RH h t l → (∀ a, t.a = some a → ∃ b, s.a = some b ∧ a.block = b.block) → K t.a t.len t.cap) : slcS s.a s.len s.cap (some 1) none 2 K := by
  have hl := r.len
  refine slc_row r (m := 1) (n := s.len) rfl rfl (by rw [hl]; simp) (by omega) fun t rt ht => hK t ?_ ht
  have e : ((x :: l).take s.len).drop 1 = l := by rw [hl, List.take_length]; rfl
  rw [e] at rt; exact rt
theorem c_hMerge {h : Hp} {sa sb : Sl} {la lb : List (StA HT)} (ra : RH h sa la) (rb : RH h sb lb) (hn : (la.length + lb.length) * 16 ≤ 140737488355328) {K : Sl → Hp → Prop} (hK : ∀ s h', OwnRow (vsA HT) 2 h.size h' s (srt (la ++ lb)) → Ext h h' → K s h') : C_hits_Merge sa sb h K := by
  have hla := ra.len
  have hlb := rb.len
  refine F_hits_Merge_ok _ _ _ _ ?_
  unfold F_hits_Merge
  rw [Jn_eq]
  have no : ∀ g, Ext h g → J1_hits_Merge sa sb K (true, ()) g := by
    intro g x
    unfold J1_hits_Merge
    refine cnd_yes rfl (push_to fun g1 b1 e1 z1 => let_to ?_)
    have rt : IsRow eSl 1 g1 ⟨some ⟨g.size, 0, none⟩, 2, 2⟩ [sa, sb] := Blk.row eSl_ok b1 (l := [sa, sb]) (cap := 2) (by simp) (by simp)
    refine c_hConcat rt ((ra.ext x).ext e1) ((rb.ext x).ext e1) hn fun s2 g2 o2 e2 => ?_
    refine c_hSort o2.row (by simpa using hn) fun s3 g3 o3 e3 => ?_
    refine hK s3 g3 (o3.weaken (by have := x.size; have := e1.size; have := e2.size; omega)) (((x.trans e1).trans e2).trans e3)
  refine c_hSorted ra (by omega) fun b1 h1 e1 hb1 => cnd_not.2 (cnd_if (fun ht1 => c_hSorted (rb.ext e1) (by omega) fun b2 h2 e2 hb2 => ?_) fun hf1 => no h1 e1)
  cases b2 with
  | false => exact no h2 (e1.trans e2)
  | true =>
    have sA := hb1.1 ht1
    have sB := hb2.1 rfl
    have x2 := e1.trans e2
    unfold J1_hits_Merge
    refine cnd_no rfl (let_to ?_)
    rw [wrap_i64 (by omega) (by omega)]
    refine mk_row encHT ((0, 0, ()) : StA HT) rfl (n := 0) (k := la.length + lb.length) (by omega) (by omega) (by omega) ⟨by decide, hn⟩ fun s3 h3 o3 e3 _ _ => ?_
    have x3 := x2.trans e3
    refine Lp.inv (fun st => ∃ out a' b' : List (StA HT), Ext h st.2 ∧ OwnRow (vsA HT) 2 h.size st.2 st.1.2.2.1 out ∧ RH h st.1.1 a' ∧ RH h st.1.2.1 b' ∧
        (out ++ a' ++ b').Perm (la ++ lb) ∧ Srt hlt (out ++ a') ∧ Srt hlt (out ++ b')) (fun st => st.1.1.len + st.1.2.1.len) ?_
      ⟨[], la, lb, x3, by have := o3.weaken (B' := h.size) x2.size; simpa using this, ra, rb, by simp, by simpa using sA, by simpa using sB⟩
    rintro ⟨⟨ta, tb, to, ⟨⟩⟩, g⟩ R ⟨out, a', b', x, oo, rA, rB, pm, s1, s2⟩ hR
    simp only at x oo rA rB
    have lA := rA.len
    have lB := rB.len
    have hlen := pm.length_eq
    simp only [List.length_append] at hlen
    -- the end of it
    have fin : (a' = [] ∨ b' = []) → appS 30 2 16 [.int .u64 0, .int .i64 0] to.a to.len to.cap (.slice ta.a ta.len ta.cap) g fun t h' => appS 30 2 16 [.int .u64 0, .int .i64 0] t.a t.len t.cap (.slice tb.a tb.len tb.cap) h' K := by
      intro hz
      refine app_row encHT (by decide) oo (rA.ext x) x.size (by omega) (by decide) rfl fun t4 g4 o4 u4 n4 => ?_
      have x4 : Ext h g4 := (x.bel.trans (u4.bel x.size oo.above)).ext
      refine app_row encHT (by decide) o4 (rB.ext x4) x4.size (by rw [List.length_append]; omega) (by decide) rfl fun t5 g5 o5 u5 n5 => ?_
      have x5 : Ext h g5 := (x4.bel.trans (u5.bel x4.size o4.above)).ext
      have hs : Srt hlt (out ++ a' ++ b') := by
        rcases hz with e | e <;> subst e
        · simpa using s2
        · simpa using s1
      rw [srt_eq pm hs] at o5
      exact hK t5 g5 o5 x5
    have J2 : a' ≠ [] → b' ≠ [] → J2_hits_Merge ((ta, tb, to, ()), g) R () g := by
      intro ha hb
      cases ha0 : a' with
      | nil => exact (ha ha0).elim
      | cons u a2 =>
        cases hb0 : b' with
        | nil => exact (hb hb0).elim
        | cons v b2 =>
          subst ha0; subst hb0
          simp only [List.length_cons] at hlen lA lB
          unfold J2_hits_Merge
          dsimp only
          refine h_ld (k := 0) (rB.ext x) rfl rfl (h_ld (k := 0) (rA.ext x) rfl rfl ?_)
          refine c_hCmp (x := v) (y := u) fun g2 e2 => ?_
          have x2 := x.trans e2
          have oo2 := oo.ext e2
          obtain ⟨p1, p2, p3⟩ := List.pairwise_append.1 s1
          obtain ⟨q1, q2, q3⟩ := List.pairwise_append.1 s2
          obtain ⟨p4, p5⟩ := List.pairwise_cons.1 p2
          obtain ⟨q4, q5⟩ := List.pairwise_cons.1 q2
          have sn : ∀ {z : StA HT}, (∀ w ∈ out, hlt z w = false) → Srt hlt (out ++ [z]) := fun hz => List.pairwise_append.2 ⟨p1, List.pairwise_singleton _ _, fun w hw y hy => by obtain rfl := List.mem_singleton.1 hy; exact hz w hw⟩
          refine cnd_dec.2 ⟨fun hn => ?_, fun hn => ?_⟩
          · have hvu := hcmp_lt.1 hn
            have huv := hlt_asym hvu
            refine h_ld (k := 0) (rB.ext x2) rfl rfl ?_
            refine app1 (x := v) encHT (by decide) oo2 x2.size (by omega) (by decide) rfl rfl fun s4 g4 o4 u4 b4 n4 => ?_
            refine hits_take1 rB fun t rt _ => hR _ ⟨out ++ [v], u :: a2, b2, (x2.bel.trans b4).ext, o4, rA, rt, ?_, ?_, ?_⟩ (by have := rt.len; simp only; omega)
            · refine List.Perm.trans ?_ pm
              simp only [List.append_assoc]
              refine List.Perm.append_left out ?_
              exact (List.perm_middle (a := v) (l₁ := u :: a2) (l₂ := b2)).symm
            · refine List.pairwise_append.2 ⟨sn fun w hw => q3 w hw v (by simp), p2, fun w hw y hy => ?_⟩
              rcases List.mem_append.1 hw with hw | hw
              · exact p3 w hw y hy
              · obtain rfl := List.mem_singleton.1 hw
                rcases List.mem_cons.1 hy with rfl | hy
                · exact huv
                · exact hle_trans huv (p4 y hy)
            · simpa using s2
          · have hvu : hlt v u = false := by
              cases hh : hlt v u with
              | true => exact (hn (hcmp_lt.2 hh)).elim
              | false => rfl
            refine h_ld (k := 0) (rA.ext x2) rfl rfl ?_
            refine app1 (x := u) encHT (by decide) oo2 x2.size (by omega) (by decide) rfl rfl fun s4 g4 o4 u4 b4 n4 => ?_
            refine hits_take1 rA fun t rt _ => hR _ ⟨out ++ [u], a2, v :: b2, (x2.bel.trans b4).ext, o4, rt, rB, ?_, ?_, ?_⟩ (by have := rt.len; simp only; omega)
            · refine List.Perm.trans ?_ pm
              simp
            · simpa using s1
            · refine List.pairwise_append.2 ⟨sn fun w hw => p3 w hw u (by simp), q2, fun w hw y hy => ?_⟩
              rcases List.mem_append.1 hw with hw | hw
              · exact q3 w hw y hy
              · obtain rfl := List.mem_singleton.1 hw
                rcases List.mem_cons.1 hy with rfl | hy
                · exact hvu
                · exact hle_trans hvu (q4 y hy)
    unfold L1_hits_Merge
    dsimp only
    rw [Jn_eq]
    have nn : ∀ {l : List (StA HT)}, 0 < l.length → l ≠ [] := fun h e => by rw [e] at h; simp at h
    refine cnd_dec.2 ⟨fun h1 => cnd_dec.2 ⟨fun h2 => J2 (nn (by omega)) (nn (by omega)), fun h2 => fin (.inr (List.length_eq_zero_iff.1 (by omega)))⟩, fun h1 => fin (.inl (List.length_eq_zero_iff.1 (by omega)))⟩
theorem hitsMerge_ok {h : Hp} {sa sb : Sl} {la lb : List (StA HT)} (ra : RH h sa la) (rb : RH h sb lb) (h1 : la.length ≤ 1048576) (h2 : lb.length ≤ 1048576) : C_law11_HitsMerge sa sb h fun r h' => r = true ∧ Ext h h' := by
  refine F_law11_HitsMerge_ok _ _ _ _ (push_to fun g1 b1 e1 z1 => let_to ?_)
  have own0 : OwnRow (vsA HT) 2 h.size g1 ⟨some ⟨h.size, 0, none⟩, 0, 0⟩ ([] : List (StA HT)) := by
    obtain ⟨el, hb1⟩ := b1
    exact ⟨⟨rfl, Nat.le_refl _, fun hne => (hne rfl).elim, fun a i x ha hx => by cases hx⟩, .inr ⟨h.size, #[], el, rfl, Nat.le_refl _, hb1, by simp⟩⟩
  refine app_row (s := ⟨some ⟨h.size, 0, none⟩, 0, 0⟩) encHT (by decide) own0 (ra.ext e1) e1.size (by simp; omega) (by decide) rfl fun s2 g2 o2 u2 n2 => ?_
  have e2 : Ext h g2 := (e1.bel.trans (u2.bel e1.size own0.above)).ext
  refine app_row encHT (by decide) o2 (rb.ext e2) e2.size (by simp; omega) (by decide) rfl fun s3 g3 o3 u3 n3 => ?_
  have e3 : Ext h g3 := (e2.bel.trans (u3.bel e2.size o2.above)).ext
  simp only [List.nil_append] at o3
  refine c_rSort o3.row (by rw [List.length_append]; omega) fun s4 g4 o4 e4 => ?_
  have x4 := e3.trans e4
  refine c_hMerge (ra.ext x4) (rb.ext x4) (by omega) fun s5 g5 o5 e5 => ?_
  refine c_hSame o5.row (o4.row.ext e5) (by rw [srt_len, List.length_append]; omega) (cnd_yes (by simp) ?_)
  have x5 := x4.trans e5
  refine c_rSort (ra.ext x5) (by omega) fun s6 g6 o6 e6 => c_rSort (rb.ext (x5.trans e6)) (by omega) fun s7 g7 o7 e7 => ?_
  refine c_hMerge (o6.row.ext e7) o7.row (by rw [srt_len, srt_len]; omega) fun s8 g8 o8 e8 => ?_
  have ec : srt (srt la ++ srt lb) = srt (la ++ lb) := srt_cong ((srt_perm la).append (srt_perm lb))
  rw [ec] at o8
  refine c_hSame o8.row (((((o4.row.ext e5).ext e6).ext e7).ext e8)) (by rw [srt_len, List.length_append]; omega) (cnd_yes (by simp) ?_)
  exact h_lives11 fun g9 e9 => ⟨rfl, ((((x5.trans e6).trans e7).trans e8).trans e9)⟩
theorem hitsMerge_row (h : Hp) (a0 : Option Addr) (len0 cap0 : Nat) {m0 : Nat} (g0 : Arg Try.prog h T_Sapi_Hit (.slice a0 len0 cap0) m0) (a1 : Option Addr) (len1 cap1 : Nat) {m1 : Nat} (g1 : Arg Try.prog h T_Sapi_Hit (.slice a1 len1 cap1) m1) (hk : m0 + m1 ≤ 1048576) :
    CallT Try.prog 3 [.slice a0 len0 cap0, .slice a1 len1 cap1] [.at .bool] h fun s h' => s.1 = true ∧ Ext h h' := by
  have arg : ∀ {a : Option Addr} {len cap m : Nat}, Arg Try.prog h T_Sapi_Hit (.slice a len cap) m → ∃ l : List (StA HT), RH h ⟨a, len, cap⟩ l ∧ l.length ≤ m := fun {a len cap m} g => by
    obtain ⟨l, ms, r, hb, hs, hx⟩ := arg_rows (l := HT) (P := Try.prog) (t := T_Sapi_Hit) (e := T_api_Hit) (by kernel_rfl) (by kernel_rfl) (by kernel_rfl) g
    have := sum_ones (n := l.length) (f := ms) fun i hi => by obtain ⟨n, hr⟩ := hx i _ (List.getElem?_eq_getElem hi); exact rd_one hr
    exact ⟨l, r, by omega⟩
  obtain ⟨la, ra, ha⟩ := arg g0
  obtain ⟨lb, rb, hb⟩ := arg g1
  exact hitsMerge_ok (sa := ⟨a0, len0, cap0⟩) (sb := ⟨a1, len1, cap1⟩) ra rb (by omega) (by omega)
end Go.Proofs.YtpfhojnhipbhgaaF
