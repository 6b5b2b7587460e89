/- Chapter 28: ConfigBack. No condition of its own, but that errors' variable holds what it was laid with. -/
import Derived.Test.YtjifeclbpgonpaaDoorCfgIO
namespace Go.Proofs.YtjifeclbpgonpaaDoorF
open Go Go.Proofs.YtjifeclbpgonpaaDoorK
set_option linter.unusedSimpArgs false
set_option linter.unusedVariables false
set_option maxRecDepth 100000

abbrev R64 := IsRow (encI .i64) 1
theorem enc64 : Enc (encI .i64) 1 := encI_ok _
theorem r_Fields {c0 c1 c2 c3 c4 c5 c6 c7 : Int} {h : Hp} {K : Sl → Sl → Sl → Sl → Hp → Prop}
    (hk : ∀ s1 s2 s3 s4 h', Ext h h' → R64 h' s1 [c0, c1, c2, c3, c4, c5, c6, c7] → R64 h' s2 cfLow → R64 h' s3 cfHigh → (∀ a, s1.a = some a → h.size ≤ a.block) → (∀ a, s2.a = some a → h.size ≤ a.block) → (∀ a, s3.a = some a → h.size ≤ a.block) → K s1 s2 s3 s4 h') : C_ref28_Fields c0 c1 c2 c3 c4 c5 c6 c7 h K := by
  refine F_ref28_Fields_ok _ _ _ _ _ _ _ _ _ _ ?_
  unfold F_ref28_Fields
  refine push_to fun h1 b1 x1 z1 => let_to ?_
  simp only [add_mk, Nat.zero_add]
  refine ldA_blk (s := .int .i64) (x := c0) (i := 0) b1 rfl (ldA_blk (s := .int .i64) (x := c1) (i := 1) b1 rfl (ldA_blk (s := .int .i64) (x := c2) (i := 2) b1 rfl (ldA_blk (s := .int .i64) (x := c3) (i := 3) b1 rfl
    (ldA_blk (s := .int .i64) (x := c4) (i := 4) b1 rfl (ldA_blk (s := .int .i64) (x := c5) (i := 5) b1 rfl (ldA_blk (s := .int .i64) (x := c6) (i := 6) b1 rfl (ldA_blk (s := .int .i64) (x := c7) (i := 7) b1 rfl ?_)))))))
  refine push_to fun h2 b2 x2 z2 => let_to (push_to fun h3 b3 x3 z3 => let_to (push_to fun h4 b4 x4 z4 => let_to (push_to fun h5 b5 x5 z5 => let_to ?_)))
  refine hk _ _ _ _ h5 ((((x1.trans x2).trans x3).trans x4).trans x5) ?_ ?_ ?_ (fun a ha => ?_) (fun a ha => ?_) (fun a ha => ?_)
  · exact Blk.row enc64 (((b2.ext x3).ext x4).ext x5) (l := [c0, c1, c2, c3, c4, c5, c6, c7]) (Nat.le_refl _) rfl
  · exact Blk.row enc64 ((b3.ext x4).ext x5) (l := cfLow) (Nat.le_refl _) rfl
  · exact Blk.row enc64 (b4.ext x5) (l := cfHigh) (Nat.le_refl _) rfl
  · cases ha; simp only; omega
  · cases ha; simp only; omega
  · cases ha; simp only; omega
def InR (c : List Int) : Prop := ∀ (k : Nat) lo hi x, cfLow[k]? = some lo → cfHigh[k]? = some hi → c[k]? = some x → lo ≤ x ∧ x ≤ hi
theorem r_Wrong {c0 c1 c2 c3 c4 c5 c6 c7 : Int} {h : Hp} {K : Int → Hp → Prop} (hk : ∀ i h', Ext h h' → (i < 8 ∨ i = 8 ∧ InR [c0, c1, c2, c3, c4, c5, c6, c7]) → K i h') : C_ref28_Wrong c0 c1 c2 c3 c4 c5 c6 c7 h K := by
  refine F_ref28_Wrong_ok _ _ _ _ _ _ _ _ _ _ ?_
  unfold F_ref28_Wrong
  refine push_to fun h1 b1 x1 z1 => let_to ?_
  simp only [add_mk, Nat.zero_add]
  refine ldA_blk (s := .int .i64) (x := c0) (i := 0) b1 rfl (ldA_blk (s := .int .i64) (x := c1) (i := 1) b1 rfl (ldA_blk (s := .int .i64) (x := c2) (i := 2) b1 rfl (ldA_blk (s := .int .i64) (x := c3) (i := 3) b1 rfl
    (ldA_blk (s := .int .i64) (x := c4) (i := 4) b1 rfl (ldA_blk (s := .int .i64) (x := c5) (i := 5) b1 rfl (ldA_blk (s := .int .i64) (x := c6) (i := 6) b1 rfl (ldA_blk (s := .int .i64) (x := c7) (i := 7) b1 rfl ?_)))))))
  refine r_Fields fun s1 s2 s3 s4 h2 x2 r1 r2 r3 _ _ _ => ?_
  have hc8 : [c0, c1, c2, c3, c4, c5, c6, c7].length = 8 := rfl
  generalize [c0, c1, c2, c3, c4, c5, c6, c7] = c at r1 hk hc8
  refine Lp.inv (fun st => ∃ k : Nat, st.1.1 = (k : Int) ∧ k ≤ 8 ∧ st.2 = h2 ∧ ∀ j lo hi x, j < k → cfLow[j]? = some lo → cfHigh[j]? = some hi → c[j]? = some x → lo ≤ x ∧ x ≤ hi) (fun st => 8 - st.1.1.toNat) ?_ ⟨0, rfl, by omega, rfl, fun j lo hi x hj => by omega⟩
  rintro ⟨⟨i, ⟨⟩⟩, g⟩ R ⟨k, hik, hk8, hg, hp⟩ hR
  simp only at hik hg
  subst hik; subst hg
  unfold L1_ref28_Wrong
  dsimp only
  refine cnd_dec.2 ⟨fun hlt => ?_, fun hge => ?_⟩
  · have hkl : k < 8 := by omega
    have hx : c[k]? = some (c[k]'(by omega)) := List.getElem?_eq_getElem (by omega)
    generalize (c[k]'(by omega)) = x at hx
    obtain ⟨nm, lo, hi, hlo, hhi, _⟩ := cf_at hkl
    refine ld_int0 r1 (i := (k : Int)) (x := x) (by omega) (by rw [Int.toNat_natCast]; exact hx) ?_
    refine ld_int0 r2 (i := (k : Int)) (x := lo) (by omega) (by rw [Int.toNat_natCast]; exact hlo) ?_
    refine cnd_dec.2 ⟨fun _ => hk _ _ (x1.trans x2) (.inl hlt), fun h1 => ?_⟩
    refine ld_int0 r1 (i := (k : Int)) (x := x) (by omega) (by rw [Int.toNat_natCast]; exact hx) ?_
    refine ld_int0 r3 (i := (k : Int)) (x := hi) (by omega) (by rw [Int.toNat_natCast]; exact hhi) ?_
    refine cnd_dec.2 ⟨fun _ => hk _ _ (x1.trans x2) (.inl hlt), fun h2 => let_to ?_⟩
    rw [wrap_i64 (by omega) (by omega)]
    refine hR _ ⟨k + 1, by simp, by omega, rfl, fun j lo' hi' x' hj e1 e2 e3 => ?_⟩ (by simp only; omega)
    rcases Nat.lt_or_ge j k with hjk | hjk
    · exact hp j lo' hi' x' hjk e1 e2 e3
    · obtain rfl : j = k := by omega
      rw [hlo] at e1; rw [hhi] at e2; rw [hx] at e3
      cases e1; cases e2; cases e3
      omega
  · obtain rfl : k = 8 := by omega
    refine hk _ _ (x1.trans x2) (.inr ⟨rfl, fun j lo hi x e1 e2 e3 => hp j lo hi x ?_ e1 e2 e3⟩)
    have := (List.getElem?_eq_some_iff.1 e3).1
    omega
theorem gets_wz : ∀ (t : List (Int × Int)) (c rest : List Int), c.length = t.length → (∀ x ∈ c, I64 x) → (∀ (k : Nat) lo hi x, t[k]? = some (lo, hi) → c[k]? = some x → lo ≤ x ∧ x ≤ hi) → gets t (wz c ++ rest) 0 = (c, rest, 0)
  | [], [], rest, _, _, _ => by simp [gets, wz]
  | (lo, hi) :: t, x :: c, rest, hl, hi64, hr => by
    have h0 := hr 0 lo hi x rfl rfl
    have hx := hi64 x (by simp)
    have e : wz (x :: c) ++ rest = vb (zig x) ++ (wz c ++ rest) := by simp [wz]
    rw [e]
    unfold gets
    have hin : inI lo hi (zig x) = true := by
      unfold inI
      rw [sgn_zig hx]; simp; exact h0
    simp only [tk_vb (zig_lt hx) hin, sgn_zig hx]
    rw [gets_wz t c rest (by simpa using hl) (fun y hy => hi64 y (by simp [hy])) (fun k lo hi x h1 h2 => hr (k + 1) lo hi x h1 h2)]
theorem vb_by (n : Nat) : By (vb n) := by
  induction n using Nat.strongRecOn with
  | _ n ih =>
    by_cases h : n < 128
    · rw [vb_small h]; intro c hc; simp at hc; omega
    · rw [vb_big h]
      intro c hc
      rcases List.mem_cons.1 hc with e | hc
      · omega
      · exact ih (n / 128) (by omega) c hc
theorem wz_by (c : List Int) : By (wz c) := by
  intro b hb
  obtain ⟨n, _, hn⟩ := List.mem_flatMap.1 hb
  exact vb_by _ b hn
theorem configBack_ok {c0 c1 c2 c3 c4 c5 c6 c7 : Int} (hi : ∀ n ∈ [c0, c1, c2, c3, c4, c5, c6, c7], I64 n) {h : Hp} (hg : rt0 h) : C_law28_ConfigBack c0 c1 c2 c3 c4 c5 c6 c7 h fun t h' => t = true ∧ Ext h h' := by
  refine F_law28_ConfigBack_ok _ _ _ _ _ _ _ _ _ _ ?_
  unfold F_law28_ConfigBack
  refine push_to fun h1 b1 x1 z1 => let_to ?_
  simp only [add_mk, Nat.zero_add]
  refine ldA_blk (s := .int .i64) (x := c0) (i := 0) b1 rfl (ldA_blk (s := .int .i64) (x := c1) (i := 1) b1 rfl (ldA_blk (s := .int .i64) (x := c2) (i := 2) b1 rfl (ldA_blk (s := .int .i64) (x := c3) (i := 3) b1 rfl
    (ldA_blk (s := .int .i64) (x := c4) (i := 4) b1 rfl (ldA_blk (s := .int .i64) (x := c5) (i := 5) b1 rfl (ldA_blk (s := .int .i64) (x := c6) (i := 6) b1 rfl (ldA_blk (s := .int .i64) (x := c7) (i := 7) b1 rfl ?_)))))))
  refine r_Wrong fun i h2 x2 hw => cnd_dec.2 ⟨fun _ => ?_, fun hge => ?_⟩
  · exact c_lives28 ((x1.trans x2).cell hg) fun h3 x3 => ⟨rfl, (x1.trans x2).trans x3⟩
  obtain ⟨rfl, hr⟩ : i = 8 ∧ InR [c0, c1, c2, c3, c4, c5, c6, c7] := hw.resolve_left hge
  have z2 := x2.size
  refine w_New fun h3 x3 q3 => ?_
  have b3 := (b1.ext x2).ext x3
  refine ldA_blk (s := .int .i64) (x := c0) (i := 0) b3 rfl (ldA_blk (s := .int .i64) (x := c1) (i := 1) b3 rfl (ldA_blk (s := .int .i64) (x := c2) (i := 2) b3 rfl (ldA_blk (s := .int .i64) (x := c3) (i := 3) b3 rfl
    (ldA_blk (s := .int .i64) (x := c4) (i := 4) b3 rfl (ldA_blk (s := .int .i64) (x := c5) (i := 5) b3 rfl (ldA_blk (s := .int .i64) (x := c6) (i := 6) b3 rfl (ldA_blk (s := .int .i64) (x := c7) (i := 7) b3 rfl ?_)))))))
  refine c_Put q3 hi (by simp) fun s4 h4 q4 w4 => ?_
  have x4 : Ext h2 h4 := w4.ext q3 x3 (Nat.le_refl _)
  have hwl : (wz [c0, c1, c2, c3, c4, c5, c6, c7]).length ≤ 80 := wz_len hi
  rw [List.nil_append] at q4
  refine w_Bytes q4 (by omega) fun s5 h5 o5 x5 => ?_
  refine c_NewReader o5.row (wz_by _) (by omega) fun p s6 h6 q6 x6 hp => ?_
  have z4 := x4.size
  have z5 := x5.size
  refine ⟨[p], c_Get q6 fun a0 a1 a2 a3 a4 a5 a6 a7 s7 h7 hgv q7 o7 => ⟨o7.extS, by simp; omega, ?_⟩⟩
  have hgets := gets_wz cfLim [c0, c1, c2, c3, c4, c5, c6, c7] [] rfl hi (fun k lo hi' x e1 e2 => by
    have : cfLim = cfLow.zip cfHigh := rfl
    rw [this, List.getElem?_zip_eq_some] at e1
    exact hr k lo hi' x e1.1 e1.2 e2)
  rw [List.append_nil] at hgets
  have e8 : gotV (wz [c0, c1, c2, c3, c4, c5, c6, c7]) 0 = [c0, c1, c2, c3, c4, c5, c6, c7] := by unfold gotV; rw [hgets]; rfl
  rw [e8] at hgv
  simp only [List.cons.injEq, and_true] at hgv
  obtain ⟨rfl, rfl, rfl, rfl, rfl, rfl, rfl, rfl⟩ := hgv
  have X6 : Ext h h6 := (((x1.trans x2).trans x4).trans x5).trans x6
  have b6 := (((b1.ext x2).ext x4).ext x5).ext x6
  refine ldA_blk (s := .int .i64) (x := c0) (i := 0) b6 rfl (ldA_blk (s := .int .i64) (x := c1) (i := 1) b6 rfl (ldA_blk (s := .int .i64) (x := c2) (i := 2) b6 rfl (ldA_blk (s := .int .i64) (x := c3) (i := 3) b6 rfl
    (ldA_blk (s := .int .i64) (x := c4) (i := 4) b6 rfl (ldA_blk (s := .int .i64) (x := c5) (i := 5) b6 rfl (ldA_blk (s := .int .i64) (x := c6) (i := 6) b6 rfl (ldA_blk (s := .int .i64) (x := c7) (i := 7) b6 rfl ?_)))))))
  refine cnd_yes (by simp) (c_End q7 ?_)
  rw [hgets]
  have X7 : Ext h h7 := X6.only_new o7 (by omega)
  refine cnd_yes (by simp) ?_
  exact c_lives28 (X7.cell hg) fun h8 x8 => ⟨rfl, X7.trans x8⟩
end Go.Proofs.YtjifeclbpgonpaaDoorF
