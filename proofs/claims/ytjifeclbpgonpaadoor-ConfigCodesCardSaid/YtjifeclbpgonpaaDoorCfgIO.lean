/- Chapter 28: a config put, and got; the reference's fields. No condition. -/
import Derived.Test.YtjifeclbpgonpaaDoorCfg
import Derived.Test.YtjifeclbpgonpaaDoorReadsT
namespace Go.Proofs.YtjifeclbpgonpaaDoorF
open Go Go.Proofs.YtjifeclbpgonpaaDoorK
set_option linter.unusedSimpArgs false
set_option linter.unusedVariables false
set_option maxRecDepth 100000

def wz (l : List Int) : List Int := l.flatMap fun n => vb (zig n)
theorem wz_snoc (l : List Int) (n : Int) : wz (l ++ [n]) = wz l ++ vb (zig n) := by simp [wz]
theorem wz_len : ∀ {l : List Int}, (∀ n ∈ l, I64 n) → (wz l).length ≤ 10 * l.length
  | [], _ => by simp [wz]
  | n :: l, h => by
    have h1 := vb_len10 (zig_lt (h n (by simp)))
    have h2 := wz_len (l := l) fun m hm => h m (by simp [hm])
    have : wz (n :: l) = vb (zig n) ++ wz l := by simp [wz]
    rw [this, List.length_append, List.length_cons]
    omega
theorem only_new {p b : Nat} {h g g' : Hp} (u : Only p h g) (o : Only b g g') (hb : h.size ≤ b) : Only p h g' :=
  ⟨Nat.le_trans u.size o.size, fun i hi hne => (o.get i (by have := u.size; omega) (by omega)).trans (u.get i hi hne)⟩
theorem only_ext {p : Nat} {h g g' : Hp} (u : Only p h g) (x : Ext g g') : Only p h g' := u.trans (x.only p)
theorem cells8 {c : List Int} (hc : c.length = 8) {k : Nat} {n : Int} (hk : c[k]? = some n) : (c.map i64).toArray[k]? = some (i64 n) := by
  rw [List.getElem?_toArray, List.getElem?_map, hk]; rfl
theorem c_Put {p : Nat} {s : Sl} {l : List Int} {c0 c1 c2 c3 c4 c5 c6 c7 : Int} {h : Hp} {K : Hp → Prop} (q : WQ h p s l) (hi : ∀ n ∈ [c0, c1, c2, c3, c4, c5, c6, c7], I64 n) (hl : l.length ≤ 1000)
    (hk : ∀ s' h', WQ h' p s' (l ++ wz [c0, c1, c2, c3, c4, c5, c6, c7]) → WS p s h s' h' → K h') : C_config_Put (some ⟨p, 0, none⟩) c0 c1 c2 c3 c4 c5 c6 c7 h K := by
  refine F_config_Put_ok _ _ _ _ _ _ _ _ _ _ _ ?_
  unfold F_config_Put
  refine push_to fun h1 b1 x1 z1 => let_to (c_places fun h2 x2 => ?_)
  have hpl := q.b.lt
  have hql := q.o.lt
  have z2 := x2.size
  have b2 := b1.ext x2
  have q2 := (q.ext x1).ext x2
  generalize hc : [c0, c1, c2, c3, c4, c5, c6, c7] = c at hi hk
  have hc8 : c.length = 8 := by rw [← hc]; rfl
  have b2 : Blk h2 h.size (c.map i64).toArray := by rw [← hc]; exact b2
  refine Lp.inv (fun st => ∃ (k : Nat) (s' : Sl), st.1.1 = (k : Int) ∧ k ≤ 8 ∧ WQ st.2 p s' (l ++ wz (c.take k)) ∧ WS p s h2 s' st.2 ∧ Blk st.2 h.size (c.map i64).toArray) (fun st => 8 - st.1.1.toNat) ?_ ⟨0, s, rfl, by omega, by simpa [wz] using q2, WS.refl _ _ _, b2⟩
  rintro ⟨⟨i, ⟨⟩⟩, g⟩ R ⟨k, s', hik, hk8, q3, w3, b3⟩ hR
  simp only at hik q3 w3 b3
  subst hik
  unfold L1_config_Put
  dsimp only
  refine cnd_dec.2 ⟨fun hlt => ?_, fun hge => ?_⟩
  · have hkl : k < 8 := by omega
    have hx : c[k]? = some (c[k]'(by omega)) := List.getElem?_eq_getElem (by omega)
    have hxi : I64 (c[k]'(by omega)) := hi _ (List.getElem_mem _)
    generalize (c[k]'(by omega)) = x at hx hxi
    refine ⟨⟨by omega, by omega⟩, some ⟨h.size, k, none⟩, by rw [Int.toNat_natCast]; exact ptrs_at hkl, ldA_blk (s := .int .i64) (x := x) b3 (cells8 hc8 hx) ?_⟩
    have hw := wz_len (l := c.take k) fun n hn => hi n (List.mem_of_mem_take hn)
    have hlen : (l ++ wz (c.take k)).length + 10 ≤ 140737488355328 := by
      rw [List.length_append]
      have : (c.take k).length ≤ 8 := by rw [List.length_take]; omega
      omega
    refine w_Int q3 hxi hlen fun s4 h4 q4 w4 => let_to ?_
    rw [wrap_i64 (by omega) (by omega)]
    have b4 : Blk h4 h.size (c.map i64).toArray := b3.onlyP w4.o (by omega) fun a ha => by
      rcases w3.n with e | ⟨b, e, hb⟩
      · rw [e] at ha; have := hql a ha; omega
      · rw [e] at ha; cases ha; simp only; omega
    rw [List.append_assoc, ← wz_snoc, take_snoc hx] at q4
    exact hR _ ⟨k + 1, s4, by simp, by omega, q4, w3.trans w4, b4⟩ (by simp only; omega)
  · obtain rfl : k = 8 := by omega
    rw [List.take_of_length_le (by omega)] at q3
    exact hk s' g q3 ⟨((x1.trans x2).onlyP p s).trans w3.o, w3.n.imp id fun ⟨b, e, hb⟩ => ⟨b, e, by omega⟩⟩

/-! Got. -/
def gets : List (Int × Int) → List Int → Int → List Int × List Int × Int
  | [], l, e => ([], l, e)
  | x :: t, l, e => (sgn (tk (inI x.1 x.2) l e).1 :: (gets t (tk (inI x.1 x.2) l e).2.1 (tk (inI x.1 x.2) l e).2.2).1, (gets t (tk (inI x.1 x.2) l e).2.1 (tk (inI x.1 x.2) l e).2.2).2)
theorem gets_snoc : ∀ (t : List (Int × Int)) (x : Int × Int) (l : List Int) (e : Int), gets (t ++ [x]) l e = ((gets t l e).1 ++ [sgn (tk (inI x.1 x.2) (gets t l e).2.1 (gets t l e).2.2).1], (tk (inI x.1 x.2) (gets t l e).2.1 (gets t l e).2.2).2)
  | [], x, l, e => by simp [gets]
  | y :: t, x, l, e => by
    simp only [List.cons_append, gets]
    rw [gets_snoc t x]
theorem gets_len : ∀ (t : List (Int × Int)) (l : List Int) (e : Int), (gets t l e).1.length = t.length
  | [], _, _ => rfl
  | x :: t, l, e => by simp only [gets, List.length_cons]; rw [gets_len t]
def cfLim : List (Int × Int) := [(1, 4), (1, 3), (0, 65536), (4, 256), (1, 2), (1, 1048576), (0, 64), (0, 64)]
theorem lim_at {k : Nat} {lo hi : Int} (h1 : cfLow[k]? = some lo) (h2 : cfHigh[k]? = some hi) : cfLim[k]? = some (lo, hi) := by
  have : cfLim = cfLow.zip cfHigh := rfl
  rw [this, List.getElem?_zip_eq_some]; exact ⟨h1, h2⟩
/-- What config.Get hands back. -/
def gotV (l : List Int) (e : Int) : List Int := if (gets cfLim l e).2.2 ≠ 0 then [0, 0, 0, 0, 0, 0, 0, 0] else (gets cfLim l e).1
theorem len8 {l : List Int} (h : l.length = 8) : ∃ a b c d e f g i, l = [a, b, c, d, e, f, g, i] := by
  match l, h with
  | [a, b, c, d, e, f, g, i], _ => exact ⟨a, b, c, d, e, f, g, i, rfl⟩
theorem c_Get {p : Nat} {s : Sl} {l : List Int} {e : Int} {h : Hp} {K : Int → Int → Int → Int → Int → Int → Int → Int → Hp → Prop} (q : RQ h p s l e)
    (hk : ∀ a0 a1 a2 a3 a4 a5 a6 a7 s' h', gotV l e = [a0, a1, a2, a3, a4, a5, a6, a7] → RQ h' p s' (gets cfLim l e).2.1 (gets cfLim l e).2.2 → Only p h h' → K a0 a1 a2 a3 a4 a5 a6 a7 h') : C_config_Get (some ⟨p, 0, none⟩) h K := by
  refine F_config_Get_ok _ _ _ ?_
  unfold F_config_Get
  have hpl := q.b.lt
  refine push_to fun h1 b1 x1 z1 => let_to (push_to fun h2 b2 x2 z2 => let_to (c_places fun h3 x3 => push_to fun h4 b4 x4 z4 => let_to ?_))
  simp only [add_mk, Nat.zero_add]
  refine stores_blk (i := 0) (vs := [ptr h1.size 0, ptr h1.size 1, ptr h1.size 2, ptr h1.size 3, ptr h1.size 4, ptr h1.size 5, ptr h1.size 6, ptr h1.size 7]) b4 rfl fun h5 b5 o5 _ z5 => ?_
  simp only [List.take_zero, List.nil_append] at b5
  refine c_fields fun h6 x6 => ?_
  have z3 := x3.size
  have z6 := x6.size
  have X5 : Ext h h5 := (((x1.trans x2).trans x3).trans x4).only_new o5 (by omega)
  have q6 := q.ext (X5.trans x6)
  have bp6 := b5.ext x6
  have bc6 : Blk h6 h1.size _ := (((b2.ext x3).ext x4).only o5 (by omega)).ext x6
  have bz6 : Blk h6 h.size _ := ((((b1.ext x2).ext x3).ext x4).only o5 (by omega)).ext x6
  refine Lp.inv (fun st => ∃ (k : Nat) (s' : Sl), st.1.1 = (k : Int) ∧ k ≤ 8 ∧ RQ st.2 p s' (gets (cfLim.take k) l e).2.1 (gets (cfLim.take k) l e).2.2 ∧ Only p h st.2 ∧ h6.size ≤ st.2.size ∧ Blk st.2 h3.size #[ptr h1.size 0, ptr h1.size 1, ptr h1.size 2, ptr h1.size 3, ptr h1.size 4, ptr h1.size 5, ptr h1.size 6, ptr h1.size 7] ∧
    Blk st.2 h.size #[i64 0, i64 0, i64 0, i64 0, i64 0, i64 0, i64 0, i64 0] ∧ Blk st.2 h1.size (((gets (cfLim.take k) l e).1 ++ List.replicate (8 - k) 0).map i64).toArray) (fun st => 8 - st.1.1.toNat) ?_
    ⟨0, s, rfl, by omega, q6, (X5.trans x6).only p, Nat.le_refl _, bp6, bz6, bc6⟩
  rintro ⟨⟨i, ⟨⟩⟩, g⟩ R ⟨k, s', hik, hk8, q3, u3, z7, bp3, bz3, bc3⟩ hR
  simp only at hik q3 u3 z7 bp3 bz3 bc3
  subst hik
  unfold L1_config_Get
  dsimp only
  refine cnd_dec.2 ⟨fun hlt => ?_, fun hge => ?_⟩
  · have hkl : k < 8 := by omega
    obtain ⟨nm, lo, hi, hlo, hhi, hv⟩ := cf_at hkl
    have hlim := lim_at hlo hhi
    refine ⟨⟨by omega, by omega⟩, (nm, lo, hi, ()), by rw [Int.toNat_natCast]; exact hv, ?_⟩
    refine push_to fun h7 b7 x7 z8 => let_to ?_
    simp only [add_mk, Nat.zero_add]
    refine stores_blk (i := 0) (vs := [.string nm, i64 lo, i64 hi]) b7 rfl fun h8 b8 o8 _ z9 => ?_
    simp only [List.take_zero, List.nil_append] at b8
    have hpq := q3.b.lt
    refine ⟨[p], idx_blk ⟨by omega, by omega⟩ ⟨by simp; omega, ?_⟩⟩
    rw [Int.toNat_natCast, Nat.mul_one]
    have bp8 : Blk h8 h3.size _ := (bp3.ext x7).only o8 (by omega)
    refine ldA_blk (s := .ptr) (x := some ⟨h1.size, k, none⟩) bp8 (by rw [List.getElem?_toArray]; exact ptrs_at hkl) ⟨by simp; omega, ldA_blk (s := .int .i64) (x := lo) (i := 1) b8 rfl ⟨by simp; omega, ldA_blk (s := .int .i64) (x := hi) (i := 2) b8 rfl ?_⟩⟩
    have q8 : RQ h8 p s' _ _ := (q3.ext x7).only o8 (by omega) fun a ha => by have := q3.lt a ha; omega
    refine c_Int q8 fun s9 h9 q9 o9 => ⟨o9.extS, trivial, ?_⟩
    have bc9 : Blk h9 h1.size _ := ((bc3.ext x7).only o8 (by omega)).only o9 (by omega)
    have hgl := gets_len (cfLim.take k) l e
    have htk : (cfLim.take k).length = k := by rw [List.length_take]; exact Nat.min_eq_left (by show k ≤ 8; omega)
    refine set_to bc9 (by simp; omega) fun h10 b10 o10 _ z10 => let_to ?_
    rw [wrap_i64 (by omega) (by omega)]
    have hsn := gets_snoc (cfLim.take k) (lo, hi) l e
    rw [take_snoc hlim] at hsn
    have q10 : RQ h10 p s9 _ _ := q9.only o10 (by omega) fun a ha => by have := q9.lt a ha; omega
    refine hR _ ⟨k + 1, s9, by simp, by omega, by rw [hsn]; exact q10, ?_, ?_, ?_, ?_, ?_⟩ (by simp only; omega)
    · exact only_new ((only_new (only_ext u3 x7) o8 (by omega)).trans o9) o10 (by omega)
    · show h6.size ≤ h10.size
      have := o9.size; omega
    · exact (bp8.only o9 (by omega)).only o10 (by omega)
    · exact (((bz3.ext x7).only o8 (by omega)).only o9 (by omega)).only o10 (by omega)
    · have e1 : (((gets (cfLim.take k) l e).1 ++ List.replicate (8 - k) 0).map i64).toArray.setIfInBounds k (i64 (sgn (tk (inI lo hi) (gets (cfLim.take k) l e).2.1 (gets (cfLim.take k) l e).2.2).1)) = (((gets (cfLim.take (k + 1)) l e).1 ++ List.replicate (8 - (k + 1)) 0).map i64).toArray := by
        rw [hsn]
        have : List.replicate (8 - k) (0 : Int) = 0 :: List.replicate (8 - (k + 1)) 0 := by rw [show 8 - k = (8 - (k + 1)) + 1 by omega]; rfl
        rw [this, List.setIfInBounds_toArray]
        congr 1
        have sl : ∀ (A Z : List Value) (x y : Value), A.length = k → (A ++ x :: Z).set k y = A ++ y :: Z := fun A Z x y hA => by subst hA; simp
        simp only [List.map_append, List.map_cons, List.map_nil]
        rw [sl _ _ _ _ (by rw [List.length_map, hgl, htk])]
        simp
      rw [← e1]; exact b10
  · obtain rfl : k = 8 := by omega
    have ht : cfLim.take 8 = cfLim := rfl
    rw [ht] at q3 bc3
    unfold J1_config_Get
    rw [Jn_eq]
    refine c_End q3 ?_
    have hg8 : (gets cfLim l e).1.length = 8 := gets_len _ _ _
    have key0 : (gets cfLim l e).2.2 ≠ 0 → J2_config_Get K ⟨h.size, 0, none⟩ ⟨h1.size, 0, none⟩ (true, ()) g := by
      intro he
      unfold J2_config_Get
      refine cnd_yes rfl ?_
      simp only [add_mk, Nat.zero_add]
      refine stores_blk (i := 0) (vs := [i64 0, i64 0, i64 0, i64 0, i64 0, i64 0, i64 0, i64 0]) bz3 rfl fun h7 b7 o7 _ z9 => ?_
      simp only [List.take_zero, List.nil_append] at b7
      refine ldA_blk (s := .int .i64) (x := 0) (i := 0) b7 rfl (ldA_blk (s := .int .i64) (x := 0) (i := 1) b7 rfl (ldA_blk (s := .int .i64) (x := 0) (i := 2) b7 rfl (ldA_blk (s := .int .i64) (x := 0) (i := 3) b7 rfl
        (ldA_blk (s := .int .i64) (x := 0) (i := 4) b7 rfl (ldA_blk (s := .int .i64) (x := 0) (i := 5) b7 rfl (ldA_blk (s := .int .i64) (x := 0) (i := 6) b7 rfl (ldA_blk (s := .int .i64) (x := 0) (i := 7) b7 rfl ?_)))))))
      exact hk _ _ _ _ _ _ _ _ s' h7 (by unfold gotV; rw [if_pos he]) (q3.only o7 (by omega) fun a ha => by have := q3.lt a ha; omega) (only_new u3 o7 (Nat.le_refl _))
    have key1 : (gets cfLim l e).2.2 = 0 → J2_config_Get K ⟨h.size, 0, none⟩ ⟨h1.size, 0, none⟩ (false, ()) g := by
      intro he
      unfold J2_config_Get
      refine cnd_no rfl ?_
      obtain ⟨a0, a1, a2, a3, a4, a5, a6, a7, hv⟩ := len8 hg8
      have hgv : gotV l e = [a0, a1, a2, a3, a4, a5, a6, a7] := by unfold gotV; rw [if_neg (by simpa using he), hv]
      rw [hv] at bc3
      simp only [add_mk, Nat.zero_add]
      refine ldA_blk (s := .int .i64) (x := a0) (i := 0) bc3 rfl (ldA_blk (s := .int .i64) (x := a1) (i := 1) bc3 rfl (ldA_blk (s := .int .i64) (x := a2) (i := 2) bc3 rfl (ldA_blk (s := .int .i64) (x := a3) (i := 3) bc3 rfl
        (ldA_blk (s := .int .i64) (x := a4) (i := 4) bc3 rfl (ldA_blk (s := .int .i64) (x := a5) (i := 5) bc3 rfl (ldA_blk (s := .int .i64) (x := a6) (i := 6) bc3 rfl (ldA_blk (s := .int .i64) (x := a7) (i := 7) bc3 rfl ?_)))))))
      refine stores_blk (i := 0) (vs := [i64 a0, i64 a1, i64 a2, i64 a3, i64 a4, i64 a5, i64 a6, i64 a7]) bz3 rfl fun h7 b7 o7 _ z9 => ?_
      simp only [List.take_zero, List.nil_append] at b7
      refine ldA_blk (s := .int .i64) (x := a0) (i := 0) b7 rfl (ldA_blk (s := .int .i64) (x := a1) (i := 1) b7 rfl (ldA_blk (s := .int .i64) (x := a2) (i := 2) b7 rfl (ldA_blk (s := .int .i64) (x := a3) (i := 3) b7 rfl
        (ldA_blk (s := .int .i64) (x := a4) (i := 4) b7 rfl (ldA_blk (s := .int .i64) (x := a5) (i := 5) b7 rfl (ldA_blk (s := .int .i64) (x := a6) (i := 6) b7 rfl (ldA_blk (s := .int .i64) (x := a7) (i := 7) b7 rfl ?_)))))))
      exact hk _ _ _ _ _ _ _ _ s' h7 hgv (q3.only o7 (by omega) fun a ha => by have := q3.lt a ha; omega) (only_new u3 o7 (Nat.le_refl _))
    refine cnd_bne.2 ⟨fun hne => ?_, fun he => ?_⟩
    · refine c_Left q3 ?_
      by_cases he : (gets cfLim l e).2.2 = 0
      · have hl0 : (gets cfLim l e).2.1 ≠ [] := fun h0 => hne (by rw [if_neg (fun h => h.2 h0)]; exact he)
        have : ((if (gets cfLim l e).2.2 ≠ 0 then (0 : Int) else ((gets cfLim l e).2.1.length : Int)) == 0) = false := by
          rw [if_neg (by simpa using he)]
          have := List.length_pos_iff.2 hl0
          simp; exact hl0
        rw [this]; exact key1 he
      · rw [if_pos he]; exact key0 he
    · refine key1 ?_
      by_cases h0 : (gets cfLim l e).2.2 = 0
      · exact h0
      · rw [if_neg (fun h => h0 h.1)] at he; exact (h0 he).elim
end Go.Proofs.YtjifeclbpgonpaaDoorF
