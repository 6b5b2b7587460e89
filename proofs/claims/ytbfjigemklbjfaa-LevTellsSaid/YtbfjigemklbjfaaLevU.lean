/- Chapter 8: Upto, by a band. No condition. -/
import Derived.Test.YtbfjigemklbjfaaLevD
import Derived.Test.YtbfjigemklbjfaaK18
namespace Go.Proofs.YtbfjigemklbjfaaF
open Go Go.Proofs.YtbfjigemklbjfaaK
set_option linter.unusedSimpArgs false
set_option linter.unusedVariables false

theorem ed_ge : ∀ xs ys : List Int, xs.length ≤ ys.length + ed xs ys ∧ ys.length ≤ xs.length + ed xs ys
  | [], ys => by rw [ed_nil]; simp
  | x :: xs, [] => by rw [ed_left]; simp
  | x :: xs, y :: ys => by
    rw [ed_cons]
    have h1 := ed_ge xs ys
    have h2 := ed_ge xs (y :: ys)
    have h3 := ed_ge (x :: xs) ys
    simp only [List.length_cons] at *
    omega
theorem ed_max : ∀ xs ys : List Int, ed xs ys ≤ max xs.length ys.length
  | [], ys => by rw [ed_nil]; simp
  | x :: xs, [] => by rw [ed_left]; simp
  | x :: xs, y :: ys => by
    rw [ed_cons]
    have h1 := ed_max xs ys
    have hb : bne1 x y ≤ 1 := by unfold bne1; split <;> omega
    simp only [List.length_cons] at *
    omega
theorem T_ge {a b : List Int} {i k : Nat} (hi : i ≤ a.length) (hk : k ≤ b.length) : i ≤ k + T a b i k ∧ k ≤ i + T a b i k := by
  have := ed_ge (a.take i) (b.take k)
  rw [List.length_take, List.length_take, Nat.min_eq_left hi, Nat.min_eq_left hk] at this
  exact this
/-- A place of the band: at most one more than 'most'. -/
def bnd (a b : List Int) (most n k : Nat) : Int := ((min (T a b n k) (most + 1) : Nat) : Int)
abbrev lowB (most n : Nat) : Nat := n - most
abbrev highB (b : List Int) (most n : Nat) : Nat := min b.length (n + most)
def bandL (a b : List Int) (most n : Nat) : List Int := (List.range (highB b most n + 1 - lowB most n)).map fun j => bnd a b most n (lowB most n + j)
theorem bandL_len (a b : List Int) (most n : Nat) : (bandL a b most n).length = highB b most n + 1 - lowB most n := by simp [bandL]
theorem bandL_get {a b : List Int} {most n j : Nat} (hj : j < highB b most n + 1 - lowB most n) : (bandL a b most n)[j]? = some (bnd a b most n (lowB most n + j)) := by
  unfold bandL; rw [List.getElem?_map, List.getElem?_range hj]; rfl
theorem b_at {low : Nat} {s : Sl} {l : List Int} {i : Nat} {far v : Int} {h : Hp} {K : Int → Hp → Prop} (r : IsRow eJ 1 h s l) (hb : low ≤ 1048576 ∧ i ≤ 1048576 ∧ l.length ≤ 2097153) (hv : (i < low ∨ low + l.length ≤ i) → v = far) (hv2 : low ≤ i → i < low + l.length → l[i - low]? = some v)
    (hK : ∀ h', Ext h h' → K v h') : C_lev_band_at (low : Int) s (i : Int) far h K := by
  refine F_lev_band_at_ok _ _ _ _ _ _ (push_to fun h1 b1 e1 z1 => let_to ?_)
  have hl := r.len
  rw [Jn_eq]
  refine ldA_blk (s := .int .i64) (x := (low : Int)) b1 rfl (cnd_dec.2 ⟨fun hlt => ?_, fun hge => ldA_blk (s := .int .i64) (x := (low : Int)) b1 rfl (ldA_blk (s := .sl) (i := 1) (x := s) b1 rfl (let_to (cnd_dec.2 ⟨fun h1 => ?_, fun h1 => ?_⟩)))⟩)
  · rw [← hv (.inl (by omega))]; exact hK _ e1
  · rw [wrap_i64 (by omega) (by omega)] at h1
    rw [← hv (.inr (by omega))]; exact hK _ e1
  · rw [wrap_i64 (by omega) (by omega)] at h1
    unfold J1_lev_band_at
    refine ldA_blk (s := .sl) (i := 1) (x := s) b1 rfl (ldA_blk (s := .int .i64) (x := (low : Int)) b1 rfl (let_to ?_))
    rw [wrap_i64 (by omega) (by omega)]
    exact ld_int0 (r.ext e1) (i := (i : Int) - low) (x := v) (by omega) (by rw [show ((i : Int) - (low : Int)).toNat = i - low by omega]; exact hv2 (by omega) (by omega)) (hK _ e1)
/-- 'at' of the whole band. -/
theorem b_at_all {a b : List Int} {most n i : Nat} {s : Sl} {h : Hp} {K : Int → Hp → Prop} (r : IsRow eJ 1 h s (bandL a b most n)) (hn : n ≤ a.length) (hi : i ≤ b.length) (hab : a.length ≤ b.length + most) (hs : a.length ≤ 1048576 ∧ b.length ≤ 1048576)
    (hK : ∀ h', Ext h h' → K (bnd a b most n i) h') : C_lev_band_at ((lowB most n : Nat) : Int) s (i : Int) ((most : Int) + 1) h K := by
  have hl := bandL_len a b most n
  have ht := T_ge (a := a) (b := b) hn hi
  have hlow : lowB most n = n - most := rfl
  have hhigh : highB b most n = min b.length (n + most) := rfl
  refine b_at r (by omega) (fun h => ?_) (fun h1 h2 => ?_) hK
  · unfold bnd; omega
  · rw [bandL_get (by omega), show lowB most n + (i - lowB most n) = i by omega]
theorem b_step {a b : List Int} {bs : ByteArray} (hbs : b = bts bs) {most n : Nat} {c : Int} (hc : a[n]? = some c) (hab : a.length ≤ b.length + most) (hs : a.length ≤ 1048576 ∧ b.length ≤ 1048576) (hm : most ≤ 1048576) {s : Sl} {h : Hp} {K : Int → Sl → Hp → Prop} (r : IsRow eJ 1 h s (bandL a b most n))
    (hK : ∀ s' h', OwnRow eJ 1 h.size h' s' (bandL a b most (n + 1)) → Ext h h' → K ((lowB most (n + 1) : Nat) : Int) s' h') : C_lev_band_step ((lowB most n : Nat) : Int) s ((n + 1 : Nat) : Int) c bs (most : Int) h K := by
  have hn := (List.getElem?_eq_some_iff.1 hc).1
  have lb : b.length = bs.size := by rw [hbs, bts_len]
  refine F_lev_band_step_ok _ _ _ _ _ _ _ _ (push_to fun h1 b1 e1 z1 => let_to (push_to fun h3 b3 e3 z3 => let_to (let_to (let_to (let_to (let_to (let_to (let_to ?_))))))))
  have w5 : IntKind.wrap .i64 (((n + 1 : Nat) : Int) - (most : Int)) = ((n + 1 : Nat) : Int) - (most : Int) := wrap_i64 (by omega) (by omega)
  have w7 : IntKind.wrap .i64 (((n + 1 : Nat) : Int) + (most : Int)) = ((n + 1 : Nat) : Int) + (most : Int) := wrap_i64 (by omega) (by omega)
  have elow : (if IntKind.wrap .i64 (((n + 1 : Nat) : Int) - (most : Int)) > 0 then IntKind.wrap .i64 (((n + 1 : Nat) : Int) - (most : Int)) else 0) = ((lowB most (n + 1) : Nat) : Int) := by rw [w5]; unfold lowB; split <;> omega
  have ehigh : (if IntKind.wrap .i64 (((n + 1 : Nat) : Int) + (most : Int)) < (bs.size : Int) then IntKind.wrap .i64 (((n + 1 : Nat) : Int) + (most : Int)) else (bs.size : Int)) = ((highB b most (n + 1) : Nat) : Int) := by rw [w7]; unfold highB; split <;> omega
  simp only [elow, ehigh]
  generalize hlo : lowB most (n + 1) = lo
  generalize hhi : highB b most (n + 1) = hi
  rw [hlo] at hK
  have hlh : lo ≤ hi := by unfold lowB at hlo; unfold highB at hhi; omega
  have hhb : hi ≤ b.length := by unfold highB at hhi; omega
  rw [wrap_i64 (x := (hi : Int) - (lo : Int)) (by omega) (by omega), wrap_i64 (by omega) (by omega)]
  refine mk_row eJ_ok (0 : Int) rfl (n := 0) (k := hi - lo + 1) (by omega) (by omega) (by omega) (by omega) fun s1 h12 o12 e12 l12 _ => ?_
  have n12 := o12.lt
  refine push_to fun h13 b13 e13 z13 => let_to ?_
  refine stores_blk (vs := [.int .i64 (lo : Int), .slice s1.a s1.len s1.cap]) b13 rfl fun h16 b16 u16 _ z16 => ?_
  simp only [List.take_zero, List.nil_append] at b16
  refine let_to ?_
  rw [wrap_i64 (x := (most : Int) + 1) (by omega) (by omega)]
  have e312 := e3.trans e12
  have z12 := e12.size
  have x12 : Ext h h12 := e1.trans e312
  have x16 : Ext h12 h16 := e13.only_new u16 (Nat.le_refl _)
  have hlen := bandL_len a b most (n + 1)
  rw [hlo, hhi] at hlen
  -- the boxes
  have box2 : ∀ {g : Hp}, Ext h12 g → Blk g h.size #[.int .i64 ((lowB most n : Nat) : Int), .slice s.a s.len s.cap] := fun x => (b1.ext e312).ext x
  refine Lp.inv (fun st => ∃ (i : Nat) (so : Sl), st.1.1 = (i : Int) ∧ lo ≤ i ∧ i ≤ hi + 1 ∧ Blk st.2 h12.size #[.int .i64 (lo : Int), .slice so.a so.len so.cap] ∧ OwnRow eJ 1 h3.size st.2 so ((bandL a b most (n + 1)).take (i - lo)) ∧ (∀ x, so.a = some x → x.block ≠ h12.size) ∧ Bel h3.size h3 st.2 ∧ h12.size < st.2.size)
    (fun st => hi + 1 - st.1.1.toNat) ?_ ⟨lo, s1, rfl, Nat.le_refl _, by omega, b16, ?_, fun x hx => by have := n12 x hx; omega, (e12.trans x16).bel, by show h12.size < h16.size; omega⟩
  case refine_2 =>
    rw [Nat.sub_self, List.take_zero]
    simpa using (o12.ext x16)
  rintro ⟨⟨i', ⟨⟩⟩, g⟩ R ⟨i, so, rfl, hi1, hi2, bo, oo, hne, bl, hg⟩ hR
  simp only at bo oo bl hg
  have xg : Ext h g := ((e1.trans e3).bel.trans (bl.mono (e1.trans e3).size)).ext
  have bxp : Blk g h.size #[.int .i64 ((lowB most n : Nat) : Int), .slice s.a s.len s.cap] := (b1.ext e3).bel bl (by have := e3.size; have := b1.lt; omega)
  have bxr : Blk g h1.size #[.int .i64 0, .slice none 0 0] := b3.bel bl (by have := b3.lt; omega)
  have rg := r.ext xg
  have so1 := oo.above
  unfold L1_lev_band_step
  dsimp only
  refine cnd_dec.2 ⟨fun hle => ?_, fun hgt => ?_⟩
  · have hib : i ≤ b.length := by omega
    refine ldA_blk (s := .int .i64) (x := ((lowB most n : Nat) : Int)) bxp rfl (ldA_blk (s := .sl) (i := 1) (x := s) bxp rfl ?_)
    refine b_at_all rg (by omega) hib hab hs fun g1 x1 => let_to ?_
    rw [Jn_eq]
    have hbnd : ∀ k, 0 ≤ bnd a b most n k ∧ bnd a b most n k ≤ 1048577 := fun k => by unfold bnd; omega
    have hbnd' : ∀ k, 0 ≤ bnd a b most (n + 1) k ∧ bnd a b most (n + 1) k ≤ 1048577 := fun k => by unfold bnd; omega
    have w22 : IntKind.wrap .i64 (bnd a b most n i + 1) = bnd a b most n i + 1 := by have := hbnd i; exact wrap_i64 (by omega) (by omega)
    rw [w22]
    have j1 : ∀ (d : Int) (g2 : Hp), Ext g g2 → (if (most : Int) + 1 < d then (most : Int) + 1 else d) = bnd a b most (n + 1) i → J1_lev_band_step ⟨h12.size, 0, none⟩ ((most : Int) + 1) (((i : Int), ()), g) R (d, ()) g2 := by
      intro d g2 x2 hd
      unfold J1_lev_band_step
      dsimp only
      have z2 := x2.size
      refine ldA_blk (s := .sl) (i := 1) (x := so) (bo.ext x2) rfl (let_to ?_)
      rw [hd]
      have oo2 := oo.ext x2
      refine app1 (x := bnd a b most (n + 1) i) eJ_ok (by decide) oo2 (by have := bl.size; omega) (by rw [List.length_take]; omega) (by decide) rfl rfl fun s5 g5 o5 u5 bl5 n5 => ⟨rfl, ?_⟩
      have z5 := u5.1
      have bo5 : Blk g5 h12.size #[.int .i64 (lo : Int), .slice so.a so.len so.cap] := (bo.ext x2).onlyS u5 fun x hx e => hne x hx e.symm
      have hne5 : ∀ x, s5.a = some x → x.block ≠ h12.size := fun x hx => by
        rcases n5 with e | ⟨q, e, hq⟩
        · exact hne x (by rw [← e]; exact hx)
        · rw [e] at hx; cases hx; simp only; omega
      refine set_to bo5 (i := 1) (by simp) fun g6 b6 u6 _ z6 => let_to ?_
      rw [wrap_i64 (by omega) (by omega)]
      refine hR _ ⟨i + 1, s5, by simp, by omega, by omega, b6, own_same ?_ fun x hx => u6.get _ (o5.lt x hx) (hne5 x hx), hne5, ?_, ?_⟩ (by simp only; omega)
      · rw [show i + 1 - lo = (i - lo) + 1 by omega, List.take_add_one, bandL_get (by unfold highB lowB at *; omega), hlo, show lo + (i - lo) = i by omega]
        exact o5
      · have hz := bl.size
        exact ((bl.extR x2 hz).trans bl5).only_new u6 (by have := e12.size; omega) (by omega)
      · show h12.size < g6.size; omega
    refine cnd_dec.2 ⟨fun hpos => ?_, fun hz => j1 _ g1 x1 ?_⟩
    · rw [Jn_eq]
      obtain ⟨k, rfl⟩ : ∃ k, i = k + 1 := ⟨i - 1, by omega⟩
      have w1 : IntKind.wrap .i64 (((k + 1 : Nat) : Int) - 1) = (k : Int) := by rw [wrap_i64 (by omega) (by omega)]; omega
      have hy := bts_get (s := bs) (k := k) (by omega)
      rw [← hbs] at hy
      generalize ((bs[k]'(by omega)).toNat : Int) = y at hy
      have hst := T_step hc hy
      have htt := T_ge (a := a) (b := b) (i := n + 1) (k := k) (by omega) (by omega)
      have j2 : ∀ sm : Nat, sm = bne1 c y → J2_lev_band_step ⟨h.size, 0, none⟩ ⟨h12.size, 0, none⟩ ((most : Int) + 1) ((((k + 1 : Nat) : Int), ()), g) (bnd a b most n (k + 1) + 1) (J1_lev_band_step ⟨h12.size, 0, none⟩ ((most : Int) + 1) ((((k + 1 : Nat) : Int), ()), g) R) ((sm : Int), ()) g1 := by
        intro sm hsm
        have hsm1 : sm ≤ 1 := by rw [hsm]; unfold bne1; split <;> omega
        unfold J2_lev_band_step
        dsimp only
        refine ldA_blk (s := .int .i64) (x := ((lowB most n : Nat) : Int)) (bxp.ext x1) rfl (ldA_blk (s := .sl) (i := 1) (x := s) (bxp.ext x1) rfl (let_to ?_))
        rw [w1]
        refine b_at_all (rg.ext x1) (by omega) (by omega) hab hs fun g3 x3 => ⟨x3, let_to ?_⟩
        have q1 := hbnd k
        have q2 := hbnd (k + 1)
        have q3 := hbnd' k
        rw [wrap_i64 (x := bnd a b most n k + (sm : Int)) (by omega) (by omega)]
        refine ldA_blk (s := .int .i64) (x := (lo : Int)) (bo.ext x1) rfl (ldA_blk (s := .sl) (i := 1) (x := so) (bo.ext x1) rfl (let_to ?_))
        refine b_at (v := bnd a b most (n + 1) k) ((oo.ext x1).ext x3).row (by rw [List.length_take]; omega) (fun hh => ?_) (fun h1 h2 => ?_) fun g4 x4 => let_to (let_to (let_to ?_))
        · rw [List.length_take] at hh
          unfold bnd
          unfold lowB at hlo
          omega
        · rw [List.length_take] at h2
          rw [List.getElem?_take, if_pos (by omega), bandL_get (by unfold highB lowB at *; omega), hlo, show lo + (k - lo) = k by omega]
        · refine j1 _ g4 (x1.trans (x3.trans x4)) ?_
          rw [wrap_i64 (x := bnd a b most (n + 1) k + 1) (by omega) (by omega)]
          rw [← hsm] at hst
          unfold bnd
          rw [hst]
          (repeat' split) <;> omega
      refine let_to ?_
      rw [w1]
      refine idx_str rfl (by rw [← hbs]; exact hy) (cnd_beq.2 ⟨fun he => j2 0 ?_, fun hne => j2 1 ?_⟩)
      · unfold bne1; rw [if_pos he.symm]
      · unfold bne1; rw [if_neg fun e => hne e.symm]
    · have hi0 : i = 0 := by omega
      subst hi0
      unfold bnd
      rw [T_zeroR _ _ (by omega), T_zeroR _ _ (by omega)]
      split <;> omega
  · obtain rfl : i = hi + 1 := by omega
    rw [List.take_of_length_le (by omega)] at oo
    refine ldA_blk (s := .int .i64) (x := (lo : Int)) bo rfl (ldA_blk (s := .sl) (i := 1) (x := so) bo rfl ?_)
    refine stores_blk (vs := [.int .i64 (lo : Int), .slice so.a so.len so.cap]) bxr rfl fun g2 b2 u2 _ z2 => ?_
    simp only [List.take_zero, List.nil_append] at b2
    refine ldA_blk (s := .int .i64) (x := (lo : Int)) b2 rfl (ldA_blk (s := .sl) (i := 1) (x := so) b2 rfl ?_)
    have hz3 := b3.lt
    have hz1 := e1.size
    refine hK _ _ (own_same (oo.weaken (by omega)) fun x hx => u2.get _ (oo.lt x hx) (by have := so1 x hx; omega)) (xg.only_new u2 (by omega))
theorem slc3_all {s : Sl} {len : Int} {size : Nat} (hl : len = (s.len : Int)) (hc : s.len ≤ s.cap) {K : Option Addr → Nat → Nat → Prop} (hk : K s.a s.len s.len) : slc3 s.a s.len s.cap none len len size K := by
  subst hl
  refine ⟨⟨by omega, by omega⟩, ⟨by omega, by omega⟩, ⟨?_, ?_⟩, ?_⟩
  · simp
  · simp
  · have e : (if ((s.len : Int)).toNat = ((none : Option Int).getD 0).toNat then s.a else s.a.map (·.add (((none : Option Int).getD 0).toNat * size))) = s.a := by
      show (if ((s.len : Int)).toNat = 0 then s.a else s.a.map (·.add (0 * size))) = s.a
      split
      · rfl
      · rw [Nat.zero_mul]; exact add_zero_map s.a
    rw [e]
    exact hk
theorem lev_Upto {a b : ByteArray} {most : Int} {h : Hp} {K : Int → Bool → Hp → Prop} (ha : a.size ≤ 1048576) (hb : b.size ≤ 1048576)
    (hK : ∀ h', Ext h h' → K (if (ed (bts a) (bts b) : Int) ≤ most then (ed (bts a) (bts b) : Int) else 0) (decide ((ed (bts a) (bts b) : Int) ≤ most)) h') : C_lev_Upto a b most h K := by
  refine F_lev_Upto_ok _ _ _ _ _ (lev_Trim ha hb fun c d p q hc hd => ?_)
  have la := bts_len a
  have lb := bts_len b
  have lc := bts_len c
  have ld := bts_len d
  have hle : c.size ≤ a.size ∧ d.size ≤ b.size := by
    have h1 := congrArg List.length hc
    have h2 := congrArg List.length hd
    simp only [List.length_append] at h1 h2
    omega
  have hed : ed (bts a) (bts b) = ed (bts c) (bts d) := by
    rw [hc, hd, List.append_assoc, List.append_assoc, ed_prefix, ed_suffix]
  rw [hed] at hK
  have hge := ed_ge (bts c) (bts d)
  have hmx := ed_max (bts c) (bts d)
  rw [lc, ld] at hge hmx
  have no : ∀ h', Ext h h' → ¬ ((ed (bts c) (bts d) : Int) ≤ most) → K 0 false h' := fun h' e hn => by
    have := hK h' e
    rw [if_neg hn, decide_eq_false hn] at this; exact this
  rw [Jn_eq]
  refine cnd_dec.2 ⟨fun hneg => no h (Ext.refl _) (by omega), fun hpos => let_to (let_to (let_to ?_))⟩
  rw [wrap_i64 (by omega) (by omega), wrap_i64 (by omega) (by omega)]
  refine cnd_dec.2 ⟨fun hfar => no h (Ext.refl _) (by split at hfar <;> omega), fun hnf => ?_⟩
  unfold J1_lev_Upto
  refine let_to (let_to (let_to ?_))
  generalize hm : min most.toNat (max c.size d.size) = m
  have e5 : (if (if (d.size : Int) > (c.size : Int) then (d.size : Int) else (c.size : Int)) < most then (if (d.size : Int) > (c.size : Int) then (d.size : Int) else (c.size : Int)) else most) = (m : Int) := by
    (repeat' split) <;> omega
  have hcd : c.size ≤ d.size + m := by split at hnf <;> omega
  rw [e5]
  have e6 : (if (m : Int) < (d.size : Int) then (m : Int) else (d.size : Int)) = ((min d.size m : Nat) : Int) := by split <;> omega
  rw [e6]
  refine lev_first (n := min d.size m) (by omega) fun s1 h1 o1 e1 => ?_
  have e0 : ((List.range (min d.size m + 1)).map fun i : Nat => (i : Int)) = bandL (bts c) (bts d) m 0 := by
    unfold bandL highB lowB
    rw [ld, Nat.zero_add, Nat.zero_sub, Nat.sub_zero]
    apply List.map_congr_left
    intro k hk
    have hk := List.mem_range.1 hk
    unfold bnd
    rw [Nat.zero_add, T_zeroL _ _ (by omega)]
    omega
  rw [e0] at o1
  have n1 := o1.row.len
  have c1 := o1.row.cap
  refine slc3_all (s := s1) rfl c1 (push_to fun h2 b2 e2 z2 => let_to ?_)
  have l1 := o1.lt
  have a1 := o1.above
  have hz1 := e1.size
  refine stores_blk (vs := [.int .i64 0, .slice s1.a s1.len s1.len]) b2 rfl fun h3 b3 u3 _ z3 => ?_
  simp only [List.take_zero, List.nil_append] at b3
  have r1 : IsRow eJ 1 h3 ⟨s1.a, s1.len, s1.len⟩ (bandL (bts c) (bts d) m 0) := by
    have r := (own_same (o1.ext e2) fun x hx => u3.get _ ((o1.ext e2).lt x hx) (by have := l1 x hx; omega)).row
    exact ⟨r.len, Nat.le_refl _, r.at_, r.get⟩
  have x3 : Ext h h3 := (e1.trans e2).only_new u3 (by omega)
  refine Lp.inv (fun st => ∃ (i : Nat) (s : Sl), st.1.1 = (i : Int) ∧ i ≤ c.size ∧ Blk st.2 h1.size #[.int .i64 ((lowB m i : Nat) : Int), .slice s.a s.len s.cap] ∧ IsRow eJ 1 st.2 s (bandL (bts c) (bts d) m i) ∧ (∀ x, s.a = some x → x.block ≠ h1.size) ∧ Ext h st.2 ∧ h1.size < st.2.size)
    (fun st => c.size - st.1.1.toNat) ?_ ⟨0, ⟨s1.a, s1.len, s1.len⟩, rfl, by omega, ?_, r1, fun x hx => by have := l1 x hx; omega, x3, by show h1.size < h3.size; omega⟩
  case refine_2 =>
    show Blk h3 h1.size #[.int .i64 ((0 - m : Nat) : Int), .slice s1.a s1.len s1.len]
    rw [Nat.zero_sub]; exact b3
  rintro ⟨⟨i', ⟨⟩⟩, g⟩ R ⟨i, s, rfl, hi, bx, r, hne, x, hg⟩ hR
  simp only at bx r x hg
  unfold L1_lev_Upto
  dsimp only
  refine cnd_dec.2 ⟨fun hlt => ?_, fun hge2 => ?_⟩
  · refine ldA_blk (s := .int .i64) (x := ((lowB m i : Nat) : Int)) bx rfl (ldA_blk (s := .sl) (i := 1) (x := s) bx rfl (let_to ?_))
    have hx := bts_get (s := c) (k := i) (by omega)
    have wi : IntKind.wrap .i64 ((i : Int) + 1) = ((i + 1 : Nat) : Int) := by rw [wrap_i64 (by omega) (by omega)]; omega
    rw [wi]
    refine idx_str rfl hx (b_step (b := bts d) rfl hx (by omega) (by omega) (by omega) r fun s' g1 o' e' => ?_)
    have bx1 := bx.ext e'
    have a' := o'.above
    have l' := o'.lt
    have hz := e'.size
    have hz2 := x.size
    refine stores_blk (vs := [.int .i64 ((lowB m (i + 1) : Nat) : Int), .slice s'.a s'.len s'.cap]) bx1 rfl fun g2 b2' u2 _ z2' => let_to ?_
    simp only [List.take_zero, List.nil_append] at b2'
    have hne' : ∀ y, s'.a = some y → y.block ≠ h1.size := fun y hy => by have := a' y hy; omega
    refine hR _ ⟨i + 1, s', rfl, by omega, b2', (own_same o' fun y hy => u2.get _ (l' y hy) (hne' y hy)).row, hne', (x.trans e').only_new u2 (by omega), by show h1.size < g2.size; omega⟩ (by simp only; omega)
  · obtain rfl : i = c.size := by omega
    unfold J2_lev_Upto
    refine ldA_blk (s := .int .i64) (x := ((lowB m c.size : Nat) : Int)) bx rfl (ldA_blk (s := .sl) (i := 1) (x := s) bx rfl (let_to ?_))
    rw [wrap_i64 (by omega) (by omega)]
    refine b_at_all (a := bts c) (b := bts d) (i := d.size) r (by omega) (by omega) (by omega) (by omega) fun g2 e2' => ?_
    have hT : T (bts c) (bts d) c.size d.size = ed (bts c) (bts d) := by rw [← lc, ← ld, T_all]
    unfold bnd
    rw [hT]
    refine cnd_dec.2 ⟨fun hgt => no g2 (x.trans e2') (by omega), fun hng => ?_⟩
    have hyes : (ed (bts c) (bts d) : Int) ≤ most := by omega
    have := hK g2 (x.trans e2')
    rw [if_pos hyes, decide_eq_true hyes] at this
    rw [show ((min (ed (bts c) (bts d)) (m + 1) : Nat) : Int) = (ed (bts c) (bts d) : Int) by omega]
    exact this
end Go.Proofs.YtbfjigemklbjfaaF
