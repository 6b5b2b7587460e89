/- Numbers' texts, strconv's and the reference's. No condition, but that strconv's table of powers holds what it was laid with. -/
import Derived.Test.YtlkaipmhjgfkpaaDoorFmt10
namespace Go.Proofs.YtlkaipmhjgfkpaaDoorF
open Go Go.Proofs.YtlkaipmhjgfkpaaDoorK
set_option linter.unusedSimpArgs false
set_option linter.unusedVariables false
set_option maxRecDepth 100000

theorem slc_arr {b l m : Nat} {lo hi : Option Int} (hlo : lo.getD 0 = (l : Int)) (hhi : hi.getD ((24 : Nat) : Int) = (m : Int)) (hlm : l ≤ m) (hm : m ≤ 24) (hl : l < 24) {K : Option Addr → Nat → Nat → Prop} (hk : K (some ⟨b, l, none⟩) (m - l) (24 - l)) : slcS (some ⟨b, 0, none⟩) 24 24 lo hi 1 K := by
  unfold slcS
  rw [hlo, hhi]
  refine ⟨⟨by omega, by omega⟩, ⟨by omega, by omega⟩, ?_⟩
  rw [Int.toNat_natCast, Int.toNat_natCast, if_neg (by omega), Nat.mul_one]
  show K (some (Addr.add ⟨b, 0, none⟩ l)) _ _
  rw [add_mk, Nat.zero_add]; exact hk
theorem bt_blk {h : Hp} {b off n : Nat} {c : Array Value} {pre T : List Value} {l : List Int} (bk : Blk h b c) (hc : c.toList = pre ++ u8s l ++ T) (hpre : pre.length = off) (hn : n = l.length) (hl : ∀ x ∈ l, 0 ≤ x ∧ x ≤ 255) {K : ByteArray → Prop} (hk : ∀ t, bts t = l → K t) : btS h (some ⟨b, off, none⟩) n K := by
  subst hn
  refine ⟨l.map fun x => x.toNat.toUInt8, by simp, fun i hi => ?_, hk _ ?_⟩
  · have hx : l[i]? = some l[i] := List.getElem?_eq_getElem hi
    have hb := hl l[i] (List.getElem_mem hi)
    rw [add_mk, bk.cell, ← Array.getElem?_toList, hc, List.getElem?_map, hx]
    rw [List.getElem?_append_left (by simp [hpre]; omega), List.getElem?_append_right (by omega), hpre, Nat.add_sub_cancel_left, List.getElem?_map, hx]
    simp only [Option.map_some, Option.some.injEq, Value.int.injEq, true_and]
    rw [show (l[i].toNat.toUInt8).toNat = l[i].toNat % 256 from rfl]
    omega
  · unfold bts
    simp only [List.map_map]
    conv => rhs; rw [← List.map_id l]
    apply List.map_congr_left
    intro x hx
    have hb := hl x hx
    simp only [Function.comp, id]
    rw [show (x.toNat.toUInt8).toNat = x.toNat % 256 from rfl]
    omega
theorem dec_byte {n : Nat} : ∀ x ∈ dec n, 48 ≤ x ∧ x ≤ 57 := by
  induction n using Nat.strongRecOn with
  | _ n ih =>
    by_cases h : n < 10
    · rw [dec_small h]; intro x hx; simp at hx; omega
    · rw [dec_big h]
      intro x hx
      rcases List.mem_append.1 hx with hx | hx
      · exact ih (n / 10) (by omega) x hx
      · simp at hx; omega
theorem dec_w {w x : Nat} (h1 : 1 ≤ w) (hlo : 10 ^ (w - 1) ≤ x) (hhi : x < 10 ^ w) : decW w x = dec x := by
  obtain ⟨v, rfl⟩ : ∃ v, w = v + 1 := ⟨w - 1, by omega⟩
  exact decW_dec v x (by simpa using hlo) hhi
abbrev z24 : List Value := List.replicate 24 (Value.int .u8 0)
theorem c_FmtUint {x : Nat} {h : Hp} {K : ByteArray → Hp → Prop} (hp : pw10 h) (hx : x < 18446744073709551616) (hk : ∀ t h', bts t = dec x → Ext h h' → K t h') : C_strconv_FormatUint x 10 h K := by
  refine F_strconv_FormatUint_ok _ _ _ _ (F_internal_strconv_FormatUint_ok _ _ _ _ ?_)
  unfold F_internal_strconv_FormatUint
  refine cnd_yes rfl (cnd_dec.2 ⟨fun hlt => ?_, fun hge => ?_⟩)
  · exact let_eq (v := (x : Int)) (wi64 rfl (by omega)) (c_small (by omega) fun t ht => hk t h ht (Ext.refl _))
  refine push_to fun h1 b1 x1 z1 => let_to ?_
  refine c_numDigits (hp.ext x1) hx (by omega) fun w hw1 hw20 hlo hhi => ?_
  refine slc_arr (l := 0) (m := w) rfl rfl (by omega) (by omega) (by omega) ?_
  refine c_fmt10 (pre := []) (M := z24.take w) (T := z24.drop w) b1 (by rw [List.nil_append, List.take_append_drop]; rfl) rfl (by rw [List.length_take]; simp; omega) (by omega) hhi hx fun h2 c2 b2 hc2 o2 => ?_
  refine slc_arr (l := 0) (m := w) rfl rfl (by omega) (by omega) (by omega) ?_
  rw [Nat.sub_zero, dec_w hw1 hlo hhi] at hc2
  have hdl : (dec x).length = w := by rw [← dec_w hw1 hlo hhi, decW_len]
  exact bt_blk b2 hc2 rfl (by omega) (fun y hy => by have := dec_byte y hy; omega) fun t ht => hk t h2 ht (x1.only_new o2 (Nat.le_refl _))
theorem fmtInt_J2 {i : Int} {u : Nat} {h h0 : Hp} {b : Nat} {K : ByteArray → Hp → Prop} (hp : pw10 h) (x0 : Ext h0 h) (hb : h0.size ≤ b) (hu : u < 18446744073709551616) (h1 : 1 ≤ u) (hiu : decI i = if i < 0 then 45 :: dec u else dec u) (bk : Blk h b z24.toArray)
    (hk : ∀ t h', bts t = decI i → Ext h0 h' → K t h') : J2_internal_strconv_FormatInt i K ⟨b, 0, none⟩ ((u : Int), ()) h := by
  unfold J2_internal_strconv_FormatInt
  refine c_numDigits hp hu h1 fun w hw1 hw20 hlo hhi => ?_
  refine let_eq (v := ((1 + w : Nat) : Int)) (wi64 (by simp) (by omega)) (slc_arr (l := 1) (m := 1 + w) rfl rfl (by omega) (by omega) (by omega) ?_)
  rw [show 1 + w - 1 = w by omega]
  refine c_fmt10 (pre := [Value.int .u8 0]) (M := (List.replicate 23 (Value.int .u8 0)).take w) (T := (List.replicate 23 (Value.int .u8 0)).drop w) bk (by rw [List.append_assoc, List.take_append_drop]; rfl) rfl (by rw [List.length_take]; simp; omega) (by omega) hhi hu fun h2 c2 b2 hc2 o2 => ?_
  rw [dec_w hw1 hlo hhi] at hc2
  have hdl : (dec u).length = w := by rw [← dec_w hw1 hlo hhi, decW_len]
  have X2 : Ext h0 h2 := x0.only_new o2 hb
  refine cnd_dec.2 ⟨fun hneg => ?_, fun hpos => ?_⟩
  · rw [if_pos hneg] at hiu
    refine ⟨⟨by decide, by decide⟩, ?_⟩
    show (1 : Nat) = 1 ∧ stC h2 (Addr.add ⟨b, 0, none⟩ ((0 : Int).toNat * 1)) _
    rw [add_mk, show 0 + (0 : Int).toNat * 1 = 0 from rfl]
    have hsz : 0 < c2.size := by rw [← Array.length_toList, hc2]; simp
    refine ⟨rfl, set_to b2 hsz fun h3 b3 o3 _ z3 => ?_⟩
    refine let_eq (v := ((1 + w : Nat) : Int)) (wi64 (by simp) (by omega)) (slc_arr (l := 0) (m := 1 + w) rfl rfl (by omega) (by omega) (by omega) ?_)
    refine bt_blk (l := 45 :: dec u) (pre := []) (T := (List.replicate 23 (Value.int .u8 0)).drop w) b3 ?_ rfl (by simp [hdl]; omega) (fun y hy => ?_) fun t ht => hk t h3 (by rw [ht, hiu]) (X2.only_new o3 hb)
    · rw [Array.toList_setIfInBounds, hc2]; simp [u8s]
    · rcases List.mem_cons.1 hy with rfl | hy
      · omega
      · have := dec_byte y hy; omega
  · rw [if_neg hpos] at hiu
    refine let_eq (v := ((1 + w : Nat) : Int)) (wi64 (by simp) (by omega)) (slc_arr (l := 1) (m := 1 + w) rfl rfl (by omega) (by omega) (by omega) ?_)
    exact bt_blk b2 hc2 rfl (by omega) (fun y hy => by have := dec_byte y hy; omega) fun t ht => hk t h2 (by rw [ht, hiu]) X2
theorem c_Itoa {i : Int} {h : Hp} {K : ByteArray → Hp → Prop} (hp : pw10 h) (h1 : -9223372036854775808 ≤ i) (h2 : i ≤ 9223372036854775807) (hk : ∀ t h', bts t = decI i → Ext h h' → K t h') : C_strconv_Itoa i h K := by
  refine F_strconv_Itoa_ok _ _ _ (F_internal_strconv_Itoa_ok _ _ _ (F_internal_strconv_FormatInt_ok _ _ _ _ ?_))
  unfold F_internal_strconv_FormatInt
  refine cnd_yes rfl ?_
  rw [Jn_eq]
  have big : (i < 0 ∨ 100 ≤ i) → J1_internal_strconv_FormatInt i K (false, ()) h := fun hb => by
    unfold J1_internal_strconv_FormatInt
    refine cnd_no rfl (push_to fun h3 b3 x3 z3 => let_to (let_to ?_))
    rw [Jn_eq]
    refine cnd_dec.2 ⟨fun hneg => ?_, fun hpos => ?_⟩
    · have e1 : IntKind.wrap .u64 (0 - IntKind.wrap .u64 i) = (((-i).toNat : Nat) : Int) := by
        have wm : ∀ n : Int, IntKind.wrap .u64 n = n % 18446744073709551616 := fun n => by
          simp only [IntKind.wrap, IntKind.bits, IntKind.signed]; simp
        rw [wm, wm]; omega
      refine let_eq (v := (((-i).toNat : Nat) : Int)) e1 ?_
      exact fmtInt_J2 (hp.ext x3) x3 (Nat.le_refl _) (by omega) (by omega) (by unfold decI; rw [if_pos hneg, if_pos hneg]) b3 hk
    · have e1 : IntKind.wrap .u64 i = ((i.toNat : Nat) : Int) := by rw [wrap_u64 (by omega) (by omega)]; omega
      rw [e1]
      exact fmtInt_J2 (hp.ext x3) x3 (Nat.le_refl _) (by omega) (by omega) (by unfold decI; rw [if_neg hpos, if_neg hpos]) b3 hk
  refine cnd_dec.2 ⟨fun hpos => ?_, fun hneg => big (by omega)⟩
  by_cases hlt : i < 100
  · have hd : decide (i < 100) = true := by simpa using hlt
    rw [hd]
    unfold J1_internal_strconv_FormatInt
    refine cnd_yes rfl ?_
    obtain ⟨n, rfl⟩ : ∃ n : Nat, i = n := ⟨i.toNat, by omega⟩
    refine c_small (by omega) fun t ht => hk t h (by unfold decI; rw [if_neg (by omega), Int.toNat_natCast]; exact ht) (Ext.refl _)
  · have hd : decide (i < 100) = false := by simpa using hlt
    rw [hd]; exact big (by omega)
/-! The reference's. -/
theorem r_figures : ∀ (x : Nat) {h : Hp} {K : ByteArray → Hp → Prop}, x < 18446744073709551616 → (∀ t h', bts t = dec x → Ext h h' → K t h') → C_ref04_figures x h K := by
  intro x
  induction x using Nat.strongRecOn with
  | _ x ih =>
    intro h K hx hk
    refine F_ref04_figures_ok _ _ _ ⟨by decide, ?_⟩
    refine let_eq (v := ((x % 10 : Nat) : Int)) (tmod_nat x 10) (let_eq (v := ((48 + x % 10 : Nat) : Int)) (wu64 (by simp) (by omega)) (let_eq (v := ((48 + x % 10 : Nat) : Int)) (wu8 rfl (by omega)) ?_))
    refine push_to fun h1 b1 x1 z1 => let_to ?_
    refine bt_blk (l := [((48 + x % 10 : Nat) : Int)]) (pre := []) (T := []) b1 rfl rfl rfl (fun y hy => by simp at hy; omega) fun t ht => ?_
    refine cnd_dec.2 ⟨fun hlt => ?_, fun hge => ⟨by decide, ?_⟩⟩
    · refine hk t h1 ?_ x1
      rw [ht, dec_small (by omega), Nat.mod_eq_of_lt (by omega)]; simp
    · refine let_eq (v := ((x / 10 : Nat) : Int)) (wu64 (tdiv_nat x 10) (by omega)) (ih (x / 10) (by omega) (by omega) fun t2 h2 ht2 x2 => ?_)
      have hl2 : t2.size ≤ 100 := by
        rw [← bts_len, ht2]
        have : ∀ k n : Nat, n < 10 ^ k → 1 ≤ k → (dec n).length ≤ k := by
          intro k
          induction k with
          | zero => intro n _ h; omega
          | succ k ihk =>
            intro n hn _
            by_cases h10 : n < 10
            · rw [dec_small h10]; simp
            · rw [dec_big h10, List.length_append]
              rcases Nat.eq_zero_or_pos k with h0 | h0
              · subst h0; simp at hn; omega
              · have := ihk (n / 10) (by rw [Nat.div_lt_iff_lt_mul (by decide)]; rw [Nat.pow_succ] at hn; exact hn) h0
                simp; exact this
        exact this 100 (x / 10) (Nat.lt_of_lt_of_le (show x / 10 < 10 ^ 20 by omega) (Nat.pow_le_pow_right (by decide) (by decide))) (by decide)
      have hl1 : t.size = 1 := by rw [← bts_len, ht]; rfl
      refine cat_to (by omega) fun r hr => hk r h2 ?_ (x1.trans x2)
      rw [hr, ht2, ht, dec_big (n := x) (by omega)]; simp
theorem dec_short {n : Nat} (h : n < 18446744073709551616) : (dec n).length ≤ 20 := by
  have : ∀ k n : Nat, n < 10 ^ k → 1 ≤ k → (dec n).length ≤ k := by
    intro k
    induction k with
    | zero => intro n _ h; omega
    | succ k ihk =>
      intro n hn _
      by_cases h10 : n < 10
      · rw [dec_small h10]; simp
      · rw [dec_big h10, List.length_append]
        rcases Nat.eq_zero_or_pos k with h0 | h0
        · subst h0; simp at hn; omega
        · have := ihk (n / 10) (by rw [Nat.div_lt_iff_lt_mul (by decide)]; rw [Nat.pow_succ] at hn; exact hn) h0
          simp; exact this
  exact this 20 n (by omega) (by decide)
theorem decI_short {i : Int} (h1 : -9223372036854775808 ≤ i) (h2 : i ≤ 9223372036854775807) : (decI i).length ≤ 21 := by
  unfold decI
  split
  · have := dec_short (n := (-i).toNat) (by omega)
    simp; omega
  · have := dec_short (n := i.toNat) (by omega)
    omega
theorem r_Num {i : Int} {h : Hp} {K : ByteArray → Hp → Prop} (h1 : -9223372036854775808 ≤ i) (h2 : i ≤ 9223372036854775807) (hk : ∀ t h', bts t = decI i → Ext h h' → K t h') : C_ref04_Num i h K := by
  refine F_ref04_Num_ok _ _ _ (cnd_dec.2 ⟨fun hneg => ?_, fun hpos => ?_⟩)
  · refine let_eq (v := i + 1) (wrap_i64 (by omega) (by omega)) (let_eq (v := -(i + 1)) (by rw [wrap_i64 (by omega) (by omega)]; omega) (let_eq (v := ((((-(i + 1)).toNat : Nat)) : Int)) (wu64 (by omega) (by omega)) (let_eq (v := (((-i).toNat : Nat) : Int)) (wu64 (by omega) (by omega)) ?_)))
    refine r_figures _ (by omega) fun t h3 ht x3 => ?_
    have hl : t.size ≤ 20 := by rw [← bts_len, ht]; exact dec_short (by omega)
    refine cat_to (by show 1 + t.size ≤ _; omega) fun r hr => hk r h3 ?_ x3
    rw [hr, ht]; unfold decI; rw [if_pos hneg]; rfl
  · refine let_eq (v := ((i.toNat : Nat) : Int)) (wu64 (by omega) (by omega)) (r_figures _ (by omega) fun t h3 ht x3 => hk t h3 ?_ x3)
    rw [ht]; unfold decI; rw [if_neg hpos]
end Go.Proofs.YtlkaipmhjgfkpaaDoorF
