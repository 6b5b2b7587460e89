/- Chapter 3: readers. No condition. -/
import Derived.Test.YtjifeclbpgonpaaDoorCodeW
namespace Go.Proofs.YtjifeclbpgonpaaDoorF
open Go Go.Proofs.YtjifeclbpgonpaaDoorK
set_option linter.unusedSimpArgs false
set_option linter.unusedVariables false

theorem callV_fun {P : Program} {f : FuncId} {args : List Value} {lb : Array Value} {shs : List Sh} {h : Hp} {K : St shs → Hp → Prop} (he : entered P f = true) (hc : CallT P f (args ++ lb.toList) shs h K) : callV P (.func (.func f) #[] lb) args shs h K := by
  unfold callV callK
  simp only [he]
  have : (#[] ++ args.toArray ++ lb : Array Value) = (args ++ lb.toList).toArray := by
    apply Array.ext'
    simp
  rw [this]; exact hc
def By (l : List Int) : Prop := ∀ c ∈ l, 0 ≤ c ∧ c ≤ 255
/-- The number that stands first, how many bytes it has, an error's number. -/
def numL : Nat → Nat → List Int → Nat × Nat × Nat
  | _, _, [] => (0, 0, 13)
  | i, acc, c :: t => if i = 9 ∧ 1 < c then (0, 0, 12) else if 128 ≤ c then numL (i + 1) (acc + (c.toNat % 128) * 2 ^ (7 * i)) t else if c = 0 ∧ 0 < i then (0, 0, 12) else (acc + c.toNat * 2 ^ (7 * i), i + 1, 0)
def numb (l : List Int) : Nat × Nat × Nat := numL 0 0 l
theorem num_lt : ∀ (l : List Int) (i acc : Nat), By l → i ≤ 9 → acc < 2 ^ (7 * i) → (numL i acc l).1 < 18446744073709551616 ∧ (numL i acc l).2.1 ≤ i + l.length
  | [], i, acc, _, _, _ => by simp [numL]
  | c :: t, i, acc, hb, hi, ha => by
    have hc := hb c (by simp)
    have ht : By t := fun d hd => hb d (by simp [hd])
    have hP : 2 ^ (7 * i) ≤ 2 ^ 63 := Nat.pow_le_pow_right (by decide) (by omega)
    have hP8 : i ≤ 8 → 2 ^ (7 * i) ≤ 2 ^ 56 := fun h => Nat.pow_le_pow_right (by decide) (by omega)
    have hP9 : 2 ^ (7 * (i + 1)) = 2 ^ (7 * i) * 128 := by rw [show 7 * (i + 1) = 7 * i + 7 by omega, Nat.pow_add]
    unfold numL
    simp only [List.length_cons]
    split
    · simp
    · rename_i h1
      split
      · rename_i h2
        have hi8 : i ≤ 8 := by omega
        have := num_lt t (i + 1) (acc + (c.toNat % 128) * 2 ^ (7 * i)) ht (by omega) (by
          rw [hP9]
          have : (c.toNat % 128) * 2 ^ (7 * i) ≤ 127 * 2 ^ (7 * i) := Nat.mul_le_mul_right _ (by omega)
          omega)
        omega
      · split
        · simp
        · simp only
          refine ⟨?_, by omega⟩
          by_cases hi9 : i = 9
          · have : c.toNat * 2 ^ (7 * i) ≤ 1 * 2 ^ (7 * i) := Nat.mul_le_mul_right _ (by omega)
            omega
          · have := hP8 (by omega)
            have : c.toNat * 2 ^ (7 * i) ≤ 127 * 2 ^ (7 * i) := Nat.mul_le_mul_right _ (by omega)
            omega
theorem numb_lt {l : List Int} (hb : By l) : (numb l).1 < 18446744073709551616 ∧ (numb l).2.1 ≤ l.length := by
  have := num_lt l 0 0 hb (by omega) (by decide)
  unfold numb
  omega
theorem wrap_u64_nat {n : Nat} (h : n < 18446744073709551616) : IntKind.wrap .u64 (n : Int) = (n : Int) := wrap_u64 (by omega) (by omega)
theorem pow_word (i : Nat) (hi : i ≤ 9) : (2 : Int) ^ min (Int.toNat (((7 * i : Nat) : Nat) : Int)) (IntKind.bits .u64) = ((2 ^ (7 * i) : Nat) : Int) := by
  rw [Int.toNat_natCast, show min (7 * i) (IntKind.bits .u64) = 7 * i from Nat.min_eq_left (by show 7 * i ≤ 64; omega), Int.natCast_pow]; rfl
theorem c_number {h : Hp} {s : Sl} {l : List Int} {K : Int → Int → Int → Hp → Prop} (r : R8 h s l) (hb : By l) (hK : K (numb l).1 (numb l).2.1 (numb l).2.2 h) : C_code_number s h K := by
  have hls := r.len
  refine F_code_number_ok _ _ _ ?_
  refine Lp.inv (fun st => ∃ i acc : Nat, st.1.1 = (acc : Int) ∧ st.1.2.1 = (i : Int) ∧ st.2 = h ∧ i ≤ 9 ∧ i ≤ l.length ∧ acc < 2 ^ (7 * i) ∧ numL i acc (l.drop i) = numb l) (fun st => l.length - st.1.2.1.toNat) ?_ ⟨0, 0, rfl, rfl, rfl, by omega, by omega, by decide, rfl⟩
  rintro ⟨⟨acc, i, ⟨⟩⟩, g⟩ R ⟨i, acc, rfl, rfl, rfl, hi, hil, ha, hn⟩ hR
  unfold L1_code_number
  dsimp only
  refine cnd_dec.2 ⟨fun hlt => ?_, fun hge => ?_⟩
  · have hkl : i < l.length := by omega
    have hx : l[i]? = some l[i] := List.getElem?_eq_getElem hkl
    have hd : l.drop i = l[i] :: l.drop (i + 1) := List.drop_eq_getElem_cons hkl
    rw [hd] at hn
    have hc := hb l[i] (List.getElem_mem hkl)
    have hP8 : i ≤ 8 → 2 ^ (7 * i) ≤ 2 ^ 56 := fun h => Nat.pow_le_pow_right (by decide) (by omega)
    have hP : 2 ^ (7 * i) ≤ 2 ^ 63 := Nat.pow_le_pow_right (by decide) (by omega)
    have hP9 : 2 ^ (7 * (i + 1)) = 2 ^ (7 * i) * 128 := by rw [show 7 * (i + 1) = 7 * i + 7 by omega, Nat.pow_add]
    refine ld_int0 (i := (i : Int)) (x := l[i]) r (by omega) hx ?_
    generalize l[i] = c at hc hn
    obtain ⟨b, rfl⟩ : ∃ b : Nat, c = (b : Int) := ⟨c.toNat, by omega⟩
    unfold numL at hn
    have w7 : IntKind.wrap .i64 ((7 : Int) * (i : Int)) = ((7 * i : Nat) : Int) := by rw [wrap_i64 (by omega) (by omega)]; omega
    have key : ∀ t : Bool, (t = true ↔ i = 9 ∧ 1 < b) → J1_code_number K ((((acc : Nat) : Int), ((i : Nat) : Int), ()), g) R (b : Int) (t, ()) g := by
      intro t ht
      unfold J1_code_number
      dsimp only
      refine cnd_if (fun h1 => ?_) fun h1 => ?_
      · have h9 := ht.1 h1
        rw [if_pos ⟨h9.1, by omega⟩] at hn
        rw [← hn] at hK; exact hK
      · have h9 : ¬ (i = 9 ∧ 1 < b) := fun h => by rw [ht.2 h] at h1; cases h1
        rw [if_neg (fun h => h9 ⟨h.1, by omega⟩)] at hn
        refine cnd_dec.2 ⟨fun hbig => ?_, fun hsm => ?_⟩
        · rw [if_pos (show (128 : Int) ≤ (b : Int) from hbig), Int.toNat_natCast] at hn
          have hi8 : i ≤ 8 := by omega
          have hp8 := hP8 hi8
          have hm : (b % 128) * 2 ^ (7 * i) ≤ 127 * 2 ^ (7 * i) := Nat.mul_le_mul_right _ (by omega)
          refine let_to (let_to (let_to ⟨?_, let_to (let_to (let_to ?_))⟩))
          · rw [w7]; omega
          · rw [and8 (by omega), wrap_u64_nat (by omega), w7, pow_word i hi, ← Int.natCast_mul, wrap_u64_nat (by omega), or64 ha (by omega), wrap_i64 (x := (i : Int) + 1) (by omega) (by omega)]
            exact hR _ ⟨i + 1, _, rfl, by simp, rfl, by omega, by omega, by rw [hP9]; omega, hn⟩ (by simp only; omega)
        · rw [if_neg (show ¬ (128 : Int) ≤ (b : Int) from hsm), Int.toNat_natCast] at hn
          have key2 : ∀ t2 : Bool, (t2 = true ↔ b = 0 ∧ 0 < i) → J2_code_number K ((((acc : Nat) : Int), ((i : Nat) : Int), ()), g) (b : Int) (t2, ()) g := by
            intro t2 ht2
            unfold J2_code_number
            dsimp only
            refine cnd_if (fun h2 => ?_) fun h2 => ?_
            · have h3 := ht2.1 h2
              rw [if_pos ⟨by omega, h3.2⟩] at hn
              rw [← hn] at hK; exact hK
            · have h3 : ¬ (b = 0 ∧ 0 < i) := fun h => by rw [ht2.2 h] at h2; cases h2
              rw [if_neg (fun h => h3 ⟨by omega, h.2⟩)] at hn
              have hm : b * 2 ^ (7 * i) + acc < 18446744073709551616 := by
                by_cases hi9 : i = 9
                · have : b * 2 ^ (7 * i) ≤ 1 * 2 ^ (7 * i) := Nat.mul_le_mul_right _ (by omega)
                  omega
                · have := hP8 (by omega)
                  have : b * 2 ^ (7 * i) ≤ 127 * 2 ^ (7 * i) := Nat.mul_le_mul_right _ (by omega)
                  omega
              refine let_to (let_to ⟨?_, let_to (let_to (let_to ?_))⟩)
              · rw [w7]; omega
              · rw [wrap_u64_nat (by omega), w7, pow_word i hi, ← Int.natCast_mul, wrap_u64_nat (by omega), or64 ha hm, wrap_i64 (x := (i : Int) + 1) (by omega) (by omega)]
                rw [← hn] at hK
                have e : ((i + 1 : Nat) : Int) = (i : Int) + 1 := by omega
                simp only at hK
                rw [e] at hK; exact hK
          rw [Jn_eq]
          refine cnd_beq.2 ⟨fun hz => key2 _ ?_, fun hnz => key2 _ ?_⟩
          · rw [decide_eq_true_iff]; omega
          · simp; omega
    rw [Jn_eq]
    refine cnd_beq.2 ⟨fun h9 => key _ ?_, fun n9 => key _ ?_⟩
    · rw [decide_eq_true_iff]; omega
    · simp; omega
  · obtain rfl : i = l.length := by omega
    rw [List.drop_length] at hn
    unfold numL at hn
    rw [← hn] at hK; exact hK

/-! A reader in memory. -/
structure RQ (h : Hp) (p : Nat) (s : Sl) (l : List Int) (e : Int) : Prop where
  b : Blk h p #[.slice s.a s.len s.cap, .int .i64 e]
  r : R8 h s l
  ap : ∀ a, s.a = some a → a.block ≠ p
  by_ : By l
  lt : ∀ a, s.a = some a → a.block < p
theorem RQ.ext {h h' : Hp} {p : Nat} {s : Sl} {l : List Int} {e : Int} (q : RQ h p s l e) (x : Ext h h') : RQ h' p s l e := ⟨q.b.ext x, q.r.ext x, q.ap, q.by_, q.lt⟩
theorem RQ.only {h h' : Hp} {p b0 : Nat} {s : Sl} {l : List Int} {e : Int} (q : RQ h p s l e) (x : Only b0 h h') (hp : p ≠ b0) (hs : ∀ a, s.a = some a → a.block ≠ b0) : RQ h' p s l e :=
  ⟨q.b.only x hp, q.r.only x hs, q.ap, q.by_, q.lt⟩
/-- What a read of a number that may be tells, and leaves. -/
def tk (may : Nat → Bool) (l : List Int) (e : Int) : Nat × List Int × Int :=
  if e ≠ 0 then (0, l, e) else if (numb l).2.2 ≠ 0 then (0, l, (numb l).2.2) else if may (numb l).1 then ((numb l).1, l.drop (numb l).2.1, 0) else (0, l, 14)
theorem By.drop {l : List Int} (h : By l) (k : Nat) : By (l.drop k) := fun c hc => h c (List.mem_of_mem_drop hc)
theorem tk_by {may : Nat → Bool} {l : List Int} {e : Int} (h : By l) : By (tk may l e).2.1 := by
  unfold tk; (repeat' split) <;> first | exact h | exact h.drop _
/-- 's[n:]'. -/
theorem slc_drop {h : Hp} {s : Sl} {l : List Int} (r : R8 h s l) {i : Int} {n : Nat} (hi : i = n) (hn : n ≤ l.length) {K : Option Addr → Nat → Nat → Prop} (hk : ∀ t : Sl, R8 h t (l.drop n) → (∀ a, t.a = some a → ∃ b, s.a = some b ∧ a.block = b.block) → K t.a t.len t.cap) :
    slcS s.a s.len s.cap (some i) none 1 K := by
  have h1 := r.len
  refine slc_row (lo := some i) (hi := none) r (m := n) (n := l.length) hi (by simp only [Option.getD_none]; omega) (by omega) (Nat.le_refl _) fun t rt ht => hk t ?_ ht
  rw [List.take_length] at rt; exact rt
theorem c_take {h : Hp} {p : Nat} {s : Sl} {l : List Int} {e : Int} {v : Value} {may : Nat → Bool} {M : Bool → Hp → Prop} {K : Int → Hp → Prop} (q : RQ h p s l e)
    (hmay : e = 0 → (numb l).2.2 = 0 → callV Tryd.prog v [.int .u64 ((numb l).1 : Int)] [.at .bool] h fun r h1 => r.1 = may (numb l).1 ∧ RQ h1 p s l e ∧ M true h1)
    (h0 : M false h) (hK : ∀ c s' h1 h2, M c h1 → (c = true ↔ e = 0 ∧ (numb l).2.2 = 0) → RQ h2 p s' (tk may l e).2.1 (tk may l e).2.2 → Only p h1 h2 → K (tk may l e).1 h2) : C_code_Reader_take (some ⟨p, 0, none⟩) v h K := by
  refine F_code_Reader_take_ok _ _ _ _ ?_
  unfold F_code_Reader_take
  rw [Jn_eq]
  refine cnd_no rfl (ldA_blk (s := .int .i64) (i := 1) (x := e) q.b rfl (cnd_bne.2 ⟨fun he => ?_, fun he => ?_⟩))
  · have ht : tk may l e = (0, l, e) := by unfold tk; rw [if_pos he]
    rw [ht] at hK
    exact hK false s h h h0 (by simp; intro e0; exact (he e0).elim) q (Only.refl _ _)
  · subst he
    unfold J1_code_Reader_take
    have nb := numb_lt q.by_
    refine ldA_blk (s := .sl) (x := s) q.b rfl (c_number q.r q.by_ ?_)
    rw [Jn_eq]
    have bad : ∀ (c : Bool) (h1 : Hp) (e1 : Int), e1 ≠ 0 → RQ h1 p s l 0 → M c h1 → (c = true ↔ (0 : Int) = 0 ∧ (numb l).2.2 = 0) → tk may l 0 = (0, l, e1) → J2_code_Reader_take (some ⟨p, 0, none⟩) K ((numb l).1 : Int) ((numb l).2.1 : Int) (e1, ()) h1 := by
      intro c h1 e1 hne q1 hm hc ht
      unfold J2_code_Reader_take
      refine cnd_bne.2 ⟨fun _ => ⟨rfl, set_to q1.b (i := 1) (by simp) fun h2 b2 u2 k2 z2 => ?_⟩, fun h => (hne h).elim⟩
      rw [ht] at hK
      refine hK c s h1 h2 hm hc ⟨by simpa using b2, q1.r.only u2 q1.ap, q1.ap, q1.by_, q1.lt⟩ u2
    refine cnd_beq.2 ⟨fun hz => ?_, fun hnz => ?_⟩
    · have hz' : (numb l).2.2 = 0 := by omega
      refine callV.mono (hmay rfl hz') ?_
      rintro ⟨r, ⟨⟩⟩ h1 ⟨hr, q1, hm⟩
      simp only at hr
      subst hr
      refine cnd_not.2 (cnd_if (fun ht => ?_) fun hf => ?_)
      · have htk : tk may l 0 = ((numb l).1, l.drop (numb l).2.1, 0) := by unfold tk; rw [if_neg (by simp), if_neg (by simpa using hz'), if_pos ht]
        rw [htk] at hK
        unfold J2_code_Reader_take
        rw [hz]
        refine cnd_bne.2 ⟨fun h => (h rfl).elim, fun _ => ldA_blk (s := .sl) (x := s) q1.b rfl ?_⟩
        refine slc_drop q1.r rfl nb.2 fun t rt ht2 => ⟨rfl, set_to q1.b (i := 0) (by simp) fun h2 b2 u2 k2 z2 => ?_⟩
        have hap : ∀ a, t.a = some a → a.block ≠ p := fun a ha => by obtain ⟨b, hb, e⟩ := ht2 a ha; rw [e]; exact q1.ap b hb
        exact hK true t h1 h2 hm (by simp [hz']) ⟨by simpa using b2, rt.only u2 hap, hap, q1.by_.drop _, fun a ha => by obtain ⟨b, hb, e⟩ := ht2 a ha; rw [e]; exact q1.lt b hb⟩ u2
      · exact bad true h1 14 (by decide) q1 hm (by simp [hz']) (by unfold tk; rw [if_neg (by simp), if_neg (by simpa using hz'), if_neg (fun h2 => by rw [show may (numb l).1 = false from hf] at h2; cases h2)])
    · have hz' : (numb l).2.2 ≠ 0 := by omega
      exact bad false h _ (by omega) q h0 (by simp [hz']) (by unfold tk; rw [if_neg (by simp), if_pos hz'])
theorem c_take_nil {h : Hp} {v : Value} {K : Int → Hp → Prop} (hK : K 0 h) : C_code_Reader_take none v h K :=
  F_code_Reader_take_ok _ _ _ _ (by unfold F_code_Reader_take; exact hK)

def sgn (n : Nat) : Int := if n % 2 = 1 then -((n / 2 : Nat) : Int) - 1 else ((n / 2 : Nat) : Int)
theorem fdiv2 (m : Nat) : Int.fdiv (m : Int) (2 ^ min (Int.toNat 1) (IntKind.bits .u64)) = ((m / 2 : Nat) : Int) := by
  show Int.fdiv (m : Int) 2 = _
  rw [Int.fdiv_eq_ediv_of_nonneg _ (by decide)]; rfl
theorem c_signed {h : Hp} {n : Nat} {K : Int → Hp → Prop} (hn : n < 18446744073709551616) (hK : K (sgn n) h) : C_code_signed n h K := by
  refine F_code_signed_ok _ _ _ ?_
  unfold F_code_signed
  simp only [Let_eq]
  rw [and64_1 hn, fdiv2]
  unfold sgn at hK
  refine cnd_beq.2 ⟨fun h1 => ⟨by decide, ?_⟩, fun h1 => ⟨by decide, ?_⟩⟩
  · rw [if_pos (by omega)] at hK
    rw [not64 (by omega)]
    refine at_val hK ?_
    simp only [IntKind.wrap, IntKind.bits, IntKind.signed]
    simp
    omega
  · rw [if_neg (by omega)] at hK
    rw [wrap_i64 (by omega) (by omega)]; exact hK
abbrev inI (low high : Int) (n : Nat) : Bool := decide (low ≤ sgn n) && decide (sgn n ≤ high)
theorem c_Int {h : Hp} {p : Nat} {s : Sl} {l : List Int} {e low high : Int} {K : Int → Hp → Prop} (q : RQ h p s l e)
    (hK : ∀ s' h', RQ h' p s' (tk (inI low high) l e).2.1 (tk (inI low high) l e).2.2 → Only p h h' → K (sgn (tk (inI low high) l e).1) h') : C_code_Reader_Int (some ⟨p, 0, none⟩) low high h K := by
  have nb := numb_lt q.by_
  have hpl := q.b.lt
  refine F_code_Reader_Int_ok _ _ _ _ _ (push_to fun h1 b1 e1 z1 => let_to (push_to fun h2 b2 e2 z2 => let_to (push_to fun h3 b3 e3 z3 => let_to ⟨rfl, set_to b3 (by simp) fun h4 b4 u4 k4 z4 => ?_⟩)))
  have x4 : Ext h h4 := (e1.trans (e2.trans e3)).only_new u4 (by omega)
  have q4 := q.ext x4
  have c1 : Blk h4 h.size #[.int .i64 low] := (b1.ext (e2.trans e3)).only u4 (by omega)
  have c2 : Blk h4 h1.size #[.int .i64 high] := (b2.ext e3).only u4 (by omega)
  have c3 : Blk h4 h2.size #[.bool false] := by simpa using b4
  refine c_take (may := inI low high) (M := fun c h' => Only h2.size h4 h' ∧ Blk h' h2.size #[.bool (c && inI low high (numb l).1)]) q4 (fun he hz => ?_) ⟨Only.refl _ _, by simpa using c3⟩ fun c s' g1 g2 ⟨hm, bm⟩ hcc q5 o5 => ?_
  · refine callV_fun (by kernel_rfl) ?_
    have hgoal : C_code_Reader_Int_1 ((numb l).1 : Int) (some ⟨h.size, 0, none⟩) (some ⟨h1.size, 0, none⟩) (some ⟨h2.size, 0, none⟩) h4 (fun r h' => r = inI low high (numb l).1 ∧ RQ h' p s l e ∧ Only h2.size h4 h' ∧ Blk h' h2.size #[.bool (true && inI low high (numb l).1)]) := ?_
    · exact hgoal
    refine F_code_Reader_Int_1_ok _ _ _ _ _ _ (c_signed nb.1 ⟨Ext.refl _, ldA_blk (s := .int .i64) (x := low) c1 rfl ?_⟩)
    refine cnd_dec.2 ⟨fun hlo => c_signed nb.1 ⟨Ext.refl _, ldA_blk (s := .int .i64) (x := high) c2 rfl ⟨rfl, set_to c3 (by simp) fun g5 b5 u5 k5 z5 => ?_⟩⟩, fun hlo => ⟨rfl, set_to c3 (by simp) fun g5 b5 u5 k5 z5 => ?_⟩⟩
    · have b5' : Blk g5 h2.size #[.bool (decide (sgn (numb l).1 ≤ high))] := by simpa using b5
      refine ldA_blk (s := .bool) (x := decide (sgn (numb l).1 ≤ high)) b5' rfl ⟨?_, q4.only u5 (by omega) fun a ha => by have := q.lt a ha; omega, u5, ?_⟩
      · show decide (sgn (numb l).1 ≤ high) = inI low high (numb l).1
        unfold inI; rw [decide_eq_true (show low ≤ sgn (numb l).1 from hlo)]; rfl
      · unfold inI; rw [decide_eq_true (show low ≤ sgn (numb l).1 from hlo)]; exact b5'
    · have b5' : Blk g5 h2.size #[.bool false] := by simpa using b5
      refine ldA_blk (s := .bool) (x := false) b5' rfl ⟨?_, q4.only u5 (by omega) fun a ha => by have := q.lt a ha; omega, u5, ?_⟩
      · show false = inI low high (numb l).1
        unfold inI; rw [decide_eq_false (show ¬ low ≤ sgn (numb l).1 from hlo)]; rfl
      · unfold inI; rw [decide_eq_false (show ¬ low ≤ sgn (numb l).1 from hlo)]; exact b5'
  · have x2 : ∀ i, i < h.size → i ≠ p → g2[i]? = h[i]? := fun i hi hp => (o5.get i (by have := hm.size; have := x4.size; omega) hp).trans ((hm.get i (by have := x4.size; omega) (by omega)).trans (x4.get i hi))
    have on : Only p h g2 := ⟨by have := hm.size; have := x4.size; have := o5.size; omega, x2⟩
    refine ldA_blk (s := .bool) (x := c && inI low high (numb l).1) (bm.only o5 (by omega)) rfl ?_
    have ht := hK s' g2 q5 on
    refine cnd_not.2 (cnd_if (fun hb => ?_) fun hb => ?_)
    · rw [Bool.and_eq_true] at hb
      have hc := hcc.1 hb.1
      have htk : (tk (inI low high) l e).1 = (numb l).1 := by unfold tk; rw [if_neg (by simp [hc.1]), if_neg (by simp [hc.2]), if_pos hb.2]
      rw [htk] at ht ⊢
      exact c_signed nb.1 ht
    · have htk : (tk (inI low high) l e).1 = 0 := by
        unfold tk
        split
        · rfl
        · split
          · rfl
          · rename_i h1 h2
            have : c = true := hcc.2 ⟨by simpa using h1, by simpa using h2⟩
            rw [this, Bool.true_and] at hb
            rw [if_neg (by rw [hb]; simp)]
      rw [htk] at ht; exact ht
theorem c_Int_nil {h : Hp} {low high : Int} {K : Int → Hp → Prop} (hK : ∀ h', Ext h h' → K 0 h') : C_code_Reader_Int none low high h K := by
  refine F_code_Reader_Int_ok _ _ _ _ _ (push_to fun h1 b1 e1 z1 => let_to (push_to fun h2 b2 e2 z2 => let_to (push_to fun h3 b3 e3 z3 => let_to ⟨rfl, set_to b3 (by simp) fun h4 b4 u4 k4 z4 => ?_⟩)))
  refine c_take_nil (ldA_blk (s := .bool) (x := false) (by simpa using b4) rfl (cnd_yes rfl (hK _ ?_)))
  exact (e1.trans (e2.trans e3)).only_new u4 (by have := e1.size; have := e2.size; omega)
theorem c_End {h : Hp} {p : Nat} {s : Sl} {l : List Int} {e : Int} {K : Int → Hp → Prop} (q : RQ h p s l e) (hK : K (if e = 0 ∧ l ≠ [] then 12 else e) h) : C_code_Reader_End (some ⟨p, 0, none⟩) h K := by
  have hl := q.r.len
  refine F_code_Reader_End_ok _ _ _ ?_
  unfold F_code_Reader_End
  rw [Jn_eq]
  refine cnd_no rfl (ldA_blk (s := .int .i64) (i := 1) (x := e) q.b rfl (cnd_beq.2 ⟨fun he => ldA_blk (s := .sl) (x := s) q.b rfl (cnd_dec.2 ⟨fun hpos => ?_, fun hz => ?_⟩), fun he => ?_⟩))
  · have hne : l ≠ [] := fun h => by subst h; simp at hl; omega
    rw [if_pos ⟨he, hne⟩] at hK; exact hK
  · have hne : ¬ l ≠ [] := fun h => h (List.length_eq_zero_iff.1 (by omega))
    rw [if_neg fun h => hne h.2] at hK
    exact ldA_blk (s := .int .i64) (i := 1) (x := e) q.b rfl hK
  · rw [if_neg fun h => he h.1] at hK
    exact ldA_blk (s := .int .i64) (i := 1) (x := e) q.b rfl hK
theorem c_End_nil {h : Hp} {K : Int → Hp → Prop} (hK : K 1 h) : C_code_Reader_End none h K := F_code_Reader_End_ok _ _ _ (by unfold F_code_Reader_End; exact hK)
theorem c_Left_nil {h : Hp} {K : Int → Hp → Prop} (hK : K 0 h) : C_code_Reader_Left none h K := F_code_Reader_Left_ok _ _ _ (by unfold F_code_Reader_Left; exact hK)
theorem c_NewReader {h : Hp} {s : Sl} {l : List Int} {K : Option Addr → Hp → Prop} (r : R8 h s l) (hy : By l) (hb : l.length ≤ 140737488355328)
    (hK : ∀ p s' h', RQ h' p s' l 0 → Ext h h' → h.size ≤ p → K (some ⟨p, 0, none⟩) h') : C_code_NewReader s h K := by
  refine F_code_NewReader_ok _ _ _ (c_Clone8 r hb fun s1 h1 o1 e1 => push_to fun h2 b2 e2 z2 => let_to ?_)
  have hlt := o1.lt
  exact hK h1.size s1 h2 ⟨b2, o1.row.ext e2, fun a ha => by have := hlt a ha; omega, hy, fun a ha => by have := hlt a ha; omega⟩ (e1.trans e2) e1.size

/-- 300 and -1 are read. -/
theorem vb300 : vb 300 = [172, 2] := by rw [vb_big (by decide), vb_small (by decide)]; rfl
theorem vb1 : vb 1 = [1] := by rw [vb_small (by decide)]; rfl

end Go.Proofs.YtjifeclbpgonpaaDoorF
