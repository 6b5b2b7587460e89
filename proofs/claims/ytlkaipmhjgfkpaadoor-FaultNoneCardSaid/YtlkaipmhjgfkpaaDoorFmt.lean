/- Figures of numbers, as strconv writes them. No condition, but that strconv's table of powers holds what it was laid with. -/
import Derived.Test.YtlkaipmhjgfkpaaDoorVars
import Derived.Test.YtlkaipmhjgfkpaaDoorK13
import Derived.Test.YtlkaipmhjgfkpaaDoorK20
import Derived.Test.YtlkaipmhjgfkpaaDoorDecPure
namespace Go.Proofs.YtlkaipmhjgfkpaaDoorF
open Go Go.Proofs.YtlkaipmhjgfkpaaDoorK
set_option linter.unusedSimpArgs false
set_option linter.unusedVariables false
set_option maxRecDepth 100000

abbrev smB : ByteArray := ByteArray.mk #[48, 48, 48, 49, 48, 50, 48, 51, 48, 52, 48, 53, 48, 54, 48, 55, 48, 56, 48, 57, 49, 48, 49, 49, 49, 50, 49, 51, 49, 52, 49, 53, 49, 54, 49, 55, 49, 56, 49, 57, 50, 48, 50, 49, 50, 50, 50, 51, 50, 52, 50, 53, 50, 54, 50, 55, 50, 56, 50, 57, 51, 48, 51, 49, 51, 50, 51, 51, 51, 52, 51, 53, 51, 54, 51, 55, 51, 56, 51, 57, 52, 48, 52, 49, 52, 50, 52, 51, 52, 52, 52, 53, 52, 54, 52, 55, 52, 56, 52, 57, 53, 48, 53, 49, 53, 50, 53, 51, 53, 52, 53, 53, 53, 54, 53, 55, 53, 56, 53, 57, 54, 48, 54, 49, 54, 50, 54, 51, 54, 52, 54, 53, 54, 54, 54, 55, 54, 56, 54, 57, 55, 48, 55, 49, 55, 50, 55, 51, 55, 52, 55, 53, 55, 54, 55, 55, 55, 56, 55, 57, 56, 48, 56, 49, 56, 50, 56, 51, 56, 52, 56, 53, 56, 54, 56, 55, 56, 56, 56, 57, 57, 48, 57, 49, 57, 50, 57, 51, 57, 52, 57, 53, 57, 54, 57, 55, 57, 56, 57, 57]
abbrev dgB : ByteArray := ByteArray.mk #[48, 49, 50, 51, 52, 53, 54, 55, 56, 57, 97, 98, 99, 100, 101, 102, 103, 104, 105, 106, 107, 108, 109, 110, 111, 112, 113, 114, 115, 116, 117, 118, 119, 120, 121, 122]
abbrev l8B : ByteArray := ByteArray.mk #[0, 1, 2, 2, 3, 3, 3, 3, 4, 4, 4, 4, 4, 4, 4, 4, 5, 5, 5, 5, 5, 5, 5, 5, 5, 5, 5, 5, 5, 5, 5, 5, 6, 6, 6, 6, 6, 6, 6, 6, 6, 6, 6, 6, 6, 6, 6, 6, 6, 6, 6, 6, 6, 6, 6, 6, 6, 6, 6, 6, 6, 6, 6, 6, 7, 7, 7, 7, 7, 7, 7, 7, 7, 7, 7, 7, 7, 7, 7, 7, 7, 7, 7, 7, 7, 7, 7, 7, 7, 7, 7, 7, 7, 7, 7, 7, 7, 7, 7, 7, 7, 7, 7, 7, 7, 7, 7, 7, 7, 7, 7, 7, 7, 7, 7, 7, 7, 7, 7, 7, 7, 7, 7, 7, 7, 7, 7, 7, 8, 8, 8, 8, 8, 8, 8, 8, 8, 8, 8, 8, 8, 8, 8, 8, 8, 8, 8, 8, 8, 8, 8, 8, 8, 8, 8, 8, 8, 8, 8, 8, 8, 8, 8, 8, 8, 8, 8, 8, 8, 8, 8, 8, 8, 8, 8, 8, 8, 8, 8, 8, 8, 8, 8, 8, 8, 8, 8, 8, 8, 8, 8, 8, 8, 8, 8, 8, 8, 8, 8, 8, 8, 8, 8, 8, 8, 8, 8, 8, 8, 8, 8, 8, 8, 8, 8, 8, 8, 8, 8, 8, 8, 8, 8, 8, 8, 8, 8, 8, 8, 8, 8, 8, 8, 8, 8, 8, 8, 8, 8, 8, 8, 8, 8, 8, 8, 8, 8, 8, 8, 8, 8, 8, 8, 8, 8, 8]
theorem sm_all : ∀ t : Fin 100, (bts smB)[2 * t.val]? = some (48 + ((t.val / 10 : Nat) : Int)) ∧ (bts smB)[2 * t.val + 1]? = some (48 + ((t.val % 10 : Nat) : Int)) := by decide +kernel
theorem dg_all : ∀ t : Fin 10, (bts dgB)[t.val]? = some (48 + ((t.val : Nat) : Int)) := by decide +kernel
theorem l8_all : ∀ v : Fin 256, ∃ L : Fin 9, (bts l8B)[v.val]? = some ((L.val : Nat) : Int) ∧ (v.val = 0 → L.val = 0) ∧ (1 ≤ v.val → 1 ≤ L.val ∧ 2 ^ (L.val - 1) ≤ v.val ∧ v.val < 2 ^ L.val) := by decide +kernel
theorem let_eq {α : Sort _} {x v : α} {K : α → Prop} (e : x = v) (hk : K v) : Let x K := e ▸ hk
theorem tmod_nat (a b : Nat) : Int.tmod (a : Int) (b : Int) = ((a % b : Nat) : Int) := rfl
theorem tdiv_nat (a b : Nat) : Int.tdiv (a : Int) (b : Int) = ((a / b : Nat) : Int) := rfl
theorem wu32 {x : Int} {n : Nat} (e : x = n) (h : n < 4294967296) : IntKind.wrap .u32 x = n := by
  subst e
  simp only [IntKind.wrap, IntKind.bits, IntKind.signed]
  simp
  omega
theorem wu64 {x : Int} {n : Nat} (e : x = n) (h : n < 18446744073709551616) : IntKind.wrap .u64 x = n := by subst e; exact wrap_u64 (by omega) (by omega)
theorem wi64 {x : Int} {n : Nat} (e : x = n) (h : n < 9223372036854775808) : IntKind.wrap .i64 x = n := by subst e; exact wrap_i64 (by omega) (by omega)
theorem wu8 {x : Int} {n : Nat} (e : x = n) (h : n < 256) : IntKind.wrap .u8 x = n := by subst e; exact wrap_u8 (by omega) (by omega)
theorem fdiv_pow {x k : Nat} {a b : Int} (ha : a = x) (hb : b = ((2 ^ k : Nat) : Int)) : Int.fdiv a b = ((x / 2 ^ k : Nat) : Int) := by
  rw [ha, hb, Int.fdiv_eq_ediv_of_nonneg _ (Int.natCast_nonneg _)]; rfl
/-! How many bits. -/
structure LB (x n b v : Nat) : Prop where
  e : v = x / 2 ^ n
  lt : v < 2 ^ b
  pos : 1 ≤ x → 1 ≤ v
theorem LB.half {x n b v k : Nat} (l : LB x n (b + k) v) (h : 2 ^ k ≤ v) : LB x (n + k) b (v / 2 ^ k) :=
  ⟨by rw [l.e, Nat.div_div_eq_div_mul, ← Nat.pow_add], by have := l.lt; rw [Nat.pow_add] at this; exact (Nat.div_lt_iff_lt_mul (Nat.two_pow_pos k)).2 this, fun _ => Nat.div_pos h (Nat.two_pow_pos k)⟩
theorem LB.low {x n b v k : Nat} (l : LB x n (b + k) v) (hb : k = b) (h : v < 2 ^ k) : LB x n b v := ⟨l.e, by rw [← hb]; exact h, l.pos⟩
def LenOk (x n : Nat) : Prop := (x = 0 → n = 0) ∧ (1 ≤ x → 1 ≤ n ∧ 2 ^ (n - 1) ≤ x ∧ x < 2 ^ n) ∧ n ≤ 64
theorem len_J3 {x n v : Nat} {h : Hp} {K : Int → Hp → Prop} (l : LB x n 8 v) (hn : n ≤ 56) (hn0 : x = 0 → n = 0) (hk : ∀ m : Nat, LenOk x m → K m h) : J3_math_bits_Len64 K ((v : Int), (n : Int), ()) h := by
  unfold J3_math_bits_Len64
  have hv : v < 256 := l.lt
  obtain ⟨L, h1, h2, h3⟩ := l8_all ⟨v, hv⟩
  simp only at h1 h2 h3
  refine let_eq (v := (v : Int)) (wu8 rfl hv) (idx_str (k := v) rfl h1 ?_)
  have hL := L.isLt
  refine let_eq (v := ((L.val : Nat) : Int)) (wi64 rfl (by omega)) (let_eq (v := ((n + L.val : Nat) : Int)) (wi64 (by simp) (by omega)) (hk _ ⟨fun h0 => ?_, fun h1' => ?_, by omega⟩))
  · have hv0 : v = 0 := by rw [l.e, h0]; simp
    rw [hn0 h0, h2 hv0]
  · obtain ⟨a1, a2, a3⟩ := h3 (l.pos h1')
    rw [l.e] at a2 a3
    refine ⟨by omega, ?_, ?_⟩
    · rw [Nat.le_div_iff_mul_le (Nat.two_pow_pos n), ← Nat.pow_add] at a2
      rw [show n + L.val - 1 = L.val - 1 + n by omega]; exact a2
    · rw [Nat.div_lt_iff_lt_mul (Nat.two_pow_pos n), ← Nat.pow_add] at a3
      rw [Nat.add_comm]; exact a3
theorem c_Len64 {x : Nat} {h : Hp} {K : Int → Hp → Prop} (hx : x < 18446744073709551616) (hk : ∀ m : Nat, LenOk x m → K m h) : C_math_bits_Len64 x h K := by
  refine F_math_bits_Len64_ok _ _ _ ?_
  unfold F_math_bits_Len64
  rw [Jn_eq]
  have l0 : LB x 0 (32 + 32) x := ⟨by simp, by simpa using hx, fun h => h⟩
  have key2 : ∀ {n v : Nat}, LB x n (8 + 8) v → n ≤ 48 → (x = 0 → n = 0) → J2_math_bits_Len64 K ((v : Int), (n : Int), ()) h := fun {n v} l hn hn0 => by
    unfold J2_math_bits_Len64
    rw [Jn_eq]
    refine cnd_dec.2 ⟨fun hge => ⟨by decide, ?_⟩, fun hlt => len_J3 (l.low rfl (by have h9 : ¬ ((v : Int) ≥ 256) := hlt; show v < 256; omega)) (by omega) hn0 hk⟩
    have hge : 256 ≤ v := by
      have h9 : (v : Int) ≥ 256 := hge
      omega
    refine let_eq (v := ((v / 2 ^ 8 : Nat) : Int)) (fdiv_pow rfl rfl) (let_eq (v := ((n + 8 : Nat) : Int)) (wi64 (by simp) (by omega)) (len_J3 (l.half hge) (by omega) (fun h0 => ?_) hk))
    have := l.e; rw [h0] at this; simp at this; omega
  have key1 : ∀ {n v : Nat}, LB x n (16 + 16) v → n ≤ 32 → (x = 0 → n = 0) → J1_math_bits_Len64 K ((v : Int), (n : Int), ()) h := fun {n v} l hn hn0 => by
    unfold J1_math_bits_Len64
    rw [Jn_eq]
    refine cnd_dec.2 ⟨fun hge => ⟨by decide, ?_⟩, fun hlt => key2 (l.low rfl (by have h9 : ¬ ((v : Int) ≥ 65536) := hlt; show v < 65536; omega)) (by omega) hn0⟩
    have hge : 65536 ≤ v := by
      have h9 : (v : Int) ≥ 65536 := hge
      omega
    refine let_eq (v := ((v / 2 ^ 16 : Nat) : Int)) (fdiv_pow rfl rfl) (let_eq (v := ((n + 16 : Nat) : Int)) (wi64 (by simp) (by omega)) (key2 (l.half hge) (by omega) (fun h0 => ?_)))
    have := l.e; rw [h0] at this; simp at this; omega
  refine cnd_dec.2 ⟨fun hge => ⟨by decide, ?_⟩, fun hlt => key1 (n := 0) (l0.low rfl (by have h9 : ¬ ((x : Int) ≥ 4294967296) := hlt; show x < 4294967296; omega)) (by omega) (fun _ => rfl)⟩
  have hge : 4294967296 ≤ x := by
      have h9 : (x : Int) ≥ 4294967296 := hge
      omega
  exact let_eq (v := ((x / 2 ^ 32 : Nat) : Int)) (fdiv_pow rfl rfl) (key1 (n := 32) (by simpa using l0.half hge) (by omega) (fun h0 => by omega))
/-! How many figures. -/
abbrev pw10 (h : Hp) : Prop := ∀ i, i < 20 → hcell h ⟨V_internal_strconv_uint64pow10, i, none⟩ = some (.int .u64 ((10 ^ i : Nat) : Int))
theorem pw10.ext {h h' : Hp} (p : pw10 h) (x : Ext h h') : pw10 h' := fun i hi => x.cell (p i hi)
theorem c_numDigits {x : Nat} {h : Hp} {K : Int → Hp → Prop} (hp : pw10 h) (hx : x < 18446744073709551616) (h1 : 1 ≤ x) (hk : ∀ w : Nat, 1 ≤ w → w ≤ 20 → 10 ^ (w - 1) ≤ x → x < 10 ^ w → K w h) : C_internal_strconv_numDigits x h K := by
  refine F_internal_strconv_numDigits_ok _ _ _ (c_Len64 hx fun m hm => F_internal_strconv_log10Pow2_ok _ _ _ ?_)
  obtain ⟨hm1, hm2, hm3⟩ := hm.2.1 h1
  have hm64 := hm.2.2
  refine let_eq (v := ((m * 78913 : Nat) : Int)) (wi64 (by simp) (by omega)) ⟨by decide, let_eq (v := ((m * 78913 / 2 ^ 18 : Nat) : Int)) (fdiv_pow rfl rfl) ?_⟩
  obtain ⟨a1, a2, a3⟩ := log10_ok m (by omega) hm1
  have dg := fun w hw hw1 => @digits_at m x (by omega) hm1 hm2 hm3 w hw hw1
  generalize m * 78913 / 2 ^ 18 = d at a1 a2 a3 dg
  refine ⟨⟨by omega, by omega⟩, ?_⟩
  show ldA (.int .u64) h (Addr.add ⟨V_internal_strconv_uint64pow10, 0, none⟩ ((d : Int).toNat * 1)) _
  rw [add_mk, Nat.zero_add, Int.toNat_natCast, Nat.mul_one]
  refine ⟨((10 ^ d : Nat) : Int), hp d (by omega), F_internal_strconv_bool2_int_ok _ _ _ ?_⟩
  refine cnd_dec.2 ⟨fun hge => ?_, fun hlt => ?_⟩
  · have hge : 10 ^ d ≤ x := by omega
    rw [if_pos hge] at dg
    obtain ⟨b1, b2, b3⟩ := dg (d + 1) rfl (by omega)
    exact let_eq (v := ((d + 1 : Nat) : Int)) (wi64 (by simp) (by omega)) (hk _ (by omega) b3 b1 b2)
  · have hlt : ¬ 10 ^ d ≤ x := by omega
    rw [if_neg hlt] at dg
    have hd1 : 1 ≤ d := by
      rcases Nat.eq_zero_or_pos d with h0 | h0
      · subst h0; exact (hlt (by simpa using h1)).elim
      · exact h0
    obtain ⟨b1, b2, b3⟩ := dg (d + 0) rfl (by omega)
    exact let_eq (v := ((d + 0 : Nat) : Int)) (wi64 (by simp) (by omega)) (hk _ (by omega) b3 b1 b2)
theorem c_small {x : Nat} {h : Hp} {K : ByteArray → Hp → Prop} (hx : x < 100) (hk : ∀ t, bts t = dec x → K t h) : C_internal_strconv_small x h K := by
  refine F_internal_strconv_small_ok _ _ _ ?_
  unfold F_internal_strconv_small
  refine cnd_dec.2 ⟨fun hlt => ?_, fun hge => ?_⟩
  · have hlt : x < 10 := by omega
    refine let_eq (v := ((x + 1 : Nat) : Int)) (wi64 (by simp) (by omega)) (slc_str (m := x) (n := x + 1) rfl rfl (by omega) (by show x + 1 ≤ 36; omega) fun t ht => hk t ?_)
    rw [ht, dec_small hlt, List.take_add_one, dg_all ⟨x, hlt⟩]
    rw [List.drop_append_of_le_length (by rw [List.length_take, bts_len]; show x ≤ min x 36; omega), List.drop_of_length_le (by rw [List.length_take]; omega)]; rfl
  · have hge : ¬ x < 10 := by omega
    obtain ⟨s1, s2⟩ := sm_all ⟨x, hx⟩
    simp only at s1 s2
    refine let_eq (v := ((2 * x : Nat) : Int)) (wi64 (by omega) (by omega)) (let_eq (v := ((2 * x : Nat) : Int)) (wi64 (by omega) (by omega)) (let_eq (v := ((2 * x + 1 + 1 : Nat) : Int)) (wi64 (by omega) (by omega)) (slc_str (m := 2 * x) (n := 2 * x + 1 + 1) rfl rfl (by omega) (by show 2 * x + 1 + 1 ≤ 200; omega) fun t ht => hk t ?_)))
    have hl : (bts smB).length = 200 := by rw [bts_len]; rfl
    have ht' : bts t = ((bts smB).take (2 * x + 1 + 1)).drop (2 * x) := ht
    clear ht
    generalize bts smB = L at s1 s2 hl ht'
    rw [ht', dec_big hge, dec_small (by omega), List.take_add_one, s2, List.take_add_one, s1]
    have : (L.take (2 * x)).length = 2 * x := by rw [List.length_take, hl]; omega
    rw [List.append_assoc, List.drop_append_of_le_length (by omega), List.drop_of_length_le (by omega)]; rfl
end Go.Proofs.YtlkaipmhjgfkpaaDoorF
