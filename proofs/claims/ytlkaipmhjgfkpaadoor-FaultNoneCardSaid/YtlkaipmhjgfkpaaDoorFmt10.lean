/- Figures of numbers, as strconv writes them: the digits themselves. No condition, but that strconv's table of powers holds what it was laid with. -/
import Derived.Test.YtlkaipmhjgfkpaaDoorFmt
namespace Go.Proofs.YtlkaipmhjgfkpaaDoorF
open Go Go.Proofs.YtlkaipmhjgfkpaaDoorK
set_option linter.unusedSimpArgs false
set_option linter.unusedVariables false
set_option maxRecDepth 100000

abbrev u8s (l : List Int) : List Value := l.map fun n => Value.int .u8 n
/-- The row of figures, written from its end. -/
def FI (h0 : Hp) (U0 n b : Nat) (pre T : List Value) (u nd : Nat) (h : Hp) : Prop :=
  ∃ c M, Blk h b c ∧ c.toList = pre ++ M ++ u8s (decW (n - nd) U0) ++ T ∧ M.length = nd ∧ nd ≤ n ∧ u = U0 / 10 ^ (n - nd) ∧ Only b h0 h
theorem set_two {A B : List Value} {x y v0 v1 : Value} {k : Nat} (hk : A.length = k) : ((A ++ x :: y :: B).set (k + 1) v1).set k v0 = A ++ v0 :: v1 :: B := by
  subst hk
  induction A with
  | nil => rfl
  | cons a A ih =>
    show a :: (((A ++ x :: y :: B).set (A.length + 1) v1).set A.length v0) = _
    rw [ih]; rfl
theorem set_one {A B : List Value} {x v0 : Value} {k : Nat} (hk : A.length = k) : (A ++ x :: B).set k v0 = A ++ v0 :: B := by
  subst hk
  induction A with
  | nil => rfl
  | cons a A ih =>
    show a :: ((A ++ x :: B).set A.length v0) = _
    rw [ih]; rfl
theorem split_two {M : List Value} {nd : Nat} (h : M.length = nd) (h2 : 2 ≤ nd) : ∃ M' x y, M = M' ++ [x, y] ∧ M'.length = nd - 2 := by
  have hd : (M.drop (nd - 2)).length = 2 := by rw [List.length_drop]; omega
  match e : M.drop (nd - 2), hd with
  | [x, y], _ => exact ⟨M.take (nd - 2), x, y, by rw [← e, List.take_append_drop], by rw [List.length_take]; omega⟩
theorem decW_more {a U0 n nd : Nat} (ha : a ≤ nd) (hn : nd ≤ n) : decW (n - (nd - a)) U0 = decW a (U0 / 10 ^ (n - nd)) ++ decW (n - nd) U0 := by
  rw [show n - (nd - a) = a + (n - nd) by omega, decW_add]
theorem FI.pair {h0 h : Hp} {U0 n b off : Nat} {pre T : List Value} {u nd : Nat} (f : FI h0 U0 n b pre T u nd h) (hpre : pre.length = off) (h2 : 2 ≤ nd) {i1 i2 j0 j1 : Int} (hi1 : i1 = ((nd - 1 : Nat) : Int)) (hi2 : i2 = ((nd - 2 : Nat) : Int))
    (hj1 : j1 = ((2 * (u % 100) + 1 : Nat) : Int)) (hj0 : j0 = ((2 * (u % 100) : Nat) : Int)) {K : Hp → Prop} (hk : ∀ h', FI h0 U0 n b pre T (u / 100) (nd - 2) h' → K h') :
    idxStr smB j1 fun c1 => idxStr smB j0 fun c0 => idxS (some ⟨b, off, none⟩) n i1 1 fun p => ((1 : Nat) = 1) ∧ (stC h p (Let (hset h p (.int .u8 c1)) fun h1 => idxS (some ⟨b, off, none⟩) n i2 1 fun p2 => ((1 : Nat) = 1) ∧ (stC h1 p2 (Let (hset h1 p2 (.int .u8 c0)) fun h2 => K h2)))) := by
  obtain ⟨c, M, bk, hc, hM, hn, hu, ho⟩ := f
  obtain ⟨s1, s2⟩ := sm_all ⟨u % 100, Nat.mod_lt _ (by decide)⟩
  simp only at s1 s2
  subst hi1; subst hi2; subst hj1; subst hj0
  obtain ⟨M', x, y, rfl, hM'⟩ := split_two hM h2
  have hsz : c.size = off + nd + (n - nd) + T.length := by
    rw [← Array.length_toList, hc]; simp [decW_len, hpre, hM']; omega
  refine idx_str rfl s2 (idx_str rfl s1 ?_)
  refine ⟨⟨by omega, by omega⟩, ?_⟩
  show (1 : Nat) = 1 ∧ stC h (Addr.add ⟨b, off, none⟩ (((nd - 1 : Nat) : Int).toNat * 1)) _
  rw [add_mk, Int.toNat_natCast, Nat.mul_one]
  refine ⟨rfl, set_to bk (by omega) fun h1 b1 o1 _ z1 => ?_⟩
  refine ⟨⟨by omega, by omega⟩, ?_⟩
  show (1 : Nat) = 1 ∧ stC h1 (Addr.add ⟨b, off, none⟩ (((nd - 2 : Nat) : Int).toNat * 1)) _
  rw [add_mk, Int.toNat_natCast, Nat.mul_one]
  refine ⟨rfl, set_to b1 (by rw [Array.size_setIfInBounds]; omega) fun h3 b3 o3 _ z3 => hk h3 ⟨_, M', b3, ?_, hM', by omega, ?_, (ho.trans o1).trans o3⟩⟩
  · rw [Array.toList_setIfInBounds, Array.toList_setIfInBounds, hc, decW_more (a := 2) h2 hn, ← hu, decW_two]
    have e1 : off + (nd - 1) = (off + (nd - 2)) + 1 := by omega
    have e2 : pre ++ (M' ++ [x, y]) ++ u8s (decW (n - nd) U0) ++ T = (pre ++ M') ++ x :: y :: (u8s (decW (n - nd) U0) ++ T) := by simp
    rw [e1, e2, set_two (by rw [List.length_append, hpre, hM'])]
    have e3 : u % 100 / 10 = u / 10 % 10 := by omega
    have e4 : u % 100 % 10 = u % 10 := by omega
    rw [e3, e4]
    simp [u8s]
  · rw [hu, Nat.div_div_eq_div_mul, show n - (nd - 2) = (n - nd) + 2 by omega, Nat.pow_add]
theorem f_J3 {h0 h : Hp} {U0 n b off cap : Nat} {pre T : List Value} {u nd : Nat} (f : FI h0 U0 n b pre T u nd h) (hpre : pre.length = off) (h2 : nd < 2) (hu : u < 10 ^ nd) {K : Hp → Prop} (hk : ∀ h', FI h0 U0 n b pre T 0 0 h' → K h') :
    J3_internal_strconv_formatBase10 ⟨some ⟨b, off, none⟩, n, cap⟩ K ((nd : Int), (u : Int), ()) h := by
  unfold J3_internal_strconv_formatBase10
  dsimp only
  obtain ⟨c, M, bk, hc, hM, hn, hu2, ho⟩ := f
  refine cnd_dec.2 ⟨fun hpos => ?_, fun hz => ?_⟩
  · obtain rfl : nd = 1 := by omega
    have hu10 : u < 10 := by simpa using hu
    obtain ⟨x, rfl⟩ : ∃ x, M = [x] := by
      match M, hM with
      | [x], _ => exact ⟨x, rfl⟩
    have hsz : c.size = off + 1 + (n - 1) + T.length := by
      rw [← Array.length_toList, hc]; simp [decW_len, hpre]; omega
    refine let_eq (v := ((48 + u : Nat) : Int)) (wu32 (by omega) (by omega)) (let_eq (v := ((48 + u : Nat) : Int)) (wu8 rfl (by omega)) ⟨⟨by omega, by omega⟩, ?_⟩)
    show (1 : Nat) = 1 ∧ stC h (Addr.add ⟨b, off, none⟩ ((0 : Int).toNat * 1)) _
    rw [add_mk, show (0 : Int).toNat * 1 = 0 from rfl, Nat.add_zero]
    refine ⟨rfl, set_to bk (by omega) fun h1 b1 o1 _ z1 => hk h1 ⟨_, [], b1, ?_, rfl, by omega, ?_, ho.trans o1⟩⟩
    · rw [Array.toList_setIfInBounds, hc, show n - 0 = n - (1 - 1) by omega, decW_more (a := 1) (Nat.le_refl _) hn, ← hu2, decW_one]
      have e2 : pre ++ [x] ++ u8s (decW (n - 1) U0) ++ T = pre ++ x :: (u8s (decW (n - 1) U0) ++ T) := by simp
      rw [e2, set_one hpre, Nat.mod_eq_of_lt hu10]
      simp [u8s]
    · rw [show n - 0 = (n - 1) + 1 by omega, Nat.pow_succ, ← Nat.div_div_eq_div_mul, ← hu2]; omega
  · obtain rfl : nd = 0 := by omega
    obtain rfl : u = 0 := by simpa using hu
    exact hk h ⟨c, M, bk, hc, hM, hn, hu2, ho⟩
theorem f_J2 {h0 h : Hp} {U0 n b off cap : Nat} {pre T : List Value} {u nd : Nat} (f : FI h0 U0 n b pre T u nd h) (hpre : pre.length = off) (h2 : nd < 4) (hn20 : n ≤ 20) (hu : u < 10 ^ nd) {K : Hp → Prop} (hk : ∀ h', FI h0 U0 n b pre T 0 0 h' → K h') :
    J2_internal_strconv_formatBase10 ⟨some ⟨b, off, none⟩, n, cap⟩ K ((nd : Int), (u : Int), ()) h := by
  unfold J2_internal_strconv_formatBase10
  dsimp only
  rw [Jn_eq]
  have hu4 : u < 10000 := Nat.lt_of_lt_of_le hu (Nat.pow_le_pow_right (n := 10) (by decide) (show nd ≤ 4 by omega))
  refine cnd_dec.2 ⟨fun hge => ?_, fun hlt => f_J3 f hpre (by omega) hu hk⟩
  have hge : 2 ≤ nd := by omega
  refine let_eq (v := ((u % 100 : Nat) : Int)) (tmod_nat u 100) (let_eq (v := ((2 * (u % 100) : Nat) : Int)) (wu32 (by omega) (by omega)) (let_eq (v := ((u / 100 : Nat) : Int)) (wu32 (tdiv_nat u 100) (by omega)) ?_))
  refine let_eq (v := ((nd - 1 : Nat) : Int)) (wi64 (by omega) (by omega)) (let_eq (v := ((nd - 2 : Nat) : Int)) (wi64 (by omega) (by omega)) (let_eq (v := ((2 * (u % 100) + 1 : Nat) : Int)) (wu32 (by omega) (by omega)) ?_))
  refine FI.pair f hpre hge rfl rfl rfl rfl fun h' f' => let_eq (v := ((nd - 2 : Nat) : Int)) (wi64 (by omega) (by omega)) ?_
  refine f_J3 f' hpre (by omega) ?_ hk
  rw [Nat.div_lt_iff_lt_mul (by decide), show (100 : Nat) = 10 ^ 2 from rfl, ← Nat.pow_add, show nd - 2 + 2 = nd by omega]; exact hu
theorem f_J1 {h0 h : Hp} {U0 n b off cap : Nat} {pre T : List Value} {u nd : Nat} (f : FI h0 U0 n b pre T u nd h) (hpre : pre.length = off) (h2 : nd < 8) (hn20 : n ≤ 20) (hu : u < 10 ^ nd) {K : Hp → Prop} (hk : ∀ h', FI h0 U0 n b pre T 0 0 h' → K h') :
    J1_internal_strconv_formatBase10 ⟨some ⟨b, off, none⟩, n, cap⟩ K ((u : Int), (nd : Int), ()) h := by
  unfold J1_internal_strconv_formatBase10
  dsimp only
  have hu8 : u < 100000000 := Nat.lt_of_lt_of_le hu (Nat.pow_le_pow_right (n := 10) (by decide) (show nd ≤ 8 by omega))
  refine let_eq (v := (u : Int)) (wu32 rfl (by omega)) ?_
  rw [Jn_eq]
  refine cnd_dec.2 ⟨fun hge => ?_, fun hlt => f_J2 f hpre (by omega) hn20 hu hk⟩
  have hge : 4 ≤ nd := by omega
  refine let_eq (v := ((u % 10000 : Nat) : Int)) (tmod_nat u 10000) (let_eq (v := ((u / 10000 : Nat) : Int)) (wu32 (tdiv_nat u 10000) (by omega)) ?_)
  refine let_eq (v := ((u % 10000 / 100 : Nat) : Int)) (wu32 (tdiv_nat (u % 10000) 100) (by omega)) (let_eq (v := ((2 * (u % 10000 / 100) : Nat) : Int)) (wu32 (by omega) (by omega)) ?_)
  refine let_eq (v := ((u % 10000 % 100 : Nat) : Int)) (tmod_nat (u % 10000) 100) (let_eq (v := ((2 * (u % 10000 % 100) : Nat) : Int)) (wu32 (by omega) (by omega)) ?_)
  refine let_eq (v := ((nd - 1 : Nat) : Int)) (wi64 (by omega) (by omega)) (let_eq (v := ((nd - 2 : Nat) : Int)) (wi64 (by omega) (by omega)) (let_eq (v := ((2 * (u % 10000 % 100) + 1 : Nat) : Int)) (wu32 (by omega) (by omega)) ?_))
  refine FI.pair f hpre (by omega) rfl rfl (by omega) (by omega) fun h3 f3 => ?_
  refine let_eq (v := ((nd - 3 : Nat) : Int)) (wi64 (by omega) (by omega)) (let_eq (v := ((nd - 4 : Nat) : Int)) (wi64 (by omega) (by omega)) (let_eq (v := ((2 * (u % 10000 / 100) + 1 : Nat) : Int)) (wu32 (by omega) (by omega)) ?_))
  refine FI.pair f3 hpre (by omega) (by omega) (by omega) (by omega) (by omega) fun h4 f4 => let_eq (v := ((nd - 4 : Nat) : Int)) (wi64 (by omega) (by omega)) ?_
  rw [show u / 100 / 100 = u / 10000 by omega, show nd - 2 - 2 = nd - 4 by omega] at f4
  refine f_J2 f4 hpre (by omega) hn20 ?_ hk
  rw [Nat.div_lt_iff_lt_mul (by decide), show (10000 : Nat) = 10 ^ 4 from rfl, ← Nat.pow_add, show nd - 4 + 4 = nd by omega]; exact hu
/-- formatBase10: as many figures as the row is long. -/
theorem c_fmt10 {h : Hp} {U n b off cap : Nat} {c : Array Value} {pre M T : List Value} {K : Hp → Prop} (bk : Blk h b c) (hc : c.toList = pre ++ M ++ T) (hpre : pre.length = off) (hM : M.length = n) (hn20 : n ≤ 20) (hU : U < 10 ^ n) (hU64 : U < 18446744073709551616)
    (hk : ∀ h' c', Blk h' b c' → c'.toList = pre ++ u8s (decW n U) ++ T → Only b h h' → K h') : C_internal_strconv_formatBase10 ⟨some ⟨b, off, none⟩, n, cap⟩ U h K := by
  refine F_internal_strconv_formatBase10_ok _ _ _ _ ?_
  unfold F_internal_strconv_formatBase10
  rw [Jn_eq]
  have fin : ∀ h', FI h U n b pre T 0 0 h' → K h' := fun h' ⟨c', M', b', hc', hM', _, _, ho⟩ => by
    obtain rfl : M' = [] := List.length_eq_zero_iff.1 hM'
    exact hk h' c' b' (by simpa using hc') ho
  refine Lp.inv (fun st => ∃ nd u : Nat, st.1.1 = (u : Int) ∧ st.1.2.1 = (nd : Int) ∧ FI h U n b pre T u nd st.2 ∧ u < 10 ^ nd ∧ u < 18446744073709551616) (fun st => st.1.2.1.toNat) ?_ ⟨n, U, rfl, rfl, ⟨c, M, bk, by simpa [decW] using hc, hM, Nat.le_refl _, by simp, Only.refl _ _⟩, hU, hU64⟩
  rintro ⟨⟨uu, ndd, ⟨⟩⟩, g⟩ R ⟨nd, u, hu', hnd', f, hu, hu64⟩ hR
  simp only at hu' hnd' f
  subst hu'; subst hnd'
  unfold L1_internal_strconv_formatBase10
  dsimp only
  have hnn : nd ≤ n := by obtain ⟨_, _, _, _, _, h, _⟩ := f; exact h
  refine cnd_dec.2 ⟨fun hge => ⟨by decide, ?_⟩, fun hlt => f_J1 f hpre (by omega) hn20 hu fin⟩
  have hge : 8 ≤ nd := by omega
  refine let_eq (v := ((u % 100000000 : Nat) : Int)) (tmod_nat u 100000000) (let_eq (v := ((u % 100000000 : Nat) : Int)) (wu32 rfl (by omega)) ⟨by decide, let_eq (v := ((u / 100000000 : Nat) : Int)) (wu64 (tdiv_nat u 100000000) (by omega)) ?_⟩)
  have hy : u % 100000000 < 100000000 := Nat.mod_lt _ (by decide)
  refine let_eq (v := ((u % 100000000 / 10000 : Nat) : Int)) (wu32 (tdiv_nat (u % 100000000) 10000) (by omega)) (let_eq (v := ((u % 100000000 % 10000 : Nat) : Int)) (tmod_nat (u % 100000000) 10000) ?_)
  refine let_eq (v := ((u % 100000000 % 10000 / 100 : Nat) : Int)) (wu32 (tdiv_nat (u % 100000000 % 10000) 100) (by omega)) (let_eq (v := ((2 * (u % 100000000 % 10000 / 100) : Nat) : Int)) (wu32 (by omega) (by omega)) ?_)
  refine let_eq (v := ((u % 100000000 % 10000 % 100 : Nat) : Int)) (tmod_nat (u % 100000000 % 10000) 100) (let_eq (v := ((2 * (u % 100000000 % 10000 % 100) : Nat) : Int)) (wu32 (by omega) (by omega)) ?_)
  refine let_eq (v := ((u % 100000000 / 10000 / 100 : Nat) : Int)) (wu32 (tdiv_nat (u % 100000000 / 10000) 100) (by omega)) (let_eq (v := ((2 * (u % 100000000 / 10000 / 100) : Nat) : Int)) (wu32 (by omega) (by omega)) ?_)
  refine let_eq (v := ((u % 100000000 / 10000 % 100 : Nat) : Int)) (tmod_nat (u % 100000000 / 10000) 100) (let_eq (v := ((2 * (u % 100000000 / 10000 % 100) : Nat) : Int)) (wu32 (by omega) (by omega)) ?_)
  refine let_eq (v := ((nd - 1 : Nat) : Int)) (wi64 (by omega) (by omega)) (let_eq (v := ((nd - 2 : Nat) : Int)) (wi64 (by omega) (by omega)) (let_eq (v := ((2 * (u % 100000000 % 10000 % 100) + 1 : Nat) : Int)) (wu32 (by omega) (by omega)) ?_))
  refine FI.pair f hpre (by omega) rfl rfl (by omega) (by omega) fun h3 f3 => ?_
  refine let_eq (v := ((nd - 3 : Nat) : Int)) (wi64 (by omega) (by omega)) (let_eq (v := ((nd - 4 : Nat) : Int)) (wi64 (by omega) (by omega)) (let_eq (v := ((2 * (u % 100000000 % 10000 / 100) + 1 : Nat) : Int)) (wu32 (by omega) (by omega)) ?_))
  refine FI.pair f3 hpre (by omega) (by omega) (by omega) (by omega) (by omega) fun h4 f4 => ?_
  refine let_eq (v := ((nd - 5 : Nat) : Int)) (wi64 (by omega) (by omega)) (let_eq (v := ((nd - 6 : Nat) : Int)) (wi64 (by omega) (by omega)) (let_eq (v := ((2 * (u % 100000000 / 10000 % 100) + 1 : Nat) : Int)) (wu32 (by omega) (by omega)) ?_))
  refine FI.pair f4 hpre (by omega) (by omega) (by omega) (by omega) (by omega) fun h5 f5 => ?_
  refine let_eq (v := ((nd - 7 : Nat) : Int)) (wi64 (by omega) (by omega)) (let_eq (v := ((nd - 8 : Nat) : Int)) (wi64 (by omega) (by omega)) (let_eq (v := ((2 * (u % 100000000 / 10000 / 100) + 1 : Nat) : Int)) (wu32 (by omega) (by omega)) ?_))
  refine FI.pair f5 hpre (by omega) (by omega) (by omega) (by omega) (by omega) fun h6 f6 => let_eq (v := ((nd - 8 : Nat) : Int)) (wi64 (by omega) (by omega)) ?_
  rw [show u / 100 / 100 / 100 / 100 = u / 100000000 by omega, show nd - 2 - 2 - 2 - 2 = nd - 8 by omega] at f6
  refine hR _ ⟨nd - 8, u / 100000000, rfl, rfl, f6, ?_, by omega⟩ (by simp only [Int.toNat_natCast]; omega)
  rw [Nat.div_lt_iff_lt_mul (by decide), show (100000000 : Nat) = 10 ^ 8 from rfl, ← Nat.pow_add, show nd - 8 + 8 = nd by omega]; exact hu
end Go.Proofs.YtlkaipmhjgfkpaaDoorF
