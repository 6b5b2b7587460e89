/- Chapter 3: the reference's reading of numbers, ends; what is left. No condition. -/
import Derived.Test.YtjifeclbpgonpaaDoorCodeT
namespace Go.Proofs.YtjifeclbpgonpaaDoorF
open Go Go.Proofs.YtjifeclbpgonpaaDoorK
set_option linter.unusedSimpArgs false
set_option linter.unusedVariables false

/-- The value of a number's bytes. -/
def dvL : List Int → Nat
  | [] => 0
  | c :: t => c.toNat % 128 + 128 * dvL t
theorem dvL_snoc : ∀ (l : List Int) (c : Int), dvL (l ++ [c]) = dvL l + (c.toNat % 128) * 2 ^ (7 * l.length)
  | [], c => by simp [dvL]
  | d :: l, c => by
    rw [List.cons_append, dvL, dvL, dvL_snoc l c, List.length_cons, show 7 * (l.length + 1) = 7 * l.length + 7 by omega, Nat.pow_add]
    generalize c.toNat % 128 = B
    generalize 2 ^ (7 * l.length) = P
    have : 128 * (B * P) = B * (P * 2 ^ 7) := by rw [Nat.mul_comm 128, Nat.mul_assoc]
    omega
theorem dvL_drop_le : ∀ (l : List Int) (m : Nat), dvL (l.drop m) ≤ dvL l
  | l, 0 => by simp
  | [], m + 1 => by simp
  | c :: l, m + 1 => by
    have := dvL_drop_le l m
    rw [List.drop_succ_cons, dvL]; omega
theorem numL_skip : ∀ (k i acc : Nat) (l : List Int), k ≤ l.length → i + k ≤ 9 → (∀ j c, j < k → l[j]? = some c → 128 ≤ c) → numL i acc l = numL (i + k) (acc + dvL (l.take k) * 2 ^ (7 * i)) (l.drop k)
  | 0, i, acc, l, _, _, _ => by simp [dvL]
  | k + 1, i, acc, [], hk, _, _ => by simp at hk
  | k + 1, i, acc, c :: t, hk, hi, hh => by
    have hc := hh 0 c (by omega) rfl
    rw [numL, if_neg (by omega), if_pos hc, numL_skip k (i + 1) _ t (by simpa using hk) (by omega) (fun j d hj hd => hh (j + 1) d (by omega) (by simpa using hd))]
    rw [show i + 1 + k = i + (k + 1) by omega, List.take_succ_cons, List.drop_succ_cons, dvL, show 7 * (i + 1) = 7 * i + 7 by omega, Nat.pow_add, Nat.add_mul]
    congr 1
    generalize c.toNat % 128 = B
    generalize 2 ^ (7 * i) = P
    generalize dvL (t.take k) = D
    have : 128 * D * P = D * (P * 2 ^ 7) := by rw [Nat.mul_comm 128, Nat.mul_assoc, Nat.mul_comm 128]
    omega
theorem numb_skip {k : Nat} {l : List Int} (hk : k ≤ l.length) (h9 : k ≤ 9) (hh : ∀ j c, j < k → l[j]? = some c → 128 ≤ c) : numb l = numL k (dvL (l.take k)) (l.drop k) := by
  unfold numb
  rw [numL_skip k 0 0 l hk (by omega) hh]
  simp
theorem r_number {h0 h : Hp} {s : Sl} {l : List Int} {K : Int → Sl → Int → Hp → Prop} (r : R8 h0 s l) (x : Ext h0 h) (hb : By l) (hm : l.length ≤ 140737488355328)
    (h1 : (numb l).2.2 ≠ 0 → K 0 ⟨none, 0, 0⟩ (numb l).2.2 h) (h2 : (numb l).2.2 = 0 → ∀ t, R8 h0 t (l.drop (numb l).2.1) → (∀ a, t.a = some a → ∃ b, s.a = some b ∧ a.block = b.block) → K (numb l).1 t 0 h) : C_ref03_number s h K := by
  have hls := r.len
  have nlt := numb_lt hb
  refine F_ref03_number_ok _ _ _ ?_
  unfold F_ref03_number
  rw [Jn_eq]
  have key : ∀ k : Nat, k ≤ 10 → k ≤ l.length → (∀ j c, j < k → l[j]? = some c → 128 ≤ c) → (k = l.length ∨ k = 10 ∨ ∃ c, l[k]? = some c ∧ c ≤ 127) → J1_ref03_number s K ((k : Int), ()) h := by
    intro k hk10 hkl hh hx
    unfold J1_ref03_number
    dsimp only
    rw [Jn_eq]
    refine cnd_beq.2 ⟨fun h10 => ?_, fun n10 => ?_⟩
    · have hk : k = 10 := by omega
      subst hk
      have hn := numb_skip (k := 9) (l := l) (by omega) (by omega) (fun j c hj hc => hh j c (by omega) hc)
      rw [List.drop_eq_getElem_cons (by omega : 9 < l.length)] at hn
      have hc := hh 9 l[9] (by omega) (List.getElem?_eq_getElem (by omega))
      rw [numL, if_pos ⟨rfl, by omega⟩] at hn
      rw [hn] at h1; exact h1 (by decide)
    have hk9 : k ≤ 9 := by omega
    have hn := numb_skip hkl hk9 hh
    have j2 : (k = 9 → ∀ c, l[k]? = some c → c ≤ 1) → J2_ref03_number s K ((k : Int), ()) () h := by
      intro h9
      unfold J2_ref03_number
      dsimp only
      refine cnd_beq.2 ⟨fun he => ?_, fun hne => ?_⟩
      · rw [List.drop_eq_nil_of_le (by omega), numL] at hn
        rw [hn] at h1; exact h1 (by decide)
      have hlt : k < l.length := by omega
      have hc0 : l[k]? = some l[k] := List.getElem?_eq_getElem hlt
      rw [List.drop_eq_getElem_cons hlt] at hn
      have hcb := hb l[k] (List.getElem_mem hlt)
      have hc127 : l[k] ≤ 127 := by
        rcases hx with e | e | ⟨c, e, hc⟩
        · omega
        · omega
        · rw [hc0] at e; cases e; exact hc
      have hc9 := fun e => h9 e l[k] hc0
      have hvs : dvL (l.take (k + 1)) = dvL (l.take k) + (l[k].toNat % 128) * 2 ^ (7 * k) := by
        rw [List.take_succ_eq_append_getElem hlt, dvL_snoc, List.length_take, Nat.min_eq_left hkl]
      generalize l[k] = c at hc0 hn hcb hc127 hc9 hvs
      rw [numL, if_neg (fun h => by have := hc9 h.1; omega), if_neg (by omega)] at hn
      have j3 : ¬ (c = 0 ∧ 0 < k) → J3_ref03_number s K ((k : Int), ()) () h := by
        intro hz
        rw [if_neg hz] at hn
        rw [hn] at h2 nlt
        simp only at h2 nlt
        rw [Nat.mod_eq_of_lt (by omega : c.toNat < 128)] at hvs
        rw [← hvs] at h2 nlt
        unfold J3_ref03_number
        dsimp only
        refine Lp.inv (fun st => st.2 = h ∧ ∃ m : Nat, m ≤ k + 1 ∧ st.1.2.1 = (m : Int) - 1 ∧ st.1.1 = (dvL ((l.take (k + 1)).drop m) : Int)) (fun st => (st.1.2.1 + 1).toNat) ?_ ⟨rfl, k + 1, by omega, by simp, by rw [List.drop_eq_nil_of_le (by rw [List.length_take]; omega)]; rfl⟩
        rintro ⟨⟨v, j, ⟨⟩⟩, g⟩ R ⟨hg, m, hmk, hj, hv⟩ hR
        simp only at hg hj hv
        subst hg; subst hj; subst hv
        unfold L1_ref03_number
        dsimp only
        refine cnd_dec.2 ⟨fun hge => ?_, fun hlt0 => ?_⟩
        · obtain ⟨n, rfl⟩ : ∃ n, m = n + 1 := ⟨m - 1, by omega⟩
          have hnl : n < (l.take (k + 1)).length := by rw [List.length_take]; omega
          have hd := List.drop_eq_getElem_cons hnl
          have hdl := dvL_drop_le (l.take (k + 1)) n
          have hxn : l[n]? = some (l.take (k + 1))[n] := by rw [List.getElem_take]; exact List.getElem?_eq_getElem (by omega)
          have hcn := hb _ (List.mem_of_getElem? hxn)
          generalize (l.take (k + 1))[n] = y at hd hxn hcn
          have hdv : dvL ((l.take (k + 1)).drop n) = y.toNat % 128 + 128 * dvL ((l.take (k + 1)).drop (n + 1)) := by rw [hd, dvL]
          refine let_to ?_
          refine ld_int0 (i := ((n + 1 : Nat) : Int) - 1) (x := y) (r.ext x) (by omega) (by rw [show (((n + 1 : Nat) : Int) - 1).toNat = n by omega]; exact hxn) ?_
          refine let_to (let_to (let_to (let_to ?_)))
          have hxt : Int.tmod y 128 = ((y.toNat % 128 : Nat) : Int) := by
            obtain ⟨z, rfl⟩ : ∃ z : Nat, y = (z : Int) := ⟨y.toNat, by omega⟩
            rw [Int.toNat_natCast]; rfl
          have w1 : IntKind.wrap .u64 ((dvL ((l.take (k + 1)).drop (n + 1)) : Int) * 128) = (dvL ((l.take (k + 1)).drop (n + 1)) : Int) * 128 := wrap_u64 (by omega) (by omega)
          have w2 : IntKind.wrap .u64 ((y.toNat % 128 : Nat) : Int) = ((y.toNat % 128 : Nat) : Int) := wrap_u64 (by omega) (by omega)
          rw [hxt, w1, w2, wrap_u64 (by omega) (by omega), wrap_i64 (by omega) (by omega)]
          exact hR _ ⟨rfl, n, by omega, by simp only; omega, by simp only; omega⟩ (by simp only; omega)
        · obtain rfl : m = 0 := by omega
          refine let_to ?_
          rw [wrap_i64 (by omega) (by omega)]
          rw [List.drop_zero]
          exact slc_drop r (n := k + 1) (by omega) (by omega) fun t rt ht => h2 trivial t rt ht
      have bad : c = 0 ∧ 0 < k → K 0 ⟨none, 0, 0⟩ 12 h := fun hz => by
        rw [if_pos hz] at hn
        rw [hn] at h1; exact h1 (by decide)
      rw [Jn_eq]
      refine cnd_dec.2 ⟨fun hpos => ?_, fun hnp => j3 (fun hz => hnp (by show (k : Int) > 0; omega))⟩
      refine ld_int0 (i := (k : Int)) (x := c) (r.ext x) (by omega) (by rw [Int.toNat_natCast]; exact hc0) ?_
      exact cnd_beq.2 ⟨fun hz => bad ⟨hz, by omega⟩, fun hnz => j3 (fun hz => hnz hz.1)⟩
    refine cnd_beq.2 ⟨fun h9 => cnd_dec.2 ⟨fun hlt => ?_, fun hge => ?_⟩, fun n9 => j2 (fun h => by omega)⟩
    · have hc0 : l[k]? = some (l[k]'(by omega)) := List.getElem?_eq_getElem (by omega)
      have hd := List.drop_eq_getElem_cons (by omega : k < l.length)
      generalize (l[k]'(by omega)) = c at hc0 hd
      refine ld_int0 (i := (k : Int)) (x := c) (r.ext x) (by omega) (by rw [Int.toNat_natCast]; exact hc0) ?_
      refine cnd_dec.2 ⟨fun hgt => ?_, fun hle => j2 fun _ d hd => by rw [hc0] at hd; cases hd; omega⟩
      rw [hd, numL, if_pos ⟨by omega, by omega⟩] at hn
      rw [hn] at h1; exact h1 (by decide)
    · exact j2 fun _ d hd => by have := (List.getElem?_eq_some_iff.1 hd).1; omega
  refine Lp.inv (fun st => st.2 = h ∧ ∃ k : Nat, st.1.1 = (k : Int) ∧ k ≤ 10 ∧ k ≤ l.length ∧ ∀ j c, j < k → l[j]? = some c → 128 ≤ c) (fun st => l.length - st.1.1.toNat) ?_ ⟨rfl, 0, rfl, by omega, by omega, fun j c hj => by omega⟩
  rintro ⟨⟨i, ⟨⟩⟩, g⟩ R ⟨hg, k, hi, hk10, hkl, hh⟩ hR
  simp only at hg hi
  subst hg; subst hi
  unfold L2_ref03_number
  dsimp only
  refine cnd_dec.2 ⟨fun hlt => cnd_dec.2 ⟨fun hlt10 => ?_, fun hge => key k hk10 hkl hh (.inr (.inl (by omega)))⟩, fun hge => key k hk10 hkl hh (.inl (by omega))⟩
  have hc0 : l[k]? = some (l[k]'(by omega)) := List.getElem?_eq_getElem (by omega)
  generalize (l[k]'(by omega)) = c at hc0
  refine ld_int0 (i := (k : Int)) (x := c) (r.ext x) (by omega) (by rw [Int.toNat_natCast]; exact hc0) ?_
  refine cnd_dec.2 ⟨fun hgt => let_to ?_, fun hle => key k hk10 hkl hh (.inr (.inr ⟨c, hc0, by omega⟩))⟩
  rw [wrap_i64 (by omega) (by omega)]
  refine hR _ ⟨rfl, k + 1, by simp, by omega, by omega, fun j d hj hd => ?_⟩ (by simp only; omega)
  by_cases e : j = k
  · subst e; rw [hc0] at hd; cases hd; omega
  · exact hh j d (by omega) hd
theorem r_End {h : Hp} {s : Sl} {l : List Int} {e : Int} {K : Int → Hp → Prop} (r : R8 h s l) (hK : ∀ h', Ext h h' → K (if e = 0 ∧ l ≠ [] then 12 else e) h') : C_ref03_End s e h K := by
  have hl := r.len
  refine F_ref03_End_ok _ _ _ _ (push_to fun h1 b1 e1 z1 => let_to (ldA_blk (s := .int .i64) (i := 1) (x := e) b1 rfl (cnd_beq.2 ⟨fun he => ldA_blk (s := .sl) (x := s) b1 rfl (cnd_dec.2 ⟨fun hpos => ?_, fun hz => ldA_blk (s := .int .i64) (i := 1) (x := e) b1 rfl ?_⟩), fun he => ldA_blk (s := .int .i64) (i := 1) (x := e) b1 rfl ?_⟩)))
  · have hne : l ≠ [] := fun h => by subst h; simp at hl; omega
    rw [if_pos ⟨he, hne⟩] at hK; exact hK h1 e1
  · have hne : ¬ l ≠ [] := fun h => h (List.length_eq_zero_iff.1 (by omega))
    rw [if_neg fun h => hne h.2] at hK; exact hK h1 e1
  · rw [if_neg fun h => he h.1] at hK; exact hK h1 e1
theorem c_Left {h : Hp} {p : Nat} {s : Sl} {l : List Int} {e : Int} {K : Int → Hp → Prop} (q : RQ h p s l e) (hK : K (if e ≠ 0 then 0 else (l.length : Int)) h) : C_code_Reader_Left (some ⟨p, 0, none⟩) h K := by
  have hl := q.r.len
  refine F_code_Reader_Left_ok _ _ _ ?_
  unfold F_code_Reader_Left
  rw [Jn_eq]
  refine cnd_no rfl (ldA_blk (s := .int .i64) (i := 1) (x := e) q.b rfl (cnd_bne.2 ⟨fun he => ?_, fun he => ?_⟩))
  · rw [if_pos he] at hK; exact hK
  · rw [if_neg (by simpa using he)] at hK
    exact ldA_blk (s := .sl) (x := s) q.b rfl (by rw [hl]; exact hK)
end Go.Proofs.YtjifeclbpgonpaaDoorF
