/- Chapter 3: there and back. No condition. -/
import Derived.Test.YtjifeclbpgonpaaDoorCodeT
namespace Go.Proofs.YtjifeclbpgonpaaDoorF
open Go Go.Proofs.YtjifeclbpgonpaaDoorK
set_option linter.unusedSimpArgs false
set_option linter.unusedVariables false

/-! Numbers there and back. -/
theorem num_vb : ∀ (m i acc : Nat) (rest : List Int), m * 2 ^ (7 * i) < 18446744073709551616 → i ≤ 9 → (0 < i → 0 < m) → numL i acc (vb m ++ rest) = (acc + m * 2 ^ (7 * i), i + (vb m).length, 0) := by
  intro m
  induction m using Nat.strongRecOn with
  | _ m ih =>
    intro i acc rest hm hi h0
    have hP9 : 2 ^ (7 * (i + 1)) = 2 ^ (7 * i) * 128 := by rw [show 7 * (i + 1) = 7 * i + 7 by omega, Nat.pow_add]
    have h9 : i = 9 → m ≤ 1 := fun e => by subst e; omega
    by_cases h : m < 128
    · rw [vb_small h, List.cons_append, List.nil_append, numL, if_neg (fun hc => by have := h9 hc.1; omega), if_neg (by omega), if_neg (fun hc => by have := h0 hc.2; omega)]
      simp
    · have hi8 : i ≤ 8 := by
        rcases Nat.lt_or_ge i 9 with h1 | h1
        · omega
        · have := h9 (by omega); omega
      have e1 : ((m % 128 + 128 : Nat) : Int).toNat % 128 = m % 128 := by rw [Int.toNat_natCast]; omega
      have e2 : acc + m % 128 * 2 ^ (7 * i) + m / 128 * 2 ^ (7 * (i + 1)) = acc + m * 2 ^ (7 * i) := by
        rw [hP9, Nat.mul_comm (2 ^ (7 * i)) 128, ← Nat.mul_assoc, Nat.add_assoc, ← Nat.add_mul]
        congr 2; omega
      have hle : m / 128 * 2 ^ (7 * (i + 1)) ≤ m * 2 ^ (7 * i) := by
        rw [hP9, Nat.mul_comm (2 ^ (7 * i)) 128, ← Nat.mul_assoc]
        exact Nat.mul_le_mul_right _ (by omega)
      rw [vb_big h, List.cons_append, numL, if_neg (fun hc => by omega), if_pos (by omega), e1, ih (m / 128) (by omega) (i + 1) _ rest (by omega) (by omega) (by omega), e2]
      simp only [List.length_cons]
      rw [show i + 1 + (vb (m / 128)).length = i + ((vb (m / 128)).length + 1) by omega]
theorem numb_vb {m : Nat} (hm : m < 18446744073709551616) (rest : List Int) : numb (vb m ++ rest) = (m, (vb m).length, 0) := by
  unfold numb
  rw [num_vb m 0 0 rest (by simpa using hm) (by omega) (by omega)]; simp
theorem num_inv : ∀ (l : List Int) (i acc n k : Nat), By l → i ≤ 9 → numL i acc l = (n, k, 0) → ∃ m rest, l = vb m ++ rest ∧ n = acc + m * 2 ^ (7 * i) ∧ k = i + (vb m).length ∧ (0 < i → 0 < m)
  | [], i, acc, n, k, _, _, h => by simp [numL] at h
  | c :: t, i, acc, n, k, hb, hi, h => by
    have hc := hb c (by simp)
    have hP9 : 2 ^ (7 * (i + 1)) = 2 ^ (7 * i) * 128 := by rw [show 7 * (i + 1) = 7 * i + 7 by omega, Nat.pow_add]
    rw [numL] at h
    split at h
    · simp at h
    · rename_i h1
      split at h
      · rename_i h2
        obtain ⟨m, rest, e1, e2, e3, e4⟩ := num_inv t (i + 1) _ n k (fun d hd => hb d (by simp [hd])) (by omega) h
        have hm := e4 (by omega)
        have hbig : ¬ c.toNat % 128 + m * 128 < 128 := by omega
        refine ⟨c.toNat % 128 + m * 128, rest, ?_, ?_, ?_, fun _ => by omega⟩
        · rw [vb_big hbig, show (c.toNat % 128 + m * 128) / 128 = m by omega, List.cons_append, ← e1]
          congr 1; omega
        · rw [e2, hP9, Nat.mul_comm (2 ^ (7 * i)) 128, ← Nat.mul_assoc, Nat.add_assoc, ← Nat.add_mul]
        · rw [e3, vb_big hbig, show (c.toNat % 128 + m * 128) / 128 = m by omega]
          simp only [List.length_cons]; omega
      · split at h
        · simp at h
        · rename_i h2 h3
          simp only [Prod.mk.injEq] at h
          refine ⟨c.toNat, t, ?_, h.1.symm, ?_, fun h0 => by omega⟩
          · rw [vb_small (by omega), List.cons_append, List.nil_append]
            congr 1; omega
          · rw [vb_small (by omega)]; exact h.2.1.symm
theorem numb_inv {l : List Int} (hb : By l) (h : (numb l).2.2 = 0) : l = vb (numb l).1 ++ l.drop (numb l).2.1 := by
  obtain ⟨m, rest, e1, e2, e3, _⟩ := num_inv l 0 0 (numb l).1 (numb l).2.1 hb (by omega) (by
    show numb l = _
    rw [← h])
  have en : (numb l).1 = m := by omega
  have ek : (numb l).2.1 = (vb m).length := by omega
  rw [en, ek]
  conv => lhs; rw [e1]
  conv => rhs; rw [e1]
  rw [List.drop_left]
theorem tk_vb {may : Nat → Bool} {m : Nat} (hm : m < 18446744073709551616) (hy : may m = true) (rest : List Int) : tk may (vb m ++ rest) 0 = (m, rest, 0) := by
  unfold tk
  rw [numb_vb hm, if_neg (by simp), if_neg (by simp), if_pos hy, List.drop_left]
theorem tk_inv {may : Nat → Bool} {l : List Int} {e : Int} (hb : By l) (h : (tk may l e).2.2 = 0) : e = 0 ∧ l = vb (tk may l e).1 ++ (tk may l e).2.1 ∧ may (tk may l e).1 = true ∧ (tk may l e).1 < 18446744073709551616 := by
  have nb := numb_lt hb
  unfold tk at h ⊢
  split at h
  · rename_i h1; exact (h1 h).elim
  · rename_i h1
    split at h
    · rename_i h2; exact (h2 (by simpa using h)).elim
    · rename_i h2
      split at h
      · rename_i h3
        rw [if_neg h1, if_neg h2, if_pos h3]
        exact ⟨by simpa using h1, numb_inv hb (by simpa using h2), h3, nb.1⟩
      · simp at h
theorem tk_le (may : Nat → Bool) (l : List Int) (e : Int) : (tk may l e).2.1.length ≤ l.length := by
  unfold tk
  (repeat' split) <;> simp
theorem sgn_zig {i : Int} (h : I64 i) : sgn (zig i) = i := by
  unfold I64 at h
  unfold sgn zig
  (repeat' split) <;> omega
theorem zig_sgn (n : Nat) : zig (sgn n) = n := by
  unfold sgn zig
  (repeat' split) <;> omega
theorem sgn_i64 {n : Nat} (h : n < 18446744073709551616) : I64 (sgn n) := by
  unfold I64 sgn
  split <;> omega

/-- What a part read tells, and leaves. -/
def rdp (k N lo hi mo : Int) (l : List Int) (e : Int) : (Int × Int × Bool × List Int) × List Int × Int :=
  if k = 0 then (((tk (fun n => decide ((n : Int) ≤ N)) l e).1, 0, false, []), (tk (fun n => decide ((n : Int) ≤ N)) l e).2)
  else if k = 1 then ((0, sgn (tk (inI lo hi) l e).1, false, []), (tk (inI lo hi) l e).2)
  else if k = 2 then ((0, 0, ((tk (fun n => decide ((n : Int) ≤ 1)) l e).1 : Int) == 1, []), (tk (fun n => decide ((n : Int) ≤ 1)) l e).2)
  else ((0, 0, false, (tx mo l e).1), (tx mo l e).2)
theorem RQ.bel {h h' : Hp} {p B : Nat} {s : Sl} {l : List Int} {e : Int} (q : RQ h p s l e) (x : Bel B h h') (hp : p < B) : RQ h' p s l e :=
  ⟨q.b.bel x hp, q.r.bel (fun a ha => by have := q.lt a ha; omega) x, q.ap, q.by_, q.lt⟩
/-- What was written is read. -/
theorem rdp_back {x : StA PT} (ok : PtOk x) (ht : (ptT x).size ≤ 140737488355328) (rest : List Int) :
    (rdp (ptK x) (ptN x) (ptI x) (ptI x) (ptT x).size (pbs x ++ rest) 0).2 = (rest, 0) ∧
    (ptK x = 0 → (rdp (ptK x) (ptN x) (ptI x) (ptI x) (ptT x).size (pbs x ++ rest) 0).1.1 = ptN x) ∧ (ptK x = 1 → (rdp (ptK x) (ptN x) (ptI x) (ptI x) (ptT x).size (pbs x ++ rest) 0).1.2.1 = ptI x) ∧
    (ptK x = 2 → (rdp (ptK x) (ptN x) (ptI x) (ptI x) (ptT x).size (pbs x ++ rest) 0).1.2.2.1 = ptF x) ∧ (ptK x ≠ 0 → ptK x ≠ 1 → ptK x ≠ 2 → (rdp (ptK x) (ptN x) (ptI x) (ptI x) (ptT x).size (pbs x ++ rest) 0).1.2.2.2 = bts (ptT x)) := by
  have hn := ok.n
  unfold rdp pbs
  by_cases h0 : ptK x = 0
  · rw [if_pos h0, if_pos h0, tk_vb (by omega) (by rw [decide_eq_true_iff]; omega)]
    exact ⟨rfl, fun _ => by simp only; omega, fun h => by omega, fun h => by omega, fun h => (h h0).elim⟩
  · by_cases h1 : ptK x = 1
    · rw [if_neg h0, if_neg h0, if_pos h1, if_pos h1, tk_vb (zig_lt ok.i) (by unfold inI; rw [sgn_zig ok.i]; simp)]
      exact ⟨rfl, fun h => by omega, fun _ => sgn_zig ok.i, fun h => by omega, fun _ h => (h h1).elim⟩
    · by_cases h2 : ptK x = 2
      · rw [if_neg h0, if_neg h0, if_neg h1, if_neg h1, if_pos h2, if_pos h2, tk_vb (by split <;> decide) (by split <;> decide)]
        refine ⟨rfl, fun h => by omega, fun h => by omega, fun _ => ?_, fun _ _ h => (h h2).elim⟩
        cases ptF x <;> rfl
      · rw [if_neg h0, if_neg h0, if_neg h1, if_neg h1, if_neg h2, if_neg h2]
        have e : tx (ptT x).size (vb (ptT x).size ++ bts (ptT x) ++ rest) 0 = (bts (ptT x), rest, 0) := by
          unfold tx
          simp only
          rw [List.append_assoc, tk_vb (by omega) (by simp)]
          simp only
          rw [if_neg (by simp), if_neg (by rw [List.length_append, bts_len]; omega), ← bts_len, List.take_left, List.drop_left]
        rw [e]
        exact ⟨rfl, fun h => (h0 h).elim, fun h => (h1 h).elim, fun h => (h2 h).elim, fun _ _ _ => rfl⟩
/-- What is read is written as just these bytes. -/
theorem rdp_inv {k N lo hi mo : Int} {l : List Int} {e : Int} (hb : By l) (h : (rdp k N lo hi mo l e).2.2 = 0) {t : ByteArray} (ht : bts t = (rdp k N lo hi mo l e).1.2.2.2) :
    e = 0 ∧ l = pbs (k, (rdp k N lo hi mo l e).1.1, (rdp k N lo hi mo l e).1.2.1, (rdp k N lo hi mo l e).1.2.2.1, t, 0, 0, 0, ()) ++ (rdp k N lo hi mo l e).2.1 := by
  unfold pbs
  by_cases h0 : k = 0
  · have er : rdp k N lo hi mo l e = (((((tk (fun n => decide ((n : Int) ≤ N)) l e).1 : Nat) : Int), 0, false, []), (tk (fun n => decide ((n : Int) ≤ N)) l e).2) := by unfold rdp; rw [if_pos h0]
    rw [er] at h ht ⊢
    rw [if_pos h0]
    obtain ⟨h1, h2, _, _⟩ := tk_inv hb h
    exact ⟨h1, h2⟩
  · by_cases h1 : k = 1
    · have er : rdp k N lo hi mo l e = ((0, sgn (tk (inI lo hi) l e).1, false, []), (tk (inI lo hi) l e).2) := by unfold rdp; rw [if_neg h0, if_pos h1]
      rw [er] at h ht ⊢
      rw [if_neg h0, if_pos h1]
      obtain ⟨h3, h2, _, _⟩ := tk_inv hb h
      exact ⟨h3, by simp only; rw [zig_sgn]; exact h2⟩
    · by_cases h2 : k = 2
      · have er : rdp k N lo hi mo l e = ((0, 0, ((tk (fun n => decide ((n : Int) ≤ 1)) l e).1 : Int) == 1, []), (tk (fun n => decide ((n : Int) ≤ 1)) l e).2) := by unfold rdp; rw [if_neg h0, if_neg h1, if_pos h2]
        rw [er] at h ht ⊢
        rw [if_neg h0, if_neg h1, if_pos h2]
        obtain ⟨h3, h4, h5, _⟩ := tk_inv hb h
        refine ⟨h3, ?_⟩
        simp only
        rw [decide_eq_true_iff] at h5
        have e2 : (if ((((tk (fun n => decide ((n : Int) ≤ 1)) l e).1 : Nat) : Int) == 1) = true then 1 else 0) = (tk (fun n => decide ((n : Int) ≤ 1)) l e).1 := by
          simp only [beq_iff_eq]
          split <;> omega
        rw [e2]; exact h4
      · have er : rdp k N lo hi mo l e = ((0, 0, false, (tx mo l e).1), (tx mo l e).2) := by unfold rdp; rw [if_neg h0, if_neg h1, if_neg h2]
        rw [er] at h ht ⊢
        rw [if_neg h0, if_neg h1, if_neg h2]
        simp only at h ht ⊢
        unfold tx at h ht ⊢
        simp only at h ht ⊢
        split at h
        · rename_i h3; exact (h3 h).elim
        · rename_i h3
          rw [if_neg h3] at ht ⊢
          split at h
          · simp at h
          · rename_i h4
            rw [if_neg h4] at ht ⊢
            obtain ⟨h5, h6, _, _⟩ := tk_inv hb (by simpa using h3)
            refine ⟨h5, ?_⟩
            have hs : t.size = (tk (fun n => decide (0 ≤ mo) && decide ((n : Int) ≤ mo)) l e).1 := by rw [← bts_len, ht, List.length_take]; omega
            rw [hs, ht]
            simp only
            rw [List.append_assoc, List.take_append_drop]; exact h6
theorem rdp_err {k N lo hi mo : Int} {l : List Int} {e : Int} (h : e ≠ 0) : (rdp k N lo hi mo l e).2.2 ≠ 0 := by
  have ht : ∀ may, tk may l e = (0, l, e) := fun may => by unfold tk; rw [if_pos h]
  unfold rdp tx
  simp only [ht]
  (repeat' split) <;> first | exact h | (rename_i h1; exact (h1 h).elim) | simp_all
theorem tx_len (mo : Int) (l : List Int) (e : Int) : (tx mo l e).1.length + (tx mo l e).2.1.length ≤ l.length := by
  have := tk_le (fun n => decide (0 ≤ mo) && decide ((n : Int) ≤ mo)) l e
  unfold tx
  simp only
  (repeat' split) <;> simp <;> omega
theorem rdp_len {k N lo hi mo : Int} {l : List Int} {e : Int} : (rdp k N lo hi mo l e).1.2.2.2.length + (rdp k N lo hi mo l e).2.1.length ≤ l.length := by
  have h1 := tk_le (fun n => decide ((n : Int) ≤ N)) l e
  have h2 := tk_le (inI lo hi) l e
  have h3 := tk_le (fun n => decide ((n : Int) ≤ 1)) l e
  have h4 := tx_len mo l e
  unfold rdp
  (repeat' split) <;> simp <;> omega
theorem tk_lt {may : Nat → Bool} {l : List Int} {e : Int} (hb : By l) : (tk may l e).1 < 18446744073709551616 := by
  have := numb_lt hb
  unfold tk
  (repeat' split) <;> simp <;> omega
theorem rdp_ok {k N lo hi mo : Int} {l : List Int} {e : Int} (hb : By l) (t : ByteArray) : PtOk (k, (rdp k N lo hi mo l e).1.1, (rdp k N lo hi mo l e).1.2.1, (rdp k N lo hi mo l e).1.2.2.1, t, 0, 0, 0, ()) := by
  have h1 := tk_lt (may := fun n => decide ((n : Int) ≤ N)) (e := e) hb
  have h2 := sgn_i64 (tk_lt (may := inI lo hi) (e := e) hb)
  have k1 : 0 ≤ (rdp k N lo hi mo l e).1.1 ∧ (rdp k N lo hi mo l e).1.1 < 18446744073709551616 := by
    unfold rdp
    (repeat' split) <;> simp only <;> omega
  have z64 : I64 0 := ⟨by decide, by decide⟩
  have k2 : I64 (rdp k N lo hi mo l e).1.2.1 := by
    unfold rdp
    split
    · exact z64
    · split
      · exact h2
      · split
        · exact z64
        · exact z64
  exact ⟨k1, k2⟩
end Go.Proofs.YtjifeclbpgonpaaDoorF
