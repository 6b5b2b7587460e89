/- Chapter 1: what the functions of the packages bound and waywiserref01 answer, and that the statements BoundHolds and BoundTells answer true. No condition. -/
import Derived.Test.YtmepenlhjekppaaF
import Derived.Test.YtmepenlhjekppaaK11
namespace Go.Proofs.YtmepenlhjekppaaF
open Go Go.Proofs.YtmepenlhjekppaaK
set_option linter.unusedSimpArgs false
set_option linter.unusedVariables false

def bin (n : Int) : Int := if n < 0 then 0 else if n > 1125899906842624 then 1125899906842624 else n
theorem bin_bd (n : Int) : 0 ≤ bin n ∧ bin n ≤ 1125899906842624 := by unfold bin; split <;> (try split) <;> omega
theorem bin_of {n : Int} (h0 : 0 ≤ n) (h1 : n ≤ 1125899906842624) : bin n = n := by unfold bin; split <;> (try split) <;> omega
theorem bin_le {m n : Int} (h : m ≤ n) : bin m ≤ bin n := by unfold bin; (repeat' split) <;> omega
def bapart (a b : Int) : Int := if a < b then b - a else a - b
def bring (q a b : Int) : Int := if b < a then (if q < b then b - q else if q > a then q - a else 0) else (if q < a then a - q else if q > b then q - b else 0)

theorem ref_In {n : Int} {h : Hp} {K : Int → Hp → Prop} (hk : K (bin n) h) : C_ref01_In n h K := by
  refine F_ref01_In_ok _ _ _ ?_
  unfold F_ref01_In
  unfold bin at hk
  rw [cnd_dec, cnd_dec]
  refine ⟨fun h1 => by rw [if_pos h1] at hk; exact hk, fun h1 => ⟨fun h2 => ?_, fun h2 => ?_⟩⟩
  · rw [if_neg h1, if_pos h2] at hk; exact hk
  · rw [if_neg h1, if_neg h2] at hk; exact hk
theorem b_in {n : Int} {h : Hp} {K : Int → Hp → Prop} (hk : K (bin n) h) : C_bound_in n h K := by
  refine F_bound_in_ok _ _ _ ?_
  unfold F_bound_in
  simp only [Let_eq]
  refine at_val hk ?_
  unfold bin
  (repeat' split) <;> omega
theorem b_Apart {a b : Int} {h : Hp} {K : Int → Hp → Prop} (hk : K (bapart (bin a) (bin b)) h) : C_bound_Apart a b h K := by
  refine F_bound_Apart_ok _ _ _ _ (b_in (b_in ?_))
  have ha := bin_bd a
  have hb := bin_bd b
  simp only [Let_eq]
  rw [wrap_i64 (by omega) (by omega), wrap_i64 (by omega) (by omega)]
  refine at_val hk ?_
  unfold bapart
  (repeat' split) <;> omega
theorem b_Sum {a b : Int} {h : Hp} {K : Int → Hp → Prop} (hk : K (bin a + bin b) h) : C_bound_Sum a b h K := by
  refine F_bound_Sum_ok _ _ _ _ (b_in (b_in ?_))
  have ha := bin_bd a
  have hb := bin_bd b
  simp only [Let_eq]
  rw [wrap_i64 (by omega) (by omega)]
  exact hk
theorem b_Ring {q a b : Int} {h : Hp} {K : Int → Hp → Prop} (hk : K (bring (bin q) (bin a) (bin b)) h) : C_bound_Ring q a b h K := by
  refine F_bound_Ring_ok _ _ _ _ _ (b_in (b_in (b_in ?_)))
  have hq := bin_bd q
  have ha := bin_bd a
  have hb := bin_bd b
  rw [Jn_eq]
  refine cnd_dec.2 ⟨fun hc => ?_, fun hc => ?_⟩
  all_goals
    unfold J1_bound_Ring
    simp only [Let_eq]
    rw [wrap_i64 (by omega) (by omega), wrap_i64 (by omega) (by omega)]
    refine at_val hk ?_
    unfold bring
    (repeat' split) <;> omega
theorem b_Ball {q r : Int} {h : Hp} {K : Int → Hp → Prop} (hk : K (bring (bin q) 0 (bin r)) h) : C_bound_Ball q r h K :=
  F_bound_Ball_ok _ _ _ _ (b_Ring hk)
theorem b_Cut {low r : Int} {h : Hp} {K : Bool → Hp → Prop} (hk : K (decide (bin low > r)) h) : C_bound_Cut low r h K :=
  F_bound_Cut_ok _ _ _ _ (b_in hk)
theorem b_Widen {low high d : Int} {h : Hp} {K : Int → Int → Hp → Prop}
    (hk : K (if bin low > bin high then bin d else min (bin low) (bin d)) (if bin low > bin high then bin d else max (bin high) (bin d)) h) : C_bound_Widen low high d h K := by
  refine F_bound_Widen_ok _ _ _ _ _ (b_in (b_in (b_in ?_)))
  refine cnd_dec.2 ⟨fun hc => ?_, fun hc => ?_⟩
  · rw [if_pos hc, if_pos hc] at hk; exact hk
  · rw [if_neg hc, if_neg hc] at hk
    simp only [Let_eq]
    have e1 : (if bin d < bin low then bin d else bin low) = min (bin low) (bin d) := by split <;> omega
    have e2 : (if bin d > bin high then bin d else bin high) = max (bin high) (bin d) := by split <;> omega
    rw [e1, e2]; exact hk
theorem ref_Apart {a b : Int} {h : Hp} {K : Int → Hp → Prop} (hk : K (bapart (bin a) (bin b)) h) : C_ref01_Apart a b h K := by
  refine F_ref01_Apart_ok _ _ _ _ (ref_In (ref_In ?_))
  have ha := bin_bd a
  have hb := bin_bd b
  simp only [Let_eq]
  rw [wrap_i64 (by omega) (by omega), wrap_i64 (by omega) (by omega)]
  refine cnd_dec.2 ⟨fun hc => at_val hk ?_, fun hc => at_val hk ?_⟩
  · unfold bapart; rw [if_pos hc]
  · unfold bapart; rw [if_neg hc]
theorem ref_Ring {q a b : Int} {h : Hp} {K : Int → Hp → Prop} (hk : K (bring (bin q) (bin a) (bin b)) h) : C_ref01_Ring q a b h K := by
  refine F_ref01_Ring_ok _ _ _ _ _ (ref_In (ref_In (ref_In ?_)))
  have hq := bin_bd q
  have ha := bin_bd a
  have hb := bin_bd b
  rw [Jn_eq]
  refine cnd_dec.2 ⟨fun hc => ?_, fun hc => ?_⟩
  all_goals
    unfold J1_ref01_Ring
    simp only [Let_eq]
    rw [wrap_i64 (by omega) (by omega), wrap_i64 (by omega) (by omega)]
    refine cnd_dec.2 ⟨fun h1 => at_val hk ?_, fun h1 => cnd_dec.2 ⟨fun h2 => at_val hk ?_, fun h2 => at_val hk ?_⟩⟩
    all_goals
      unfold bring
      (repeat' split) <;> omega
theorem lives01 {h : Hp} {K : Bool → Hp → Prop} (hk : K true h) : C_law01_lives h K := by
  refine F_law01_lives_ok _ _ (b_Apart (cnd_yes (by decide) (b_Ring (cnd_yes (by decide) (b_Ball (cnd_yes (by decide) (b_Cut (cnd_yes (by decide) (b_Cut ?_)))))))))
  exact at_val hk (by decide)

theorem boundTells_ok (a b c : Int) (h : Hp) (K : Bool → Hp → Prop) (hk : K true h) : C_law01_BoundTells a b c h K := by
  refine F_law01_BoundTells_ok _ _ _ _ _ (b_Widen (ref_In (ref_In ?_)))
  have ha := bin_bd a
  have hb := bin_bd b
  have hc := bin_bd c
  rw [Jn_eq]
  have key : ∀ x y t1 t2 : Int, min x (bin c) = t1 → max y (bin c) = t2 → J1_law01_BoundTells a b c K t1 t2 (x, y, ()) h := by
    intro x y t1 t2 e1 e2
    unfold J1_law01_BoundTells
    refine ref_In ?_
    simp only [Let_eq]
    refine ref_In (b_Apart (ref_Apart (cnd_yes (by simp) (b_Sum (ref_In (ref_In ?_))))))
    rw [wrap_i64 (by omega) (by omega)]
    refine cnd_yes (by simp) (b_Ring (ref_Ring (cnd_yes (by simp) (b_Ball (ref_Ring ?_)))))
    refine cnd_yes (by rw [show bin 0 = 0 from rfl]; simp) (b_Cut (ref_In (cnd_yes (by simp) (cnd_yes ?_ (cnd_yes ?_ (lives01 hk))))))
    · rw [beq_iff_eq]; split <;> omega
    · rw [beq_iff_eq]; split <;> omega
  refine cnd_dec.2 ⟨fun hc => ref_In ?_, fun hc => ?_⟩
  · rw [if_pos hc, if_pos hc]
    exact key _ _ _ _ (by omega) (by omega)
  · rw [if_neg hc, if_neg hc]
    exact key _ _ _ _ rfl rfl

theorem boundHolds_ok (pq po qo less more : Int) (h : Hp) : C_law01_BoundHolds pq po qo less more h fun r h' => r = true ∧ Ext h h' := by
  refine F_law01_BoundHolds_ok _ _ _ _ _ _ _ ?_
  unfold F_law01_BoundHolds
  simp only [Let_eq, add_mk]
  refine ldA_mk (x := pq) (hcell_push_new ..) (ref_In ⟨Ext.refl _, ldA_mk (x := po) (hcell_push_new ..) (ref_In ⟨Ext.refl _, ldA_mk (x := qo) (hcell_push_new ..) (ref_In
    (ldA_mk (x := less) (hcell_push_new ..) (ref_In ⟨Ext.refl _, ldA_mk (x := more) (hcell_push_new ..) (ref_In ?_)⟩)))⟩)⟩)
  have h1 := bin_bd pq
  have h2 := bin_bd po
  have h3 := bin_bd qo
  have h4 := bin_bd less
  have h5 := bin_bd more
  rw [wrap_i64 (by omega) (by omega), wrap_i64 (by omega) (by omega), wrap_i64 (by omega) (by omega), Jn_eq]
  have bb : ∀ n, bin (bin n) = bin n := fun n => bin_of (bin_bd n).1 (bin_bd n).2
  have hend : ∀ {h' : Hp}, Ext h h' → (fun (r : Bool) h' => r = true ∧ Ext h h') true h' := fun e => ⟨rfl, e⟩
  have he := Ext.push h (Obj.cells #[.int .i64 pq, .int .i64 po, .int .i64 qo, .int .i64 less, .int .i64 more] 23)
  generalize h.push (Obj.cells #[.int .i64 pq, .int .i64 po, .int .i64 qo, .int .i64 less, .int .i64 more] 23) = g at he
  have ex := bb pq
  have ey := bb po
  have ez := bb qo
  generalize bin pq = x at h1 ex ⊢
  generalize bin po = y at h2 ey ⊢
  generalize bin qo = z at h3 ez ⊢
  generalize bin less = l at h4 ⊢
  generalize bin more = m at h5 ⊢
  have yes : J1_law01_BoundHolds (fun r h' => r = true ∧ Ext h h') x y z l m (true, ()) g := by
    unfold J1_law01_BoundHolds
    exact lives01 (K := fun r h' => r = true ∧ Ext h h') ⟨rfl, he⟩
  refine cnd_dec.2 ⟨fun _ => yes, fun c1 => cnd_dec.2 ⟨fun _ => yes, fun c2 => ?_⟩⟩
  have go : ∀ t : Bool, t = decide (z > x + y) → J1_law01_BoundHolds (fun r h' => r = true ∧ Ext h h') x y z l m (t, ()) g := by
    intro t ht
    unfold J1_law01_BoundHolds
    refine cnd_if (fun _ => lives01 ⟨rfl, he⟩) fun c3 => ?_
    have c3 : ¬ z > x + y := by
      have c3 : t = false := c3
      rw [c3] at ht
      exact of_decide_eq_false ht.symm
    simp only [Let_eq]
    rw [wrap_i64 (by omega) (by omega), wrap_i64 (by omega) (by omega), Jn_eq]
    have e1 : bin (if 0 > y - l then 0 else y - l) = if 0 > y - l then 0 else y - l := bin_of (by split <;> omega) (by split <;> omega)
    have e2 := bin_bd (y + m)
    have e3 : bin (y + m) = min (y + m) 1125899906842624 := by unfold bin; (repeat' split) <;> omega
    have r1 : bring x (if 0 > y - l then 0 else y - l) (bin (y + m)) ≤ bring x y y := by
      rw [e3]; unfold bring; (repeat' split) <;> omega
    have r2 : bring x y y ≤ z := by unfold bring; (repeat' split) <;> omega
    have r3 : bring x 0 (bin (y + m)) ≤ bring x 0 y := by
      rw [e3]; unfold bring; (repeat' split) <;> omega
    have r4 : bring x 0 y ≤ z := by unfold bring; (repeat' split) <;> omega
    have r5 : bapart x y ≤ z := by unfold bapart; split <;> omega
    have r6 : bapart x y ≤ x + y := by unfold bapart; split <;> omega
    refine b_Apart (cnd_no (decide_eq_false (by rw [ex, ey]; omega)) (b_Sum (cnd_no (decide_eq_false (by rw [ex, ey]; omega)) (b_Ring (cnd_no (decide_eq_false (by rw [ex, e1]; omega)) (b_Ball (cnd_no (decide_eq_false (by rw [ex]; omega))
      (b_Apart (b_Sum (cnd_no (decide_eq_false (by rw [ex, ey]; omega)) ?_))))))))))
    unfold J2_law01_BoundHolds
    exact b_Ring (b_Ring (cnd_yes (by rw [ex, ey, e1]; simpa using r1) (b_Ball (b_Ball (cnd_yes (by rw [ex, ey]; simpa using r3) (lives01 ⟨rfl, he⟩))))))
  exact go _ rfl

theorem boundTells_row (h : Hp) (x0 : Int) (w0 : (Lit.int .i64 x0).wf = true) {m0 : Nat} (g0 : Arg Try.prog h 3 (.int .i64 x0) m0) (x1 : Int) (w1 : (Lit.int .i64 x1).wf = true) {m1 : Nat} (g1 : Arg Try.prog h 3 (.int .i64 x1) m1)
    (x2 : Int) (w2 : (Lit.int .i64 x2).wf = true) {m2 : Nat} (g2 : Arg Try.prog h 3 (.int .i64 x2) m2) : CallT Try.prog 4 [.int .i64 x0, .int .i64 x1, .int .i64 x2] [.at .bool] h fun s h' => s.1 = true ∧ Ext h h' :=
  boundTells_ok x0 x1 x2 h (fun r h' => r = true ∧ Ext h h') ⟨rfl, Ext.refl _⟩
theorem boundHolds_row (h : Hp) (cs : Array Value) {m : Nat} (g : Arg Try.prog h 23 (.agg cs) m) : CallT Try.prog 3 [.agg cs] [.at .bool] h fun s h' => s.1 = true ∧ Ext h h' := by
  obtain ⟨fuel, g⟩ := g
  cases fuel with
  | zero => exact g.elim
  | succ n =>
    unfold Rd at g
    obtain ⟨_, g⟩ := g
    rw [Try.underlying23] at g
    obtain ⟨hl, ms, _, _, hf⟩ := g
    have hl : cs.toList.length = 5 := hl
    obtain ⟨l⟩ := cs
    match l, hl with
    | [c0, c1, c2, c3, c4], _ =>
      have one : ∀ (c : Value) (m : Nat), Rd Try.prog h n 3 [c] m → ∃ x, c = .int .i64 x := by
        intro c m r
        obtain ⟨x, e, _⟩ := rd_int Try.underlying3 n [c] m r rfl
        exact ⟨x, by simpa [encI] using e⟩
      obtain ⟨_, _, r0⟩ := hf 0 _ rfl
      obtain ⟨_, _, r1⟩ := hf 1 _ rfl
      obtain ⟨_, _, r2⟩ := hf 2 _ rfl
      obtain ⟨_, _, r3⟩ := hf 3 _ rfl
      obtain ⟨_, _, r4⟩ := hf 4 _ rfl
      obtain ⟨x0, rfl⟩ := one _ _ r0
      obtain ⟨x1, rfl⟩ := one _ _ r1
      obtain ⟨x2, rfl⟩ := one _ _ r2
      obtain ⟨x3, rfl⟩ := one _ _ r3
      obtain ⟨x4, rfl⟩ := one _ _ r4
      exact boundHolds_ok x0 x1 x2 x3 x4 h
end Go.Proofs.YtmepenlhjekppaaF
