/- Chapter 9: lives; what a meter tells: MetricCounts. No condition of its own. -/
import Derived.Test.YthdoecmcbpmjgaaMetricU
import Derived.Test.YthdoecmcbpmjgaaObs
namespace Go.Proofs.YthdoecmcbpmjgaaF
open Go Go.Proofs.YthdoecmcbpmjgaaK
set_option linter.unusedSimpArgs false
set_option linter.unusedVariables false

theorem m_UptoNil {x y : StA OT} {most : Int} {h : Hp} {K : Int → Bool → Hp → Prop} (hK : ∀ h', Ext h h' → K 0 false h') : C_metric_Meter_Upto none (oTag x) (oVec x) (oStr x) (oTag y) (oVec y) (oStr y) most h K :=
  F_metric_Meter_Upto_ok _ _ _ _ _ _ _ _ _ _ (push_to fun h1 b1 e1 z1 => let_to (push_to fun h2 b2 e2 z2 => let_to (hK h2 (e1.trans e2))))
theorem m_DistNil {x y : StA OT} {h : Hp} {K : Int → Hp → Prop} (hK : ∀ h', Ext h h' → K 0 h') : C_metric_Meter_Dist none (oTag x) (oVec x) (oStr x) (oTag y) (oVec y) (oStr y) h K :=
  F_metric_Meter_Dist_ok _ _ _ _ _ _ _ _ _ (push_to fun h1 b1 e1 z1 => let_to (push_to fun h2 b2 e2 z2 => let_to (hK h2 (e1.trans e2))))
theorem m_Metric {p : Nat} {m c : Int} {h : Hp} {K : Int → Hp → Prop} (q : MQ h p m c) (hK : K m h) : C_metric_Meter_Metric (some ⟨p, 0, none⟩) h K :=
  F_metric_Meter_Metric_ok _ _ _ (ldA_blk (s := .int .i64) (x := m) q rfl hK)
abbrev txt (l : List UInt8) : ByteArray := ByteArray.mk l.toArray
theorem ob_txt {p : Nat} {h : Hp} {t : Int} {b : ByteArray} (hb : b.size ≤ 1048576) : ObA p h (t, ⟨none, 0, 0⟩, b, ()) ([], b) :=
  ⟨⟨rfl, IsRow.nil _ _ _ _, fun x hx => (by cases hx), Nat.zero_le _, hb⟩, fun h => absurd rfl h⟩
theorem l_lives09 {h : Hp} {K : Bool → Hp → Prop} (hK : ∀ h', Ext h h' → K true h') : C_law09_lives h K := by
  refine F_law09_lives_ok _ _ (m_New fun h2 e2 q2 => ?_)
  refine m_Dist (x := (2, ⟨none, 0, 0⟩, ByteArray.mk #[97, 98], ())) (y := (2, ⟨none, 0, 0⟩, ByteArray.mk #[97, 99], ())) (a := ([], ByteArray.mk #[97, 98])) (b := ([], ByteArray.mk #[97, 99])) q2 (by decide) (ob_txt (by decide)) (ob_txt (by decide)) fun h4 q4 u4 => ?_
  rw [show od 2 ([], ByteArray.mk #[97, 98]) ([], ByteArray.mk #[97, 99]) = 1 by decide +kernel]
  refine cnd_yes rfl (m_Calls q4 (cnd_yes rfl (m_Metric q4 ?_)))
  exact hK h4 (e2.only_new u4 (Nat.le_refl _))

/-! Ask. -/
abbrev AT : List At := [.int .i64, .int .i64, .sl, .str, .int .i64, .sl, .str, .int .i64, .bool]
theorem encAT : Enc (vsA AT) 9 := encA rfl
abbrev aM (x : StA AT) : Int := x.1
abbrev aX (x : StA AT) : StA OT := (x.2.1, x.2.2.1, x.2.2.2.1, ())
abbrev aY (x : StA AT) : StA OT := (x.2.2.2.2.1, x.2.2.2.2.2.1, x.2.2.2.2.2.2.1, ())
abbrev aMost (x : StA AT) : Int := x.2.2.2.2.2.2.2.1
abbrev aUp (x : StA AT) : Bool := x.2.2.2.2.2.2.2.2.1
abbrev askCells (x : StA AT) : Array Value := #[.int .i64 (aM x), .int .i64 (oTag (aX x)), .slice (oVec (aX x)).a (oVec (aX x)).len (oVec (aX x)).cap, .string (oStr (aX x)), .int .i64 (oTag (aY x)), .slice (oVec (aY x)).a (oVec (aY x)).len (oVec (aY x)).cap, .string (oStr (aY x)), .int .i64 (aMost x), .bool (aUp x)]
theorem two_row {h h1 : Hp} {x y : StA OT} {a b : Ob} (rx : ObX h x a) (ry : ObX h y b) (e : Ext h h1) {c : Array Value} {p : Nat} (bx : Blk h1 p c) (hc : c.toList = [x, y].flatMap (vsA OT)) : XRow h1 ⟨some ⟨p, 0, none⟩, 2, 2⟩ [a, b] := by
  refine ⟨[x, y], Blk.row encOT bx (l := [x, y]) (cap := 2) (Nat.le_refl _) hc, rfl, fun i u o hu ho => ?_⟩
  match i, hu, ho with
  | 0, hu, ho => cases hu; cases ho; exact ⟨rx.str, rx.vec.ext e, rx.ok⟩
  | 1, hu, ho => cases hu; cases ho; exact ⟨ry.str, ry.vec.ext e, ry.ok⟩
  | _ + 2, hu, ho => simp at hu
theorem ObX.small {h : Hp} {x : StA OT} {o : Ob} (r : ObX h x o) (hs : (o.1.length : Int) ≤ 120 ∧ (o.2.size : Int) ≤ 120) : ObR h x o := ⟨r.str, r.vec, r.ok, by omega, by omega⟩
theorem metricCounts_ok {n : Int} {s : Sl} {xs : List (StA AT)} {h : Hp} (r : IsRow (vsA AT) 9 h s xs) (hl : xs.length ≤ 140737488355328) (hx : ∀ x ∈ xs, ∃ a b : Ob, ObX h (aX x) a ∧ ObX h (aY x) b) : C_law09_MetricCounts n s h fun b h' => b = true ∧ Ext h h' := by
  refine F_law09_MetricCounts_ok _ _ _ _ (m_New fun h2 e2 q2 => ?_)
  rw [Jn_eq]
  have hlen := r.len
  refine Lp.inv (fun st => ∃ i : Nat, st.1.1 = (i : Int) ∧ i ≤ xs.length ∧ MQ st.2 h.size n (i : Int) ∧ Ext h st.2) (fun st => xs.length - st.1.1.toNat) ?_ ⟨0, rfl, by omega, q2, e2⟩
  rintro ⟨⟨i', ⟨⟩⟩, g⟩ R ⟨i, rfl, hi, q, x1⟩ hR
  simp only at q x1
  have hpl := q.lt
  unfold L1_law09_MetricCounts
  dsimp only
  refine cnd_dec.2 ⟨fun hlt => ?_, fun hge => ?_⟩
  · have hxi : xs[i]? = some (xs[i]'(by omega)) := List.getElem?_eq_getElem (by omega)
    generalize xs[i]'(by omega) = x at hxi
    obtain ⟨a, b, ra, rb⟩ := hx x (List.mem_of_getElem? hxi)
    refine ld_row (r.ext x1) (i := (i : Int)) (x := x) (by omega) (by rw [Int.toNat_natCast]; exact hxi) fun ad had ca => ?_
    refine ldA_row0 (s := .int .i64) (x := aM x) ca rfl (ldA_row (s := .int .i64) (j := 1) (x := oTag (aX x)) ca rfl (ldA_row (s := .sl) (j := 2) (x := oVec (aX x)) ca rfl (ldA_row (s := .str) (j := 3) (x := oStr (aX x)) ca rfl (ldA_row (s := .int .i64) (j := 4) (x := oTag (aY x)) ca rfl (ldA_row (s := .sl) (j := 5) (x := oVec (aY x)) ca rfl (ldA_row (s := .str) (j := 6) (x := oStr (aY x)) ca rfl (ldA_row (s := .int .i64) (j := 7) (x := aMost x) ca rfl (ldA_row (s := .bool) (j := 8) (x := aUp x) ca rfl ?_))))))))
    refine push_to fun g1 b1 e1 z1 => let_to ?_
    refine stores_blk (vs := (askCells x).toList) b1 rfl fun g2 b2 u2 _ z2 => ?_
    simp only [List.take_zero, List.nil_append] at b2
    have x2 : Ext g g2 := e1.only_new u2 (Nat.le_refl _)
    have bx : Blk g2 g.size (askCells x) := b2
    refine ldA_blk (s := .int .i64) (i := 1) (x := oTag (aX x)) bx rfl (ldA_blk (s := .sl) (i := 2) (x := oVec (aX x)) bx rfl (ldA_blk (s := .str) (i := 3) (x := oStr (aX x)) bx rfl (ldA_blk (s := .int .i64) (i := 4) (x := oTag (aY x)) bx rfl (ldA_blk (s := .sl) (i := 5) (x := oVec (aY x)) bx rfl (ldA_blk (s := .str) (i := 6) (x := oStr (aY x)) bx rfl ?_)))))
    refine push_to fun g3 b3 e3 z3 => let_to ?_
    have x3 : Ext h g3 := x1.trans (x2.trans e3)
    refine r_Short (two_row ra rb x3 b3 rfl) (by simp) fun t ht => ?_
    cases t with
    | false => exact cnd_yes rfl (l_lives09 fun h' e => ⟨rfl, x3.trans e⟩)
    | true =>
      have hs := ht rfl
      have qa := ra.small (hs a (by simp))
      have qb := rb.small (hs b (by simp))
      have bx3 := bx.ext e3
      refine cnd_no rfl ?_
      refine ldA_blk (s := .int .i64) (i := 1) (x := oTag (aX x)) bx3 rfl (ldA_blk (s := .sl) (i := 2) (x := oVec (aX x)) bx3 rfl (ldA_blk (s := .str) (i := 3) (x := oStr (aX x)) bx3 rfl (ldA_blk (s := .int .i64) (i := 4) (x := oTag (aY x)) bx3 rfl (ldA_blk (s := .sl) (i := 5) (x := oVec (aY x)) bx3 rfl (ldA_blk (s := .str) (i := 6) (x := oStr (aY x)) bx3 rfl ?_)))))
      refine c_rDist (qa.ext x3) (qb.ext x3) fun g4 e4 => ?_
      rw [Jn_eq]
      have x4 := x3.trans e4
      have bx4 := bx3.ext e4
      have q4 : MQ g4 h.size n (i : Int) := Blk.ext q (x2.trans (e3.trans e4))
      have oa : ∀ g5, Ext h g5 → True := fun _ _ => trivial
      have aa : ObA h.size g4 (aX x) a := (qa.apart (Nat.le_refl _)).only (x4.only _)
      have ab : ObA h.size g4 (aY x) b := (qb.apart (Nat.le_refl _)).only (x4.only _)
      have j2 : ∀ g5, MQ g5 h.size n ((i : Int) + 1) → Only h.size g4 g5 → J2_law09_MetricCounts (fun b h' => b = true ∧ Ext h h') (some ⟨h.size, 0, none⟩) (((i : Int), ()), g) R ⟨g.size, 0, none⟩ () g5 := by
        intro g5 q5 u5
        have bx5 := bx4.only u5 (by omega)
        have x5 : Ext h g5 := x4.only_new u5 (Nat.le_refl _)
        unfold J2_law09_MetricCounts
        dsimp only
        refine ldA_blk (s := .int .i64) (i := 1) (x := oTag (aX x)) bx5 rfl (ldA_blk (s := .sl) (i := 2) (x := oVec (aX x)) bx5 rfl (ldA_blk (s := .str) (i := 3) (x := oStr (aX x)) bx5 rfl (ldA_blk (s := .int .i64) (i := 4) (x := oTag (aY x)) bx5 rfl (ldA_blk (s := .sl) (i := 5) (x := oVec (aY x)) bx5 rfl (ldA_blk (s := .str) (i := 6) (x := oStr (aY x)) bx5 rfl (ldA_blk (s := .int .i64) (i := 7) (x := aMost x) bx5 rfl ?_))))))
        refine m_UptoNil (x := aX x) (y := aY x) fun g6 e6 => m_Calls (Blk.ext q5 e6) (let_to ?_)
        rw [wrap_i64 (by omega) (by omega)]
        refine cnd_bne.2 ⟨fun hne => absurd rfl hne, fun _ => cnd_no rfl ?_⟩
        have bx6 := bx5.ext e6
        refine ldA_blk (s := .int .i64) (i := 1) (x := oTag (aX x)) bx6 rfl (ldA_blk (s := .sl) (i := 2) (x := oVec (aX x)) bx6 rfl (ldA_blk (s := .str) (i := 3) (x := oStr (aX x)) bx6 rfl (ldA_blk (s := .int .i64) (i := 4) (x := oTag (aY x)) bx6 rfl (ldA_blk (s := .sl) (i := 5) (x := oVec (aY x)) bx6 rfl (ldA_blk (s := .str) (i := 6) (x := oStr (aY x)) bx6 rfl ?_)))))
        refine m_DistNil (x := aX x) (y := aY x) fun g7 e7 => cnd_bne.2 ⟨fun hne => absurd rfl hne, fun _ => let_to ?_⟩
        exact hR _ ⟨i + 1, by simp, by omega, by simpa using Blk.ext (Blk.ext q5 e6) e7, x5.trans (e6.trans e7)⟩ (by simp only; omega)
      refine ldA_blk (s := .bool) (i := 8) (x := aUp x) bx4 rfl (cnd_if (fun hu => ?_) (fun hu => ?_))
      · refine ldA_blk (s := .int .i64) (i := 1) (x := oTag (aX x)) bx4 rfl (ldA_blk (s := .sl) (i := 2) (x := oVec (aX x)) bx4 rfl (ldA_blk (s := .str) (i := 3) (x := oStr (aX x)) bx4 rfl (ldA_blk (s := .int .i64) (i := 4) (x := oTag (aY x)) bx4 rfl (ldA_blk (s := .sl) (i := 5) (x := oVec (aY x)) bx4 rfl (ldA_blk (s := .str) (i := 6) (x := oStr (aY x)) bx4 rfl (ldA_blk (s := .int .i64) (i := 7) (x := aMost x) bx4 rfl ?_))))))
        refine m_Upto q4 (by omega) aa ab fun g5 q5 u5 => ?_
        have bx5 := bx4.only u5 (by omega)
        refine ldA_blk (s := .int .i64) (i := 7) (x := aMost x) bx5 rfl (cnd_no (by simp) (cnd_if (fun hd => ?_) (fun _ => j2 g5 q5 u5)))
        rw [if_pos (of_decide_eq_true hd)]
        exact cnd_bne.2 ⟨fun hne => absurd rfl hne, fun _ => j2 g5 q5 u5⟩
      · refine ldA_blk (s := .int .i64) (i := 1) (x := oTag (aX x)) bx4 rfl (ldA_blk (s := .sl) (i := 2) (x := oVec (aX x)) bx4 rfl (ldA_blk (s := .str) (i := 3) (x := oStr (aX x)) bx4 rfl (ldA_blk (s := .int .i64) (i := 4) (x := oTag (aY x)) bx4 rfl (ldA_blk (s := .sl) (i := 5) (x := oVec (aY x)) bx4 rfl (ldA_blk (s := .str) (i := 6) (x := oStr (aY x)) bx4 rfl ?_)))))
        exact m_Dist q4 (by omega) aa ab fun g5 q5 u5 => cnd_bne.2 ⟨fun hne => absurd rfl hne, fun _ => j2 g5 q5 u5⟩
  · unfold J1_law09_MetricCounts
    refine m_Metric q (cnd_yes (beq_self_eq_true _) ?_)
    refine F_metric_Meter_Calls_ok _ _ _ (cnd_yes rfl (cnd_yes rfl ?_))
    refine F_metric_Meter_Metric_ok _ _ _ (cnd_yes rfl (cnd_yes rfl ?_))
    exact l_lives09 fun h' e => ⟨rfl, x1.trans e⟩
end Go.Proofs.YthdoecmcbpmjgaaF
