/- Chapter 9: lives; what a meter tells: MetricCounts. No condition of its own. -/
import Derived.Test.YtibaekemfefoaaaObs
namespace Go.Proofs.YtibaekemfefoaaaF
open Go Go.Proofs.YtibaekemfefoaaaK
set_option linter.unusedSimpArgs false
set_option linter.unusedVariables false

theorem m_DistNil {x y : StA OT} {h : Hp} {K : Int → Hp → Prop} (hK : ∀ h', Ext h h' → K 0 h') : C_metric_Meter_Dist none (oTag x) (oVec x) (oStr x) (oTag y) (oVec y) (oStr y) h K :=
  F_metric_Meter_Dist_ok _ _ _ _ _ _ _ _ _ (push_to fun h1 b1 e1 z1 => let_to (push_to fun h2 b2 e2 z2 => let_to (hK h2 (e1.trans e2))))
theorem m_Metric {p : Nat} {m c : Int} {h : Hp} {K : Int → Hp → Prop} (q : MQ h p m c) (hK : K m h) : C_metric_Meter_Metric (some ⟨p, 0, none⟩) h K :=
  F_metric_Meter_Metric_ok _ _ _ (ldA_blk (s := .int .i64) (x := m) q rfl hK)
abbrev txt (l : List UInt8) : ByteArray := ByteArray.mk l.toArray
theorem ob_txt {p : Nat} {h : Hp} {t : Int} {b : ByteArray} (hb : b.size ≤ 1048576) : ObA p h (t, ⟨none, 0, 0⟩, b, ()) ([], b) :=
  ⟨⟨rfl, IsRow.nil _ _ _ _, fun x hx => (by cases hx), Nat.zero_le _, hb⟩, fun h => absurd rfl h⟩
theorem l_lives09 {h : Hp} {K : Bool → Hp → Prop} (hK : ∀ h', Ext h h' → K true h') : C_law09_lives h K := by
  refine F_law09_lives_ok _ _ (m_New fun h2 e2 q2 => ?_)
  refine m_Dist (x := (2, ⟨none, 0, 0⟩, ByteArray.mk #[97, 98], ())) (y := (2, ⟨none, 0, 0⟩, ByteArray.mk #[97, 99], ())) (a := ([], ByteArray.mk #[97, 98])) (b := ([], ByteArray.mk #[97, 99])) q2 (by decide) (ob_txt (by decide)) (ob_txt (by decide)) fun h4 q4 u4 => ?_
  rw [show od 2 ([], ByteArray.mk #[97, 98]) ([], ByteArray.mk #[97, 99]) = 1 by decide +kernel]
  refine cnd_yes rfl (m_Calls q4 (cnd_yes rfl (m_Metric q4 ?_)))
  exact hK h4 (e2.only_new u4 (Nat.le_refl _))

/-! Ask. -/
abbrev AT : List At := [.int .i64, .int .i64, .sl, .str, .int .i64, .sl, .str, .int .i64, .bool]
theorem encAT : Enc (vsA AT) 9 := encA rfl
abbrev aM (x : StA AT) : Int := x.1
abbrev aX (x : StA AT) : StA OT := (x.2.1, x.2.2.1, x.2.2.2.1, ())
abbrev aY (x : StA AT) : StA OT := (x.2.2.2.2.1, x.2.2.2.2.2.1, x.2.2.2.2.2.2.1, ())
abbrev aMost (x : StA AT) : Int := x.2.2.2.2.2.2.2.1
abbrev aUp (x : StA AT) : Bool := x.2.2.2.2.2.2.2.2.1
abbrev askCells (x : StA AT) : Array Value := #[.int .i64 (aM x), .int .i64 (oTag (aX x)), .slice (oVec (aX x)).a (oVec (aX x)).len (oVec (aX x)).cap, .string (oStr (aX x)), .int .i64 (oTag (aY x)), .slice (oVec (aY x)).a (oVec (aY x)).len (oVec (aY x)).cap, .string (oStr (aY x)), .int .i64 (aMost x), .bool (aUp x)]
theorem two_row {h h1 : Hp} {x y : StA OT} {a b : Ob} (rx : ObX h x a) (ry : ObX h y b) (e : Ext h h1) {c : Array Value} {p : Nat} (bx : Blk h1 p c) (hc : c.toList = [x, y].flatMap (vsA OT)) : XRow h1 ⟨some ⟨p, 0, none⟩, 2, 2⟩ [a, b] := by
  refine ⟨[x, y], Blk.row encOT bx (l := [x, y]) (cap := 2) (Nat.le_refl _) hc, rfl, fun i u o hu ho => ?_⟩
  match i, hu, ho with
  | 0, hu, ho => cases hu; cases ho; exact ⟨rx.str, rx.vec.ext e, rx.ok⟩
  | 1, hu, ho => cases hu; cases ho; exact ⟨ry.str, ry.vec.ext e, ry.ok⟩
  | _ + 2, hu, ho => simp at hu
theorem ObX.small {h : Hp} {x : StA OT} {o : Ob} (r : ObX h x o) (hs : (o.1.length : Int) ≤ 120 ∧ (o.2.size : Int) ≤ 120) : ObR h x o := ⟨r.str, r.vec, r.ok, by omega, by omega⟩

end Go.Proofs.YtibaekemfefoaaaF
