/- Chapter 6: Norm, Least. No condition. -/
import Derived.Test.YtibaekemfefoaaaLoneD
namespace Go.Proofs.YtibaekemfefoaaaF
open Go Go.Proofs.YtibaekemfefoaaaK
set_option linter.unusedSimpArgs false
set_option linter.unusedVariables false

theorem lone_Norm {sa : Sl} {la : List Int} {h : Hp} {K : Int → Hp → Prop} (oka : Ok32 la) (hla : la.length ≤ 1048576) (ra : R32 h sa la) (hk : ∀ h', Ext h h' → K (ldist la []) h') : C_lone_Norm sa h K :=
  F_lone_Norm_ok _ _ _ (lone_Dist oka (fun x hx => by cases hx) hla (by simp) ra (IsRow.nil _ _ _ 0) hk)
def lleast (la lb : List Int) : Int := aprt (ldist la []) (ldist lb [])
theorem lone_Least {sa sb : Sl} {la lb : List Int} {h : Hp} {K : Int → Hp → Prop} (oka : Ok32 la) (okb : Ok32 lb) (hla : la.length ≤ 1048576) (hlb : lb.length ≤ 1048576) (ra : R32 h sa la) (rb : R32 h sb lb)
    (hk : ∀ h', Ext h h' → K (lleast la lb) h') : C_lone_Least sa sb h K := by
  refine F_lone_Least_ok _ _ _ _ (lone_Norm oka hla ra fun h1 e1 => lone_Norm okb hlb (rb.ext e1) fun h2 e2 => ?_)
  have b1 := ldist_bd oka ok_nil hla (by simp)
  have b2 := ldist_bd okb ok_nil hlb (by simp)
  simp only [Let_eq]
  rw [wrap_i64 (x := ldist la [] - ldist lb []) (by omega) (by omega), wrap_i64 (by omega) (by omega)]
  refine at_val (hk _ (e1.trans e2)) ?_
  unfold lleast aprt
  (repeat' split) <;> omega

end Go.Proofs.YtibaekemfefoaaaF
