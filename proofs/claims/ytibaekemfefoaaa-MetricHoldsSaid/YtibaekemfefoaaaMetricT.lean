/- Chapter 9: Least; MetricTells. No condition of its own. -/
import Derived.Test.YtibaekemfefoaaaObs
import Derived.Test.YtibaekemfefoaaaLevLeast
import Derived.Test.YtibaekemfefoaaaLoneL
namespace Go.Proofs.YtibaekemfefoaaaF
open Go Go.Proofs.YtibaekemfefoaaaK
set_option linter.unusedSimpArgs false
set_option linter.unusedVariables false

def oleast (m : Int) (x y : Ob) : Int := if m = 1 then lleast x.1 y.1 else if m = 2 then (max x.2.size y.2.size - min x.2.size y.2.size : Nat) else if m = 3 then leastN (bts x.2) (bts y.2) else 0
theorem leastN_len (a b : ByteArray) : (a.size : Int) - b.size ≤ leastN (bts a) (bts b) ∧ (b.size : Int) - a.size ≤ leastN (bts a) (bts b) := by
  have la := bts_len a
  have lb := bts_len b
  unfold leastN
  omega
theorem c_mLeast {m : Int} {x y : StA OT} {a b : Ob} {h : Hp} {K : Int → Hp → Prop} (rx : ObR h x a) (ry : ObR h y b) (hK : ∀ h', Ext h h' → K (oleast m a b) h') : C_metric_Least m (oTag x) (oVec x) (oStr x) (oTag y) (oVec y) (oStr y) h K := by
  refine F_metric_Least_ok _ _ _ _ _ _ _ _ _ (push_to fun h1 b1 e1 z1 => let_to (push_to fun h2 b2 e2 z2 => let_to ?_))
  have c1 := b1.ext e2
  have x2 := e1.trans e2
  have qx := rx.ext x2
  have qy := ry.ext x2
  have sx := rx.sl
  have sy := ry.sl
  unfold oleast at hK
  rw [Jn_eq]
  have j1 : ∀ (d v : Int) (g : Hp), Ext h2 g → (max d (max ((a.2.size : Int) - b.2.size) ((b.2.size : Int) - a.2.size)) = v) → K v g → J1_metric_Least K ⟨h.size, 0, none⟩ ⟨h1.size, 0, none⟩ (d, ()) g := by
    intro d v g e hv hk
    unfold J1_metric_Least
    dsimp only
    refine ldA_blk (s := .str) (i := 2) (x := oStr x) (c1.ext e) rfl (ldA_blk (s := .str) (i := 2) (x := oStr y) (b2.ext e) rfl (let_to (ldA_blk (s := .str) (i := 2) (x := oStr y) (b2.ext e) rfl (ldA_blk (s := .str) (i := 2) (x := oStr x) (c1.ext e) rfl (let_to (let_to (let_to ?_)))))))
    rw [rx.str, ry.str, wrap_i64 (by omega) (by omega), wrap_i64 (by omega) (by omega)]
    refine at_val hk ?_
    (repeat' split) <;> omega
  refine cnd_beq.2 ⟨fun h1 => ?_, fun n1 => cnd_beq.2 ⟨fun h3 => ?_, fun n3 => cnd_beq.2 ⟨fun h2 => ?_, fun n2 => ?_⟩⟩⟩
  · rw [if_pos h1] at hK
    refine ldA_blk (s := .sl) (i := 1) (x := oVec x) c1 rfl (ldA_blk (s := .sl) (i := 1) (x := oVec y) b2 rfl ?_)
    exact lone_Least qx.ok qy.ok qx.vl qy.vl qx.vec qy.vec fun h3 e3 => hK h3 (x2.trans e3)
  · rw [if_neg n1, if_neg (by omega), if_pos h3] at hK
    refine ldA_blk (s := .str) (i := 2) (x := oStr x) c1 rfl (ldA_blk (s := .str) (i := 2) (x := oStr y) b2 rfl ?_)
    rw [rx.str, ry.str]
    refine lev_Least sx sy fun g e => j1 _ _ g e ?_ (hK g (x2.trans e))
    have := leastN_len a.2 b.2
    omega
  · rw [if_neg n1, if_pos h2] at hK
    exact j1 _ _ _ (Ext.refl _) (by omega) (hK _ x2)
  · rw [if_neg n1, if_neg n2, if_neg n3] at hK
    exact hK _ x2

end Go.Proofs.YtibaekemfefoaaaF
