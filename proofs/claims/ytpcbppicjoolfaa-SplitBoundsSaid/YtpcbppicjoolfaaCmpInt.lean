/- cmp.Compare and cmp.Or over numbers. No condition. -/
import Derived.Test.YtpcbppicjoolfaaF
import Derived.Test.YtpcbppicjoolfaaK16
namespace Go.Proofs.YtpcbppicjoolfaaF
open Go Go.Proofs.YtpcbppicjoolfaaK
set_option linter.unusedSimpArgs false
set_option linter.unusedVariables false

def cmpI (x y : Int) : Int := if x < y then -1 else if x > y then 1 else 0
theorem c_Cmp_int {x y : Int} {h : Hp} {K : Int → Hp → Prop} (hK : K (cmpI x y) h) : C_cmp_Compare_int x y h K := by
  have hn : ∀ {x : Int} {h : Hp} {K : Bool → Hp → Prop}, K false h → C_cmp_isNaN_int x h K := fun {x h K} hk => F_cmp_isNaN_int_ok _ _ _ (by
    unfold F_cmp_isNaN_int
    rw [show (x != x) = false by simp]; exact hk)
  refine F_cmp_Compare_int_ok _ _ _ _ (hn (hn (cnd_no rfl (cnd_no rfl ?_))))
  unfold cmpI at hK
  refine cnd_dec.2 ⟨fun h1 => ?_, fun h1 => cnd_dec.2 ⟨fun h2 => ?_, fun h2 => ?_⟩⟩
  · rw [if_pos h1] at hK; exact hK
  · rw [if_neg h1, if_pos h2] at hK; exact hK
  · rw [if_neg h1, if_neg h2] at hK; exact hK
theorem encI64h : Enc (Go.Proofs.YtpcbppicjoolfaaK.encI .i64) 1 := encI_ok _
theorem c_Or {a b : Int} {h : Hp} {s : Sl} {K : Int → Hp → Prop} (r : IsRow (Go.Proofs.YtpcbppicjoolfaaK.encI .i64) 1 h s [a, b]) (hK : K (if a ≠ 0 then a else b) h) : C_cmp_Or_int s h K := by
  have hl := r.len
  simp at hl
  refine F_cmp_Or_int_ok _ _ _ ⟨3, ?_⟩
  refine Lp.next (cnd_dec.2 ⟨fun _ => ld_int0 (i := 0) (x := a) r (by omega) rfl (cnd_bne.2 ⟨fun hne => ?_, fun he => let_to ?_⟩), fun hn => by simp only at hn; omega⟩)
  · rw [if_pos hne] at hK; exact hK
  · rw [if_neg (fun h => h he)] at hK
    rw [wrap_i64 (by dsimp only; omega) (by dsimp only; omega)]
    refine Lp.next (cnd_dec.2 ⟨fun _ => ld_int0 (i := 1) (x := b) r (by omega) rfl (cnd_bne.2 ⟨fun hne => ?_, fun he => let_to ?_⟩), fun hn => by simp only at hn; omega⟩)
    · exact hK
    · rw [wrap_i64 (by dsimp only; omega) (by dsimp only; omega)]
      subst he
      exact Lp.next (cnd_dec.2 ⟨fun hn => by simp only at hn; omega, fun _ => hK⟩)
end Go.Proofs.YtpcbppicjoolfaaF
