/- Chapter 11: three hits are put in order. No condition. -/
import Derived.Test.YtpfhojnhipbhgaaHits
namespace Go.Proofs.YtpfhojnhipbhgaaF
open Go Go.Proofs.YtpfhojnhipbhgaaK
set_option linter.unusedSimpArgs false
set_option linter.unusedVariables false

theorem h_lives11 {h : Hp} {K : Bool → Hp → Prop} (hK : ∀ h', Ext h h' → K true h') : C_law11_lives h K := by
  refine F_law11_lives_ok _ _ (push_to fun h1 b1 e1 z1 => let_to ?_)
  have r : RH h1 ⟨some ⟨h.size, 0, none⟩, 3, 3⟩ [(7, 3, ()), (2, 3, ()), (9, 1, ())] := Blk.row encHT b1 (l := [(7, 3, ()), (2, 3, ()), (9, 1, ())]) (cap := 3) (by decide) rfl
  refine c_hSort r (by decide) fun s2 h2 o2 e2 => ?_
  have es : srt [(7, 3, ()), (2, 3, ()), (9, 1, ())] = [(9, 1, ()), (2, 3, ()), (7, 3, ())] := by decide +kernel
  rw [es] at o2
  have hl := o2.row.len
  simp at hl
  refine cnd_yes (by rw [hl]; rfl) ?_
  refine ld_row (i := 0) (x := ((9, 1, ()) : StA HT)) o2.row (by omega) rfl fun a ha hc => ldA_row0 hc rfl (cnd_yes rfl ?_)
  refine ld_row (i := 1) (x := ((2, 3, ()) : StA HT)) o2.row (by omega) rfl fun a ha hc => ldA_row0 hc rfl (cnd_yes rfl ?_)
  refine ld_row (i := 2) (x := ((7, 3, ()) : StA HT)) o2.row (by omega) rfl fun a ha hc => ldA_row0 hc rfl ?_
  exact hK h2 (e1.trans e2)
end Go.Proofs.YtpfhojnhipbhgaaF
