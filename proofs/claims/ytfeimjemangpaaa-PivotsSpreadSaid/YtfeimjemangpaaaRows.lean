/-
  No cell of these rows narrows 'for every input' (looked for: loops, veiled, ifaces, maps, wideKeys, modest, calm, conditions, laid).
  DERIVED. THE GIVEN ROWS OF THIS SEAT. 3 by the template 'for every input the law returns true; each argument reads behind the call as it read before'; 0 by the template 'total and deterministic' (their statements: YtfeimjemangpaaaTotals.lean).
  GIVEN WITH THE SEED: the statements are not yours to turn. If you find one false, say at which input.
  Laid BY PROGRAM, IN A SANDBOX (cutbox-rows.mjs): the forced cells as the released guide's own fill.sh prints them over the translation 8f9f859294132289… (all of the seat's roots in one cut). By AI agents, Wed Nov 11 2026. No macro, syntax, notation, axiom, sorry.
-/
import Derived.Test.YtfeimjemangpaaaChecked
import GoSem.Claim
import GoSem.ClaimJoined
import GoSem.ClaimMapViews
import Derived.JoinedTies
import Derived.KernelRfl
namespace Go.Proofs.Ytfeimjemangpaaa
/- THE CELL 'sum', in the pinned program and in every row, IS THE sha256 OF THE DUMP (.gsa) THAT YtfeimjemangpaaaProg.lean LOADS. Nothing in Lean hashes anything: it is a label: what it is worth is what the hold of that sum in a sandbox is worth. -/
noncomputable def Try.pinned : Pinned := { name := "ytfeimjemangpaaa", sum := "8f9f8592941322897ce043c58dcd2013d182c753a470a39cd53da05677454e0b", checked := Try.checked }
namespace Rows
def none {H : Type} : Left H := { results := [], args := [] }

/-- 'waywiserlaw19.PivotsApart': WHATEVER THE INPUT: true; the input reads as it did. -/
def pivotsApartSpec : ChangeSpec := { name := "pivotsApart", fn := fun _ => fun
  | [d] => { results := [.lit (.bool true)], args := [d] }
  | _ => none }
def pivotsApartRow : OpenClaim := { program := "ytfeimjemangpaaa", sum := "8f9f8592941322897ce043c58dcd2013d182c753a470a39cd53da05677454e0b", func := "waywiser/waywiserlaw19.PivotsApart", spec := "pivotsApart", unfollowed := true, recurses := true, apart := false }
def PivotsApartSaid : Prop := pivotsApartRow.holds Try.pinned (OpenSpec.ofChange pivotsApartSpec)

/-- ITS FALSE NEIGHBOUR: 'it returns false'. Refute it at one input. -/
def pivotsApartWrong : ChangeSpec := { name := "pivotsApart", fn := fun _ => fun
  | [d] => { results := [.lit (.bool false)], args := [d] }
  | _ => none }
def PivotsApartWrongFalsely : Prop := pivotsApartRow.holds Try.pinned (OpenSpec.ofChange pivotsApartWrong)

/-- 'waywiserlaw19.PivotsChoose': WHATEVER THE INPUT: true; the input reads as it did. -/
def pivotsChooseSpec : ChangeSpec := { name := "pivotsChoose", fn := fun _ => fun
  | [d] => { results := [.lit (.bool true)], args := [d] }
  | _ => none }
def pivotsChooseRow : OpenClaim := { program := "ytfeimjemangpaaa", sum := "8f9f8592941322897ce043c58dcd2013d182c753a470a39cd53da05677454e0b", func := "waywiser/waywiserlaw19.PivotsChoose", spec := "pivotsChoose", unfollowed := true, recurses := true, apart := false }
def PivotsChooseSaid : Prop := pivotsChooseRow.holds Try.pinned (OpenSpec.ofChange pivotsChooseSpec)

/-- ITS FALSE NEIGHBOUR: 'it returns false'. Refute it at one input. -/
def pivotsChooseWrong : ChangeSpec := { name := "pivotsChoose", fn := fun _ => fun
  | [d] => { results := [.lit (.bool false)], args := [d] }
  | _ => none }
def PivotsChooseWrongFalsely : Prop := pivotsChooseRow.holds Try.pinned (OpenSpec.ofChange pivotsChooseWrong)

/-- 'waywiserlaw19.PivotsSpread': WHATEVER THE INPUT: true; the input reads as it did. -/
def pivotsSpreadSpec : ChangeSpec := { name := "pivotsSpread", fn := fun _ => fun
  | [d1, d2] => { results := [.lit (.bool true)], args := [d1, d2] }
  | _ => none }
def pivotsSpreadRow : OpenClaim := { program := "ytfeimjemangpaaa", sum := "8f9f8592941322897ce043c58dcd2013d182c753a470a39cd53da05677454e0b", func := "waywiser/waywiserlaw19.PivotsSpread", spec := "pivotsSpread", unfollowed := true, recurses := true, apart := false }
def PivotsSpreadSaid : Prop := pivotsSpreadRow.holds Try.pinned (OpenSpec.ofChange pivotsSpreadSpec)

/-- ITS FALSE NEIGHBOUR: 'it returns false'. Refute it at one input. -/
def pivotsSpreadWrong : ChangeSpec := { name := "pivotsSpread", fn := fun _ => fun
  | [d1, d2] => { results := [.lit (.bool false)], args := [d1, d2] }
  | _ => none }
def PivotsSpreadWrongFalsely : Prop := pivotsSpreadRow.holds Try.pinned (OpenSpec.ofChange pivotsSpreadWrong)

/- THE SECOND FORM. 'bulk': how many values and letters a reading holds, each counted each time it is reached (what is shared counts as often as it is met; a slice's spare places count too). A statement '..UptoSaid' is the law's where the arguments, and the package variables that the reading takes, are together of bulk at most 1048576: NARROWER than '..Said'. Prove '..Said' where nothing that the law and all that it calls make is longer than what came in: it says more and counts as full. Else prove '..UptoSaid'. A law counts once. -/
mutual
def uptoBulk {H : Type} : DataW H → Nat
  | .lit (.string bytes) => bytes.length + 1
  | .lit _ => 1
  | .nil => 1
  | .ptr d => uptoBulk d + 1
  | .slice elems spare => uptoBulkAll elems + uptoBulkAll spare + 1
  | .agg parts => uptoBulkAll parts + 1
  | .iface _ d => uptoBulk d + 1
  | .map entries => uptoBulkEntries entries + 1
  | .held _ => 1
def uptoBulkAll {H : Type} : List (DataW H) → Nat
  | [] => 0
  | d :: r => uptoBulk d + uptoBulkAll r
def uptoBulkEntries {H : Type} : List (Lit × DataW H) → Nat
  | [] => 0
  | x :: r => uptoBulkEntry x + uptoBulkEntries r
def uptoBulkEntry {H : Type} : Lit × DataW H → Nat
  | (.string bytes, d) => bytes.length + uptoBulk d + 1
  | (_, d) => uptoBulk d + 1
 end
def uptoSmall : (H : Type) → List (DataW H) → Bool := fun _ ds => decide (uptoBulkAll ds ≤ 1048576)
def OpenSpec.upto (s : _root_.Go.ChangeSpec) : _root_.Go.OpenSpec := { _root_.Go.OpenSpec.ofChange s with cond := some uptoSmall }

/-- 'waywiserlaw19.PivotsApart', WHERE WHAT IT READS IS OF BULK AT MOST 1048576: true; the input reads as it did. -/
def pivotsApartUptoRow : OpenClaim := { program := "ytfeimjemangpaaa", sum := "8f9f8592941322897ce043c58dcd2013d182c753a470a39cd53da05677454e0b", func := "waywiser/waywiserlaw19.PivotsApart", spec := "pivotsApart", unfollowed := true, recurses := true, apart := false, narrowed := true }
def PivotsApartUptoSaid : Prop := pivotsApartUptoRow.holds Try.pinned (OpenSpec.upto pivotsApartSpec)

/-- 'waywiserlaw19.PivotsChoose', WHERE WHAT IT READS IS OF BULK AT MOST 1048576: true; the input reads as it did. -/
def pivotsChooseUptoRow : OpenClaim := { program := "ytfeimjemangpaaa", sum := "8f9f8592941322897ce043c58dcd2013d182c753a470a39cd53da05677454e0b", func := "waywiser/waywiserlaw19.PivotsChoose", spec := "pivotsChoose", unfollowed := true, recurses := true, apart := false, narrowed := true }
def PivotsChooseUptoSaid : Prop := pivotsChooseUptoRow.holds Try.pinned (OpenSpec.upto pivotsChooseSpec)

/-- 'waywiserlaw19.PivotsSpread', WHERE WHAT IT READS IS OF BULK AT MOST 1048576: true; the input reads as it did. -/
def pivotsSpreadUptoRow : OpenClaim := { program := "ytfeimjemangpaaa", sum := "8f9f8592941322897ce043c58dcd2013d182c753a470a39cd53da05677454e0b", func := "waywiser/waywiserlaw19.PivotsSpread", spec := "pivotsSpread", unfollowed := true, recurses := true, apart := false, narrowed := true }
def PivotsSpreadUptoSaid : Prop := pivotsSpreadUptoRow.holds Try.pinned (OpenSpec.upto pivotsSpreadSpec)

end Rows
end Go.Proofs.Ytfeimjemangpaaa
