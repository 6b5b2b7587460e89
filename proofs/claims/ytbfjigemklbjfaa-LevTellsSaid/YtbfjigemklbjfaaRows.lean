/-
  No cell of these rows narrows 'for every input' (looked for: loops, veiled, ifaces, maps, wideKeys, modest, calm, conditions, laid).
  DERIVED. THE GIVEN ROWS OF THIS SEAT. 4 by the template 'for every input the law returns true; each argument reads behind the call as it read before'; 0 by the template 'total and deterministic' (their statements: YtbfjigemklbjfaaTotals.lean).
  GIVEN WITH THE SEED: the statements are not yours to turn. If you find one false, say at which input.
  Laid BY PROGRAM, IN A SANDBOX (cutbox-rows.mjs): the forced cells as the released guide's own fill.sh prints them over the translation 0b7e63dbf5950445… (all of the seat's roots in one cut). By AI agents, Wed Nov 11 2026. No macro, syntax, notation, axiom, sorry.
-/
import Derived.Test.YtbfjigemklbjfaaChecked
import GoSem.Claim
import GoSem.ClaimJoined
import GoSem.ClaimMapViews
import Derived.JoinedTies
import Derived.KernelRfl
namespace Go.Proofs.Ytbfjigemklbjfaa
/- THE CELL 'sum', in the pinned program and in every row, IS THE sha256 OF THE DUMP (.gsa) THAT YtbfjigemklbjfaaProg.lean LOADS. Nothing in Lean hashes anything: it is a label: what it is worth is what the hold of that sum in a sandbox is worth. -/
noncomputable def Try.pinned : Pinned := { name := "ytbfjigemklbjfaa", sum := "0b7e63dbf5950445d460e0b711d88cb2b4c579d3d07a1bf22e8bcb8aa2a1ead0", checked := Try.checked }
namespace Rows
def none {H : Type} : Left H := { results := [], args := [] }

/-- 'waywiserlaw08.LevMetric': WHATEVER THE INPUT: true; the input reads as it did. -/
def levMetricSpec : ChangeSpec := { name := "levMetric", fn := fun _ => fun
  | [d1, d2, d3] => { results := [.lit (.bool true)], args := [d1, d2, d3] }
  | _ => none }
def levMetricRow : OpenClaim := { program := "ytbfjigemklbjfaa", sum := "0b7e63dbf5950445d460e0b711d88cb2b4c579d3d07a1bf22e8bcb8aa2a1ead0", func := "waywiser/waywiserlaw08.LevMetric", spec := "levMetric", inPlace := ["internal/abi.NoEscape"], apart := false }
def LevMetricSaid : Prop := levMetricRow.holds Try.pinned (OpenSpec.ofChange levMetricSpec)

/-- ITS FALSE NEIGHBOUR: 'it returns false'. Refute it at one input. -/
def levMetricWrong : ChangeSpec := { name := "levMetric", fn := fun _ => fun
  | [d1, d2, d3] => { results := [.lit (.bool false)], args := [d1, d2, d3] }
  | _ => none }
def LevMetricWrongFalsely : Prop := levMetricRow.holds Try.pinned (OpenSpec.ofChange levMetricWrong)

/-- 'waywiserlaw08.LevEdits': WHATEVER THE INPUT: true; the input reads as it did. -/
def levEditsSpec : ChangeSpec := { name := "levEdits", fn := fun _ => fun
  | [d1, d2] => { results := [.lit (.bool true)], args := [d1, d2] }
  | _ => none }
def levEditsRow : OpenClaim := { program := "ytbfjigemklbjfaa", sum := "0b7e63dbf5950445d460e0b711d88cb2b4c579d3d07a1bf22e8bcb8aa2a1ead0", func := "waywiser/waywiserlaw08.LevEdits", spec := "levEdits", inPlace := ["internal/abi.NoEscape", "internal/bytealg.IndexByteString"], apart := false }
def LevEditsSaid : Prop := levEditsRow.holds Try.pinned (OpenSpec.ofChange levEditsSpec)

/-- ITS FALSE NEIGHBOUR: 'it returns false'. Refute it at one input. -/
def levEditsWrong : ChangeSpec := { name := "levEdits", fn := fun _ => fun
  | [d1, d2] => { results := [.lit (.bool false)], args := [d1, d2] }
  | _ => none }
def LevEditsWrongFalsely : Prop := levEditsRow.holds Try.pinned (OpenSpec.ofChange levEditsWrong)

/-- 'waywiserlaw08.LevApplies': WHATEVER THE INPUT: true; the input reads as it did. -/
def levAppliesSpec : ChangeSpec := { name := "levApplies", fn := fun _ => fun
  | [d1, d2, d3] => { results := [.lit (.bool true)], args := [d1, d2, d3] }
  | _ => none }
def levAppliesRow : OpenClaim := { program := "ytbfjigemklbjfaa", sum := "0b7e63dbf5950445d460e0b711d88cb2b4c579d3d07a1bf22e8bcb8aa2a1ead0", func := "waywiser/waywiserlaw08.LevApplies", spec := "levApplies", inPlace := ["internal/bytealg.IndexByteString", "internal/abi.NoEscape"], apart := false }
def LevAppliesSaid : Prop := levAppliesRow.holds Try.pinned (OpenSpec.ofChange levAppliesSpec)

/-- ITS FALSE NEIGHBOUR: 'it returns false'. Refute it at one input. -/
def levAppliesWrong : ChangeSpec := { name := "levApplies", fn := fun _ => fun
  | [d1, d2, d3] => { results := [.lit (.bool false)], args := [d1, d2, d3] }
  | _ => none }
def LevAppliesWrongFalsely : Prop := levAppliesRow.holds Try.pinned (OpenSpec.ofChange levAppliesWrong)

/-- 'waywiserlaw08.LevTells': WHATEVER THE INPUT: true; the input reads as it did. -/
def levTellsSpec : ChangeSpec := { name := "levTells", fn := fun _ => fun
  | [d1, d2, d3] => { results := [.lit (.bool true)], args := [d1, d2, d3] }
  | _ => none }
def levTellsRow : OpenClaim := { program := "ytbfjigemklbjfaa", sum := "0b7e63dbf5950445d460e0b711d88cb2b4c579d3d07a1bf22e8bcb8aa2a1ead0", func := "waywiser/waywiserlaw08.LevTells", spec := "levTells", inPlace := ["internal/abi.NoEscape"], apart := false }
def LevTellsSaid : Prop := levTellsRow.holds Try.pinned (OpenSpec.ofChange levTellsSpec)

/-- ITS FALSE NEIGHBOUR: 'it returns false'. Refute it at one input. -/
def levTellsWrong : ChangeSpec := { name := "levTells", fn := fun _ => fun
  | [d1, d2, d3] => { results := [.lit (.bool false)], args := [d1, d2, d3] }
  | _ => none }
def LevTellsWrongFalsely : Prop := levTellsRow.holds Try.pinned (OpenSpec.ofChange levTellsWrong)

/- THE SECOND FORM. 'bulk': how many values and letters a reading holds, each counted each time it is reached (what is shared counts as often as it is met; a slice's spare places count too). A statement '..UptoSaid' is the law's where the arguments, and the package variables that the reading takes, are together of bulk at most 1048576: NARROWER than '..Said'. Prove '..Said' where nothing that the law and all that it calls make is longer than what came in: it says more and counts as full. Else prove '..UptoSaid'. A law counts once. -/
mutual
def uptoBulk {H : Type} : DataW H → Nat
  | .lit (.string bytes) => bytes.length + 1
  | .lit _ => 1
  | .nil => 1
  | .ptr d => uptoBulk d + 1
  | .slice elems spare => uptoBulkAll elems + uptoBulkAll spare + 1
  | .agg parts => uptoBulkAll parts + 1
  | .iface _ d => uptoBulk d + 1
  | .map entries => uptoBulkEntries entries + 1
  | .held _ => 1
def uptoBulkAll {H : Type} : List (DataW H) → Nat
  | [] => 0
  | d :: r => uptoBulk d + uptoBulkAll r
def uptoBulkEntries {H : Type} : List (Lit × DataW H) → Nat
  | [] => 0
  | x :: r => uptoBulkEntry x + uptoBulkEntries r
def uptoBulkEntry {H : Type} : Lit × DataW H → Nat
  | (.string bytes, d) => bytes.length + uptoBulk d + 1
  | (_, d) => uptoBulk d + 1
 end
def uptoSmall : (H : Type) → List (DataW H) → Bool := fun _ ds => decide (uptoBulkAll ds ≤ 1048576)
def OpenSpec.upto (s : _root_.Go.ChangeSpec) : _root_.Go.OpenSpec := { _root_.Go.OpenSpec.ofChange s with cond := some uptoSmall }

/-- 'waywiserlaw08.LevMetric', WHERE WHAT IT READS IS OF BULK AT MOST 1048576: true; the input reads as it did. -/
def levMetricUptoRow : OpenClaim := { program := "ytbfjigemklbjfaa", sum := "0b7e63dbf5950445d460e0b711d88cb2b4c579d3d07a1bf22e8bcb8aa2a1ead0", func := "waywiser/waywiserlaw08.LevMetric", spec := "levMetric", inPlace := ["internal/abi.NoEscape"], apart := false, narrowed := true }
def LevMetricUptoSaid : Prop := levMetricUptoRow.holds Try.pinned (OpenSpec.upto levMetricSpec)

/-- 'waywiserlaw08.LevEdits', WHERE WHAT IT READS IS OF BULK AT MOST 1048576: true; the input reads as it did. -/
def levEditsUptoRow : OpenClaim := { program := "ytbfjigemklbjfaa", sum := "0b7e63dbf5950445d460e0b711d88cb2b4c579d3d07a1bf22e8bcb8aa2a1ead0", func := "waywiser/waywiserlaw08.LevEdits", spec := "levEdits", inPlace := ["internal/abi.NoEscape", "internal/bytealg.IndexByteString"], apart := false, narrowed := true }
def LevEditsUptoSaid : Prop := levEditsUptoRow.holds Try.pinned (OpenSpec.upto levEditsSpec)

/-- 'waywiserlaw08.LevApplies', WHERE WHAT IT READS IS OF BULK AT MOST 1048576: true; the input reads as it did. -/
def levAppliesUptoRow : OpenClaim := { program := "ytbfjigemklbjfaa", sum := "0b7e63dbf5950445d460e0b711d88cb2b4c579d3d07a1bf22e8bcb8aa2a1ead0", func := "waywiser/waywiserlaw08.LevApplies", spec := "levApplies", inPlace := ["internal/bytealg.IndexByteString", "internal/abi.NoEscape"], apart := false, narrowed := true }
def LevAppliesUptoSaid : Prop := levAppliesUptoRow.holds Try.pinned (OpenSpec.upto levAppliesSpec)

/-- 'waywiserlaw08.LevTells', WHERE WHAT IT READS IS OF BULK AT MOST 1048576: true; the input reads as it did. -/
def levTellsUptoRow : OpenClaim := { program := "ytbfjigemklbjfaa", sum := "0b7e63dbf5950445d460e0b711d88cb2b4c579d3d07a1bf22e8bcb8aa2a1ead0", func := "waywiser/waywiserlaw08.LevTells", spec := "levTells", inPlace := ["internal/abi.NoEscape"], apart := false, narrowed := true }
def LevTellsUptoSaid : Prop := levTellsUptoRow.holds Try.pinned (OpenSpec.upto levTellsSpec)

end Rows
end Go.Proofs.Ytbfjigemklbjfaa
