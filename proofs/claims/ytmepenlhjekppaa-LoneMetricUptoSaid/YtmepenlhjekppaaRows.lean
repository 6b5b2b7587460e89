/-
  No cell of these rows narrows 'for every input' (looked for: loops, veiled, ifaces, maps, wideKeys, modest, calm, conditions, laid).
  DERIVED. THE GIVEN ROWS OF THIS SEAT. 4 by the template 'for every input the law returns true; each argument reads behind the call as it read before'; 0 by the template 'total and deterministic' (their statements: YtmepenlhjekppaaTotals.lean).
  GIVEN WITH THE SEED: the statements are not yours to turn. If you find one false, say at which input.
  Laid BY PROGRAM, IN A SANDBOX (cutbox-rows.mjs): the forced cells as the released guide's own fill.sh prints them over the translation f53e7ab037a8615f… (all of the seat's roots in one cut). By AI agents, Wed Nov 11 2026. No macro, syntax, notation, axiom, sorry.
-/
import Derived.Test.YtmepenlhjekppaaChecked
import GoSem.Claim
import GoSem.ClaimJoined
import GoSem.ClaimMapViews
import Derived.JoinedTies
import Derived.KernelRfl
namespace Go.Proofs.Ytmepenlhjekppaa
/- THE CELL 'sum', in the pinned program and in every row, IS THE sha256 OF THE DUMP (.gsa) THAT YtmepenlhjekppaaProg.lean LOADS. Nothing in Lean hashes anything: it is a label: what it is worth is what the hold of that sum in a sandbox is worth. -/
noncomputable def Try.pinned : Pinned := { name := "ytmepenlhjekppaa", sum := "f53e7ab037a8615ff931a599ffd20c52c36d8dd131bafbfbad9d44a372131c3b", checked := Try.checked }
namespace Rows
def none {H : Type} : Left H := { results := [], args := [] }

/-- 'waywiserlaw01.BoundHolds': WHATEVER THE INPUT: true; the input reads as it did. -/
def boundHoldsSpec : ChangeSpec := { name := "boundHolds", fn := fun _ => fun
  | [d] => { results := [.lit (.bool true)], args := [d] }
  | _ => none }
def boundHoldsRow : OpenClaim := { program := "ytmepenlhjekppaa", sum := "f53e7ab037a8615ff931a599ffd20c52c36d8dd131bafbfbad9d44a372131c3b", func := "waywiser/waywiserlaw01.BoundHolds", spec := "boundHolds", apart := false }
def BoundHoldsSaid : Prop := boundHoldsRow.holds Try.pinned (OpenSpec.ofChange boundHoldsSpec)

/-- ITS FALSE NEIGHBOUR: 'it returns false'. Refute it at one input. -/
def boundHoldsWrong : ChangeSpec := { name := "boundHolds", fn := fun _ => fun
  | [d] => { results := [.lit (.bool false)], args := [d] }
  | _ => none }
def BoundHoldsWrongFalsely : Prop := boundHoldsRow.holds Try.pinned (OpenSpec.ofChange boundHoldsWrong)

/-- 'waywiserlaw01.BoundTells': WHATEVER THE INPUT: true; the input reads as it did. -/
def boundTellsSpec : ChangeSpec := { name := "boundTells", fn := fun _ => fun
  | [d1, d2, d3] => { results := [.lit (.bool true)], args := [d1, d2, d3] }
  | _ => none }
def boundTellsRow : OpenClaim := { program := "ytmepenlhjekppaa", sum := "f53e7ab037a8615ff931a599ffd20c52c36d8dd131bafbfbad9d44a372131c3b", func := "waywiser/waywiserlaw01.BoundTells", spec := "boundTells", apart := false }
def BoundTellsSaid : Prop := boundTellsRow.holds Try.pinned (OpenSpec.ofChange boundTellsSpec)

/-- ITS FALSE NEIGHBOUR: 'it returns false'. Refute it at one input. -/
def boundTellsWrong : ChangeSpec := { name := "boundTells", fn := fun _ => fun
  | [d1, d2, d3] => { results := [.lit (.bool false)], args := [d1, d2, d3] }
  | _ => none }
def BoundTellsWrongFalsely : Prop := boundTellsRow.holds Try.pinned (OpenSpec.ofChange boundTellsWrong)

/-- 'waywiserlaw06.LoneMetric': WHATEVER THE INPUT: true; the input reads as it did. -/
def loneMetricSpec : ChangeSpec := { name := "loneMetric", fn := fun _ => fun
  | [d1, d2, d3] => { results := [.lit (.bool true)], args := [d1, d2, d3] }
  | _ => none }
def loneMetricRow : OpenClaim := { program := "ytmepenlhjekppaa", sum := "f53e7ab037a8615ff931a599ffd20c52c36d8dd131bafbfbad9d44a372131c3b", func := "waywiser/waywiserlaw06.LoneMetric", spec := "loneMetric", unfollowed := true, recurses := true, apart := false }
def LoneMetricSaid : Prop := loneMetricRow.holds Try.pinned (OpenSpec.ofChange loneMetricSpec)

/-- ITS FALSE NEIGHBOUR: 'it returns false'. Refute it at one input. -/
def loneMetricWrong : ChangeSpec := { name := "loneMetric", fn := fun _ => fun
  | [d1, d2, d3] => { results := [.lit (.bool false)], args := [d1, d2, d3] }
  | _ => none }
def LoneMetricWrongFalsely : Prop := loneMetricRow.holds Try.pinned (OpenSpec.ofChange loneMetricWrong)

/-- 'waywiserlaw06.LoneTells': WHATEVER THE INPUT: true; the input reads as it did. -/
def loneTellsSpec : ChangeSpec := { name := "loneTells", fn := fun _ => fun
  | [d1, d2, d3] => { results := [.lit (.bool true)], args := [d1, d2, d3] }
  | _ => none }
def loneTellsRow : OpenClaim := { program := "ytmepenlhjekppaa", sum := "f53e7ab037a8615ff931a599ffd20c52c36d8dd131bafbfbad9d44a372131c3b", func := "waywiser/waywiserlaw06.LoneTells", spec := "loneTells", unfollowed := true, recurses := true, apart := false }
def LoneTellsSaid : Prop := loneTellsRow.holds Try.pinned (OpenSpec.ofChange loneTellsSpec)

/-- ITS FALSE NEIGHBOUR: 'it returns false'. Refute it at one input. -/
def loneTellsWrong : ChangeSpec := { name := "loneTells", fn := fun _ => fun
  | [d1, d2, d3] => { results := [.lit (.bool false)], args := [d1, d2, d3] }
  | _ => none }
def LoneTellsWrongFalsely : Prop := loneTellsRow.holds Try.pinned (OpenSpec.ofChange loneTellsWrong)

/- THE SECOND FORM. 'bulk': how many values and letters a reading holds, each counted each time it is reached (what is shared counts as often as it is met; a slice's spare places count too). A statement '..UptoSaid' is the law's where the arguments, and the package variables that the reading takes, are together of bulk at most 1048576: NARROWER than '..Said'. Prove '..Said' where nothing that the law and all that it calls make is longer than what came in: it says more and counts as full. Else prove '..UptoSaid'. A law counts once. -/
mutual
def uptoBulk {H : Type} : DataW H → Nat
  | .lit (.string bytes) => bytes.length + 1
  | .lit _ => 1
  | .nil => 1
  | .ptr d => uptoBulk d + 1
  | .slice elems spare => uptoBulkAll elems + uptoBulkAll spare + 1
  | .agg parts => uptoBulkAll parts + 1
  | .iface _ d => uptoBulk d + 1
  | .map entries => uptoBulkEntries entries + 1
  | .held _ => 1
def uptoBulkAll {H : Type} : List (DataW H) → Nat
  | [] => 0
  | d :: r => uptoBulk d + uptoBulkAll r
def uptoBulkEntries {H : Type} : List (Lit × DataW H) → Nat
  | [] => 0
  | x :: r => uptoBulkEntry x + uptoBulkEntries r
def uptoBulkEntry {H : Type} : Lit × DataW H → Nat
  | (.string bytes, d) => bytes.length + uptoBulk d + 1
  | (_, d) => uptoBulk d + 1
 end
def uptoSmall : (H : Type) → List (DataW H) → Bool := fun _ ds => decide (uptoBulkAll ds ≤ 1048576)
def OpenSpec.upto (s : _root_.Go.ChangeSpec) : _root_.Go.OpenSpec := { _root_.Go.OpenSpec.ofChange s with cond := some uptoSmall }

/-- 'waywiserlaw01.BoundHolds', WHERE WHAT IT READS IS OF BULK AT MOST 1048576: true; the input reads as it did. -/
def boundHoldsUptoRow : OpenClaim := { program := "ytmepenlhjekppaa", sum := "f53e7ab037a8615ff931a599ffd20c52c36d8dd131bafbfbad9d44a372131c3b", func := "waywiser/waywiserlaw01.BoundHolds", spec := "boundHolds", apart := false, narrowed := true }
def BoundHoldsUptoSaid : Prop := boundHoldsUptoRow.holds Try.pinned (OpenSpec.upto boundHoldsSpec)

/-- 'waywiserlaw01.BoundTells', WHERE WHAT IT READS IS OF BULK AT MOST 1048576: true; the input reads as it did. -/
def boundTellsUptoRow : OpenClaim := { program := "ytmepenlhjekppaa", sum := "f53e7ab037a8615ff931a599ffd20c52c36d8dd131bafbfbad9d44a372131c3b", func := "waywiser/waywiserlaw01.BoundTells", spec := "boundTells", apart := false, narrowed := true }
def BoundTellsUptoSaid : Prop := boundTellsUptoRow.holds Try.pinned (OpenSpec.upto boundTellsSpec)

/-- 'waywiserlaw06.LoneMetric', WHERE WHAT IT READS IS OF BULK AT MOST 1048576: true; the input reads as it did. -/
def loneMetricUptoRow : OpenClaim := { program := "ytmepenlhjekppaa", sum := "f53e7ab037a8615ff931a599ffd20c52c36d8dd131bafbfbad9d44a372131c3b", func := "waywiser/waywiserlaw06.LoneMetric", spec := "loneMetric", unfollowed := true, recurses := true, apart := false, narrowed := true }
def LoneMetricUptoSaid : Prop := loneMetricUptoRow.holds Try.pinned (OpenSpec.upto loneMetricSpec)

/-- 'waywiserlaw06.LoneTells', WHERE WHAT IT READS IS OF BULK AT MOST 1048576: true; the input reads as it did. -/
def loneTellsUptoRow : OpenClaim := { program := "ytmepenlhjekppaa", sum := "f53e7ab037a8615ff931a599ffd20c52c36d8dd131bafbfbad9d44a372131c3b", func := "waywiser/waywiserlaw06.LoneTells", spec := "loneTells", unfollowed := true, recurses := true, apart := false, narrowed := true }
def LoneTellsUptoSaid : Prop := loneTellsUptoRow.holds Try.pinned (OpenSpec.upto loneTellsSpec)

end Rows
end Go.Proofs.Ytmepenlhjekppaa
