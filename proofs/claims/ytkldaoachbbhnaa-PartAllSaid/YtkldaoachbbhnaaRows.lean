/-
  No cell of these rows narrows 'for every input' (looked for: loops, veiled, ifaces, maps, wideKeys, modest, calm, conditions, laid).
  DERIVED. THE GIVEN ROWS OF THIS SEAT. 3 by the template 'for every input the law returns true; each argument reads behind the call as it read before'; 0 by the template 'total and deterministic' (their statements: YtkldaoachbbhnaaTotals.lean).
  GIVEN WITH THE SEED: the statements are not yours to turn. If you find one false, say at which input.
  Laid BY PROGRAM, IN A SANDBOX (cutbox-rows.mjs): the forced cells as the released guide's own fill.sh prints them over the translation 50b181e51e982d19… (all of the seat's roots in one cut). By AI agents, Wed Nov 11 2026. No macro, syntax, notation, axiom, sorry.
-/
import Derived.Test.YtkldaoachbbhnaaChecked
import GoSem.Claim
import GoSem.ClaimJoined
import GoSem.ClaimMapViews
import Derived.JoinedTies
import Derived.KernelRfl
namespace Go.Proofs.Ytkldaoachbbhnaa
/- THE CELL 'sum', in the pinned program and in every row, IS THE sha256 OF THE DUMP (.gsa) THAT YtkldaoachbbhnaaProg.lean LOADS. Nothing in Lean hashes anything: it is a label: what it is worth is what the hold of that sum in a sandbox is worth. -/
noncomputable def Try.pinned : Pinned := { name := "ytkldaoachbbhnaa", sum := "50b181e51e982d196636f1a953bdcfbd27897010374118bd7c7fc50ae7adf020", checked := Try.checked }
namespace Rows
def none {H : Type} : Left H := { results := [], args := [] }

/-- 'waywiserlaw25.PartDivides': WHATEVER THE INPUT: true; the input reads as it did. -/
def partDividesSpec : ChangeSpec := { name := "partDivides", fn := fun _ => fun
  | [d1, d2, d3] => { results := [.lit (.bool true)], args := [d1, d2, d3] }
  | _ => none }
def partDividesRow : OpenClaim := { program := "ytkldaoachbbhnaa", sum := "50b181e51e982d196636f1a953bdcfbd27897010374118bd7c7fc50ae7adf020", func := "waywiser/waywiserlaw25.PartDivides", spec := "partDivides", recurses := true, apart := false }
def PartDividesSaid : Prop := partDividesRow.holds Try.pinned (OpenSpec.ofChange partDividesSpec)

/-- ITS FALSE NEIGHBOUR: 'it returns false'. Refute it at one input. -/
def partDividesWrong : ChangeSpec := { name := "partDivides", fn := fun _ => fun
  | [d1, d2, d3] => { results := [.lit (.bool false)], args := [d1, d2, d3] }
  | _ => none }
def PartDividesWrongFalsely : Prop := partDividesRow.holds Try.pinned (OpenSpec.ofChange partDividesWrong)

/-- 'waywiserlaw25.PartPromotes': WHATEVER THE INPUT: true; the input reads as it did. -/
def partPromotesSpec : ChangeSpec := { name := "partPromotes", fn := fun _ => fun
  | [d] => { results := [.lit (.bool true)], args := [d] }
  | _ => none }
def partPromotesRow : OpenClaim := { program := "ytkldaoachbbhnaa", sum := "50b181e51e982d196636f1a953bdcfbd27897010374118bd7c7fc50ae7adf020", func := "waywiser/waywiserlaw25.PartPromotes", spec := "partPromotes", recurses := true, apart := false }
def PartPromotesSaid : Prop := partPromotesRow.holds Try.pinned (OpenSpec.ofChange partPromotesSpec)

/-- ITS FALSE NEIGHBOUR: 'it returns false'. Refute it at one input. -/
def partPromotesWrong : ChangeSpec := { name := "partPromotes", fn := fun _ => fun
  | [d] => { results := [.lit (.bool false)], args := [d] }
  | _ => none }
def PartPromotesWrongFalsely : Prop := partPromotesRow.holds Try.pinned (OpenSpec.ofChange partPromotesWrong)

/-- 'waywiserlaw25.PartAll': WHATEVER THE INPUT: true; the input reads as it did. -/
def partAllSpec : ChangeSpec := { name := "partAll", fn := fun _ => fun
  | [d] => { results := [.lit (.bool true)], args := [d] }
  | _ => none }
def partAllRow : OpenClaim := { program := "ytkldaoachbbhnaa", sum := "50b181e51e982d196636f1a953bdcfbd27897010374118bd7c7fc50ae7adf020", func := "waywiser/waywiserlaw25.PartAll", spec := "partAll", recurses := true, apart := false }
def PartAllSaid : Prop := partAllRow.holds Try.pinned (OpenSpec.ofChange partAllSpec)

/-- ITS FALSE NEIGHBOUR: 'it returns false'. Refute it at one input. -/
def partAllWrong : ChangeSpec := { name := "partAll", fn := fun _ => fun
  | [d] => { results := [.lit (.bool false)], args := [d] }
  | _ => none }
def PartAllWrongFalsely : Prop := partAllRow.holds Try.pinned (OpenSpec.ofChange partAllWrong)

/- THE SECOND FORM. 'bulk': how many values and letters a reading holds, each counted each time it is reached (what is shared counts as often as it is met; a slice's spare places count too). A statement '..UptoSaid' is the law's where the arguments, and the package variables that the reading takes, are together of bulk at most 1048576: NARROWER than '..Said'. Prove '..Said' where nothing that the law and all that it calls make is longer than what came in: it says more and counts as full. Else prove '..UptoSaid'. A law counts once. -/
mutual
def uptoBulk {H : Type} : DataW H → Nat
  | .lit (.string bytes) => bytes.length + 1
  | .lit _ => 1
  | .nil => 1
  | .ptr d => uptoBulk d + 1
  | .slice elems spare => uptoBulkAll elems + uptoBulkAll spare + 1
  | .agg parts => uptoBulkAll parts + 1
  | .iface _ d => uptoBulk d + 1
  | .map entries => uptoBulkEntries entries + 1
  | .held _ => 1
def uptoBulkAll {H : Type} : List (DataW H) → Nat
  | [] => 0
  | d :: r => uptoBulk d + uptoBulkAll r
def uptoBulkEntries {H : Type} : List (Lit × DataW H) → Nat
  | [] => 0
  | x :: r => uptoBulkEntry x + uptoBulkEntries r
def uptoBulkEntry {H : Type} : Lit × DataW H → Nat
  | (.string bytes, d) => bytes.length + uptoBulk d + 1
  | (_, d) => uptoBulk d + 1
 end
def uptoSmall : (H : Type) → List (DataW H) → Bool := fun _ ds => decide (uptoBulkAll ds ≤ 1048576)
def OpenSpec.upto (s : _root_.Go.ChangeSpec) : _root_.Go.OpenSpec := { _root_.Go.OpenSpec.ofChange s with cond := some uptoSmall }

/-- 'waywiserlaw25.PartDivides', WHERE WHAT IT READS IS OF BULK AT MOST 1048576: true; the input reads as it did. -/
def partDividesUptoRow : OpenClaim := { program := "ytkldaoachbbhnaa", sum := "50b181e51e982d196636f1a953bdcfbd27897010374118bd7c7fc50ae7adf020", func := "waywiser/waywiserlaw25.PartDivides", spec := "partDivides", recurses := true, apart := false, narrowed := true }
def PartDividesUptoSaid : Prop := partDividesUptoRow.holds Try.pinned (OpenSpec.upto partDividesSpec)

/-- 'waywiserlaw25.PartPromotes', WHERE WHAT IT READS IS OF BULK AT MOST 1048576: true; the input reads as it did. -/
def partPromotesUptoRow : OpenClaim := { program := "ytkldaoachbbhnaa", sum := "50b181e51e982d196636f1a953bdcfbd27897010374118bd7c7fc50ae7adf020", func := "waywiser/waywiserlaw25.PartPromotes", spec := "partPromotes", recurses := true, apart := false, narrowed := true }
def PartPromotesUptoSaid : Prop := partPromotesUptoRow.holds Try.pinned (OpenSpec.upto partPromotesSpec)

/-- 'waywiserlaw25.PartAll', WHERE WHAT IT READS IS OF BULK AT MOST 1048576: true; the input reads as it did. -/
def partAllUptoRow : OpenClaim := { program := "ytkldaoachbbhnaa", sum := "50b181e51e982d196636f1a953bdcfbd27897010374118bd7c7fc50ae7adf020", func := "waywiser/waywiserlaw25.PartAll", spec := "partAll", recurses := true, apart := false, narrowed := true }
def PartAllUptoSaid : Prop := partAllUptoRow.holds Try.pinned (OpenSpec.upto partAllSpec)

end Rows
end Go.Proofs.Ytkldaoachbbhnaa
