/-
  DERIVED. GIVEN WITH THE SEED: THE CARDS: each row of YtlkaipmhjgfkpaaDoorRows.lean that lists a variable, with what it lists TIED to the program's text (the seventh form; the later family's looks); each row that meets fmt, with fmt's text TOLD by the authors' own Lean function (tested against real Go, not proved from fmt's source: count such statements apart). THE CARD IS WHAT COUNTS. Prove the row's statement (the work); the ties are given (YtlkaipmhjgfkpaaDoorTie.lean); close each card by the builder's one call (the guide's Derived/Test/ToyasCard.lean, 'card_holds'). Laid BY PROGRAM, IN A SANDBOX (cutbox-door.mjs). By AI agents, Wed Nov 11 2026. No macro, syntax, notation, axiom, sorry.
-/
import Derived.Test.YtlkaipmhjgfkpaaDoorRows
import GoSem.ClaimSeven
namespace Go.Proofs.YtlkaipmhjgfkpaaDoor
namespace Rows

/-- THE TIED CARD OF 'waywiserlaw04.FaultWraps'. -/
def faultWrapsCard : Claim7 := { stood := { row := faultWrapsRow, standIns := [], harness := (true, "a3374aaef95944f62c1a89af15bd572fecaf413867f0df44c16ca7ee7070a7ed"), looks := true }, kinds := [], alts := [], laidByText := true, laidKinds := [.handle], laidTests := true, laidLooks := .later }
def FaultWrapsCardSaid : Prop := Claim7.holds Tryd.pinned (.plain (OpenSpec.ofChange faultWrapsSpec)) faultWrapsCard

/-- THE TIED CARD OF 'waywiserlaw04.FaultWhere'. -/
def faultWhereCard : Claim7 := { stood := { row := faultWhereRow, standIns := [], harness := (true, "a3374aaef95944f62c1a89af15bd572fecaf413867f0df44c16ca7ee7070a7ed"), looks := true }, kinds := [], alts := [], laidByText := true, laidKinds := [.handle], laidTests := true, laidLooks := .later }
def FaultWhereCardSaid : Prop := Claim7.holds Tryd.pinned (.plain (OpenSpec.ofChange faultWhereSpec)) faultWhereCard

/-- THE TIED CARD OF 'waywiserlaw04.FaultNone'. -/
def faultNoneCard : Claim7 := { stood := { row := faultNoneRow, standIns := [], harness := (true, "a3374aaef95944f62c1a89af15bd572fecaf413867f0df44c16ca7ee7070a7ed"), looks := true }, kinds := [], alts := [], laidByText := true, laidKinds := [.data, .data, .data, .handle], laidTests := true, laidLooks := .later }
def FaultNoneCardSaid : Prop := Claim7.holds Tryd.pinned (.plain (OpenSpec.ofChange faultNoneSpec)) faultNoneCard

/-- THE SECOND FORM's CARD OF 'waywiserlaw04.FaultWraps'. -/
def faultWrapsUptoCard : Claim7 := { stood := { row := faultWrapsUptoRow, standIns := [], harness := (true, "a3374aaef95944f62c1a89af15bd572fecaf413867f0df44c16ca7ee7070a7ed"), looks := true }, kinds := [], alts := [], laidByText := true, laidKinds := [.handle], laidTests := true, laidLooks := .later }
def FaultWrapsUptoCardSaid : Prop := Claim7.holds Tryd.pinned (.plain (OpenSpec.upto faultWrapsSpec)) faultWrapsUptoCard

/-- THE SECOND FORM's CARD OF 'waywiserlaw04.FaultWhere'. -/
def faultWhereUptoCard : Claim7 := { stood := { row := faultWhereUptoRow, standIns := [], harness := (true, "a3374aaef95944f62c1a89af15bd572fecaf413867f0df44c16ca7ee7070a7ed"), looks := true }, kinds := [], alts := [], laidByText := true, laidKinds := [.handle], laidTests := true, laidLooks := .later }
def FaultWhereUptoCardSaid : Prop := Claim7.holds Tryd.pinned (.plain (OpenSpec.upto faultWhereSpec)) faultWhereUptoCard

/-- THE SECOND FORM's CARD OF 'waywiserlaw04.FaultNone'. -/
def faultNoneUptoCard : Claim7 := { stood := { row := faultNoneUptoRow, standIns := [], harness := (true, "a3374aaef95944f62c1a89af15bd572fecaf413867f0df44c16ca7ee7070a7ed"), looks := true }, kinds := [], alts := [], laidByText := true, laidKinds := [.data, .data, .data, .handle], laidTests := true, laidLooks := .later }
def FaultNoneUptoCardSaid : Prop := Claim7.holds Tryd.pinned (.plain (OpenSpec.upto faultNoneSpec)) faultNoneUptoCard
end Rows
end Go.Proofs.YtlkaipmhjgfkpaaDoor
