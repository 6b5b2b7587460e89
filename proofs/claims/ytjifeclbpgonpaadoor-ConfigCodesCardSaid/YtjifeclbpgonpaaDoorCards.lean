/-
  DERIVED. GIVEN WITH THE SEED: THE CARDS: each row of YtjifeclbpgonpaaDoorRows.lean that lists a variable, with what it lists TIED to the program's text (the seventh form; the later family's looks); each row that meets fmt, with fmt's text TOLD by the authors' own Lean function (tested against real Go, not proved from fmt's source: count such statements apart). THE CARD IS WHAT COUNTS. Prove the row's statement (the work); the ties are given (YtjifeclbpgonpaaDoorTie.lean); close each card by the builder's one call (the guide's Derived/Test/ToyasCard.lean, 'card_holds'). Laid BY PROGRAM, IN A SANDBOX (cutbox-door.mjs). By AI agents, Wed Nov 11 2026. No macro, syntax, notation, axiom, sorry.
-/
import Derived.Test.YtjifeclbpgonpaaDoorRows
import GoSem.ClaimSeven
namespace Go.Proofs.YtjifeclbpgonpaaDoor
namespace Rows

/-- THE TIED CARD OF 'waywiserlaw28.ConfigCodes'. -/
def configCodesCard : Claim7 := { stood := { row := configCodesRow, standIns := [], harness := (true, "8d7be8914b919138c7ea028fc46502e9ddd239957bc27ac00f5aa095756fbdc9"), looks := true }, kinds := [], alts := [], laidByText := true, laidKinds := [.handle], laidTests := true, laidLooks := .later }
def ConfigCodesCardSaid : Prop := Claim7.holds Tryd.pinned (.plain (OpenSpec.ofChange configCodesSpec)) configCodesCard

/-- THE TIED CARD OF 'waywiserlaw28.ConfigBack'. -/
def configBackCard : Claim7 := { stood := { row := configBackRow, standIns := [], harness := (true, "8d7be8914b919138c7ea028fc46502e9ddd239957bc27ac00f5aa095756fbdc9"), looks := true }, kinds := [], alts := [], laidByText := true, laidKinds := [.handle], laidTests := true, laidLooks := .later }
def ConfigBackCardSaid : Prop := Claim7.holds Tryd.pinned (.plain (OpenSpec.ofChange configBackSpec)) configBackCard

/-- THE SECOND FORM's CARD OF 'waywiserlaw28.ConfigCodes'. -/
def configCodesUptoCard : Claim7 := { stood := { row := configCodesUptoRow, standIns := [], harness := (true, "8d7be8914b919138c7ea028fc46502e9ddd239957bc27ac00f5aa095756fbdc9"), looks := true }, kinds := [], alts := [], laidByText := true, laidKinds := [.handle], laidTests := true, laidLooks := .later }
def ConfigCodesUptoCardSaid : Prop := Claim7.holds Tryd.pinned (.plain (OpenSpec.upto configCodesSpec)) configCodesUptoCard

/-- THE SECOND FORM's CARD OF 'waywiserlaw28.ConfigBack'. -/
def configBackUptoCard : Claim7 := { stood := { row := configBackUptoRow, standIns := [], harness := (true, "8d7be8914b919138c7ea028fc46502e9ddd239957bc27ac00f5aa095756fbdc9"), looks := true }, kinds := [], alts := [], laidByText := true, laidKinds := [.handle], laidTests := true, laidLooks := .later }
def ConfigBackUptoCardSaid : Prop := Claim7.holds Tryd.pinned (.plain (OpenSpec.upto configBackSpec)) configBackUptoCard
end Rows
end Go.Proofs.YtjifeclbpgonpaaDoor
