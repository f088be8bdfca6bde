/-
  DERIVED. GIVEN WITH THE SEED: THE CARDS: each row of YtnlkhnbbkjejkaaGreatDoorRows.lean that lists a variable, with what it lists TIED to the program's text (the seventh form; the later family's looks); each row that meets fmt, with fmt's text TOLD by the authors' own Lean function (tested against real Go, not proved from fmt's source: count such statements apart). THE CARD IS WHAT COUNTS. Prove the row's statement (the work); the ties are given (YtnlkhnbbkjejkaaGreatDoorTie.lean); close each card by the builder's one call (the guide's Derived/Test/ToyasCard.lean, 'card_holds'). Laid BY PROGRAM, IN A SANDBOX (cutbox-door.mjs). By AI agents, Wed Nov 11 2026. No macro, syntax, notation, axiom, sorry.
-/
import Derived.Test.YtnlkhnbbkjejkaaGreatDoorRows
import GoSem.ClaimSeven
namespace Go.Proofs.YtnlkhnbbkjejkaaGreatDoor
namespace Rows

/-- THE TIED CARD OF 'manorboylaw27.DebugBack'. -/
def debugBackCard : Claim7 := { stood := { row := debugBackRow, standIns := [], harness := (true, "b9d221a5538467b49d49f59b921574df3bfd342ab03e579db9dd30a506440e57"), looks := true }, kinds := [], alts := [], laidByText := true, laidKinds := [.data, .listed, .data, .data, .data, .pinned, .data, .data, .data], laidTests := true, laidLooks := .later }
def DebugBackCardSaid : Prop := Claim7.holds Tryz.pinned (.plain (OpenSpec.ofChange debugBackSpec)) debugBackCard

/-- THE SECOND FORM's CARD OF 'manorboylaw27.DebugBack'. -/
def debugBackUptoCard : Claim7 := { stood := { row := debugBackUptoRow, standIns := [], harness := (true, "b9d221a5538467b49d49f59b921574df3bfd342ab03e579db9dd30a506440e57"), looks := true }, kinds := [], alts := [], laidByText := true, laidKinds := [.data, .listed, .data, .data, .data, .pinned, .data, .data, .data], laidTests := true, laidLooks := .later }
def DebugBackUptoCardSaid : Prop := Claim7.holds Tryz.pinned (.plain (OpenSpec.upto debugBackSpec)) debugBackUptoCard
end Rows
end Go.Proofs.YtnlkhnbbkjejkaaGreatDoor
