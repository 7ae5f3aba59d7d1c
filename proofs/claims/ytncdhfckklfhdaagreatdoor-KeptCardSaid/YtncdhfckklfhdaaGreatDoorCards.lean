/-
  DERIVED. GIVEN WITH THE SEED: THE CARDS: each row of YtncdhfckklfhdaaGreatDoorRows.lean that lists a variable, with what it lists TIED to the program's text (the seventh form; the later family's looks); each row that meets fmt, with fmt's text TOLD by the authors' own Lean function (tested against real Go, not proved from fmt's source: count such statements apart). THE CARD IS WHAT COUNTS. Prove the row's statement (the work); the ties are given (YtncdhfckklfhdaaGreatDoorTie.lean); close each card by the builder's one call (the guide's Derived/Test/ToyasCard.lean, 'card_holds'). Laid BY PROGRAM, IN A SANDBOX (cutbox-door.mjs). By AI agents, Wed Nov 11 2026. No macro, syntax, notation, axiom, sorry.
-/
import Derived.Test.YtncdhfckklfhdaaGreatDoorRows
import GoSem.ClaimSeven
namespace Go.Proofs.YtncdhfckklfhdaaGreatDoor
namespace Rows

/-- THE TIED CARD OF 'flowkeeperlaw.Kept'. -/
def keptCard : Claim7 := { stood := { row := keptRow, standIns := [], harness := (true, "73a834dd3ed8ce0dec0cd929e7a54d6614d481ba3497fd2500e2e63cb5bb21ac"), looks := true }, kinds := [], alts := [], laidByText := true, laidKinds := [.data, .data, .data, .handle, .sentinel, .sentinel], laidTests := true, laidLooks := .later }
def KeptCardSaid : Prop := Claim7.holds Tryz.pinned (.plain (OpenSpec.ofChange keptSpec)) keptCard

/-- THE SECOND FORM's CARD OF 'flowkeeperlaw.Kept'. -/
def keptUptoCard : Claim7 := { stood := { row := keptUptoRow, standIns := [], harness := (true, "73a834dd3ed8ce0dec0cd929e7a54d6614d481ba3497fd2500e2e63cb5bb21ac"), looks := true }, kinds := [], alts := [], laidByText := true, laidKinds := [.data, .data, .data, .handle, .sentinel, .sentinel], laidTests := true, laidLooks := .later }
def KeptUptoCardSaid : Prop := Claim7.holds Tryz.pinned (.plain (OpenSpec.upto keptSpec)) keptUptoCard
end Rows
end Go.Proofs.YtncdhfckklfhdaaGreatDoor
