/-
  DERIVED. GIVEN WITH THE SEED: THE CARDS: each row of YtkckgjpkkbkkgaaGreatDoorRows.lean that lists a variable, with what it lists TIED to the program's text (the seventh form; the later family's looks); each row that meets fmt, with fmt's text TOLD by the authors' own Lean function (tested against real Go, not proved from fmt's source: count such statements apart). THE CARD IS WHAT COUNTS. Prove the row's statement (the work); the ties are given (YtkckgjpkkbkkgaaGreatDoorTie.lean); close each card by the builder's one call (the guide's Derived/Test/ToyasCard.lean, 'card_holds'). Laid BY PROGRAM, IN A SANDBOX (cutbox-door.mjs). By AI agents, Wed Nov 11 2026. No macro, syntax, notation, axiom, sorry.
-/
import Derived.Test.YtkckgjpkkbkkgaaGreatDoorRows
import GoSem.ClaimSeven
namespace Go.Proofs.YtkckgjpkkbkkgaaGreatDoor
namespace Rows

/-- THE TIED CARD OF 'flowkeeperkeep.Compacted'. -/
def compactedCard : Claim7 := { stood := { row := compactedRow, standIns := [], harness := (true, "51ebcca9ff617b3c9d4488c105823437d25fe98dd347fc99bcd2d8b11001fd8d"), looks := true }, kinds := [], alts := [], laidByText := true, laidKinds := [.data, .data, .data, .handle, .sentinel, .sentinel], laidTests := true, laidLooks := .later }
def CompactedCardSaid : Prop := Claim7.holds Tryz.pinned (.plain (OpenSpec.ofChange compactedSpec)) compactedCard

/-- THE SECOND FORM's CARD OF 'flowkeeperkeep.Compacted'. -/
def compactedUptoCard : Claim7 := { stood := { row := compactedUptoRow, standIns := [], harness := (true, "51ebcca9ff617b3c9d4488c105823437d25fe98dd347fc99bcd2d8b11001fd8d"), looks := true }, kinds := [], alts := [], laidByText := true, laidKinds := [.data, .data, .data, .handle, .sentinel, .sentinel], laidTests := true, laidLooks := .later }
def CompactedUptoCardSaid : Prop := Claim7.holds Tryz.pinned (.plain (OpenSpec.upto compactedSpec)) compactedUptoCard
end Rows
end Go.Proofs.YtkckgjpkkbkkgaaGreatDoor
