/-
  DERIVED. GIVEN WITH THE SEED: THE CARDS: each row of YtagkobkmaigfcaaDoorRows.lean that lists a variable, with what it lists TIED to the program's text (the seventh form; the later family's looks); each row that meets fmt, with fmt's text TOLD by the authors' own Lean function (tested against real Go, not proved from fmt's source: count such statements apart). THE CARD IS WHAT COUNTS. Prove the row's statement (the work); the ties are given (YtagkobkmaigfcaaDoorTie.lean); close each card by the builder's one call (the guide's Derived/Test/ToyasCard.lean, 'card_holds'). Laid BY PROGRAM, IN A SANDBOX (cutbox-door.mjs). By AI agents, Wed Nov 11 2026. No macro, syntax, notation, axiom, sorry.
-/
import Derived.Test.YtagkobkmaigfcaaDoorRows
import GoSem.ClaimSeven
namespace Go.Proofs.YtagkobkmaigfcaaDoor
namespace Rows

/-- THE TIED CARD OF 'flowkeeperlaw.Reckoned'. -/
def reckonedCard : Claim7 := { stood := { row := reckonedRow, standIns := [], harness := (true, "44b435fabe188f15c3f191bca8e36e5a5c7d96e975a24257863b6b8f32d4b551"), looks := true }, kinds := [], alts := [], laidByText := true, laidKinds := [.data, .data], laidTests := true, laidLooks := .later }
def ReckonedCardSaid : Prop := Claim7.holds Tryd.pinned (.plain (OpenSpec.ofChange reckonedSpec)) reckonedCard

/-- THE TIED CARD OF 'flowkeeperlaw.Coded'. -/
def codedCard : Claim7 := { stood := { row := codedRow, standIns := [], harness := (true, "44b435fabe188f15c3f191bca8e36e5a5c7d96e975a24257863b6b8f32d4b551"), looks := true }, kinds := [], alts := [], laidByText := true, laidKinds := [.data, .data, .handle], laidTests := true, laidLooks := .later }
def CodedCardSaid : Prop := Claim7.holds Tryd.pinned (.plain (OpenSpec.ofChange codedSpec)) codedCard

/-- THE TIED CARD OF 'flowkeeperkeep.Returned'. -/
def returnedCard : Claim7 := { stood := { row := returnedRow, standIns := [], harness := (true, "44b435fabe188f15c3f191bca8e36e5a5c7d96e975a24257863b6b8f32d4b551"), looks := true }, kinds := [], alts := [], laidByText := true, laidKinds := [.data, .data, .handle], laidTests := true, laidLooks := .later }
def ReturnedCardSaid : Prop := Claim7.holds Tryd.pinned (.plain (OpenSpec.ofChange returnedSpec)) returnedCard

/-- THE TIED CARD OF 'flowkeeperlaw.Wheeled'. -/
def wheeledCard : Claim7 := { stood := { row := wheeledRow, standIns := [], harness := (true, "44b435fabe188f15c3f191bca8e36e5a5c7d96e975a24257863b6b8f32d4b551"), looks := true }, kinds := [], alts := [], laidByText := true, laidKinds := [.data, .handle], laidTests := true, laidLooks := .later }
def WheeledCardSaid : Prop := Claim7.holds Tryd.pinned (.plain (OpenSpec.ofChange wheeledSpec)) wheeledCard

/-- THE TIED CARD OF 'flowkeeperkeep.Alarmed'. -/
def alarmedCard : Claim7 := { stood := { row := alarmedRow, standIns := [], harness := (true, "44b435fabe188f15c3f191bca8e36e5a5c7d96e975a24257863b6b8f32d4b551"), looks := true }, kinds := [], alts := [], laidByText := true, laidKinds := [.data, .handle], laidTests := true, laidLooks := .later }
def AlarmedCardSaid : Prop := Claim7.holds Tryd.pinned (.plain (OpenSpec.ofChange alarmedSpec)) alarmedCard

/-- THE SECOND FORM's CARD OF 'flowkeeperlaw.Reckoned'. -/
def reckonedUptoCard : Claim7 := { stood := { row := reckonedUptoRow, standIns := [], harness := (true, "44b435fabe188f15c3f191bca8e36e5a5c7d96e975a24257863b6b8f32d4b551"), looks := true }, kinds := [], alts := [], laidByText := true, laidKinds := [.data, .data], laidTests := true, laidLooks := .later }
def ReckonedUptoCardSaid : Prop := Claim7.holds Tryd.pinned (.plain (OpenSpec.upto reckonedSpec)) reckonedUptoCard

/-- THE SECOND FORM's CARD OF 'flowkeeperlaw.Coded'. -/
def codedUptoCard : Claim7 := { stood := { row := codedUptoRow, standIns := [], harness := (true, "44b435fabe188f15c3f191bca8e36e5a5c7d96e975a24257863b6b8f32d4b551"), looks := true }, kinds := [], alts := [], laidByText := true, laidKinds := [.data, .data, .handle], laidTests := true, laidLooks := .later }
def CodedUptoCardSaid : Prop := Claim7.holds Tryd.pinned (.plain (OpenSpec.upto codedSpec)) codedUptoCard

/-- THE SECOND FORM's CARD OF 'flowkeeperkeep.Returned'. -/
def returnedUptoCard : Claim7 := { stood := { row := returnedUptoRow, standIns := [], harness := (true, "44b435fabe188f15c3f191bca8e36e5a5c7d96e975a24257863b6b8f32d4b551"), looks := true }, kinds := [], alts := [], laidByText := true, laidKinds := [.data, .data, .handle], laidTests := true, laidLooks := .later }
def ReturnedUptoCardSaid : Prop := Claim7.holds Tryd.pinned (.plain (OpenSpec.upto returnedSpec)) returnedUptoCard

/-- THE SECOND FORM's CARD OF 'flowkeeperlaw.Wheeled'. -/
def wheeledUptoCard : Claim7 := { stood := { row := wheeledUptoRow, standIns := [], harness := (true, "44b435fabe188f15c3f191bca8e36e5a5c7d96e975a24257863b6b8f32d4b551"), looks := true }, kinds := [], alts := [], laidByText := true, laidKinds := [.data, .handle], laidTests := true, laidLooks := .later }
def WheeledUptoCardSaid : Prop := Claim7.holds Tryd.pinned (.plain (OpenSpec.upto wheeledSpec)) wheeledUptoCard

/-- THE SECOND FORM's CARD OF 'flowkeeperkeep.Alarmed'. -/
def alarmedUptoCard : Claim7 := { stood := { row := alarmedUptoRow, standIns := [], harness := (true, "44b435fabe188f15c3f191bca8e36e5a5c7d96e975a24257863b6b8f32d4b551"), looks := true }, kinds := [], alts := [], laidByText := true, laidKinds := [.data, .handle], laidTests := true, laidLooks := .later }
def AlarmedUptoCardSaid : Prop := Claim7.holds Tryd.pinned (.plain (OpenSpec.upto alarmedSpec)) alarmedUptoCard
end Rows
end Go.Proofs.YtagkobkmaigfcaaDoor
