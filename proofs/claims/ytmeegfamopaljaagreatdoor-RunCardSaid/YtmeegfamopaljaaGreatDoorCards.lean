/-
  DERIVED. GIVEN WITH THE SEED: THE CARDS: each row of YtmeegfamopaljaaGreatDoorRows.lean that lists a variable, with what it lists TIED to the program's text (the seventh form; the later family's looks); each row that meets fmt, with fmt's text TOLD by the authors' own Lean function (tested against real Go, not proved from fmt's source: count such statements apart). THE CARD IS WHAT COUNTS. Prove the row's statement (the work); the ties are given (YtmeegfamopaljaaGreatDoorTie.lean); close each card by the builder's one call (the guide's Derived/Test/ToyasCard.lean, 'card_holds'). Laid BY PROGRAM, IN A SANDBOX (cutbox-door.mjs). By AI agents, Wed Nov 11 2026. No macro, syntax, notation, axiom, sorry.
-/
import Derived.Test.YtmeegfamopaljaaGreatDoorRows
import GoSem.ClaimSeven
namespace Go.Proofs.YtmeegfamopaljaaGreatDoor
namespace Rows

/-- THE TIED CARD OF 'flowkeeperlaw.Fallen'. -/
def fallenCard : Claim7 := { stood := { row := fallenRow, standIns := [], harness := (true, "cc20c25d1d0b3d75b55296d6e567a05151b16d4a7558052adc687ed13bb4b22c"), looks := true }, kinds := [], alts := [], goes := true, laidByText := true, laidKinds := [.data, .data, .data, .handle, .sentinel, .sentinel], laidTests := true, laidLooks := .later }
def FallenCardSaid : Prop := Claim7.holds Tryz.pinned (.plain (OpenSpec.ofChange fallenSpec)) fallenCard

/-- THE TIED CARD OF 'flowkeeperlaw.All'. -/
def allCard : Claim7 := { stood := { row := allRow, standIns := [], harness := (true, "cc20c25d1d0b3d75b55296d6e567a05151b16d4a7558052adc687ed13bb4b22c"), looks := true }, kinds := [], alts := [], goes := true, laidByText := true, laidKinds := [.data, .data, .data, .handle, .sentinel, .sentinel], laidTests := true, laidLooks := .later }
def AllCardSaid : Prop := Claim7.holds Tryz.pinned (.plain (OpenSpec.ofChange allSpec)) allCard

/-- THE TIED CARD OF 'flowkeeperkeep.Honest'. -/
def honestCard : Claim7 := { stood := { row := honestRow, standIns := [], harness := (true, "cc20c25d1d0b3d75b55296d6e567a05151b16d4a7558052adc687ed13bb4b22c"), looks := true }, kinds := [], alts := [], goes := true, laidByText := true, laidKinds := [.data, .data, .data, .handle, .sentinel, .sentinel], laidTests := true, laidLooks := .later }
def HonestCardSaid : Prop := Claim7.holds Tryz.pinned (.plain (OpenSpec.ofChange honestSpec)) honestCard

/-- THE TIED CARD OF 'flowkeeperkeep.Fifo'. -/
def fifoCard : Claim7 := { stood := { row := fifoRow, standIns := [], harness := (true, "cc20c25d1d0b3d75b55296d6e567a05151b16d4a7558052adc687ed13bb4b22c"), looks := true }, kinds := [], alts := [], goes := true, laidByText := true, laidKinds := [.data, .data, .data, .handle, .sentinel, .sentinel], laidTests := true, laidLooks := .later }
def FifoCardSaid : Prop := Claim7.holds Tryz.pinned (.plain (OpenSpec.ofChange fifoSpec)) fifoCard

/-- THE TIED CARD OF 'flowkeeperlaw.Served'. -/
def servedCard : Claim7 := { stood := { row := servedRow, standIns := [], harness := (true, "cc20c25d1d0b3d75b55296d6e567a05151b16d4a7558052adc687ed13bb4b22c"), looks := true }, kinds := [], alts := [], goes := true, laidByText := true, laidKinds := [.data, .data, .data, .handle, .sentinel, .sentinel], laidTests := true, laidLooks := .later }
def ServedCardSaid : Prop := Claim7.holds Tryz.pinned (.plain (OpenSpec.ofChange servedSpec)) servedCard

/-- THE TIED CARD OF 'flowkeeperkeep.Ends'. -/
def endsCard : Claim7 := { stood := { row := endsRow, standIns := [], harness := (true, "cc20c25d1d0b3d75b55296d6e567a05151b16d4a7558052adc687ed13bb4b22c"), looks := true }, kinds := [], alts := [], goes := true, laidByText := true, laidKinds := [.data, .data, .data, .handle, .sentinel, .sentinel], laidTests := true, laidLooks := .later }
def EndsCardSaid : Prop := Claim7.holds Tryz.pinned (.plain (OpenSpec.ofChange endsSpec)) endsCard

/-- THE TIED CARD OF 'flowkeeperkeep.Compacted'. -/
def compactedCard : Claim7 := { stood := { row := compactedRow, standIns := [], harness := (true, "cc20c25d1d0b3d75b55296d6e567a05151b16d4a7558052adc687ed13bb4b22c"), looks := true }, kinds := [], alts := [], goes := true, laidByText := true, laidKinds := [.data, .data, .data, .handle, .sentinel, .sentinel], laidTests := true, laidLooks := .later }
def CompactedCardSaid : Prop := Claim7.holds Tryz.pinned (.plain (OpenSpec.ofChange compactedSpec)) compactedCard

/-- THE TIED CARD OF 'flowkeeperlaw.Run'. -/
def runCard : Claim7 := { stood := { row := runRow, standIns := [], harness := (true, "cc20c25d1d0b3d75b55296d6e567a05151b16d4a7558052adc687ed13bb4b22c"), looks := true }, kinds := [], alts := [], goes := true, laidByText := true, laidKinds := [.data, .data, .data, .handle, .sentinel, .sentinel], laidTests := true, laidLooks := .later }
def RunCardSaid : Prop := Claim7.holds Tryz.pinned (.plain (OpenSpec.ofChange runSpec)) runCard

/-- THE TIED CARD OF 'flowkeeperlaw.Kept'. -/
def keptCard : Claim7 := { stood := { row := keptRow, standIns := [], harness := (true, "cc20c25d1d0b3d75b55296d6e567a05151b16d4a7558052adc687ed13bb4b22c"), looks := true }, kinds := [], alts := [], goes := true, laidByText := true, laidKinds := [.data, .data, .data, .handle, .sentinel, .sentinel], laidTests := true, laidLooks := .later }
def KeptCardSaid : Prop := Claim7.holds Tryz.pinned (.plain (OpenSpec.ofChange keptSpec)) keptCard

/-- THE SECOND FORM's CARD OF 'flowkeeperlaw.Fallen'. -/
def fallenUptoCard : Claim7 := { stood := { row := fallenUptoRow, standIns := [], harness := (true, "cc20c25d1d0b3d75b55296d6e567a05151b16d4a7558052adc687ed13bb4b22c"), looks := true }, kinds := [], alts := [], goes := true, laidByText := true, laidKinds := [.data, .data, .data, .handle, .sentinel, .sentinel], laidTests := true, laidLooks := .later }
def FallenUptoCardSaid : Prop := Claim7.holds Tryz.pinned (.plain (OpenSpec.upto fallenSpec)) fallenUptoCard

/-- THE SECOND FORM's CARD OF 'flowkeeperlaw.All'. -/
def allUptoCard : Claim7 := { stood := { row := allUptoRow, standIns := [], harness := (true, "cc20c25d1d0b3d75b55296d6e567a05151b16d4a7558052adc687ed13bb4b22c"), looks := true }, kinds := [], alts := [], goes := true, laidByText := true, laidKinds := [.data, .data, .data, .handle, .sentinel, .sentinel], laidTests := true, laidLooks := .later }
def AllUptoCardSaid : Prop := Claim7.holds Tryz.pinned (.plain (OpenSpec.upto allSpec)) allUptoCard

/-- THE SECOND FORM's CARD OF 'flowkeeperkeep.Honest'. -/
def honestUptoCard : Claim7 := { stood := { row := honestUptoRow, standIns := [], harness := (true, "cc20c25d1d0b3d75b55296d6e567a05151b16d4a7558052adc687ed13bb4b22c"), looks := true }, kinds := [], alts := [], goes := true, laidByText := true, laidKinds := [.data, .data, .data, .handle, .sentinel, .sentinel], laidTests := true, laidLooks := .later }
def HonestUptoCardSaid : Prop := Claim7.holds Tryz.pinned (.plain (OpenSpec.upto honestSpec)) honestUptoCard

/-- THE SECOND FORM's CARD OF 'flowkeeperkeep.Fifo'. -/
def fifoUptoCard : Claim7 := { stood := { row := fifoUptoRow, standIns := [], harness := (true, "cc20c25d1d0b3d75b55296d6e567a05151b16d4a7558052adc687ed13bb4b22c"), looks := true }, kinds := [], alts := [], goes := true, laidByText := true, laidKinds := [.data, .data, .data, .handle, .sentinel, .sentinel], laidTests := true, laidLooks := .later }
def FifoUptoCardSaid : Prop := Claim7.holds Tryz.pinned (.plain (OpenSpec.upto fifoSpec)) fifoUptoCard

/-- THE SECOND FORM's CARD OF 'flowkeeperlaw.Served'. -/
def servedUptoCard : Claim7 := { stood := { row := servedUptoRow, standIns := [], harness := (true, "cc20c25d1d0b3d75b55296d6e567a05151b16d4a7558052adc687ed13bb4b22c"), looks := true }, kinds := [], alts := [], goes := true, laidByText := true, laidKinds := [.data, .data, .data, .handle, .sentinel, .sentinel], laidTests := true, laidLooks := .later }
def ServedUptoCardSaid : Prop := Claim7.holds Tryz.pinned (.plain (OpenSpec.upto servedSpec)) servedUptoCard

/-- THE SECOND FORM's CARD OF 'flowkeeperkeep.Ends'. -/
def endsUptoCard : Claim7 := { stood := { row := endsUptoRow, standIns := [], harness := (true, "cc20c25d1d0b3d75b55296d6e567a05151b16d4a7558052adc687ed13bb4b22c"), looks := true }, kinds := [], alts := [], goes := true, laidByText := true, laidKinds := [.data, .data, .data, .handle, .sentinel, .sentinel], laidTests := true, laidLooks := .later }
def EndsUptoCardSaid : Prop := Claim7.holds Tryz.pinned (.plain (OpenSpec.upto endsSpec)) endsUptoCard

/-- THE SECOND FORM's CARD OF 'flowkeeperkeep.Compacted'. -/
def compactedUptoCard : Claim7 := { stood := { row := compactedUptoRow, standIns := [], harness := (true, "cc20c25d1d0b3d75b55296d6e567a05151b16d4a7558052adc687ed13bb4b22c"), looks := true }, kinds := [], alts := [], goes := true, laidByText := true, laidKinds := [.data, .data, .data, .handle, .sentinel, .sentinel], laidTests := true, laidLooks := .later }
def CompactedUptoCardSaid : Prop := Claim7.holds Tryz.pinned (.plain (OpenSpec.upto compactedSpec)) compactedUptoCard

/-- THE SECOND FORM's CARD OF 'flowkeeperlaw.Run'. -/
def runUptoCard : Claim7 := { stood := { row := runUptoRow, standIns := [], harness := (true, "cc20c25d1d0b3d75b55296d6e567a05151b16d4a7558052adc687ed13bb4b22c"), looks := true }, kinds := [], alts := [], goes := true, laidByText := true, laidKinds := [.data, .data, .data, .handle, .sentinel, .sentinel], laidTests := true, laidLooks := .later }
def RunUptoCardSaid : Prop := Claim7.holds Tryz.pinned (.plain (OpenSpec.upto runSpec)) runUptoCard

/-- THE SECOND FORM's CARD OF 'flowkeeperlaw.Kept'. -/
def keptUptoCard : Claim7 := { stood := { row := keptUptoRow, standIns := [], harness := (true, "cc20c25d1d0b3d75b55296d6e567a05151b16d4a7558052adc687ed13bb4b22c"), looks := true }, kinds := [], alts := [], goes := true, laidByText := true, laidKinds := [.data, .data, .data, .handle, .sentinel, .sentinel], laidTests := true, laidLooks := .later }
def KeptUptoCardSaid : Prop := Claim7.holds Tryz.pinned (.plain (OpenSpec.upto keptSpec)) keptUptoCard
end Rows
end Go.Proofs.YtmeegfamopaljaaGreatDoor
