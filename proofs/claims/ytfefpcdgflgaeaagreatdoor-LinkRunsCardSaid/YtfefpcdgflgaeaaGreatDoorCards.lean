/-
  DERIVED. GIVEN WITH THE SEED: THE CARDS: each row of YtfefpcdgflgaeaaGreatDoorRows.lean that lists a variable, with what it lists TIED to the program's text (the seventh form; the later family's looks); each row that meets fmt, with fmt's text TOLD by the authors' own Lean function (tested against real Go, not proved from fmt's source: count such statements apart). THE CARD IS WHAT COUNTS. Prove the row's statement (the work); the ties are given (YtfefpcdgflgaeaaGreatDoorTie.lean); close each card by the builder's one call (the guide's Derived/Test/ToyasCard.lean, 'card_holds'). Laid BY PROGRAM, IN A SANDBOX (cutbox-door.mjs). By AI agents, Wed Nov 11 2026. No macro, syntax, notation, axiom, sorry.
-/
import Derived.Test.YtfefpcdgflgaeaaGreatDoorRows
import GoSem.ClaimSeven
namespace Go.Proofs.YtfefpcdgflgaeaaGreatDoor
namespace Rows

/-- THE TIED CARD OF 'packtrainlaw.RecvPlays'. -/
def recvPlaysCard : Claim7 := { stood := { row := recvPlaysRow, standIns := [], harness := (true, "abaed51e819643a3b05bc609b21793932e4c4a4126a0c6ecd52a8bf5dbbb0038"), looks := true }, kinds := [], alts := [], laidByText := true, laidKinds := [.data, .handle, .pinned], laidTests := true, laidLooks := .later }
def RecvPlaysCardSaid : Prop := Claim7.holds Tryz.pinned (.plain (OpenSpec.ofChange recvPlaysSpec)) recvPlaysCard

/-- THE TIED CARD OF 'packtrainlaw.LinkRuns'. -/
def linkRunsCard : Claim7 := { stood := { row := linkRunsRow, standIns := [], harness := (true, "abaed51e819643a3b05bc609b21793932e4c4a4126a0c6ecd52a8bf5dbbb0038"), looks := true }, kinds := [], alts := [], laidByText := true, laidKinds := [.data, .handle, .pinned], laidTests := true, laidLooks := .later }
def LinkRunsCardSaid : Prop := Claim7.holds Tryz.pinned (.plain (OpenSpec.ofChange linkRunsSpec)) linkRunsCard

/-- THE TIED CARD OF 'packtrainlaw.LinkPlays'. -/
def linkPlaysCard : Claim7 := { stood := { row := linkPlaysRow, standIns := [], harness := (true, "abaed51e819643a3b05bc609b21793932e4c4a4126a0c6ecd52a8bf5dbbb0038"), looks := true }, kinds := [], alts := [], laidByText := true, laidKinds := [.data, .handle, .pinned], laidTests := true, laidLooks := .later }
def LinkPlaysCardSaid : Prop := Claim7.holds Tryz.pinned (.plain (OpenSpec.ofChange linkPlaysSpec)) linkPlaysCard

/-- THE SECOND FORM's CARD OF 'packtrainlaw.RecvPlays'. -/
def recvPlaysUptoCard : Claim7 := { stood := { row := recvPlaysUptoRow, standIns := [], harness := (true, "abaed51e819643a3b05bc609b21793932e4c4a4126a0c6ecd52a8bf5dbbb0038"), looks := true }, kinds := [], alts := [], laidByText := true, laidKinds := [.data, .handle, .pinned], laidTests := true, laidLooks := .later }
def RecvPlaysUptoCardSaid : Prop := Claim7.holds Tryz.pinned (.plain (OpenSpec.upto recvPlaysSpec)) recvPlaysUptoCard

/-- THE SECOND FORM's CARD OF 'packtrainlaw.LinkRuns'. -/
def linkRunsUptoCard : Claim7 := { stood := { row := linkRunsUptoRow, standIns := [], harness := (true, "abaed51e819643a3b05bc609b21793932e4c4a4126a0c6ecd52a8bf5dbbb0038"), looks := true }, kinds := [], alts := [], laidByText := true, laidKinds := [.data, .handle, .pinned], laidTests := true, laidLooks := .later }
def LinkRunsUptoCardSaid : Prop := Claim7.holds Tryz.pinned (.plain (OpenSpec.upto linkRunsSpec)) linkRunsUptoCard

/-- THE SECOND FORM's CARD OF 'packtrainlaw.LinkPlays'. -/
def linkPlaysUptoCard : Claim7 := { stood := { row := linkPlaysUptoRow, standIns := [], harness := (true, "abaed51e819643a3b05bc609b21793932e4c4a4126a0c6ecd52a8bf5dbbb0038"), looks := true }, kinds := [], alts := [], laidByText := true, laidKinds := [.data, .handle, .pinned], laidTests := true, laidLooks := .later }
def LinkPlaysUptoCardSaid : Prop := Claim7.holds Tryz.pinned (.plain (OpenSpec.upto linkPlaysSpec)) linkPlaysUptoCard
end Rows
end Go.Proofs.YtfefpcdgflgaeaaGreatDoor
