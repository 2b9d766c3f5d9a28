/-
  DERIVED. GIVEN WITH THE SEED: THE CARDS: each row of YtkejlnjnoiidnaaGreatDoorRows.lean that lists a variable, with what it lists TIED to the program's text (the seventh form; the later family's looks); each row that meets fmt, with fmt's text TOLD by the authors' own Lean function (tested against real Go, not proved from fmt's source: count such statements apart). THE CARD IS WHAT COUNTS. Prove the row's statement (the work); the ties are given (YtkejlnjnoiidnaaGreatDoorTie.lean); close each card by the builder's one call (the guide's Derived/Test/ToyasCard.lean, 'card_holds'). Laid BY PROGRAM, IN A SANDBOX (cutbox-door.mjs). By AI agents, Wed Nov 11 2026. No macro, syntax, notation, axiom, sorry.
-/
import Derived.Test.YtkejlnjnoiidnaaGreatDoorRows
import GoSem.ClaimSeven
namespace Go.Proofs.YtkejlnjnoiidnaaGreatDoor
namespace Rows

/-- THE TIED CARD OF 'packtrainlaw.OldWrites'. -/
def oldWritesCard : Claim7 := { stood := { row := oldWritesRow, standIns := [], harness := (true, "236879a01c3a747b7f63b00bb1d7bb00a14e093b0670c16ae7497d0c451931a9"), looks := true }, kinds := [], alts := [], laidByText := true, laidKinds := [.data, .data, .data, .handle], laidTests := true, laidLooks := .later }
def OldWritesCardSaid : Prop := Claim7.holds Tryz.pinned (.plain (OpenSpec.ofChange oldWritesSpec)) oldWritesCard

/-- THE TIED CARD OF 'packtrainlaw.FrameWrites'. -/
def frameWritesCard : Claim7 := { stood := { row := frameWritesRow, standIns := [], harness := (true, "236879a01c3a747b7f63b00bb1d7bb00a14e093b0670c16ae7497d0c451931a9"), looks := true }, kinds := [], alts := [], laidByText := true, laidKinds := [.data, .data, .data, .handle], laidTests := true, laidLooks := .later }
def FrameWritesCardSaid : Prop := Claim7.holds Tryz.pinned (.plain (OpenSpec.ofChange frameWritesSpec)) frameWritesCard

/-- THE TIED CARD OF 'packtrainlaw.OldReads'. -/
def oldReadsCard : Claim7 := { stood := { row := oldReadsRow, standIns := [], harness := (true, "236879a01c3a747b7f63b00bb1d7bb00a14e093b0670c16ae7497d0c451931a9"), looks := true }, kinds := [], alts := [], laidByText := true, laidKinds := [.data, .data, .data, .handle], laidTests := true, laidLooks := .later }
def OldReadsCardSaid : Prop := Claim7.holds Tryz.pinned (.plain (OpenSpec.ofChange oldReadsSpec)) oldReadsCard

/-- THE TIED CARD OF 'packtrainlaw.FrameReads'. -/
def frameReadsCard : Claim7 := { stood := { row := frameReadsRow, standIns := [], harness := (true, "236879a01c3a747b7f63b00bb1d7bb00a14e093b0670c16ae7497d0c451931a9"), looks := true }, kinds := [], alts := [], laidByText := true, laidKinds := [.data, .data, .data, .handle], laidTests := true, laidLooks := .later }
def FrameReadsCardSaid : Prop := Claim7.holds Tryz.pinned (.plain (OpenSpec.ofChange frameReadsSpec)) frameReadsCard

/-- THE TIED CARD OF 'packtrainlaw.OldLifts'. -/
def oldLiftsCard : Claim7 := { stood := { row := oldLiftsRow, standIns := [], harness := (true, "236879a01c3a747b7f63b00bb1d7bb00a14e093b0670c16ae7497d0c451931a9"), looks := true }, kinds := [], alts := [], laidByText := true, laidKinds := [.data, .data, .data, .handle], laidTests := true, laidLooks := .later }
def OldLiftsCardSaid : Prop := Claim7.holds Tryz.pinned (.plain (OpenSpec.ofChange oldLiftsSpec)) oldLiftsCard

/-- THE SECOND FORM's CARD OF 'packtrainlaw.OldWrites'. -/
def oldWritesUptoCard : Claim7 := { stood := { row := oldWritesUptoRow, standIns := [], harness := (true, "236879a01c3a747b7f63b00bb1d7bb00a14e093b0670c16ae7497d0c451931a9"), looks := true }, kinds := [], alts := [], laidByText := true, laidKinds := [.data, .data, .data, .handle], laidTests := true, laidLooks := .later }
def OldWritesUptoCardSaid : Prop := Claim7.holds Tryz.pinned (.plain (OpenSpec.upto oldWritesSpec)) oldWritesUptoCard

/-- THE SECOND FORM's CARD OF 'packtrainlaw.FrameWrites'. -/
def frameWritesUptoCard : Claim7 := { stood := { row := frameWritesUptoRow, standIns := [], harness := (true, "236879a01c3a747b7f63b00bb1d7bb00a14e093b0670c16ae7497d0c451931a9"), looks := true }, kinds := [], alts := [], laidByText := true, laidKinds := [.data, .data, .data, .handle], laidTests := true, laidLooks := .later }
def FrameWritesUptoCardSaid : Prop := Claim7.holds Tryz.pinned (.plain (OpenSpec.upto frameWritesSpec)) frameWritesUptoCard

/-- THE SECOND FORM's CARD OF 'packtrainlaw.OldReads'. -/
def oldReadsUptoCard : Claim7 := { stood := { row := oldReadsUptoRow, standIns := [], harness := (true, "236879a01c3a747b7f63b00bb1d7bb00a14e093b0670c16ae7497d0c451931a9"), looks := true }, kinds := [], alts := [], laidByText := true, laidKinds := [.data, .data, .data, .handle], laidTests := true, laidLooks := .later }
def OldReadsUptoCardSaid : Prop := Claim7.holds Tryz.pinned (.plain (OpenSpec.upto oldReadsSpec)) oldReadsUptoCard

/-- THE SECOND FORM's CARD OF 'packtrainlaw.FrameReads'. -/
def frameReadsUptoCard : Claim7 := { stood := { row := frameReadsUptoRow, standIns := [], harness := (true, "236879a01c3a747b7f63b00bb1d7bb00a14e093b0670c16ae7497d0c451931a9"), looks := true }, kinds := [], alts := [], laidByText := true, laidKinds := [.data, .data, .data, .handle], laidTests := true, laidLooks := .later }
def FrameReadsUptoCardSaid : Prop := Claim7.holds Tryz.pinned (.plain (OpenSpec.upto frameReadsSpec)) frameReadsUptoCard

/-- THE SECOND FORM's CARD OF 'packtrainlaw.OldLifts'. -/
def oldLiftsUptoCard : Claim7 := { stood := { row := oldLiftsUptoRow, standIns := [], harness := (true, "236879a01c3a747b7f63b00bb1d7bb00a14e093b0670c16ae7497d0c451931a9"), looks := true }, kinds := [], alts := [], laidByText := true, laidKinds := [.data, .data, .data, .handle], laidTests := true, laidLooks := .later }
def OldLiftsUptoCardSaid : Prop := Claim7.holds Tryz.pinned (.plain (OpenSpec.upto oldLiftsSpec)) oldLiftsUptoCard
end Rows
end Go.Proofs.YtkejlnjnoiidnaaGreatDoor
