/-
  DERIVED. GIVEN WITH THE SEED: THE CARDS: each row of YtnaclpfcldoebaaDoorRows.lean that lists a variable, with what it lists TIED to the program's text (the seventh form; the later family's looks); each row that meets fmt, with fmt's text TOLD by the authors' own Lean function (tested against real Go, not proved from fmt's source: count such statements apart). THE CARD IS WHAT COUNTS. Prove the row's statement (the work); the ties are given (YtnaclpfcldoebaaDoorTie.lean); close each card by the builder's one call (the guide's Derived/Test/ToyasCard.lean, 'card_holds'). Laid BY PROGRAM, IN A SANDBOX (cutbox-door.mjs). By AI agents, Wed Nov 11 2026. No macro, syntax, notation, axiom, sorry.
-/
import Derived.Test.YtnaclpfcldoebaaDoorRows
import GoSem.ClaimSeven
namespace Go.Proofs.YtnaclpfcldoebaaDoor
namespace Rows

/-- THE TIED CARD OF 'packtrainlaw.VectorReads'. -/
def vectorReadsCard : Claim7 := { stood := { row := vectorReadsRow, standIns := [], harness := (true, "71d03b759e57d2071db51d6be6e98314ab5c8c05725d183568a42a88be29f92a"), looks := true }, kinds := [], alts := [], laidByText := true, laidKinds := [.handle], laidTests := true, laidLooks := .later }
def VectorReadsCardSaid : Prop := Claim7.holds Tryd.pinned (.plain (OpenSpec.ofChange vectorReadsSpec)) vectorReadsCard

/-- THE TIED CARD OF 'packtrainlaw.LzReads'. -/
def lzReadsCard : Claim7 := { stood := { row := lzReadsRow, standIns := [], harness := (true, "71d03b759e57d2071db51d6be6e98314ab5c8c05725d183568a42a88be29f92a"), looks := true }, kinds := [], alts := [], laidByText := true, laidKinds := [.handle], laidTests := true, laidLooks := .later }
def LzReadsCardSaid : Prop := Claim7.holds Tryd.pinned (.plain (OpenSpec.ofChange lzReadsSpec)) lzReadsCard

/-- THE TIED CARD OF 'packtrainlaw.ChunkTurns'. -/
def chunkTurnsCard : Claim7 := { stood := { row := chunkTurnsRow, standIns := [], harness := (true, "71d03b759e57d2071db51d6be6e98314ab5c8c05725d183568a42a88be29f92a"), looks := true }, kinds := [], alts := [], laidByText := true, laidKinds := [.handle], laidTests := true, laidLooks := .later }
def ChunkTurnsCardSaid : Prop := Claim7.holds Tryd.pinned (.plain (OpenSpec.ofChange chunkTurnsSpec)) chunkTurnsCard

/-- THE TIED CARD OF 'packtrainlaw.WriteFills'. -/
def writeFillsCard : Claim7 := { stood := { row := writeFillsRow, standIns := [], harness := (true, "71d03b759e57d2071db51d6be6e98314ab5c8c05725d183568a42a88be29f92a"), looks := true }, kinds := [], alts := [], laidByText := true, laidKinds := [.data, .data, .data, .handle], laidTests := true, laidLooks := .later }
def WriteFillsCardSaid : Prop := Claim7.holds Tryd.pinned (.plain (OpenSpec.ofChange writeFillsSpec)) writeFillsCard

/-- THE TIED CARD OF 'packtrainlaw.BodyWrites'. -/
def bodyWritesCard : Claim7 := { stood := { row := bodyWritesRow, standIns := [], harness := (true, "71d03b759e57d2071db51d6be6e98314ab5c8c05725d183568a42a88be29f92a"), looks := true }, kinds := [], alts := [], laidByText := true, laidKinds := [.data, .data, .data, .handle], laidTests := true, laidLooks := .later }
def BodyWritesCardSaid : Prop := Claim7.holds Tryd.pinned (.plain (OpenSpec.ofChange bodyWritesSpec)) bodyWritesCard

/-- THE SECOND FORM's CARD OF 'packtrainlaw.VectorReads'. -/
def vectorReadsUptoCard : Claim7 := { stood := { row := vectorReadsUptoRow, standIns := [], harness := (true, "71d03b759e57d2071db51d6be6e98314ab5c8c05725d183568a42a88be29f92a"), looks := true }, kinds := [], alts := [], laidByText := true, laidKinds := [.handle], laidTests := true, laidLooks := .later }
def VectorReadsUptoCardSaid : Prop := Claim7.holds Tryd.pinned (.plain (OpenSpec.upto vectorReadsSpec)) vectorReadsUptoCard

/-- THE SECOND FORM's CARD OF 'packtrainlaw.LzReads'. -/
def lzReadsUptoCard : Claim7 := { stood := { row := lzReadsUptoRow, standIns := [], harness := (true, "71d03b759e57d2071db51d6be6e98314ab5c8c05725d183568a42a88be29f92a"), looks := true }, kinds := [], alts := [], laidByText := true, laidKinds := [.handle], laidTests := true, laidLooks := .later }
def LzReadsUptoCardSaid : Prop := Claim7.holds Tryd.pinned (.plain (OpenSpec.upto lzReadsSpec)) lzReadsUptoCard

/-- THE SECOND FORM's CARD OF 'packtrainlaw.ChunkTurns'. -/
def chunkTurnsUptoCard : Claim7 := { stood := { row := chunkTurnsUptoRow, standIns := [], harness := (true, "71d03b759e57d2071db51d6be6e98314ab5c8c05725d183568a42a88be29f92a"), looks := true }, kinds := [], alts := [], laidByText := true, laidKinds := [.handle], laidTests := true, laidLooks := .later }
def ChunkTurnsUptoCardSaid : Prop := Claim7.holds Tryd.pinned (.plain (OpenSpec.upto chunkTurnsSpec)) chunkTurnsUptoCard

/-- THE SECOND FORM's CARD OF 'packtrainlaw.WriteFills'. -/
def writeFillsUptoCard : Claim7 := { stood := { row := writeFillsUptoRow, standIns := [], harness := (true, "71d03b759e57d2071db51d6be6e98314ab5c8c05725d183568a42a88be29f92a"), looks := true }, kinds := [], alts := [], laidByText := true, laidKinds := [.data, .data, .data, .handle], laidTests := true, laidLooks := .later }
def WriteFillsUptoCardSaid : Prop := Claim7.holds Tryd.pinned (.plain (OpenSpec.upto writeFillsSpec)) writeFillsUptoCard

/-- THE SECOND FORM's CARD OF 'packtrainlaw.BodyWrites'. -/
def bodyWritesUptoCard : Claim7 := { stood := { row := bodyWritesUptoRow, standIns := [], harness := (true, "71d03b759e57d2071db51d6be6e98314ab5c8c05725d183568a42a88be29f92a"), looks := true }, kinds := [], alts := [], laidByText := true, laidKinds := [.data, .data, .data, .handle], laidTests := true, laidLooks := .later }
def BodyWritesUptoCardSaid : Prop := Claim7.holds Tryd.pinned (.plain (OpenSpec.upto bodyWritesSpec)) bodyWritesUptoCard
end Rows
end Go.Proofs.YtnaclpfcldoebaaDoor
