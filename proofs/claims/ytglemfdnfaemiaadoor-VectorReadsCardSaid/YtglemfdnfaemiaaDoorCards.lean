/-
  DERIVED. GIVEN WITH THE SEED: THE CARDS: each row of YtglemfdnfaemiaaDoorRows.lean that lists a variable, with what it lists TIED to the program's text (the seventh form; the later family's looks); each row that meets fmt, with fmt's text TOLD by the authors' own Lean function (tested against real Go, not proved from fmt's source: count such statements apart). THE CARD IS WHAT COUNTS. Prove the row's statement (the work); the ties are given (YtglemfdnfaemiaaDoorTie.lean); close each card by the builder's one call (the guide's Derived/Test/ToyasCard.lean, 'card_holds'). Laid BY PROGRAM, IN A SANDBOX (cutbox-door.mjs). By AI agents, Wed Nov 11 2026. No macro, syntax, notation, axiom, sorry.
-/
import Derived.Test.YtglemfdnfaemiaaDoorRows
import GoSem.ClaimSeven
namespace Go.Proofs.YtglemfdnfaemiaaDoor
namespace Rows

/-- THE TIED CARD OF 'packtrainlaw.VectorRights'. -/
def vectorRightsCard : Claim7 := { stood := { row := vectorRightsRow, standIns := [], harness := (true, "d5f51432c3e63b4aaa3ad40fe5316ad11011f6c10511779fdb8c84a31d299687"), looks := true }, kinds := [], alts := [], laidByText := true, laidKinds := [.handle], laidTests := true, laidLooks := .later }
def VectorRightsCardSaid : Prop := Claim7.holds Tryd.pinned (.plain (OpenSpec.ofChange vectorRightsSpec)) vectorRightsCard

/-- THE TIED CARD OF 'packtrainlaw.VaryInts'. -/
def varyIntsCard : Claim7 := { stood := { row := varyIntsRow, standIns := [], harness := (true, "d5f51432c3e63b4aaa3ad40fe5316ad11011f6c10511779fdb8c84a31d299687"), looks := true }, kinds := [], alts := [], laidByText := true, laidKinds := [.handle], laidTests := true, laidLooks := .later }
def VaryIntsCardSaid : Prop := Claim7.holds Tryd.pinned (.plain (OpenSpec.ofChange varyIntsSpec)) varyIntsCard

/-- THE TIED CARD OF 'packtrainlaw.CrcSeals'. -/
def crcSealsCard : Claim7 := { stood := { row := crcSealsRow, standIns := [], harness := (true, "d5f51432c3e63b4aaa3ad40fe5316ad11011f6c10511779fdb8c84a31d299687"), looks := true }, kinds := [], alts := [], laidByText := true, laidKinds := [.handle], laidTests := true, laidLooks := .later }
def CrcSealsCardSaid : Prop := Claim7.holds Tryd.pinned (.plain (OpenSpec.ofChange crcSealsSpec)) crcSealsCard

/-- THE TIED CARD OF 'packtrainlaw.KeysLists'. -/
def keysListsCard : Claim7 := { stood := { row := keysListsRow, standIns := [], harness := (true, "d5f51432c3e63b4aaa3ad40fe5316ad11011f6c10511779fdb8c84a31d299687"), looks := true }, kinds := [], alts := [], laidByText := true, laidKinds := [.handle], laidTests := true, laidLooks := .later }
def KeysListsCardSaid : Prop := Claim7.holds Tryd.pinned (.plain (OpenSpec.ofChange keysListsSpec)) keysListsCard

/-- THE TIED CARD OF 'packtrainlaw.MatchTexts'. -/
def matchTextsCard : Claim7 := { stood := { row := matchTextsRow, standIns := [], harness := (true, "d5f51432c3e63b4aaa3ad40fe5316ad11011f6c10511779fdb8c84a31d299687"), looks := true }, kinds := [], alts := [], laidByText := true, laidKinds := [.handle], laidTests := true, laidLooks := .later }
def MatchTextsCardSaid : Prop := Claim7.holds Tryd.pinned (.plain (OpenSpec.ofChange matchTextsSpec)) matchTextsCard

/-- THE TIED CARD OF 'packtrainlaw.VaryTurns'. -/
def varyTurnsCard : Claim7 := { stood := { row := varyTurnsRow, standIns := [], harness := (true, "d5f51432c3e63b4aaa3ad40fe5316ad11011f6c10511779fdb8c84a31d299687"), looks := true }, kinds := [], alts := [], laidByText := true, laidKinds := [.handle], laidTests := true, laidLooks := .later }
def VaryTurnsCardSaid : Prop := Claim7.holds Tryd.pinned (.plain (OpenSpec.ofChange varyTurnsSpec)) varyTurnsCard

/-- THE TIED CARD OF 'packtrainlaw.ChunkCuts'. -/
def chunkCutsCard : Claim7 := { stood := { row := chunkCutsRow, standIns := [], harness := (true, "d5f51432c3e63b4aaa3ad40fe5316ad11011f6c10511779fdb8c84a31d299687"), looks := true }, kinds := [], alts := [], laidByText := true, laidKinds := [.handle], laidTests := true, laidLooks := .later }
def ChunkCutsCardSaid : Prop := Claim7.holds Tryd.pinned (.plain (OpenSpec.ofChange chunkCutsSpec)) chunkCutsCard

/-- THE TIED CARD OF 'packtrainlaw.SpanAlls'. -/
def spanAllsCard : Claim7 := { stood := { row := spanAllsRow, standIns := [], harness := (true, "d5f51432c3e63b4aaa3ad40fe5316ad11011f6c10511779fdb8c84a31d299687"), looks := true }, kinds := [], alts := [], laidByText := true, laidKinds := [.handle], laidTests := true, laidLooks := .later }
def SpanAllsCardSaid : Prop := Claim7.holds Tryd.pinned (.plain (OpenSpec.ofChange spanAllsSpec)) spanAllsCard

/-- THE TIED CARD OF 'packtrainlaw.VectorWrites'. -/
def vectorWritesCard : Claim7 := { stood := { row := vectorWritesRow, standIns := [], harness := (true, "d5f51432c3e63b4aaa3ad40fe5316ad11011f6c10511779fdb8c84a31d299687"), looks := true }, kinds := [], alts := [], laidByText := true, laidKinds := [.handle], laidTests := true, laidLooks := .later }
def VectorWritesCardSaid : Prop := Claim7.holds Tryd.pinned (.plain (OpenSpec.ofChange vectorWritesSpec)) vectorWritesCard

/-- THE TIED CARD OF 'packtrainlaw.SpanTurns'. -/
def spanTurnsCard : Claim7 := { stood := { row := spanTurnsRow, standIns := [], harness := (true, "d5f51432c3e63b4aaa3ad40fe5316ad11011f6c10511779fdb8c84a31d299687"), looks := true }, kinds := [], alts := [], laidByText := true, laidKinds := [.handle], laidTests := true, laidLooks := .later }
def SpanTurnsCardSaid : Prop := Claim7.holds Tryd.pinned (.plain (OpenSpec.ofChange spanTurnsSpec)) spanTurnsCard

/-- THE TIED CARD OF 'packtrainlaw.VectorJoins'. -/
def vectorJoinsCard : Claim7 := { stood := { row := vectorJoinsRow, standIns := [], harness := (true, "d5f51432c3e63b4aaa3ad40fe5316ad11011f6c10511779fdb8c84a31d299687"), looks := true }, kinds := [], alts := [], laidByText := true, laidKinds := [.handle], laidTests := true, laidLooks := .later }
def VectorJoinsCardSaid : Prop := Claim7.holds Tryd.pinned (.plain (OpenSpec.ofChange vectorJoinsSpec)) vectorJoinsCard

/-- THE TIED CARD OF 'packtrainlaw.VectorReads'. -/
def vectorReadsCard : Claim7 := { stood := { row := vectorReadsRow, standIns := [], harness := (true, "d5f51432c3e63b4aaa3ad40fe5316ad11011f6c10511779fdb8c84a31d299687"), looks := true }, kinds := [], alts := [], laidByText := true, laidKinds := [.handle], laidTests := true, laidLooks := .later }
def VectorReadsCardSaid : Prop := Claim7.holds Tryd.pinned (.plain (OpenSpec.ofChange vectorReadsSpec)) vectorReadsCard

/-- THE TIED CARD OF 'packtrainlaw.LzReads'. -/
def lzReadsCard : Claim7 := { stood := { row := lzReadsRow, standIns := [], harness := (true, "d5f51432c3e63b4aaa3ad40fe5316ad11011f6c10511779fdb8c84a31d299687"), looks := true }, kinds := [], alts := [], laidByText := true, laidKinds := [.handle], laidTests := true, laidLooks := .later }
def LzReadsCardSaid : Prop := Claim7.holds Tryd.pinned (.plain (OpenSpec.ofChange lzReadsSpec)) lzReadsCard

/-- THE TIED CARD OF 'packtrainlaw.LzWrites'. -/
def lzWritesCard : Claim7 := { stood := { row := lzWritesRow, standIns := [], harness := (true, "d5f51432c3e63b4aaa3ad40fe5316ad11011f6c10511779fdb8c84a31d299687"), looks := true }, kinds := [], alts := [], laidByText := true, laidKinds := [.handle], laidTests := true, laidLooks := .later }
def LzWritesCardSaid : Prop := Claim7.holds Tryd.pinned (.plain (OpenSpec.ofChange lzWritesSpec)) lzWritesCard

/-- THE TIED CARD OF 'packtrainlaw.ChunkTurns'. -/
def chunkTurnsCard : Claim7 := { stood := { row := chunkTurnsRow, standIns := [], harness := (true, "d5f51432c3e63b4aaa3ad40fe5316ad11011f6c10511779fdb8c84a31d299687"), looks := true }, kinds := [], alts := [], laidByText := true, laidKinds := [.handle], laidTests := true, laidLooks := .later }
def ChunkTurnsCardSaid : Prop := Claim7.holds Tryd.pinned (.plain (OpenSpec.ofChange chunkTurnsSpec)) chunkTurnsCard

/-- THE TIED CARD OF 'packtrainlaw.LzSqueezes'. -/
def lzSqueezesCard : Claim7 := { stood := { row := lzSqueezesRow, standIns := [], harness := (true, "d5f51432c3e63b4aaa3ad40fe5316ad11011f6c10511779fdb8c84a31d299687"), looks := true }, kinds := [], alts := [], laidByText := true, laidKinds := [.handle], laidTests := true, laidLooks := .later }
def LzSqueezesCardSaid : Prop := Claim7.holds Tryd.pinned (.plain (OpenSpec.ofChange lzSqueezesSpec)) lzSqueezesCard

/-- THE TIED CARD OF 'packtrainlaw.WriteRights'. -/
def writeRightsCard : Claim7 := { stood := { row := writeRightsRow, standIns := [], harness := (true, "d5f51432c3e63b4aaa3ad40fe5316ad11011f6c10511779fdb8c84a31d299687"), looks := true }, kinds := [], alts := [], laidByText := true, laidKinds := [.data, .data, .data, .handle], laidTests := true, laidLooks := .later }
def WriteRightsCardSaid : Prop := Claim7.holds Tryd.pinned (.plain (OpenSpec.ofChange writeRightsSpec)) writeRightsCard

/-- THE TIED CARD OF 'packtrainlaw.WriteFills'. -/
def writeFillsCard : Claim7 := { stood := { row := writeFillsRow, standIns := [], harness := (true, "d5f51432c3e63b4aaa3ad40fe5316ad11011f6c10511779fdb8c84a31d299687"), looks := true }, kinds := [], alts := [], laidByText := true, laidKinds := [.data, .data, .data, .handle], laidTests := true, laidLooks := .later }
def WriteFillsCardSaid : Prop := Claim7.holds Tryd.pinned (.plain (OpenSpec.ofChange writeFillsSpec)) writeFillsCard

/-- THE TIED CARD OF 'packtrainlaw.BatchRights'. -/
def batchRightsCard : Claim7 := { stood := { row := batchRightsRow, standIns := [], harness := (true, "d5f51432c3e63b4aaa3ad40fe5316ad11011f6c10511779fdb8c84a31d299687"), looks := true }, kinds := [], alts := [], laidByText := true, laidKinds := [.data, .data, .data, .handle], laidTests := true, laidLooks := .later }
def BatchRightsCardSaid : Prop := Claim7.holds Tryd.pinned (.plain (OpenSpec.ofChange batchRightsSpec)) batchRightsCard

/-- THE TIED CARD OF 'packtrainlaw.BodyWrites'. -/
def bodyWritesCard : Claim7 := { stood := { row := bodyWritesRow, standIns := [], harness := (true, "d5f51432c3e63b4aaa3ad40fe5316ad11011f6c10511779fdb8c84a31d299687"), looks := true }, kinds := [], alts := [], laidByText := true, laidKinds := [.data, .data, .data, .handle], laidTests := true, laidLooks := .later }
def BodyWritesCardSaid : Prop := Claim7.holds Tryd.pinned (.plain (OpenSpec.ofChange bodyWritesSpec)) bodyWritesCard

/-- THE SECOND FORM's CARD OF 'packtrainlaw.VectorRights'. -/
def vectorRightsUptoCard : Claim7 := { stood := { row := vectorRightsUptoRow, standIns := [], harness := (true, "d5f51432c3e63b4aaa3ad40fe5316ad11011f6c10511779fdb8c84a31d299687"), looks := true }, kinds := [], alts := [], laidByText := true, laidKinds := [.handle], laidTests := true, laidLooks := .later }
def VectorRightsUptoCardSaid : Prop := Claim7.holds Tryd.pinned (.plain (OpenSpec.upto vectorRightsSpec)) vectorRightsUptoCard

/-- THE SECOND FORM's CARD OF 'packtrainlaw.VaryInts'. -/
def varyIntsUptoCard : Claim7 := { stood := { row := varyIntsUptoRow, standIns := [], harness := (true, "d5f51432c3e63b4aaa3ad40fe5316ad11011f6c10511779fdb8c84a31d299687"), looks := true }, kinds := [], alts := [], laidByText := true, laidKinds := [.handle], laidTests := true, laidLooks := .later }
def VaryIntsUptoCardSaid : Prop := Claim7.holds Tryd.pinned (.plain (OpenSpec.upto varyIntsSpec)) varyIntsUptoCard

/-- THE SECOND FORM's CARD OF 'packtrainlaw.CrcSeals'. -/
def crcSealsUptoCard : Claim7 := { stood := { row := crcSealsUptoRow, standIns := [], harness := (true, "d5f51432c3e63b4aaa3ad40fe5316ad11011f6c10511779fdb8c84a31d299687"), looks := true }, kinds := [], alts := [], laidByText := true, laidKinds := [.handle], laidTests := true, laidLooks := .later }
def CrcSealsUptoCardSaid : Prop := Claim7.holds Tryd.pinned (.plain (OpenSpec.upto crcSealsSpec)) crcSealsUptoCard

/-- THE SECOND FORM's CARD OF 'packtrainlaw.KeysLists'. -/
def keysListsUptoCard : Claim7 := { stood := { row := keysListsUptoRow, standIns := [], harness := (true, "d5f51432c3e63b4aaa3ad40fe5316ad11011f6c10511779fdb8c84a31d299687"), looks := true }, kinds := [], alts := [], laidByText := true, laidKinds := [.handle], laidTests := true, laidLooks := .later }
def KeysListsUptoCardSaid : Prop := Claim7.holds Tryd.pinned (.plain (OpenSpec.upto keysListsSpec)) keysListsUptoCard

/-- THE SECOND FORM's CARD OF 'packtrainlaw.MatchTexts'. -/
def matchTextsUptoCard : Claim7 := { stood := { row := matchTextsUptoRow, standIns := [], harness := (true, "d5f51432c3e63b4aaa3ad40fe5316ad11011f6c10511779fdb8c84a31d299687"), looks := true }, kinds := [], alts := [], laidByText := true, laidKinds := [.handle], laidTests := true, laidLooks := .later }
def MatchTextsUptoCardSaid : Prop := Claim7.holds Tryd.pinned (.plain (OpenSpec.upto matchTextsSpec)) matchTextsUptoCard

/-- THE SECOND FORM's CARD OF 'packtrainlaw.VaryTurns'. -/
def varyTurnsUptoCard : Claim7 := { stood := { row := varyTurnsUptoRow, standIns := [], harness := (true, "d5f51432c3e63b4aaa3ad40fe5316ad11011f6c10511779fdb8c84a31d299687"), looks := true }, kinds := [], alts := [], laidByText := true, laidKinds := [.handle], laidTests := true, laidLooks := .later }
def VaryTurnsUptoCardSaid : Prop := Claim7.holds Tryd.pinned (.plain (OpenSpec.upto varyTurnsSpec)) varyTurnsUptoCard

/-- THE SECOND FORM's CARD OF 'packtrainlaw.ChunkCuts'. -/
def chunkCutsUptoCard : Claim7 := { stood := { row := chunkCutsUptoRow, standIns := [], harness := (true, "d5f51432c3e63b4aaa3ad40fe5316ad11011f6c10511779fdb8c84a31d299687"), looks := true }, kinds := [], alts := [], laidByText := true, laidKinds := [.handle], laidTests := true, laidLooks := .later }
def ChunkCutsUptoCardSaid : Prop := Claim7.holds Tryd.pinned (.plain (OpenSpec.upto chunkCutsSpec)) chunkCutsUptoCard

/-- THE SECOND FORM's CARD OF 'packtrainlaw.SpanAlls'. -/
def spanAllsUptoCard : Claim7 := { stood := { row := spanAllsUptoRow, standIns := [], harness := (true, "d5f51432c3e63b4aaa3ad40fe5316ad11011f6c10511779fdb8c84a31d299687"), looks := true }, kinds := [], alts := [], laidByText := true, laidKinds := [.handle], laidTests := true, laidLooks := .later }
def SpanAllsUptoCardSaid : Prop := Claim7.holds Tryd.pinned (.plain (OpenSpec.upto spanAllsSpec)) spanAllsUptoCard

/-- THE SECOND FORM's CARD OF 'packtrainlaw.VectorWrites'. -/
def vectorWritesUptoCard : Claim7 := { stood := { row := vectorWritesUptoRow, standIns := [], harness := (true, "d5f51432c3e63b4aaa3ad40fe5316ad11011f6c10511779fdb8c84a31d299687"), looks := true }, kinds := [], alts := [], laidByText := true, laidKinds := [.handle], laidTests := true, laidLooks := .later }
def VectorWritesUptoCardSaid : Prop := Claim7.holds Tryd.pinned (.plain (OpenSpec.upto vectorWritesSpec)) vectorWritesUptoCard

/-- THE SECOND FORM's CARD OF 'packtrainlaw.SpanTurns'. -/
def spanTurnsUptoCard : Claim7 := { stood := { row := spanTurnsUptoRow, standIns := [], harness := (true, "d5f51432c3e63b4aaa3ad40fe5316ad11011f6c10511779fdb8c84a31d299687"), looks := true }, kinds := [], alts := [], laidByText := true, laidKinds := [.handle], laidTests := true, laidLooks := .later }
def SpanTurnsUptoCardSaid : Prop := Claim7.holds Tryd.pinned (.plain (OpenSpec.upto spanTurnsSpec)) spanTurnsUptoCard

/-- THE SECOND FORM's CARD OF 'packtrainlaw.VectorJoins'. -/
def vectorJoinsUptoCard : Claim7 := { stood := { row := vectorJoinsUptoRow, standIns := [], harness := (true, "d5f51432c3e63b4aaa3ad40fe5316ad11011f6c10511779fdb8c84a31d299687"), looks := true }, kinds := [], alts := [], laidByText := true, laidKinds := [.handle], laidTests := true, laidLooks := .later }
def VectorJoinsUptoCardSaid : Prop := Claim7.holds Tryd.pinned (.plain (OpenSpec.upto vectorJoinsSpec)) vectorJoinsUptoCard

/-- THE SECOND FORM's CARD OF 'packtrainlaw.VectorReads'. -/
def vectorReadsUptoCard : Claim7 := { stood := { row := vectorReadsUptoRow, standIns := [], harness := (true, "d5f51432c3e63b4aaa3ad40fe5316ad11011f6c10511779fdb8c84a31d299687"), looks := true }, kinds := [], alts := [], laidByText := true, laidKinds := [.handle], laidTests := true, laidLooks := .later }
def VectorReadsUptoCardSaid : Prop := Claim7.holds Tryd.pinned (.plain (OpenSpec.upto vectorReadsSpec)) vectorReadsUptoCard

/-- THE SECOND FORM's CARD OF 'packtrainlaw.LzReads'. -/
def lzReadsUptoCard : Claim7 := { stood := { row := lzReadsUptoRow, standIns := [], harness := (true, "d5f51432c3e63b4aaa3ad40fe5316ad11011f6c10511779fdb8c84a31d299687"), looks := true }, kinds := [], alts := [], laidByText := true, laidKinds := [.handle], laidTests := true, laidLooks := .later }
def LzReadsUptoCardSaid : Prop := Claim7.holds Tryd.pinned (.plain (OpenSpec.upto lzReadsSpec)) lzReadsUptoCard

/-- THE SECOND FORM's CARD OF 'packtrainlaw.LzWrites'. -/
def lzWritesUptoCard : Claim7 := { stood := { row := lzWritesUptoRow, standIns := [], harness := (true, "d5f51432c3e63b4aaa3ad40fe5316ad11011f6c10511779fdb8c84a31d299687"), looks := true }, kinds := [], alts := [], laidByText := true, laidKinds := [.handle], laidTests := true, laidLooks := .later }
def LzWritesUptoCardSaid : Prop := Claim7.holds Tryd.pinned (.plain (OpenSpec.upto lzWritesSpec)) lzWritesUptoCard

/-- THE SECOND FORM's CARD OF 'packtrainlaw.ChunkTurns'. -/
def chunkTurnsUptoCard : Claim7 := { stood := { row := chunkTurnsUptoRow, standIns := [], harness := (true, "d5f51432c3e63b4aaa3ad40fe5316ad11011f6c10511779fdb8c84a31d299687"), looks := true }, kinds := [], alts := [], laidByText := true, laidKinds := [.handle], laidTests := true, laidLooks := .later }
def ChunkTurnsUptoCardSaid : Prop := Claim7.holds Tryd.pinned (.plain (OpenSpec.upto chunkTurnsSpec)) chunkTurnsUptoCard

/-- THE SECOND FORM's CARD OF 'packtrainlaw.LzSqueezes'. -/
def lzSqueezesUptoCard : Claim7 := { stood := { row := lzSqueezesUptoRow, standIns := [], harness := (true, "d5f51432c3e63b4aaa3ad40fe5316ad11011f6c10511779fdb8c84a31d299687"), looks := true }, kinds := [], alts := [], laidByText := true, laidKinds := [.handle], laidTests := true, laidLooks := .later }
def LzSqueezesUptoCardSaid : Prop := Claim7.holds Tryd.pinned (.plain (OpenSpec.upto lzSqueezesSpec)) lzSqueezesUptoCard

/-- THE SECOND FORM's CARD OF 'packtrainlaw.WriteRights'. -/
def writeRightsUptoCard : Claim7 := { stood := { row := writeRightsUptoRow, standIns := [], harness := (true, "d5f51432c3e63b4aaa3ad40fe5316ad11011f6c10511779fdb8c84a31d299687"), looks := true }, kinds := [], alts := [], laidByText := true, laidKinds := [.data, .data, .data, .handle], laidTests := true, laidLooks := .later }
def WriteRightsUptoCardSaid : Prop := Claim7.holds Tryd.pinned (.plain (OpenSpec.upto writeRightsSpec)) writeRightsUptoCard

/-- THE SECOND FORM's CARD OF 'packtrainlaw.WriteFills'. -/
def writeFillsUptoCard : Claim7 := { stood := { row := writeFillsUptoRow, standIns := [], harness := (true, "d5f51432c3e63b4aaa3ad40fe5316ad11011f6c10511779fdb8c84a31d299687"), looks := true }, kinds := [], alts := [], laidByText := true, laidKinds := [.data, .data, .data, .handle], laidTests := true, laidLooks := .later }
def WriteFillsUptoCardSaid : Prop := Claim7.holds Tryd.pinned (.plain (OpenSpec.upto writeFillsSpec)) writeFillsUptoCard

/-- THE SECOND FORM's CARD OF 'packtrainlaw.BatchRights'. -/
def batchRightsUptoCard : Claim7 := { stood := { row := batchRightsUptoRow, standIns := [], harness := (true, "d5f51432c3e63b4aaa3ad40fe5316ad11011f6c10511779fdb8c84a31d299687"), looks := true }, kinds := [], alts := [], laidByText := true, laidKinds := [.data, .data, .data, .handle], laidTests := true, laidLooks := .later }
def BatchRightsUptoCardSaid : Prop := Claim7.holds Tryd.pinned (.plain (OpenSpec.upto batchRightsSpec)) batchRightsUptoCard

/-- THE SECOND FORM's CARD OF 'packtrainlaw.BodyWrites'. -/
def bodyWritesUptoCard : Claim7 := { stood := { row := bodyWritesUptoRow, standIns := [], harness := (true, "d5f51432c3e63b4aaa3ad40fe5316ad11011f6c10511779fdb8c84a31d299687"), looks := true }, kinds := [], alts := [], laidByText := true, laidKinds := [.data, .data, .data, .handle], laidTests := true, laidLooks := .later }
def BodyWritesUptoCardSaid : Prop := Claim7.holds Tryd.pinned (.plain (OpenSpec.upto bodyWritesSpec)) bodyWritesUptoCard
end Rows
end Go.Proofs.YtglemfdnfaemiaaDoor
