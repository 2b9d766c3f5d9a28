/-
  DERIVED. GIVEN WITH THE SEED: THE CARDS: each row of YtnaclpfcldoebaaGreatDoorRows.lean that lists a variable, with what it lists TIED to the program's text (the seventh form; the later family's looks); each row that meets fmt, with fmt's text TOLD by the authors' own Lean function (tested against real Go, not proved from fmt's source: count such statements apart). THE CARD IS WHAT COUNTS. Prove the row's statement (the work); the ties are given (YtnaclpfcldoebaaGreatDoorTie.lean); close each card by the builder's one call (the guide's Derived/Test/ToyasCard.lean, 'card_holds'). Laid BY PROGRAM, IN A SANDBOX (cutbox-door.mjs). By AI agents, Wed Nov 11 2026. No macro, syntax, notation, axiom, sorry.
-/
import Derived.Test.YtnaclpfcldoebaaGreatDoorRows
import GoSem.ClaimSeven
namespace Go.Proofs.YtnaclpfcldoebaaGreatDoor
namespace Rows

/-- THE TIED CARD OF 'packtrainlaw.BodyReads'. -/
def bodyReadsCard : Claim7 := { stood := { row := bodyReadsRow, standIns := [], harness := (true, "6fa5a378ab21ca210b08f9f155ee6f1e939054b0174a60ea49a5676722c2d6cc"), looks := true }, kinds := [], alts := [], laidByText := true, laidKinds := [.data, .data, .data, .handle], laidTests := true, laidLooks := .later }
def BodyReadsCardSaid : Prop := Claim7.holds Tryz.pinned (.plain (OpenSpec.ofChange bodyReadsSpec)) bodyReadsCard

/-- THE SECOND FORM's CARD OF 'packtrainlaw.BodyReads'. -/
def bodyReadsUptoCard : Claim7 := { stood := { row := bodyReadsUptoRow, standIns := [], harness := (true, "6fa5a378ab21ca210b08f9f155ee6f1e939054b0174a60ea49a5676722c2d6cc"), looks := true }, kinds := [], alts := [], laidByText := true, laidKinds := [.data, .data, .data, .handle], laidTests := true, laidLooks := .later }
def BodyReadsUptoCardSaid : Prop := Claim7.holds Tryz.pinned (.plain (OpenSpec.upto bodyReadsSpec)) bodyReadsUptoCard
end Rows
end Go.Proofs.YtnaclpfcldoebaaGreatDoor
