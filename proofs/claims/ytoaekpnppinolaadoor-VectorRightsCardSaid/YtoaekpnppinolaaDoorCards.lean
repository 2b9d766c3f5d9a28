/-
  DERIVED. GIVEN WITH THE SEED: THE CARDS: each row of YtoaekpnppinolaaDoorRows.lean that lists a variable, with what it lists TIED to the program's text (the seventh form; the later family's looks); each row that meets fmt, with fmt's text TOLD by the authors' own Lean function (tested against real Go, not proved from fmt's source: count such statements apart). THE CARD IS WHAT COUNTS. Prove the row's statement (the work); the ties are given (YtoaekpnppinolaaDoorTie.lean); close each card by the builder's one call (the guide's Derived/Test/ToyasCard.lean, 'card_holds'). Laid BY PROGRAM, IN A SANDBOX (cutbox-door.mjs). By AI agents, Wed Nov 11 2026. No macro, syntax, notation, axiom, sorry.
-/
import Derived.Test.YtoaekpnppinolaaDoorRows
import GoSem.ClaimSeven
namespace Go.Proofs.YtoaekpnppinolaaDoor
namespace Rows

/-- THE TIED CARD OF 'packtrainlaw.VectorRights'. -/
def vectorRightsCard : Claim7 := { stood := { row := vectorRightsRow, standIns := [], harness := (true, "5a87a45404f6a35098443b2aae09e4ac6f17b736e76d07eadbd37445f61337a2"), looks := true }, kinds := [], alts := [], laidByText := true, laidKinds := [.handle], laidTests := true, laidLooks := .later }
def VectorRightsCardSaid : Prop := Claim7.holds Tryd.pinned (.plain (OpenSpec.ofChange vectorRightsSpec)) vectorRightsCard

/-- THE SECOND FORM's CARD OF 'packtrainlaw.VectorRights'. -/
def vectorRightsUptoCard : Claim7 := { stood := { row := vectorRightsUptoRow, standIns := [], harness := (true, "5a87a45404f6a35098443b2aae09e4ac6f17b736e76d07eadbd37445f61337a2"), looks := true }, kinds := [], alts := [], laidByText := true, laidKinds := [.handle], laidTests := true, laidLooks := .later }
def VectorRightsUptoCardSaid : Prop := Claim7.holds Tryd.pinned (.plain (OpenSpec.upto vectorRightsSpec)) vectorRightsUptoCard
end Rows
end Go.Proofs.YtoaekpnppinolaaDoor
