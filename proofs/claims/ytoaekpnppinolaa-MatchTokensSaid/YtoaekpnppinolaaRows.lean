/-
  No cell of these rows narrows 'for every input' (looked for: loops, veiled, ifaces, maps, wideKeys, modest, calm, conditions, laid).
  DERIVED. THE GIVEN ROWS OF THIS SEAT. 9 by the template 'for every input the law returns true; each argument reads behind the call as it read before'; 0 by the template 'total and deterministic' (their statements: YtoaekpnppinolaaTotals.lean).
  GIVEN WITH THE SEED: the statements are not yours to turn. If you find one false, say at which input.
  Laid BY PROGRAM, IN A SANDBOX (cutbox-rows.mjs): the forced cells as the released guide's own fill.sh prints them over the translation 475fefe89e9b2262… (all of the seat's roots in one cut). By AI agents, Wed Nov 11 2026. No macro, syntax, notation, axiom, sorry.
-/
import Derived.Test.YtoaekpnppinolaaChecked
import GoSem.Claim
import GoSem.ClaimJoined
import GoSem.ClaimMapViews
import Derived.JoinedTies
import Derived.KernelRfl
namespace Go.Proofs.Ytoaekpnppinolaa
/- THE CELL 'sum', in the pinned program and in every row, IS THE sha256 OF THE DUMP (.gsa) THAT YtoaekpnppinolaaProg.lean LOADS. Nothing in Lean hashes anything: it is a label: what it is worth is what the hold of that sum in a sandbox is worth. -/
noncomputable def Try.pinned : Pinned := { name := "ytoaekpnppinolaa", sum := "475fefe89e9b22620f307f040dc113781b13d92a1ea925c20b1d1b94ba269cb5", checked := Try.checked }
namespace Rows
def none {H : Type} : Left H := { results := [], args := [] }

/-- 'packtrainlaw.VaryZigs': WHATEVER THE INPUT: true; the input reads as it did. -/
def varyZigsSpec : ChangeSpec := { name := "varyZigs", fn := fun _ => fun
  | [d1, d2] => { results := [.lit (.bool true)], args := [d1, d2] }
  | _ => none }
def varyZigsRow : OpenClaim := { program := "ytoaekpnppinolaa", sum := "475fefe89e9b22620f307f040dc113781b13d92a1ea925c20b1d1b94ba269cb5", func := "packtrain/packtrainlaw.VaryZigs", spec := "varyZigs", apart := false }
def VaryZigsSaid : Prop := varyZigsRow.holds Try.pinned (OpenSpec.ofChange varyZigsSpec)

/-- ITS FALSE NEIGHBOUR: 'it returns false'. Refute it at one input. -/
def varyZigsWrong : ChangeSpec := { name := "varyZigs", fn := fun _ => fun
  | [d1, d2] => { results := [.lit (.bool false)], args := [d1, d2] }
  | _ => none }
def VaryZigsWrongFalsely : Prop := varyZigsRow.holds Try.pinned (OpenSpec.ofChange varyZigsWrong)

/-- 'packtrainlaw.LinkTurns': WHATEVER THE INPUT: true; the input reads as it did. -/
def linkTurnsSpec : ChangeSpec := { name := "linkTurns", fn := fun _ => fun
  | [d1, d2] => { results := [.lit (.bool true)], args := [d1, d2] }
  | _ => none }
def linkTurnsRow : OpenClaim := { program := "ytoaekpnppinolaa", sum := "475fefe89e9b22620f307f040dc113781b13d92a1ea925c20b1d1b94ba269cb5", func := "packtrain/packtrainlaw.LinkTurns", spec := "linkTurns", apart := false }
def LinkTurnsSaid : Prop := linkTurnsRow.holds Try.pinned (OpenSpec.ofChange linkTurnsSpec)

/-- ITS FALSE NEIGHBOUR: 'it returns false'. Refute it at one input. -/
def linkTurnsWrong : ChangeSpec := { name := "linkTurns", fn := fun _ => fun
  | [d1, d2] => { results := [.lit (.bool false)], args := [d1, d2] }
  | _ => none }
def LinkTurnsWrongFalsely : Prop := linkTurnsRow.holds Try.pinned (OpenSpec.ofChange linkTurnsWrong)

/-- 'packtrainlaw.BatchSames': WHATEVER THE INPUT: true; the input reads as it did. -/
def batchSamesSpec : ChangeSpec := { name := "batchSames", fn := fun _ => fun
  | [d1, d2] => { results := [.lit (.bool true)], args := [d1, d2] }
  | _ => none }
def batchSamesRow : OpenClaim := { program := "ytoaekpnppinolaa", sum := "475fefe89e9b22620f307f040dc113781b13d92a1ea925c20b1d1b94ba269cb5", func := "packtrain/packtrainlaw.BatchSames", spec := "batchSames", apart := false }
def BatchSamesSaid : Prop := batchSamesRow.holds Try.pinned (OpenSpec.ofChange batchSamesSpec)

/-- ITS FALSE NEIGHBOUR: 'it returns false'. Refute it at one input. -/
def batchSamesWrong : ChangeSpec := { name := "batchSames", fn := fun _ => fun
  | [d1, d2] => { results := [.lit (.bool false)], args := [d1, d2] }
  | _ => none }
def BatchSamesWrongFalsely : Prop := batchSamesRow.holds Try.pinned (OpenSpec.ofChange batchSamesWrong)

/-- 'packtrainlaw.CrcSums': WHATEVER THE INPUT: true; the input reads as it did. -/
def crcSumsSpec : ChangeSpec := { name := "crcSums", fn := fun _ => fun
  | [d1, d2] => { results := [.lit (.bool true)], args := [d1, d2] }
  | _ => none }
def crcSumsRow : OpenClaim := { program := "ytoaekpnppinolaa", sum := "475fefe89e9b22620f307f040dc113781b13d92a1ea925c20b1d1b94ba269cb5", func := "packtrain/packtrainlaw.CrcSums", spec := "crcSums", apart := false }
def CrcSumsSaid : Prop := crcSumsRow.holds Try.pinned (OpenSpec.ofChange crcSumsSpec)

/-- ITS FALSE NEIGHBOUR: 'it returns false'. Refute it at one input. -/
def crcSumsWrong : ChangeSpec := { name := "crcSums", fn := fun _ => fun
  | [d1, d2] => { results := [.lit (.bool false)], args := [d1, d2] }
  | _ => none }
def CrcSumsWrongFalsely : Prop := crcSumsRow.holds Try.pinned (OpenSpec.ofChange crcSumsWrong)

/-- 'packtrainlaw.MatchFinds': WHATEVER THE INPUT: true; the input reads as it did. -/
def matchFindsSpec : ChangeSpec := { name := "matchFinds", fn := fun _ => fun
  | [d1, d2] => { results := [.lit (.bool true)], args := [d1, d2] }
  | _ => none }
def matchFindsRow : OpenClaim := { program := "ytoaekpnppinolaa", sum := "475fefe89e9b22620f307f040dc113781b13d92a1ea925c20b1d1b94ba269cb5", func := "packtrain/packtrainlaw.MatchFinds", spec := "matchFinds", apart := false }
def MatchFindsSaid : Prop := matchFindsRow.holds Try.pinned (OpenSpec.ofChange matchFindsSpec)

/-- ITS FALSE NEIGHBOUR: 'it returns false'. Refute it at one input. -/
def matchFindsWrong : ChangeSpec := { name := "matchFinds", fn := fun _ => fun
  | [d1, d2] => { results := [.lit (.bool false)], args := [d1, d2] }
  | _ => none }
def MatchFindsWrongFalsely : Prop := matchFindsRow.holds Try.pinned (OpenSpec.ofChange matchFindsWrong)

/-- 'packtrainlaw.KeysTables': WHATEVER THE INPUT: true; the input reads as it did. -/
def keysTablesSpec : ChangeSpec := { name := "keysTables", fn := fun _ => fun
  | [d] => { results := [.lit (.bool true)], args := [d] }
  | _ => none }
def keysTablesRow : OpenClaim := { program := "ytoaekpnppinolaa", sum := "475fefe89e9b22620f307f040dc113781b13d92a1ea925c20b1d1b94ba269cb5", func := "packtrain/packtrainlaw.KeysTables", spec := "keysTables", apart := false }
def KeysTablesSaid : Prop := keysTablesRow.holds Try.pinned (OpenSpec.ofChange keysTablesSpec)

/-- ITS FALSE NEIGHBOUR: 'it returns false'. Refute it at one input. -/
def keysTablesWrong : ChangeSpec := { name := "keysTables", fn := fun _ => fun
  | [d] => { results := [.lit (.bool false)], args := [d] }
  | _ => none }
def KeysTablesWrongFalsely : Prop := keysTablesRow.holds Try.pinned (OpenSpec.ofChange keysTablesWrong)

/-- 'packtrainlaw.IdentCompares': WHATEVER THE INPUT: true; the input reads as it did. -/
def identComparesSpec : ChangeSpec := { name := "identCompares", fn := fun _ => fun
  | [d1, d2, d3, d4] => { results := [.lit (.bool true)], args := [d1, d2, d3, d4] }
  | _ => none }
def identComparesRow : OpenClaim := { program := "ytoaekpnppinolaa", sum := "475fefe89e9b22620f307f040dc113781b13d92a1ea925c20b1d1b94ba269cb5", func := "packtrain/packtrainlaw.IdentCompares", spec := "identCompares", apart := false }
def IdentComparesSaid : Prop := identComparesRow.holds Try.pinned (OpenSpec.ofChange identComparesSpec)

/-- ITS FALSE NEIGHBOUR: 'it returns false'. Refute it at one input. -/
def identComparesWrong : ChangeSpec := { name := "identCompares", fn := fun _ => fun
  | [d1, d2, d3, d4] => { results := [.lit (.bool false)], args := [d1, d2, d3, d4] }
  | _ => none }
def IdentComparesWrongFalsely : Prop := identComparesRow.holds Try.pinned (OpenSpec.ofChange identComparesWrong)

/-- 'packtrainlaw.MatchTokens': WHATEVER THE INPUT: true; the input reads as it did. -/
def matchTokensSpec : ChangeSpec := { name := "matchTokens", fn := fun _ => fun
  | [d] => { results := [.lit (.bool true)], args := [d] }
  | _ => none }
def matchTokensRow : OpenClaim := { program := "ytoaekpnppinolaa", sum := "475fefe89e9b22620f307f040dc113781b13d92a1ea925c20b1d1b94ba269cb5", func := "packtrain/packtrainlaw.MatchTokens", spec := "matchTokens", apart := false }
def MatchTokensSaid : Prop := matchTokensRow.holds Try.pinned (OpenSpec.ofChange matchTokensSpec)

/-- ITS FALSE NEIGHBOUR: 'it returns false'. Refute it at one input. -/
def matchTokensWrong : ChangeSpec := { name := "matchTokens", fn := fun _ => fun
  | [d] => { results := [.lit (.bool false)], args := [d] }
  | _ => none }
def MatchTokensWrongFalsely : Prop := matchTokensRow.holds Try.pinned (OpenSpec.ofChange matchTokensWrong)

/-- 'packtrainlaw.CrcJoins': WHATEVER THE INPUT: true; the input reads as it did. -/
def crcJoinsSpec : ChangeSpec := { name := "crcJoins", fn := fun _ => fun
  | [d1, d2, d3] => { results := [.lit (.bool true)], args := [d1, d2, d3] }
  | _ => none }
def crcJoinsRow : OpenClaim := { program := "ytoaekpnppinolaa", sum := "475fefe89e9b22620f307f040dc113781b13d92a1ea925c20b1d1b94ba269cb5", func := "packtrain/packtrainlaw.CrcJoins", spec := "crcJoins", inPlace := ["internal/abi.NoEscape", "internal/bytealg.MakeNoZero"], apart := false }
def CrcJoinsSaid : Prop := crcJoinsRow.holds Try.pinned (OpenSpec.ofChange crcJoinsSpec)

/-- ITS FALSE NEIGHBOUR: 'it returns false'. Refute it at one input. -/
def crcJoinsWrong : ChangeSpec := { name := "crcJoins", fn := fun _ => fun
  | [d1, d2, d3] => { results := [.lit (.bool false)], args := [d1, d2, d3] }
  | _ => none }
def CrcJoinsWrongFalsely : Prop := crcJoinsRow.holds Try.pinned (OpenSpec.ofChange crcJoinsWrong)

/- THE SECOND FORM. 'bulk': how many values and letters a reading holds, each counted each time it is reached (what is shared counts as often as it is met; a slice's spare places count too). A statement '..UptoSaid' is the law's where the arguments, and the package variables that the reading takes, are together of bulk at most 1048576: NARROWER than '..Said'. Prove '..Said' where nothing that the law and all that it calls make is longer than what came in: it says more and counts as full. Else prove '..UptoSaid'. A law counts once. -/
mutual
def uptoBulk {H : Type} : DataW H → Nat
  | .lit (.string bytes) => bytes.length + 1
  | .lit _ => 1
  | .nil => 1
  | .ptr d => uptoBulk d + 1
  | .slice elems spare => uptoBulkAll elems + uptoBulkAll spare + 1
  | .agg parts => uptoBulkAll parts + 1
  | .iface _ d => uptoBulk d + 1
  | .map entries => uptoBulkEntries entries + 1
  | .held _ => 1
def uptoBulkAll {H : Type} : List (DataW H) → Nat
  | [] => 0
  | d :: r => uptoBulk d + uptoBulkAll r
def uptoBulkEntries {H : Type} : List (Lit × DataW H) → Nat
  | [] => 0
  | x :: r => uptoBulkEntry x + uptoBulkEntries r
def uptoBulkEntry {H : Type} : Lit × DataW H → Nat
  | (.string bytes, d) => bytes.length + uptoBulk d + 1
  | (_, d) => uptoBulk d + 1
 end
def uptoSmall : (H : Type) → List (DataW H) → Bool := fun _ ds => decide (uptoBulkAll ds ≤ 1048576)
def OpenSpec.upto (s : _root_.Go.ChangeSpec) : _root_.Go.OpenSpec := { _root_.Go.OpenSpec.ofChange s with cond := some uptoSmall }

/-- 'packtrainlaw.VaryZigs', WHERE WHAT IT READS IS OF BULK AT MOST 1048576: true; the input reads as it did. -/
def varyZigsUptoRow : OpenClaim := { program := "ytoaekpnppinolaa", sum := "475fefe89e9b22620f307f040dc113781b13d92a1ea925c20b1d1b94ba269cb5", func := "packtrain/packtrainlaw.VaryZigs", spec := "varyZigs", apart := false, narrowed := true }
def VaryZigsUptoSaid : Prop := varyZigsUptoRow.holds Try.pinned (OpenSpec.upto varyZigsSpec)

/-- 'packtrainlaw.LinkTurns', WHERE WHAT IT READS IS OF BULK AT MOST 1048576: true; the input reads as it did. -/
def linkTurnsUptoRow : OpenClaim := { program := "ytoaekpnppinolaa", sum := "475fefe89e9b22620f307f040dc113781b13d92a1ea925c20b1d1b94ba269cb5", func := "packtrain/packtrainlaw.LinkTurns", spec := "linkTurns", apart := false, narrowed := true }
def LinkTurnsUptoSaid : Prop := linkTurnsUptoRow.holds Try.pinned (OpenSpec.upto linkTurnsSpec)

/-- 'packtrainlaw.BatchSames', WHERE WHAT IT READS IS OF BULK AT MOST 1048576: true; the input reads as it did. -/
def batchSamesUptoRow : OpenClaim := { program := "ytoaekpnppinolaa", sum := "475fefe89e9b22620f307f040dc113781b13d92a1ea925c20b1d1b94ba269cb5", func := "packtrain/packtrainlaw.BatchSames", spec := "batchSames", apart := false, narrowed := true }
def BatchSamesUptoSaid : Prop := batchSamesUptoRow.holds Try.pinned (OpenSpec.upto batchSamesSpec)

/-- 'packtrainlaw.CrcSums', WHERE WHAT IT READS IS OF BULK AT MOST 1048576: true; the input reads as it did. -/
def crcSumsUptoRow : OpenClaim := { program := "ytoaekpnppinolaa", sum := "475fefe89e9b22620f307f040dc113781b13d92a1ea925c20b1d1b94ba269cb5", func := "packtrain/packtrainlaw.CrcSums", spec := "crcSums", apart := false, narrowed := true }
def CrcSumsUptoSaid : Prop := crcSumsUptoRow.holds Try.pinned (OpenSpec.upto crcSumsSpec)

/-- 'packtrainlaw.MatchFinds', WHERE WHAT IT READS IS OF BULK AT MOST 1048576: true; the input reads as it did. -/
def matchFindsUptoRow : OpenClaim := { program := "ytoaekpnppinolaa", sum := "475fefe89e9b22620f307f040dc113781b13d92a1ea925c20b1d1b94ba269cb5", func := "packtrain/packtrainlaw.MatchFinds", spec := "matchFinds", apart := false, narrowed := true }
def MatchFindsUptoSaid : Prop := matchFindsUptoRow.holds Try.pinned (OpenSpec.upto matchFindsSpec)

/-- 'packtrainlaw.KeysTables', WHERE WHAT IT READS IS OF BULK AT MOST 1048576: true; the input reads as it did. -/
def keysTablesUptoRow : OpenClaim := { program := "ytoaekpnppinolaa", sum := "475fefe89e9b22620f307f040dc113781b13d92a1ea925c20b1d1b94ba269cb5", func := "packtrain/packtrainlaw.KeysTables", spec := "keysTables", apart := false, narrowed := true }
def KeysTablesUptoSaid : Prop := keysTablesUptoRow.holds Try.pinned (OpenSpec.upto keysTablesSpec)

/-- 'packtrainlaw.IdentCompares', WHERE WHAT IT READS IS OF BULK AT MOST 1048576: true; the input reads as it did. -/
def identComparesUptoRow : OpenClaim := { program := "ytoaekpnppinolaa", sum := "475fefe89e9b22620f307f040dc113781b13d92a1ea925c20b1d1b94ba269cb5", func := "packtrain/packtrainlaw.IdentCompares", spec := "identCompares", apart := false, narrowed := true }
def IdentComparesUptoSaid : Prop := identComparesUptoRow.holds Try.pinned (OpenSpec.upto identComparesSpec)

/-- 'packtrainlaw.MatchTokens', WHERE WHAT IT READS IS OF BULK AT MOST 1048576: true; the input reads as it did. -/
def matchTokensUptoRow : OpenClaim := { program := "ytoaekpnppinolaa", sum := "475fefe89e9b22620f307f040dc113781b13d92a1ea925c20b1d1b94ba269cb5", func := "packtrain/packtrainlaw.MatchTokens", spec := "matchTokens", apart := false, narrowed := true }
def MatchTokensUptoSaid : Prop := matchTokensUptoRow.holds Try.pinned (OpenSpec.upto matchTokensSpec)

/-- 'packtrainlaw.CrcJoins', WHERE WHAT IT READS IS OF BULK AT MOST 1048576: true; the input reads as it did. -/
def crcJoinsUptoRow : OpenClaim := { program := "ytoaekpnppinolaa", sum := "475fefe89e9b22620f307f040dc113781b13d92a1ea925c20b1d1b94ba269cb5", func := "packtrain/packtrainlaw.CrcJoins", spec := "crcJoins", inPlace := ["internal/abi.NoEscape", "internal/bytealg.MakeNoZero"], apart := false, narrowed := true }
def CrcJoinsUptoSaid : Prop := crcJoinsUptoRow.holds Try.pinned (OpenSpec.upto crcJoinsSpec)

end Rows
end Go.Proofs.Ytoaekpnppinolaa
