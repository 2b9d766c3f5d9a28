/-
  NARROWER THAN 'FOR EVERY INPUT', by the rows' own cells (each row's printed sentence says how): VectorRights: laid · VaryInts: laid · CrcSeals: laid · KeysLists: laid · MatchTexts: laid · VaryTurns: laid · ChunkCuts: laid · SpanAlls: laid · VectorWrites: laid · SpanTurns: laid · VectorJoins: laid · VectorReads: laid · LzReads: laid · LzWrites: laid · ChunkTurns: laid · LzSqueezes: laid · WriteRights: laid · WriteFills: laid · BatchRights: laid · BodyWrites: laid.
  DERIVED. THE GIVEN ROWS OF THIS SEAT. 20 by the template 'for every input the law returns true; each argument reads behind the call as it read before'; 0 by the template 'total and deterministic' (their statements: YtglemfdnfaemiaaDoorTotals.lean).
  GIVEN WITH THE SEED: the statements are not yours to turn. If you find one false, say at which input.
  Laid BY PROGRAM, IN A SANDBOX (cutbox-rows.mjs): the forced cells as the released guide's own fill.sh prints them over the translation 56a3e999fa0fd53a… (all of the seat's roots in one cut). By AI agents, Wed Nov 11 2026. No macro, syntax, notation, axiom, sorry.
-/
import Derived.Test.YtglemfdnfaemiaaDoorChecked
import GoSem.Claim
import GoSem.ClaimJoined
import GoSem.ClaimMapViews
import Derived.JoinedTies
import Derived.KernelRfl
namespace Go.Proofs.YtglemfdnfaemiaaDoor
/- THE CELL 'sum', in the pinned program and in every row, IS THE sha256 OF THE DUMP (.gsa) THAT YtglemfdnfaemiaaDoorProg.lean LOADS. Nothing in Lean hashes anything: it is a label: what it is worth is what the hold of that sum in a sandbox is worth. -/
noncomputable def Tryd.pinned : Pinned := { name := "ytglemfdnfaemiaadoor", sum := "56a3e999fa0fd53a5e76556e8b76401e7fea59fcb6744896abbaec570f0cfed1", checked := Tryd.checked }
namespace Rows
def none {H : Type} : Left H := { results := [], args := [] }

/- WHAT THE LISTED PACKAGE-LEVEL VARIABLES READ AS WHEN THE CALL BEGINS. Each datum BY PROGRAM (the guide's laid-datum.mjs) off the statement by which the dump's own 'gosem.cut.vars' lays the variable. In a bare row this is a premise. The card (YtglemfdnfaemiaaDoorCards.lean) ties it to the program's text. -/
def laid_errors_errorType {H : Type} : DataW H := .iface "internal/reflectlite.rtype" (.agg [.ptr (.lit (.string [101, 114, 114, 111, 114]))])
def laid_math_bits_deBruijn32tab {H : Type} : DataW H := .agg [.lit (.int .u8 0), .lit (.int .u8 1), .lit (.int .u8 28), .lit (.int .u8 2), .lit (.int .u8 29), .lit (.int .u8 14), .lit (.int .u8 24), .lit (.int .u8 3), .lit (.int .u8 30), .lit (.int .u8 22), .lit (.int .u8 20), .lit (.int .u8 15), .lit (.int .u8 25), .lit (.int .u8 17), .lit (.int .u8 4), .lit (.int .u8 8), .lit (.int .u8 31), .lit (.int .u8 27), .lit (.int .u8 13), .lit (.int .u8 23), .lit (.int .u8 21), .lit (.int .u8 19), .lit (.int .u8 16), .lit (.int .u8 7), .lit (.int .u8 26), .lit (.int .u8 12), .lit (.int .u8 18), .lit (.int .u8 6), .lit (.int .u8 11), .lit (.int .u8 5), .lit (.int .u8 10), .lit (.int .u8 9)]
def laid_math_bits_deBruijn64tab {H : Type} : DataW H := .agg [.lit (.int .u8 0), .lit (.int .u8 1), .lit (.int .u8 56), .lit (.int .u8 2), .lit (.int .u8 57), .lit (.int .u8 49), .lit (.int .u8 28), .lit (.int .u8 3), .lit (.int .u8 61), .lit (.int .u8 58), .lit (.int .u8 42), .lit (.int .u8 50), .lit (.int .u8 38), .lit (.int .u8 29), .lit (.int .u8 17), .lit (.int .u8 4), .lit (.int .u8 62), .lit (.int .u8 47), .lit (.int .u8 59), .lit (.int .u8 36), .lit (.int .u8 45), .lit (.int .u8 43), .lit (.int .u8 51), .lit (.int .u8 22), .lit (.int .u8 53), .lit (.int .u8 39), .lit (.int .u8 33), .lit (.int .u8 30), .lit (.int .u8 24), .lit (.int .u8 18), .lit (.int .u8 12), .lit (.int .u8 5), .lit (.int .u8 63), .lit (.int .u8 55), .lit (.int .u8 48), .lit (.int .u8 27), .lit (.int .u8 60), .lit (.int .u8 41), .lit (.int .u8 37), .lit (.int .u8 16), .lit (.int .u8 46), .lit (.int .u8 35), .lit (.int .u8 44), .lit (.int .u8 21), .lit (.int .u8 52), .lit (.int .u8 32), .lit (.int .u8 23), .lit (.int .u8 11), .lit (.int .u8 54), .lit (.int .u8 26), .lit (.int .u8 40), .lit (.int .u8 15), .lit (.int .u8 34), .lit (.int .u8 20), .lit (.int .u8 31), .lit (.int .u8 10), .lit (.int .u8 25), .lit (.int .u8 14), .lit (.int .u8 19), .lit (.int .u8 9), .lit (.int .u8 13), .lit (.int .u8 8), .lit (.int .u8 7), .lit (.int .u8 6)]
def laid_internal_strconv_uint64pow10 {H : Type} : DataW H := .agg [.lit (.int .u64 1), .lit (.int .u64 10), .lit (.int .u64 100), .lit (.int .u64 1000), .lit (.int .u64 10000), .lit (.int .u64 100000), .lit (.int .u64 1000000), .lit (.int .u64 10000000), .lit (.int .u64 100000000), .lit (.int .u64 1000000000), .lit (.int .u64 10000000000), .lit (.int .u64 100000000000), .lit (.int .u64 1000000000000), .lit (.int .u64 10000000000000), .lit (.int .u64 100000000000000), .lit (.int .u64 1000000000000000), .lit (.int .u64 10000000000000000), .lit (.int .u64 100000000000000000), .lit (.int .u64 1000000000000000000), .lit (.int .u64 10000000000000000000)]

/-- 'packtrainlaw.VectorRights': WHATEVER THE INPUT: true; the input reads as it did. -/
def vectorRightsSpec : ChangeSpec := { name := "vectorRights", fn := fun _ => fun
  | [d1, d2] => { results := [.lit (.bool true)], args := [d1, d2] }
  | _ => none }
def vectorRightsRow : OpenClaim := { program := "ytglemfdnfaemiaadoor", sum := "56a3e999fa0fd53a5e76556e8b76401e7fea59fcb6744896abbaec570f0cfed1", func := "packtrain/packtrainlaw.VectorRights", spec := "vectorRights", inPlace := ["internal/reflectlite.ValueOf", "(internal/reflectlite.Value).Type", "(internal/reflectlite.Value).IsNil", "internal/reflectlite.TypeOf", "(internal/reflectlite.Value).Elem", "(internal/reflectlite.Value).Set"], unfollowed := true, recurses := true, named := ["errors.errorType"], apart := false, laid := [("errors.errorType", laid_errors_errorType)] }
def VectorRightsSaid : Prop := vectorRightsRow.holds Tryd.pinned (OpenSpec.ofChange vectorRightsSpec)

/-- ITS FALSE NEIGHBOUR: 'it returns false'. Refute it at one input. -/
def vectorRightsWrong : ChangeSpec := { name := "vectorRights", fn := fun _ => fun
  | [d1, d2] => { results := [.lit (.bool false)], args := [d1, d2] }
  | _ => none }
def VectorRightsWrongFalsely : Prop := vectorRightsRow.holds Tryd.pinned (OpenSpec.ofChange vectorRightsWrong)

/-- 'packtrainlaw.VaryInts': WHATEVER THE INPUT: true; the input reads as it did. -/
def varyIntsSpec : ChangeSpec := { name := "varyInts", fn := fun _ => fun
  | [d1, d2] => { results := [.lit (.bool true)], args := [d1, d2] }
  | _ => none }
def varyIntsRow : OpenClaim := { program := "ytglemfdnfaemiaadoor", sum := "56a3e999fa0fd53a5e76556e8b76401e7fea59fcb6744896abbaec570f0cfed1", func := "packtrain/packtrainlaw.VaryInts", spec := "varyInts", inPlace := ["internal/reflectlite.ValueOf", "(internal/reflectlite.Value).Type", "(internal/reflectlite.Value).IsNil", "internal/reflectlite.TypeOf", "(internal/reflectlite.Value).Elem", "(internal/reflectlite.Value).Set"], unfollowed := true, recurses := true, named := ["errors.errorType"], apart := false, laid := [("errors.errorType", laid_errors_errorType)] }
def VaryIntsSaid : Prop := varyIntsRow.holds Tryd.pinned (OpenSpec.ofChange varyIntsSpec)

/-- ITS FALSE NEIGHBOUR: 'it returns false'. Refute it at one input. -/
def varyIntsWrong : ChangeSpec := { name := "varyInts", fn := fun _ => fun
  | [d1, d2] => { results := [.lit (.bool false)], args := [d1, d2] }
  | _ => none }
def VaryIntsWrongFalsely : Prop := varyIntsRow.holds Tryd.pinned (OpenSpec.ofChange varyIntsWrong)

/-- 'packtrainlaw.CrcSeals': WHATEVER THE INPUT: true; the input reads as it did. -/
def crcSealsSpec : ChangeSpec := { name := "crcSeals", fn := fun _ => fun
  | [d] => { results := [.lit (.bool true)], args := [d] }
  | _ => none }
def crcSealsRow : OpenClaim := { program := "ytglemfdnfaemiaadoor", sum := "56a3e999fa0fd53a5e76556e8b76401e7fea59fcb6744896abbaec570f0cfed1", func := "packtrain/packtrainlaw.CrcSeals", spec := "crcSeals", inPlace := ["internal/reflectlite.ValueOf", "(internal/reflectlite.Value).Type", "(internal/reflectlite.Value).IsNil", "internal/reflectlite.TypeOf", "(internal/reflectlite.Value).Elem", "(internal/reflectlite.Value).Set"], unfollowed := true, recurses := true, named := ["errors.errorType"], apart := false, laid := [("errors.errorType", laid_errors_errorType)] }
def CrcSealsSaid : Prop := crcSealsRow.holds Tryd.pinned (OpenSpec.ofChange crcSealsSpec)

/-- ITS FALSE NEIGHBOUR: 'it returns false'. Refute it at one input. -/
def crcSealsWrong : ChangeSpec := { name := "crcSeals", fn := fun _ => fun
  | [d] => { results := [.lit (.bool false)], args := [d] }
  | _ => none }
def CrcSealsWrongFalsely : Prop := crcSealsRow.holds Tryd.pinned (OpenSpec.ofChange crcSealsWrong)

/-- 'packtrainlaw.KeysLists': WHATEVER THE INPUT: true; the input reads as it did. -/
def keysListsSpec : ChangeSpec := { name := "keysLists", fn := fun _ => fun
  | [d1, d2] => { results := [.lit (.bool true)], args := [d1, d2] }
  | _ => none }
def keysListsRow : OpenClaim := { program := "ytglemfdnfaemiaadoor", sum := "56a3e999fa0fd53a5e76556e8b76401e7fea59fcb6744896abbaec570f0cfed1", func := "packtrain/packtrainlaw.KeysLists", spec := "keysLists", inPlace := ["internal/reflectlite.ValueOf", "(internal/reflectlite.Value).Type", "(internal/reflectlite.Value).IsNil", "internal/reflectlite.TypeOf", "(internal/reflectlite.Value).Elem", "(internal/reflectlite.Value).Set"], unfollowed := true, recurses := true, named := ["errors.errorType"], apart := false, laid := [("errors.errorType", laid_errors_errorType)] }
def KeysListsSaid : Prop := keysListsRow.holds Tryd.pinned (OpenSpec.ofChange keysListsSpec)

/-- ITS FALSE NEIGHBOUR: 'it returns false'. Refute it at one input. -/
def keysListsWrong : ChangeSpec := { name := "keysLists", fn := fun _ => fun
  | [d1, d2] => { results := [.lit (.bool false)], args := [d1, d2] }
  | _ => none }
def KeysListsWrongFalsely : Prop := keysListsRow.holds Tryd.pinned (OpenSpec.ofChange keysListsWrong)

/-- 'packtrainlaw.MatchTexts': WHATEVER THE INPUT: true; the input reads as it did. -/
def matchTextsSpec : ChangeSpec := { name := "matchTexts", fn := fun _ => fun
  | [d] => { results := [.lit (.bool true)], args := [d] }
  | _ => none }
def matchTextsRow : OpenClaim := { program := "ytglemfdnfaemiaadoor", sum := "56a3e999fa0fd53a5e76556e8b76401e7fea59fcb6744896abbaec570f0cfed1", func := "packtrain/packtrainlaw.MatchTexts", spec := "matchTexts", inPlace := ["internal/reflectlite.ValueOf", "(internal/reflectlite.Value).Type", "(internal/reflectlite.Value).IsNil", "internal/reflectlite.TypeOf", "(internal/reflectlite.Value).Elem", "(internal/reflectlite.Value).Set"], unfollowed := true, recurses := true, named := ["errors.errorType"], apart := false, laid := [("errors.errorType", laid_errors_errorType)] }
def MatchTextsSaid : Prop := matchTextsRow.holds Tryd.pinned (OpenSpec.ofChange matchTextsSpec)

/-- ITS FALSE NEIGHBOUR: 'it returns false'. Refute it at one input. -/
def matchTextsWrong : ChangeSpec := { name := "matchTexts", fn := fun _ => fun
  | [d] => { results := [.lit (.bool false)], args := [d] }
  | _ => none }
def MatchTextsWrongFalsely : Prop := matchTextsRow.holds Tryd.pinned (OpenSpec.ofChange matchTextsWrong)

/-- 'packtrainlaw.VaryTurns': WHATEVER THE INPUT: true; the input reads as it did. -/
def varyTurnsSpec : ChangeSpec := { name := "varyTurns", fn := fun _ => fun
  | [d1, d2] => { results := [.lit (.bool true)], args := [d1, d2] }
  | _ => none }
def varyTurnsRow : OpenClaim := { program := "ytglemfdnfaemiaadoor", sum := "56a3e999fa0fd53a5e76556e8b76401e7fea59fcb6744896abbaec570f0cfed1", func := "packtrain/packtrainlaw.VaryTurns", spec := "varyTurns", inPlace := ["internal/reflectlite.ValueOf", "(internal/reflectlite.Value).Type", "(internal/reflectlite.Value).IsNil", "internal/reflectlite.TypeOf", "(internal/reflectlite.Value).Elem", "(internal/reflectlite.Value).Set"], unfollowed := true, recurses := true, named := ["errors.errorType"], apart := false, laid := [("errors.errorType", laid_errors_errorType)] }
def VaryTurnsSaid : Prop := varyTurnsRow.holds Tryd.pinned (OpenSpec.ofChange varyTurnsSpec)

/-- ITS FALSE NEIGHBOUR: 'it returns false'. Refute it at one input. -/
def varyTurnsWrong : ChangeSpec := { name := "varyTurns", fn := fun _ => fun
  | [d1, d2] => { results := [.lit (.bool false)], args := [d1, d2] }
  | _ => none }
def VaryTurnsWrongFalsely : Prop := varyTurnsRow.holds Tryd.pinned (OpenSpec.ofChange varyTurnsWrong)

/-- 'packtrainlaw.ChunkCuts': WHATEVER THE INPUT: true; the input reads as it did. -/
def chunkCutsSpec : ChangeSpec := { name := "chunkCuts", fn := fun _ => fun
  | [d1, d2] => { results := [.lit (.bool true)], args := [d1, d2] }
  | _ => none }
def chunkCutsRow : OpenClaim := { program := "ytglemfdnfaemiaadoor", sum := "56a3e999fa0fd53a5e76556e8b76401e7fea59fcb6744896abbaec570f0cfed1", func := "packtrain/packtrainlaw.ChunkCuts", spec := "chunkCuts", inPlace := ["internal/reflectlite.ValueOf", "(internal/reflectlite.Value).Type", "(internal/reflectlite.Value).IsNil", "internal/reflectlite.TypeOf", "(internal/reflectlite.Value).Elem", "(internal/reflectlite.Value).Set"], unfollowed := true, recurses := true, named := ["errors.errorType"], apart := false, laid := [("errors.errorType", laid_errors_errorType)] }
def ChunkCutsSaid : Prop := chunkCutsRow.holds Tryd.pinned (OpenSpec.ofChange chunkCutsSpec)

/-- ITS FALSE NEIGHBOUR: 'it returns false'. Refute it at one input. -/
def chunkCutsWrong : ChangeSpec := { name := "chunkCuts", fn := fun _ => fun
  | [d1, d2] => { results := [.lit (.bool false)], args := [d1, d2] }
  | _ => none }
def ChunkCutsWrongFalsely : Prop := chunkCutsRow.holds Tryd.pinned (OpenSpec.ofChange chunkCutsWrong)

/-- 'packtrainlaw.SpanAlls': WHATEVER THE INPUT: true; the input reads as it did. -/
def spanAllsSpec : ChangeSpec := { name := "spanAlls", fn := fun _ => fun
  | [d1, d2] => { results := [.lit (.bool true)], args := [d1, d2] }
  | _ => none }
def spanAllsRow : OpenClaim := { program := "ytglemfdnfaemiaadoor", sum := "56a3e999fa0fd53a5e76556e8b76401e7fea59fcb6744896abbaec570f0cfed1", func := "packtrain/packtrainlaw.SpanAlls", spec := "spanAlls", inPlace := ["internal/reflectlite.ValueOf", "(internal/reflectlite.Value).Type", "(internal/reflectlite.Value).IsNil", "internal/reflectlite.TypeOf", "(internal/reflectlite.Value).Elem", "(internal/reflectlite.Value).Set"], unfollowed := true, recurses := true, named := ["errors.errorType"], apart := false, laid := [("errors.errorType", laid_errors_errorType)] }
def SpanAllsSaid : Prop := spanAllsRow.holds Tryd.pinned (OpenSpec.ofChange spanAllsSpec)

/-- ITS FALSE NEIGHBOUR: 'it returns false'. Refute it at one input. -/
def spanAllsWrong : ChangeSpec := { name := "spanAlls", fn := fun _ => fun
  | [d1, d2] => { results := [.lit (.bool false)], args := [d1, d2] }
  | _ => none }
def SpanAllsWrongFalsely : Prop := spanAllsRow.holds Tryd.pinned (OpenSpec.ofChange spanAllsWrong)

/-- 'packtrainlaw.VectorWrites': WHATEVER THE INPUT: true; the input reads as it did. -/
def vectorWritesSpec : ChangeSpec := { name := "vectorWrites", fn := fun _ => fun
  | [d] => { results := [.lit (.bool true)], args := [d] }
  | _ => none }
def vectorWritesRow : OpenClaim := { program := "ytglemfdnfaemiaadoor", sum := "56a3e999fa0fd53a5e76556e8b76401e7fea59fcb6744896abbaec570f0cfed1", func := "packtrain/packtrainlaw.VectorWrites", spec := "vectorWrites", inPlace := ["internal/reflectlite.ValueOf", "(internal/reflectlite.Value).Type", "(internal/reflectlite.Value).IsNil", "internal/reflectlite.TypeOf", "(internal/reflectlite.Value).Elem", "(internal/reflectlite.Value).Set"], unfollowed := true, recurses := true, named := ["errors.errorType"], apart := false, laid := [("errors.errorType", laid_errors_errorType)] }
def VectorWritesSaid : Prop := vectorWritesRow.holds Tryd.pinned (OpenSpec.ofChange vectorWritesSpec)

/-- ITS FALSE NEIGHBOUR: 'it returns false'. Refute it at one input. -/
def vectorWritesWrong : ChangeSpec := { name := "vectorWrites", fn := fun _ => fun
  | [d] => { results := [.lit (.bool false)], args := [d] }
  | _ => none }
def VectorWritesWrongFalsely : Prop := vectorWritesRow.holds Tryd.pinned (OpenSpec.ofChange vectorWritesWrong)

/-- 'packtrainlaw.SpanTurns': WHATEVER THE INPUT: true; the input reads as it did. -/
def spanTurnsSpec : ChangeSpec := { name := "spanTurns", fn := fun _ => fun
  | [d] => { results := [.lit (.bool true)], args := [d] }
  | _ => none }
def spanTurnsRow : OpenClaim := { program := "ytglemfdnfaemiaadoor", sum := "56a3e999fa0fd53a5e76556e8b76401e7fea59fcb6744896abbaec570f0cfed1", func := "packtrain/packtrainlaw.SpanTurns", spec := "spanTurns", inPlace := ["internal/reflectlite.ValueOf", "(internal/reflectlite.Value).Type", "(internal/reflectlite.Value).IsNil", "internal/reflectlite.TypeOf", "(internal/reflectlite.Value).Elem", "(internal/reflectlite.Value).Set"], unfollowed := true, recurses := true, named := ["errors.errorType"], apart := false, laid := [("errors.errorType", laid_errors_errorType)] }
def SpanTurnsSaid : Prop := spanTurnsRow.holds Tryd.pinned (OpenSpec.ofChange spanTurnsSpec)

/-- ITS FALSE NEIGHBOUR: 'it returns false'. Refute it at one input. -/
def spanTurnsWrong : ChangeSpec := { name := "spanTurns", fn := fun _ => fun
  | [d] => { results := [.lit (.bool false)], args := [d] }
  | _ => none }
def SpanTurnsWrongFalsely : Prop := spanTurnsRow.holds Tryd.pinned (OpenSpec.ofChange spanTurnsWrong)

/-- 'packtrainlaw.VectorJoins': WHATEVER THE INPUT: true; the input reads as it did. -/
def vectorJoinsSpec : ChangeSpec := { name := "vectorJoins", fn := fun _ => fun
  | [d1, d2] => { results := [.lit (.bool true)], args := [d1, d2] }
  | _ => none }
def vectorJoinsRow : OpenClaim := { program := "ytglemfdnfaemiaadoor", sum := "56a3e999fa0fd53a5e76556e8b76401e7fea59fcb6744896abbaec570f0cfed1", func := "packtrain/packtrainlaw.VectorJoins", spec := "vectorJoins", inPlace := ["internal/reflectlite.ValueOf", "(internal/reflectlite.Value).Type", "(internal/reflectlite.Value).IsNil", "internal/reflectlite.TypeOf", "(internal/reflectlite.Value).Elem", "(internal/reflectlite.Value).Set"], unfollowed := true, recurses := true, named := ["errors.errorType"], apart := false, laid := [("errors.errorType", laid_errors_errorType)] }
def VectorJoinsSaid : Prop := vectorJoinsRow.holds Tryd.pinned (OpenSpec.ofChange vectorJoinsSpec)

/-- ITS FALSE NEIGHBOUR: 'it returns false'. Refute it at one input. -/
def vectorJoinsWrong : ChangeSpec := { name := "vectorJoins", fn := fun _ => fun
  | [d1, d2] => { results := [.lit (.bool false)], args := [d1, d2] }
  | _ => none }
def VectorJoinsWrongFalsely : Prop := vectorJoinsRow.holds Tryd.pinned (OpenSpec.ofChange vectorJoinsWrong)

/-- 'packtrainlaw.VectorReads': WHATEVER THE INPUT: true; the input reads as it did. -/
def vectorReadsSpec : ChangeSpec := { name := "vectorReads", fn := fun _ => fun
  | [d] => { results := [.lit (.bool true)], args := [d] }
  | _ => none }
def vectorReadsRow : OpenClaim := { program := "ytglemfdnfaemiaadoor", sum := "56a3e999fa0fd53a5e76556e8b76401e7fea59fcb6744896abbaec570f0cfed1", func := "packtrain/packtrainlaw.VectorReads", spec := "vectorReads", inPlace := ["internal/reflectlite.ValueOf", "(internal/reflectlite.Value).Type", "(internal/reflectlite.Value).IsNil", "internal/reflectlite.TypeOf", "(internal/reflectlite.Value).Elem", "(internal/reflectlite.Value).Set"], unfollowed := true, recurses := true, named := ["errors.errorType"], apart := false, laid := [("errors.errorType", laid_errors_errorType)] }
def VectorReadsSaid : Prop := vectorReadsRow.holds Tryd.pinned (OpenSpec.ofChange vectorReadsSpec)

/-- ITS FALSE NEIGHBOUR: 'it returns false'. Refute it at one input. -/
def vectorReadsWrong : ChangeSpec := { name := "vectorReads", fn := fun _ => fun
  | [d] => { results := [.lit (.bool false)], args := [d] }
  | _ => none }
def VectorReadsWrongFalsely : Prop := vectorReadsRow.holds Tryd.pinned (OpenSpec.ofChange vectorReadsWrong)

/-- 'packtrainlaw.LzReads': WHATEVER THE INPUT: true; the input reads as it did. -/
def lzReadsSpec : ChangeSpec := { name := "lzReads", fn := fun _ => fun
  | [d] => { results := [.lit (.bool true)], args := [d] }
  | _ => none }
def lzReadsRow : OpenClaim := { program := "ytglemfdnfaemiaadoor", sum := "56a3e999fa0fd53a5e76556e8b76401e7fea59fcb6744896abbaec570f0cfed1", func := "packtrain/packtrainlaw.LzReads", spec := "lzReads", inPlace := ["internal/reflectlite.ValueOf", "(internal/reflectlite.Value).Type", "(internal/reflectlite.Value).IsNil", "internal/reflectlite.TypeOf", "(internal/reflectlite.Value).Elem", "(internal/reflectlite.Value).Set"], unfollowed := true, recurses := true, named := ["errors.errorType"], apart := false, laid := [("errors.errorType", laid_errors_errorType)] }
def LzReadsSaid : Prop := lzReadsRow.holds Tryd.pinned (OpenSpec.ofChange lzReadsSpec)

/-- ITS FALSE NEIGHBOUR: 'it returns false'. Refute it at one input. -/
def lzReadsWrong : ChangeSpec := { name := "lzReads", fn := fun _ => fun
  | [d] => { results := [.lit (.bool false)], args := [d] }
  | _ => none }
def LzReadsWrongFalsely : Prop := lzReadsRow.holds Tryd.pinned (OpenSpec.ofChange lzReadsWrong)

/-- 'packtrainlaw.LzWrites': WHATEVER THE INPUT: true; the input reads as it did. -/
def lzWritesSpec : ChangeSpec := { name := "lzWrites", fn := fun _ => fun
  | [d] => { results := [.lit (.bool true)], args := [d] }
  | _ => none }
def lzWritesRow : OpenClaim := { program := "ytglemfdnfaemiaadoor", sum := "56a3e999fa0fd53a5e76556e8b76401e7fea59fcb6744896abbaec570f0cfed1", func := "packtrain/packtrainlaw.LzWrites", spec := "lzWrites", inPlace := ["internal/abi.NoEscape", "internal/bytealg.MakeNoZero", "internal/reflectlite.ValueOf", "(internal/reflectlite.Value).Type", "(internal/reflectlite.Value).IsNil", "internal/reflectlite.TypeOf", "(internal/reflectlite.Value).Elem", "(internal/reflectlite.Value).Set"], unfollowed := true, recurses := true, named := ["errors.errorType"], apart := false, laid := [("errors.errorType", laid_errors_errorType)] }
def LzWritesSaid : Prop := lzWritesRow.holds Tryd.pinned (OpenSpec.ofChange lzWritesSpec)

/-- ITS FALSE NEIGHBOUR: 'it returns false'. Refute it at one input. -/
def lzWritesWrong : ChangeSpec := { name := "lzWrites", fn := fun _ => fun
  | [d] => { results := [.lit (.bool false)], args := [d] }
  | _ => none }
def LzWritesWrongFalsely : Prop := lzWritesRow.holds Tryd.pinned (OpenSpec.ofChange lzWritesWrong)

/-- 'packtrainlaw.ChunkTurns': WHATEVER THE INPUT: true; the input reads as it did. -/
def chunkTurnsSpec : ChangeSpec := { name := "chunkTurns", fn := fun _ => fun
  | [d1, d2] => { results := [.lit (.bool true)], args := [d1, d2] }
  | _ => none }
def chunkTurnsRow : OpenClaim := { program := "ytglemfdnfaemiaadoor", sum := "56a3e999fa0fd53a5e76556e8b76401e7fea59fcb6744896abbaec570f0cfed1", func := "packtrain/packtrainlaw.ChunkTurns", spec := "chunkTurns", inPlace := ["internal/reflectlite.ValueOf", "(internal/reflectlite.Value).Type", "(internal/reflectlite.Value).IsNil", "internal/reflectlite.TypeOf", "(internal/reflectlite.Value).Elem", "(internal/reflectlite.Value).Set"], unfollowed := true, recurses := true, named := ["errors.errorType"], apart := false, laid := [("errors.errorType", laid_errors_errorType)] }
def ChunkTurnsSaid : Prop := chunkTurnsRow.holds Tryd.pinned (OpenSpec.ofChange chunkTurnsSpec)

/-- ITS FALSE NEIGHBOUR: 'it returns false'. Refute it at one input. -/
def chunkTurnsWrong : ChangeSpec := { name := "chunkTurns", fn := fun _ => fun
  | [d1, d2] => { results := [.lit (.bool false)], args := [d1, d2] }
  | _ => none }
def ChunkTurnsWrongFalsely : Prop := chunkTurnsRow.holds Tryd.pinned (OpenSpec.ofChange chunkTurnsWrong)

/-- 'packtrainlaw.LzSqueezes': WHATEVER THE INPUT: true; the input reads as it did. -/
def lzSqueezesSpec : ChangeSpec := { name := "lzSqueezes", fn := fun _ => fun
  | [d] => { results := [.lit (.bool true)], args := [d] }
  | _ => none }
def lzSqueezesRow : OpenClaim := { program := "ytglemfdnfaemiaadoor", sum := "56a3e999fa0fd53a5e76556e8b76401e7fea59fcb6744896abbaec570f0cfed1", func := "packtrain/packtrainlaw.LzSqueezes", spec := "lzSqueezes", inPlace := ["internal/abi.NoEscape", "internal/bytealg.MakeNoZero", "internal/reflectlite.ValueOf", "(internal/reflectlite.Value).Type", "(internal/reflectlite.Value).IsNil", "internal/reflectlite.TypeOf", "(internal/reflectlite.Value).Elem", "(internal/reflectlite.Value).Set"], unfollowed := true, recurses := true, named := ["errors.errorType"], apart := false, laid := [("errors.errorType", laid_errors_errorType)] }
def LzSqueezesSaid : Prop := lzSqueezesRow.holds Tryd.pinned (OpenSpec.ofChange lzSqueezesSpec)

/-- ITS FALSE NEIGHBOUR: 'it returns false'. Refute it at one input. -/
def lzSqueezesWrong : ChangeSpec := { name := "lzSqueezes", fn := fun _ => fun
  | [d] => { results := [.lit (.bool false)], args := [d] }
  | _ => none }
def LzSqueezesWrongFalsely : Prop := lzSqueezesRow.holds Tryd.pinned (OpenSpec.ofChange lzSqueezesWrong)

/-- 'packtrainlaw.WriteRights': WHATEVER THE INPUT: true; the input reads as it did. -/
def writeRightsSpec : ChangeSpec := { name := "writeRights", fn := fun _ => fun
  | [d] => { results := [.lit (.bool true)], args := [d] }
  | _ => none }
def writeRightsRow : OpenClaim := { program := "ytglemfdnfaemiaadoor", sum := "56a3e999fa0fd53a5e76556e8b76401e7fea59fcb6744896abbaec570f0cfed1", func := "packtrain/packtrainlaw.WriteRights", spec := "writeRights", inPlace := ["internal/bytealg.IndexByteString", "internal/bytealg.IndexString", "internal/reflectlite.ValueOf", "(internal/reflectlite.Value).Type", "(internal/reflectlite.Value).IsNil", "internal/reflectlite.TypeOf", "(internal/reflectlite.Value).Elem", "(internal/reflectlite.Value).Set"], unfollowed := true, recurses := true, named := ["internal/strconv.uint64pow10", "math/bits.deBruijn32tab", "math/bits.deBruijn64tab", "internal/bytealg.MaxLen", "errors.errorType"], apart := false, laid := [("math/bits.deBruijn32tab", laid_math_bits_deBruijn32tab), ("math/bits.deBruijn64tab", laid_math_bits_deBruijn64tab), ("internal/strconv.uint64pow10", laid_internal_strconv_uint64pow10), ("errors.errorType", laid_errors_errorType)] }
def WriteRightsSaid : Prop := writeRightsRow.holds Tryd.pinned (OpenSpec.ofChange writeRightsSpec)

/-- ITS FALSE NEIGHBOUR: 'it returns false'. Refute it at one input. -/
def writeRightsWrong : ChangeSpec := { name := "writeRights", fn := fun _ => fun
  | [d] => { results := [.lit (.bool false)], args := [d] }
  | _ => none }
def WriteRightsWrongFalsely : Prop := writeRightsRow.holds Tryd.pinned (OpenSpec.ofChange writeRightsWrong)

/-- 'packtrainlaw.WriteFills': WHATEVER THE INPUT: true; the input reads as it did. -/
def writeFillsSpec : ChangeSpec := { name := "writeFills", fn := fun _ => fun
  | [d1, d2] => { results := [.lit (.bool true)], args := [d1, d2] }
  | _ => none }
def writeFillsRow : OpenClaim := { program := "ytglemfdnfaemiaadoor", sum := "56a3e999fa0fd53a5e76556e8b76401e7fea59fcb6744896abbaec570f0cfed1", func := "packtrain/packtrainlaw.WriteFills", spec := "writeFills", inPlace := ["internal/bytealg.IndexByteString", "internal/bytealg.IndexString", "internal/reflectlite.ValueOf", "(internal/reflectlite.Value).Type", "(internal/reflectlite.Value).IsNil", "internal/reflectlite.TypeOf", "(internal/reflectlite.Value).Elem", "(internal/reflectlite.Value).Set"], unfollowed := true, recurses := true, named := ["internal/strconv.uint64pow10", "math/bits.deBruijn32tab", "math/bits.deBruijn64tab", "internal/bytealg.MaxLen", "errors.errorType"], apart := false, laid := [("math/bits.deBruijn32tab", laid_math_bits_deBruijn32tab), ("math/bits.deBruijn64tab", laid_math_bits_deBruijn64tab), ("internal/strconv.uint64pow10", laid_internal_strconv_uint64pow10), ("errors.errorType", laid_errors_errorType)] }
def WriteFillsSaid : Prop := writeFillsRow.holds Tryd.pinned (OpenSpec.ofChange writeFillsSpec)

/-- ITS FALSE NEIGHBOUR: 'it returns false'. Refute it at one input. -/
def writeFillsWrong : ChangeSpec := { name := "writeFills", fn := fun _ => fun
  | [d1, d2] => { results := [.lit (.bool false)], args := [d1, d2] }
  | _ => none }
def WriteFillsWrongFalsely : Prop := writeFillsRow.holds Tryd.pinned (OpenSpec.ofChange writeFillsWrong)

/-- 'packtrainlaw.BatchRights': WHATEVER THE INPUT: true; the input reads as it did. -/
def batchRightsSpec : ChangeSpec := { name := "batchRights", fn := fun _ => fun
  | [d] => { results := [.lit (.bool true)], args := [d] }
  | _ => none }
def batchRightsRow : OpenClaim := { program := "ytglemfdnfaemiaadoor", sum := "56a3e999fa0fd53a5e76556e8b76401e7fea59fcb6744896abbaec570f0cfed1", func := "packtrain/packtrainlaw.BatchRights", spec := "batchRights", inPlace := ["internal/reflectlite.ValueOf", "(internal/reflectlite.Value).Type", "(internal/reflectlite.Value).IsNil", "internal/reflectlite.TypeOf", "(internal/reflectlite.Value).Elem", "(internal/reflectlite.Value).Set", "internal/bytealg.IndexByteString", "internal/bytealg.IndexString"], unfollowed := true, recurses := true, named := ["errors.errorType", "internal/strconv.uint64pow10", "math/bits.deBruijn32tab", "math/bits.deBruijn64tab", "internal/bytealg.MaxLen"], apart := false, laid := [("math/bits.deBruijn32tab", laid_math_bits_deBruijn32tab), ("math/bits.deBruijn64tab", laid_math_bits_deBruijn64tab), ("internal/strconv.uint64pow10", laid_internal_strconv_uint64pow10), ("errors.errorType", laid_errors_errorType)] }
def BatchRightsSaid : Prop := batchRightsRow.holds Tryd.pinned (OpenSpec.ofChange batchRightsSpec)

/-- ITS FALSE NEIGHBOUR: 'it returns false'. Refute it at one input. -/
def batchRightsWrong : ChangeSpec := { name := "batchRights", fn := fun _ => fun
  | [d] => { results := [.lit (.bool false)], args := [d] }
  | _ => none }
def BatchRightsWrongFalsely : Prop := batchRightsRow.holds Tryd.pinned (OpenSpec.ofChange batchRightsWrong)

/-- 'packtrainlaw.BodyWrites': WHATEVER THE INPUT: true; the input reads as it did. -/
def bodyWritesSpec : ChangeSpec := { name := "bodyWrites", fn := fun _ => fun
  | [d] => { results := [.lit (.bool true)], args := [d] }
  | _ => none }
def bodyWritesRow : OpenClaim := { program := "ytglemfdnfaemiaadoor", sum := "56a3e999fa0fd53a5e76556e8b76401e7fea59fcb6744896abbaec570f0cfed1", func := "packtrain/packtrainlaw.BodyWrites", spec := "bodyWrites", inPlace := ["internal/bytealg.IndexByteString", "internal/bytealg.IndexString", "internal/reflectlite.ValueOf", "(internal/reflectlite.Value).Type", "(internal/reflectlite.Value).IsNil", "internal/reflectlite.TypeOf", "(internal/reflectlite.Value).Elem", "(internal/reflectlite.Value).Set"], unfollowed := true, recurses := true, named := ["internal/strconv.uint64pow10", "math/bits.deBruijn32tab", "math/bits.deBruijn64tab", "internal/bytealg.MaxLen", "errors.errorType"], apart := false, laid := [("math/bits.deBruijn32tab", laid_math_bits_deBruijn32tab), ("math/bits.deBruijn64tab", laid_math_bits_deBruijn64tab), ("internal/strconv.uint64pow10", laid_internal_strconv_uint64pow10), ("errors.errorType", laid_errors_errorType)] }
def BodyWritesSaid : Prop := bodyWritesRow.holds Tryd.pinned (OpenSpec.ofChange bodyWritesSpec)

/-- ITS FALSE NEIGHBOUR: 'it returns false'. Refute it at one input. -/
def bodyWritesWrong : ChangeSpec := { name := "bodyWrites", fn := fun _ => fun
  | [d] => { results := [.lit (.bool false)], args := [d] }
  | _ => none }
def BodyWritesWrongFalsely : Prop := bodyWritesRow.holds Tryd.pinned (OpenSpec.ofChange bodyWritesWrong)

/- THE SECOND FORM. 'bulk': how many values and letters a reading holds, each counted each time it is reached (what is shared counts as often as it is met; a slice's spare places count too). A statement '..UptoSaid' is the law's where the arguments, and the package variables that the reading takes, are together of bulk at most 1048576: NARROWER than '..Said'. Prove '..Said' where nothing that the law and all that it calls make is longer than what came in: it says more and counts as full. Else prove '..UptoSaid'. A law counts once. -/
mutual
def uptoBulk {H : Type} : DataW H → Nat
  | .lit (.string bytes) => bytes.length + 1
  | .lit _ => 1
  | .nil => 1
  | .ptr d => uptoBulk d + 1
  | .slice elems spare => uptoBulkAll elems + uptoBulkAll spare + 1
  | .agg parts => uptoBulkAll parts + 1
  | .iface _ d => uptoBulk d + 1
  | .map entries => uptoBulkEntries entries + 1
  | .held _ => 1
def uptoBulkAll {H : Type} : List (DataW H) → Nat
  | [] => 0
  | d :: r => uptoBulk d + uptoBulkAll r
def uptoBulkEntries {H : Type} : List (Lit × DataW H) → Nat
  | [] => 0
  | x :: r => uptoBulkEntry x + uptoBulkEntries r
def uptoBulkEntry {H : Type} : Lit × DataW H → Nat
  | (.string bytes, d) => bytes.length + uptoBulk d + 1
  | (_, d) => uptoBulk d + 1
 end
def uptoSmall : (H : Type) → List (DataW H) → Bool := fun _ ds => decide (uptoBulkAll ds ≤ 1048576)
def OpenSpec.upto (s : _root_.Go.ChangeSpec) : _root_.Go.OpenSpec := { _root_.Go.OpenSpec.ofChange s with cond := some uptoSmall }

/-- 'packtrainlaw.VectorRights', WHERE WHAT IT READS IS OF BULK AT MOST 1048576: true; the input reads as it did. -/
def vectorRightsUptoRow : OpenClaim := { program := "ytglemfdnfaemiaadoor", sum := "56a3e999fa0fd53a5e76556e8b76401e7fea59fcb6744896abbaec570f0cfed1", func := "packtrain/packtrainlaw.VectorRights", spec := "vectorRights", inPlace := ["internal/reflectlite.ValueOf", "(internal/reflectlite.Value).Type", "(internal/reflectlite.Value).IsNil", "internal/reflectlite.TypeOf", "(internal/reflectlite.Value).Elem", "(internal/reflectlite.Value).Set"], unfollowed := true, recurses := true, named := ["errors.errorType"], apart := false, laid := [("errors.errorType", laid_errors_errorType)], narrowed := true }
def VectorRightsUptoSaid : Prop := vectorRightsUptoRow.holds Tryd.pinned (OpenSpec.upto vectorRightsSpec)

/-- 'packtrainlaw.VaryInts', WHERE WHAT IT READS IS OF BULK AT MOST 1048576: true; the input reads as it did. -/
def varyIntsUptoRow : OpenClaim := { program := "ytglemfdnfaemiaadoor", sum := "56a3e999fa0fd53a5e76556e8b76401e7fea59fcb6744896abbaec570f0cfed1", func := "packtrain/packtrainlaw.VaryInts", spec := "varyInts", inPlace := ["internal/reflectlite.ValueOf", "(internal/reflectlite.Value).Type", "(internal/reflectlite.Value).IsNil", "internal/reflectlite.TypeOf", "(internal/reflectlite.Value).Elem", "(internal/reflectlite.Value).Set"], unfollowed := true, recurses := true, named := ["errors.errorType"], apart := false, laid := [("errors.errorType", laid_errors_errorType)], narrowed := true }
def VaryIntsUptoSaid : Prop := varyIntsUptoRow.holds Tryd.pinned (OpenSpec.upto varyIntsSpec)

/-- 'packtrainlaw.CrcSeals', WHERE WHAT IT READS IS OF BULK AT MOST 1048576: true; the input reads as it did. -/
def crcSealsUptoRow : OpenClaim := { program := "ytglemfdnfaemiaadoor", sum := "56a3e999fa0fd53a5e76556e8b76401e7fea59fcb6744896abbaec570f0cfed1", func := "packtrain/packtrainlaw.CrcSeals", spec := "crcSeals", inPlace := ["internal/reflectlite.ValueOf", "(internal/reflectlite.Value).Type", "(internal/reflectlite.Value).IsNil", "internal/reflectlite.TypeOf", "(internal/reflectlite.Value).Elem", "(internal/reflectlite.Value).Set"], unfollowed := true, recurses := true, named := ["errors.errorType"], apart := false, laid := [("errors.errorType", laid_errors_errorType)], narrowed := true }
def CrcSealsUptoSaid : Prop := crcSealsUptoRow.holds Tryd.pinned (OpenSpec.upto crcSealsSpec)

/-- 'packtrainlaw.KeysLists', WHERE WHAT IT READS IS OF BULK AT MOST 1048576: true; the input reads as it did. -/
def keysListsUptoRow : OpenClaim := { program := "ytglemfdnfaemiaadoor", sum := "56a3e999fa0fd53a5e76556e8b76401e7fea59fcb6744896abbaec570f0cfed1", func := "packtrain/packtrainlaw.KeysLists", spec := "keysLists", inPlace := ["internal/reflectlite.ValueOf", "(internal/reflectlite.Value).Type", "(internal/reflectlite.Value).IsNil", "internal/reflectlite.TypeOf", "(internal/reflectlite.Value).Elem", "(internal/reflectlite.Value).Set"], unfollowed := true, recurses := true, named := ["errors.errorType"], apart := false, laid := [("errors.errorType", laid_errors_errorType)], narrowed := true }
def KeysListsUptoSaid : Prop := keysListsUptoRow.holds Tryd.pinned (OpenSpec.upto keysListsSpec)

/-- 'packtrainlaw.MatchTexts', WHERE WHAT IT READS IS OF BULK AT MOST 1048576: true; the input reads as it did. -/
def matchTextsUptoRow : OpenClaim := { program := "ytglemfdnfaemiaadoor", sum := "56a3e999fa0fd53a5e76556e8b76401e7fea59fcb6744896abbaec570f0cfed1", func := "packtrain/packtrainlaw.MatchTexts", spec := "matchTexts", inPlace := ["internal/reflectlite.ValueOf", "(internal/reflectlite.Value).Type", "(internal/reflectlite.Value).IsNil", "internal/reflectlite.TypeOf", "(internal/reflectlite.Value).Elem", "(internal/reflectlite.Value).Set"], unfollowed := true, recurses := true, named := ["errors.errorType"], apart := false, laid := [("errors.errorType", laid_errors_errorType)], narrowed := true }
def MatchTextsUptoSaid : Prop := matchTextsUptoRow.holds Tryd.pinned (OpenSpec.upto matchTextsSpec)

/-- 'packtrainlaw.VaryTurns', WHERE WHAT IT READS IS OF BULK AT MOST 1048576: true; the input reads as it did. -/
def varyTurnsUptoRow : OpenClaim := { program := "ytglemfdnfaemiaadoor", sum := "56a3e999fa0fd53a5e76556e8b76401e7fea59fcb6744896abbaec570f0cfed1", func := "packtrain/packtrainlaw.VaryTurns", spec := "varyTurns", inPlace := ["internal/reflectlite.ValueOf", "(internal/reflectlite.Value).Type", "(internal/reflectlite.Value).IsNil", "internal/reflectlite.TypeOf", "(internal/reflectlite.Value).Elem", "(internal/reflectlite.Value).Set"], unfollowed := true, recurses := true, named := ["errors.errorType"], apart := false, laid := [("errors.errorType", laid_errors_errorType)], narrowed := true }
def VaryTurnsUptoSaid : Prop := varyTurnsUptoRow.holds Tryd.pinned (OpenSpec.upto varyTurnsSpec)

/-- 'packtrainlaw.ChunkCuts', WHERE WHAT IT READS IS OF BULK AT MOST 1048576: true; the input reads as it did. -/
def chunkCutsUptoRow : OpenClaim := { program := "ytglemfdnfaemiaadoor", sum := "56a3e999fa0fd53a5e76556e8b76401e7fea59fcb6744896abbaec570f0cfed1", func := "packtrain/packtrainlaw.ChunkCuts", spec := "chunkCuts", inPlace := ["internal/reflectlite.ValueOf", "(internal/reflectlite.Value).Type", "(internal/reflectlite.Value).IsNil", "internal/reflectlite.TypeOf", "(internal/reflectlite.Value).Elem", "(internal/reflectlite.Value).Set"], unfollowed := true, recurses := true, named := ["errors.errorType"], apart := false, laid := [("errors.errorType", laid_errors_errorType)], narrowed := true }
def ChunkCutsUptoSaid : Prop := chunkCutsUptoRow.holds Tryd.pinned (OpenSpec.upto chunkCutsSpec)

/-- 'packtrainlaw.SpanAlls', WHERE WHAT IT READS IS OF BULK AT MOST 1048576: true; the input reads as it did. -/
def spanAllsUptoRow : OpenClaim := { program := "ytglemfdnfaemiaadoor", sum := "56a3e999fa0fd53a5e76556e8b76401e7fea59fcb6744896abbaec570f0cfed1", func := "packtrain/packtrainlaw.SpanAlls", spec := "spanAlls", inPlace := ["internal/reflectlite.ValueOf", "(internal/reflectlite.Value).Type", "(internal/reflectlite.Value).IsNil", "internal/reflectlite.TypeOf", "(internal/reflectlite.Value).Elem", "(internal/reflectlite.Value).Set"], unfollowed := true, recurses := true, named := ["errors.errorType"], apart := false, laid := [("errors.errorType", laid_errors_errorType)], narrowed := true }
def SpanAllsUptoSaid : Prop := spanAllsUptoRow.holds Tryd.pinned (OpenSpec.upto spanAllsSpec)

/-- 'packtrainlaw.VectorWrites', WHERE WHAT IT READS IS OF BULK AT MOST 1048576: true; the input reads as it did. -/
def vectorWritesUptoRow : OpenClaim := { program := "ytglemfdnfaemiaadoor", sum := "56a3e999fa0fd53a5e76556e8b76401e7fea59fcb6744896abbaec570f0cfed1", func := "packtrain/packtrainlaw.VectorWrites", spec := "vectorWrites", inPlace := ["internal/reflectlite.ValueOf", "(internal/reflectlite.Value).Type", "(internal/reflectlite.Value).IsNil", "internal/reflectlite.TypeOf", "(internal/reflectlite.Value).Elem", "(internal/reflectlite.Value).Set"], unfollowed := true, recurses := true, named := ["errors.errorType"], apart := false, laid := [("errors.errorType", laid_errors_errorType)], narrowed := true }
def VectorWritesUptoSaid : Prop := vectorWritesUptoRow.holds Tryd.pinned (OpenSpec.upto vectorWritesSpec)

/-- 'packtrainlaw.SpanTurns', WHERE WHAT IT READS IS OF BULK AT MOST 1048576: true; the input reads as it did. -/
def spanTurnsUptoRow : OpenClaim := { program := "ytglemfdnfaemiaadoor", sum := "56a3e999fa0fd53a5e76556e8b76401e7fea59fcb6744896abbaec570f0cfed1", func := "packtrain/packtrainlaw.SpanTurns", spec := "spanTurns", inPlace := ["internal/reflectlite.ValueOf", "(internal/reflectlite.Value).Type", "(internal/reflectlite.Value).IsNil", "internal/reflectlite.TypeOf", "(internal/reflectlite.Value).Elem", "(internal/reflectlite.Value).Set"], unfollowed := true, recurses := true, named := ["errors.errorType"], apart := false, laid := [("errors.errorType", laid_errors_errorType)], narrowed := true }
def SpanTurnsUptoSaid : Prop := spanTurnsUptoRow.holds Tryd.pinned (OpenSpec.upto spanTurnsSpec)

/-- 'packtrainlaw.VectorJoins', WHERE WHAT IT READS IS OF BULK AT MOST 1048576: true; the input reads as it did. -/
def vectorJoinsUptoRow : OpenClaim := { program := "ytglemfdnfaemiaadoor", sum := "56a3e999fa0fd53a5e76556e8b76401e7fea59fcb6744896abbaec570f0cfed1", func := "packtrain/packtrainlaw.VectorJoins", spec := "vectorJoins", inPlace := ["internal/reflectlite.ValueOf", "(internal/reflectlite.Value).Type", "(internal/reflectlite.Value).IsNil", "internal/reflectlite.TypeOf", "(internal/reflectlite.Value).Elem", "(internal/reflectlite.Value).Set"], unfollowed := true, recurses := true, named := ["errors.errorType"], apart := false, laid := [("errors.errorType", laid_errors_errorType)], narrowed := true }
def VectorJoinsUptoSaid : Prop := vectorJoinsUptoRow.holds Tryd.pinned (OpenSpec.upto vectorJoinsSpec)

/-- 'packtrainlaw.VectorReads', WHERE WHAT IT READS IS OF BULK AT MOST 1048576: true; the input reads as it did. -/
def vectorReadsUptoRow : OpenClaim := { program := "ytglemfdnfaemiaadoor", sum := "56a3e999fa0fd53a5e76556e8b76401e7fea59fcb6744896abbaec570f0cfed1", func := "packtrain/packtrainlaw.VectorReads", spec := "vectorReads", inPlace := ["internal/reflectlite.ValueOf", "(internal/reflectlite.Value).Type", "(internal/reflectlite.Value).IsNil", "internal/reflectlite.TypeOf", "(internal/reflectlite.Value).Elem", "(internal/reflectlite.Value).Set"], unfollowed := true, recurses := true, named := ["errors.errorType"], apart := false, laid := [("errors.errorType", laid_errors_errorType)], narrowed := true }
def VectorReadsUptoSaid : Prop := vectorReadsUptoRow.holds Tryd.pinned (OpenSpec.upto vectorReadsSpec)

/-- 'packtrainlaw.LzReads', WHERE WHAT IT READS IS OF BULK AT MOST 1048576: true; the input reads as it did. -/
def lzReadsUptoRow : OpenClaim := { program := "ytglemfdnfaemiaadoor", sum := "56a3e999fa0fd53a5e76556e8b76401e7fea59fcb6744896abbaec570f0cfed1", func := "packtrain/packtrainlaw.LzReads", spec := "lzReads", inPlace := ["internal/reflectlite.ValueOf", "(internal/reflectlite.Value).Type", "(internal/reflectlite.Value).IsNil", "internal/reflectlite.TypeOf", "(internal/reflectlite.Value).Elem", "(internal/reflectlite.Value).Set"], unfollowed := true, recurses := true, named := ["errors.errorType"], apart := false, laid := [("errors.errorType", laid_errors_errorType)], narrowed := true }
def LzReadsUptoSaid : Prop := lzReadsUptoRow.holds Tryd.pinned (OpenSpec.upto lzReadsSpec)

/-- 'packtrainlaw.LzWrites', WHERE WHAT IT READS IS OF BULK AT MOST 1048576: true; the input reads as it did. -/
def lzWritesUptoRow : OpenClaim := { program := "ytglemfdnfaemiaadoor", sum := "56a3e999fa0fd53a5e76556e8b76401e7fea59fcb6744896abbaec570f0cfed1", func := "packtrain/packtrainlaw.LzWrites", spec := "lzWrites", inPlace := ["internal/abi.NoEscape", "internal/bytealg.MakeNoZero", "internal/reflectlite.ValueOf", "(internal/reflectlite.Value).Type", "(internal/reflectlite.Value).IsNil", "internal/reflectlite.TypeOf", "(internal/reflectlite.Value).Elem", "(internal/reflectlite.Value).Set"], unfollowed := true, recurses := true, named := ["errors.errorType"], apart := false, laid := [("errors.errorType", laid_errors_errorType)], narrowed := true }
def LzWritesUptoSaid : Prop := lzWritesUptoRow.holds Tryd.pinned (OpenSpec.upto lzWritesSpec)

/-- 'packtrainlaw.ChunkTurns', WHERE WHAT IT READS IS OF BULK AT MOST 1048576: true; the input reads as it did. -/
def chunkTurnsUptoRow : OpenClaim := { program := "ytglemfdnfaemiaadoor", sum := "56a3e999fa0fd53a5e76556e8b76401e7fea59fcb6744896abbaec570f0cfed1", func := "packtrain/packtrainlaw.ChunkTurns", spec := "chunkTurns", inPlace := ["internal/reflectlite.ValueOf", "(internal/reflectlite.Value).Type", "(internal/reflectlite.Value).IsNil", "internal/reflectlite.TypeOf", "(internal/reflectlite.Value).Elem", "(internal/reflectlite.Value).Set"], unfollowed := true, recurses := true, named := ["errors.errorType"], apart := false, laid := [("errors.errorType", laid_errors_errorType)], narrowed := true }
def ChunkTurnsUptoSaid : Prop := chunkTurnsUptoRow.holds Tryd.pinned (OpenSpec.upto chunkTurnsSpec)

/-- 'packtrainlaw.LzSqueezes', WHERE WHAT IT READS IS OF BULK AT MOST 1048576: true; the input reads as it did. -/
def lzSqueezesUptoRow : OpenClaim := { program := "ytglemfdnfaemiaadoor", sum := "56a3e999fa0fd53a5e76556e8b76401e7fea59fcb6744896abbaec570f0cfed1", func := "packtrain/packtrainlaw.LzSqueezes", spec := "lzSqueezes", inPlace := ["internal/abi.NoEscape", "internal/bytealg.MakeNoZero", "internal/reflectlite.ValueOf", "(internal/reflectlite.Value).Type", "(internal/reflectlite.Value).IsNil", "internal/reflectlite.TypeOf", "(internal/reflectlite.Value).Elem", "(internal/reflectlite.Value).Set"], unfollowed := true, recurses := true, named := ["errors.errorType"], apart := false, laid := [("errors.errorType", laid_errors_errorType)], narrowed := true }
def LzSqueezesUptoSaid : Prop := lzSqueezesUptoRow.holds Tryd.pinned (OpenSpec.upto lzSqueezesSpec)

/-- 'packtrainlaw.WriteRights', WHERE WHAT IT READS IS OF BULK AT MOST 1048576: true; the input reads as it did. -/
def writeRightsUptoRow : OpenClaim := { program := "ytglemfdnfaemiaadoor", sum := "56a3e999fa0fd53a5e76556e8b76401e7fea59fcb6744896abbaec570f0cfed1", func := "packtrain/packtrainlaw.WriteRights", spec := "writeRights", inPlace := ["internal/bytealg.IndexByteString", "internal/bytealg.IndexString", "internal/reflectlite.ValueOf", "(internal/reflectlite.Value).Type", "(internal/reflectlite.Value).IsNil", "internal/reflectlite.TypeOf", "(internal/reflectlite.Value).Elem", "(internal/reflectlite.Value).Set"], unfollowed := true, recurses := true, named := ["internal/strconv.uint64pow10", "math/bits.deBruijn32tab", "math/bits.deBruijn64tab", "internal/bytealg.MaxLen", "errors.errorType"], apart := false, laid := [("math/bits.deBruijn32tab", laid_math_bits_deBruijn32tab), ("math/bits.deBruijn64tab", laid_math_bits_deBruijn64tab), ("internal/strconv.uint64pow10", laid_internal_strconv_uint64pow10), ("errors.errorType", laid_errors_errorType)], narrowed := true }
def WriteRightsUptoSaid : Prop := writeRightsUptoRow.holds Tryd.pinned (OpenSpec.upto writeRightsSpec)

/-- 'packtrainlaw.WriteFills', WHERE WHAT IT READS IS OF BULK AT MOST 1048576: true; the input reads as it did. -/
def writeFillsUptoRow : OpenClaim := { program := "ytglemfdnfaemiaadoor", sum := "56a3e999fa0fd53a5e76556e8b76401e7fea59fcb6744896abbaec570f0cfed1", func := "packtrain/packtrainlaw.WriteFills", spec := "writeFills", inPlace := ["internal/bytealg.IndexByteString", "internal/bytealg.IndexString", "internal/reflectlite.ValueOf", "(internal/reflectlite.Value).Type", "(internal/reflectlite.Value).IsNil", "internal/reflectlite.TypeOf", "(internal/reflectlite.Value).Elem", "(internal/reflectlite.Value).Set"], unfollowed := true, recurses := true, named := ["internal/strconv.uint64pow10", "math/bits.deBruijn32tab", "math/bits.deBruijn64tab", "internal/bytealg.MaxLen", "errors.errorType"], apart := false, laid := [("math/bits.deBruijn32tab", laid_math_bits_deBruijn32tab), ("math/bits.deBruijn64tab", laid_math_bits_deBruijn64tab), ("internal/strconv.uint64pow10", laid_internal_strconv_uint64pow10), ("errors.errorType", laid_errors_errorType)], narrowed := true }
def WriteFillsUptoSaid : Prop := writeFillsUptoRow.holds Tryd.pinned (OpenSpec.upto writeFillsSpec)

/-- 'packtrainlaw.BatchRights', WHERE WHAT IT READS IS OF BULK AT MOST 1048576: true; the input reads as it did. -/
def batchRightsUptoRow : OpenClaim := { program := "ytglemfdnfaemiaadoor", sum := "56a3e999fa0fd53a5e76556e8b76401e7fea59fcb6744896abbaec570f0cfed1", func := "packtrain/packtrainlaw.BatchRights", spec := "batchRights", inPlace := ["internal/reflectlite.ValueOf", "(internal/reflectlite.Value).Type", "(internal/reflectlite.Value).IsNil", "internal/reflectlite.TypeOf", "(internal/reflectlite.Value).Elem", "(internal/reflectlite.Value).Set", "internal/bytealg.IndexByteString", "internal/bytealg.IndexString"], unfollowed := true, recurses := true, named := ["errors.errorType", "internal/strconv.uint64pow10", "math/bits.deBruijn32tab", "math/bits.deBruijn64tab", "internal/bytealg.MaxLen"], apart := false, laid := [("math/bits.deBruijn32tab", laid_math_bits_deBruijn32tab), ("math/bits.deBruijn64tab", laid_math_bits_deBruijn64tab), ("internal/strconv.uint64pow10", laid_internal_strconv_uint64pow10), ("errors.errorType", laid_errors_errorType)], narrowed := true }
def BatchRightsUptoSaid : Prop := batchRightsUptoRow.holds Tryd.pinned (OpenSpec.upto batchRightsSpec)

/-- 'packtrainlaw.BodyWrites', WHERE WHAT IT READS IS OF BULK AT MOST 1048576: true; the input reads as it did. -/
def bodyWritesUptoRow : OpenClaim := { program := "ytglemfdnfaemiaadoor", sum := "56a3e999fa0fd53a5e76556e8b76401e7fea59fcb6744896abbaec570f0cfed1", func := "packtrain/packtrainlaw.BodyWrites", spec := "bodyWrites", inPlace := ["internal/bytealg.IndexByteString", "internal/bytealg.IndexString", "internal/reflectlite.ValueOf", "(internal/reflectlite.Value).Type", "(internal/reflectlite.Value).IsNil", "internal/reflectlite.TypeOf", "(internal/reflectlite.Value).Elem", "(internal/reflectlite.Value).Set"], unfollowed := true, recurses := true, named := ["internal/strconv.uint64pow10", "math/bits.deBruijn32tab", "math/bits.deBruijn64tab", "internal/bytealg.MaxLen", "errors.errorType"], apart := false, laid := [("math/bits.deBruijn32tab", laid_math_bits_deBruijn32tab), ("math/bits.deBruijn64tab", laid_math_bits_deBruijn64tab), ("internal/strconv.uint64pow10", laid_internal_strconv_uint64pow10), ("errors.errorType", laid_errors_errorType)], narrowed := true }
def BodyWritesUptoSaid : Prop := bodyWritesUptoRow.holds Tryd.pinned (OpenSpec.upto bodyWritesSpec)

end Rows
end Go.Proofs.YtglemfdnfaemiaaDoor
