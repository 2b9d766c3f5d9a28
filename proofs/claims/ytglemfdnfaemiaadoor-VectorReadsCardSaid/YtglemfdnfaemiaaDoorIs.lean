/- (Fault).Is of the reference. -/
import Derived.Test.YtglemfdnfaemiaaDoorVecRight
namespace Go.Proofs.YtglemfdnfaemiaaDoor
open Go.RowKit As
theorem is_any (f : Int × Int) (w : World) : Calls Tryd.prog 95 #[.agg #[.int .i64 f.1, .int .i64 f.2]] w fun r w' => r = .returned (.bool (f.1 == 0)) ∧ Below w.heap.size w w' := by
  go_enter Tryd.func95, Tryd.ntmps95
  go_wp2
  go_ret
  exact ⟨rfl, below1 _ _⟩
end Go.Proofs.YtglemfdnfaemiaaDoor
