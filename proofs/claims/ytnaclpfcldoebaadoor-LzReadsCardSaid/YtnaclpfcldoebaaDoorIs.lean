/- (Fault).Is of the reference. -/
import Derived.Test.YtnaclpfcldoebaaDoorVecRight
namespace Go.Proofs.YtnaclpfcldoebaaDoor
open Go.RowKit As
theorem is_any (f : Int × Int) (w : World) : Calls Tryd.prog 30 #[.agg #[.int .i64 f.1, .int .i64 f.2]] w fun r w' => r = .returned (.bool (f.1 == 0)) ∧ Below w.heap.size w w' := by
  go_enter Tryd.func30, Tryd.ntmps30
  go_wp2
  go_ret
  exact ⟨rfl, below1 _ _⟩
end Go.Proofs.YtnaclpfcldoebaaDoor
