/- Two cells kept. Any program. -/
import Derived.Test.YtglemfdnfaemiaaDoorMem
namespace Go.Proofs.YtglemfdnfaemiaaDoor
open Go.RowKit
theorem two_cells {w w' : World} {s : Nat} {a b : Int} (hb : Below w.heap.size w w') (h : w.cell? ⟨s, 0, none⟩ = some (.int .i64 a) ∧ w.cell? ⟨s, 1, none⟩ = some (.int .i64 b)) : w'.cell? ⟨s, 0, none⟩ = some (.int .i64 a) ∧ w'.cell? ⟨s, 1, none⟩ = some (.int .i64 b) :=
  ⟨(hb.cell (cell_lt h.1)).trans h.1, (hb.cell (cell_lt h.2)).trans h.2⟩
end Go.Proofs.YtglemfdnfaemiaaDoor
