/- A write as an argument, with the form's own reach. -/
import Derived.Test.YtglemfdnfaemiaaDoorOpenR
import Derived.Test.YtglemfdnfaemiaaDoorOpenB
import Derived.Test.YtglemfdnfaemiaaDoorWriteRight
namespace Go.Proofs.YtglemfdnfaemiaaDoor
set_option maxRecDepth 100000
open Go.ChangeShapes Go.WideShapes Go.ChangeAt Go.RowKit
section
variable {H : Type} {enc : TypeId × Value → H} {w : World} {base : Nat} {spare : Nat → Bool} {held : Bool}
theorem open_write_r {r : Reach} {b0 : Nat} {v : Value} {d : DataW H} {p : List MemPlace} (hv : Value.okWide Tryd.prog w r b0 116 v) (h : DataW.Trod enc Tryd.prog w base spare held 116 v d p) (hs : Small Tryd.prog 116 d) :
    ∃ x : Wr, v = wrV x.1 x.2.1 x.2.2.1 x.2.2.2.1 x.2.2.2.2.1 x.2.2.2.2.2 ∧ (wrFits x ∧ x.2.2.2.1.size ≤ 140737488351232 ∧ x.2.2.2.2.1.size ≤ 140737488351232) := by
  obtain ⟨cs, rfl, hsz⟩ := okWide_struct Tryd.underlying116 hv
  obtain ⟨fuel, hf⟩ := h
  obtain ⟨x, hx, fits⟩ := open_wr _ _ _ hf
  obtain ⟨_, hg⟩ := fielded_r Tryd.underlying116 hf hs
  obtain ⟨d3, g3, w3⟩ := field_string_r hg 2 3 9 rfl rfl rfl Tryd.underlying9 cellsStrT
  obtain ⟨d4, g4, w4⟩ := field_string_r hg 3 4 9 rfl rfl rfl Tryd.underlying9 cellsStrT
  rw [hx] at g3 g4
  obtain ⟨a, b, c, d, e, f⟩ := x
  simp [wrCells] at g3 g4
  subst g3 g4
  refine ⟨(a, b, c, d, e, f), ?_, fits, w3, w4⟩
  obtain ⟨l⟩ := cs
  simp [Value.cells, wrCells] at hx
  subst hx
  rfl
end
end Go.Proofs.YtglemfdnfaemiaaDoor
