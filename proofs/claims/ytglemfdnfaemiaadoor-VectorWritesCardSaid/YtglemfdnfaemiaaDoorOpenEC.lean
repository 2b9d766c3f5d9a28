/- Slices of entries as arguments, with what they have room for. -/
import Derived.Test.YtglemfdnfaemiaaDoorOpenE
import Derived.Test.YtglemfdnfaemiaaDoorOpenR
namespace Go.Proofs.YtglemfdnfaemiaaDoor
set_option maxRecDepth 100000
open Go.ChangeShapes Go.WideShapes Go.ChangeAt Go.RowKit
section
variable {H : Type} {enc : TypeId × Value → H} {w : World} {base : Nat} {spare : Nat → Bool} {held : Bool}
theorem slice_room {t e : TypeId} {A : Option Addr} {n c : Nat} {d : DataW H} {p : List MemPlace} {P : Program} (ht : P.underlying t = some (.slice e)) (h : DataW.Trod enc P w base spare held t (.slice A n c) d p) : n ≤ c := by
  obtain ⟨fuel, hf⟩ := h
  rcases Go.Deep.open_slice ht hf with ⟨h1, _⟩ | ⟨a, n', c', m, k, D, Pl, hcs, _, hl, _⟩
  · simp [Value.cells] at h1
    omega
  · simp [Value.cells] at hcs
    omega
theorem bytesEnt : Tryd.prog.bytesOf 92 = 16 := by kernel_rfl
theorem open_ents_r {r : Reach} {b0 : Nat} {v : Value} {d : DataW H} {p : List MemPlace} (hv : Value.okWide Tryd.prog w r b0 22 v) (h : DataW.Trod enc Tryd.prog w base spare held 22 v d p) (hs : Small Tryd.prog 22 d) :
    ∃ a : EntArg, v = .slice a.A a.n a.c ∧ (Ents w w.heap.size a.A a.n a.l ∧ a.n * 16 ≤ 140737488351232 ∧ a.n ≤ a.c) := by
  obtain ⟨A, n, c, l, rfl, hn, hl, hsl, ho⟩ := open_elems_r entCells 2 (by omega) entCells_len entFits 16 Tryd.underlying22 cellsEnt bytesEnt hs (fun cs m y hy _ => open_ent cs m y hy) hv h
  exact ⟨⟨A, n, c, l⟩, rfl, ⟨hsl, ho⟩, hn, slice_room Tryd.underlying22 h⟩
end
end Go.Proofs.YtglemfdnfaemiaaDoor
