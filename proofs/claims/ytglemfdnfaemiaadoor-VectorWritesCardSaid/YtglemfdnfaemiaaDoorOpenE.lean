/- Entries and ids as arguments. -/
import Derived.Test.YtglemfdnfaemiaaDoorOpen
import Derived.Test.YtglemfdnfaemiaaDoorEnts
import Derived.Test.YtglemfdnfaemiaaDoorRows
import Derived.KernelRfl
namespace Go.Proofs.YtglemfdnfaemiaaDoor
set_option maxRecDepth 100000
open Go.ChangeShapes Go.WideShapes Go.ChangeAt Go.RowKit
section
variable {H : Type} {enc : TypeId × Value → H} {w : World} {base : Nat} {spare : Nat → Bool} {held : Bool}
theorem cellsEnt : Tryd.prog.cellsOf 92 = 2 := by kernel_rfl
theorem cellsInt : Tryd.prog.cellsOf 3 = 1 := by kernel_rfl
theorem open_ent (cs : List Value) (m : Nat) (y : DataW H × List MemPlace) (h : DataW.trod enc Tryd.prog w base spare held m 92 cs = some y) : ∃ x : Ent, cs = entCells x ∧ entFits x := by
  obtain ⟨hcl, hg⟩ := fielded Tryd.underlying92 h
  rw [cellsEnt] at hcl
  obtain ⟨r, g0, w0⟩ := field_int hg 0 0 3 rfl rfl rfl Tryd.underlying3 cellsInt
  obtain ⟨t, g1, w1⟩ := field_int hg 1 1 3 rfl rfl rfl Tryd.underlying3 cellsInt
  refine ⟨(r, t), ?_, bounds_i64 w0, bounds_i64 w1⟩
  match cs, hcl with
  | [a, b], _ =>
    simp at g0 g1
    subst g0 g1
    rfl
theorem open_ents {r : Reach} {b0 : Nat} {v : Value} {d : DataW H} {p : List MemPlace} (hv : Value.okWide Tryd.prog w r b0 22 v) (h : DataW.Trod enc Tryd.prog w base spare held 22 v d p) :
    ∃ a : EntArg, v = .slice a.A a.n a.c ∧ (Ents w w.heap.size a.A a.n a.l ∧ a.n ≤ maxLen) := by
  obtain ⟨A, n, c, l, rfl, hn, hl, hs, ho⟩ := open_elems entCells 2 (by omega) entCells_len entFits Tryd.underlying22 cellsEnt open_ent hv h
  exact ⟨⟨A, n, c, l⟩, rfl, ⟨hs, ho⟩, hn⟩
theorem open_id {r : Reach} {b0 : Nat} {v : Value} {d : DataW H} {p : List MemPlace} (hv : Value.okWide Tryd.prog w r b0 114 v) (h : DataW.Trod enc Tryd.prog w base spare held 114 v d p) :
    ∃ x : Ent, v = .agg #[.int .i64 x.1, .int .i64 x.2] ∧ entFits x := by
  obtain ⟨cs, rfl, hsz⟩ := okWide_struct Tryd.underlying114 hv
  obtain ⟨fuel, hf⟩ := h
  obtain ⟨_, hg⟩ := fielded Tryd.underlying114 hf
  obtain ⟨r, g0, w0⟩ := field_int hg 0 0 3 rfl rfl rfl Tryd.underlying3 cellsInt
  obtain ⟨t, g1, w1⟩ := field_int hg 1 1 3 rfl rfl rfl Tryd.underlying3 cellsInt
  refine ⟨(r, t), ?_, bounds_i64 w0, bounds_i64 w1⟩
  have hc : cs.size = 2 := hsz.trans (by kernel_rfl)
  obtain ⟨l⟩ := cs
  match l, hc with
  | [a, b], _ =>
    simp [Value.cells] at g0 g1
    subst g0 g1
    rfl
end
end Go.Proofs.YtglemfdnfaemiaaDoor
