/- Batches and writes as arguments. -/
import Derived.Test.YtglemfdnfaemiaaDoorOpenE
import Derived.Test.YtglemfdnfaemiaaDoorBat
namespace Go.Proofs.YtglemfdnfaemiaaDoor
set_option maxRecDepth 100000
open Go.ChangeShapes Go.WideShapes Go.ChangeAt Go.RowKit
section
variable {H : Type} {enc : TypeId × Value → H} {w : World} {base : Nat} {spare : Nat → Bool} {held : Bool}
theorem cellsWr : Tryd.prog.cellsOf 116 = 6 := by kernel_rfl
theorem cellsIdT : Tryd.prog.cellsOf 114 = 2 := by kernel_rfl
theorem cellsStrT : Tryd.prog.cellsOf 9 = 1 := by kernel_rfl
theorem cellsEntsT : Tryd.prog.cellsOf 22 = 1 := by kernel_rfl
theorem cellsWrsT : Tryd.prog.cellsOf 126 = 1 := by kernel_rfl
theorem cellsBat : Tryd.prog.cellsOf 128 = 3 := by kernel_rfl
def i64Fits (n : Int) : Prop := -9223372036854775808 ≤ n ∧ n ≤ 9223372036854775807
def wrFits (x : Wr) : Prop := i64Fits x.1 ∧ i64Fits x.2.1 ∧ i64Fits x.2.2.1 ∧ x.2.2.2.1.size ≤ maxLen ∧ x.2.2.2.2.1.size ≤ maxLen ∧ i64Fits x.2.2.2.2.2
theorem six {cs : List Value} (h : cs.length = 6) {a b c d e f : Value} (h0 : cs[0]? = some a) (h1 : cs[1]? = some b) (h2 : cs[2]? = some c) (h3 : cs[3]? = some d) (h4 : cs[4]? = some e) (h5 : cs[5]? = some f) : cs = [a, b, c, d, e, f] := by
  match cs, h with
  | [_, _, _, _, _, _], _ =>
    simp at h0 h1 h2 h3 h4 h5
    subst h0 h1 h2 h3 h4 h5
    rfl
theorem open_wr (cs : List Value) (m : Nat) (y : DataW H × List MemPlace) (h : DataW.trod enc Tryd.prog w base spare held m 116 cs = some y) : ∃ x : Wr, cs = wrCells x ∧ wrFits x := by
  obtain ⟨hcl, hg⟩ := fielded Tryd.underlying116 h
  rw [cellsWr] at hcl
  obtain ⟨m', y', hid⟩ := field_sub hg 0 0 114 2 rfl rfl rfl cellsIdT
  obtain ⟨_, hgi⟩ := fielded Tryd.underlying114 hid
  obtain ⟨a, g0, w0⟩ := field_int hgi 0 0 3 rfl rfl rfl Tryd.underlying3 cellsInt
  obtain ⟨b, g1, w1⟩ := field_int hgi 1 1 3 rfl rfl rfl Tryd.underlying3 cellsInt
  obtain ⟨c, g2, w2⟩ := field_int hg 1 2 3 rfl rfl rfl Tryd.underlying3 cellsInt
  obtain ⟨d, g3, w3⟩ := field_string hg 2 3 9 rfl rfl rfl Tryd.underlying9 cellsStrT
  obtain ⟨e, g4, w4⟩ := field_string hg 3 4 9 rfl rfl rfl Tryd.underlying9 cellsStrT
  obtain ⟨f, g5, w5⟩ := field_int hg 4 5 3 rfl rfl rfl Tryd.underlying3 cellsInt
  rw [List.getElem?_take_of_lt (by omega), List.drop_zero] at g0 g1
  exact ⟨(a, b, c, d, e, f), six hcl g0 g1 g2 g3 g4 g5, bounds_i64 w0, bounds_i64 w1, bounds_i64 w2, w3, w4, bounds_i64 w5⟩
/-- What a batch among the arguments holds fits. -/
structure BatFits (b : BatArg) : Prop where
  f : ∀ x ∈ b.f, entFits x
  h : ∀ x ∈ b.h, entFits x
  l : ∀ x ∈ b.l, wrFits x
theorem open_bat {r : Reach} {b0 : Nat} {v : Value} {d : DataW H} {p : List MemPlace} (hv : Value.okWide Tryd.prog w r b0 128 v) (h : DataW.Trod enc Tryd.prog w base spare held 128 v d p) :
    ∃ b : BatArg, v = b.v ∧ (Bat w b ∧ BatFits b) := by
  obtain ⟨cs, rfl, hsz⟩ := okWide_struct Tryd.underlying128 hv
  obtain ⟨fuel, hf⟩ := h
  obtain ⟨hcl, hg⟩ := fielded Tryd.underlying128 hf
  rw [cellsBat] at hsz
  obtain ⟨m0, y0, t0⟩ := field_sub hg 0 0 22 1 rfl rfl rfl cellsEntsT
  obtain ⟨m1, y1, t1⟩ := field_sub hg 1 1 22 1 rfl rfl rfl cellsEntsT
  obtain ⟨m2, y2, t2⟩ := field_sub hg 2 2 126 1 rfl rfl rfl cellsWrsT
  obtain ⟨A, n, c, f, e0, a0, _, s0, f0⟩ := open_cells entCells 2 (by omega) entCells_len entFits Tryd.underlying22 cellsEnt open_ent t0
  obtain ⟨A', n', c', h, e1, a1, _, s1, f1⟩ := open_cells entCells 2 (by omega) entCells_len entFits Tryd.underlying22 cellsEnt open_ent t1
  obtain ⟨A'', n'', c'', l, e2, a2, _, s2, f2⟩ := open_cells wrCells 6 (by omega) (fun _ => rfl) wrFits Tryd.underlying126 cellsWr open_wr t2
  refine ⟨⟨A, n, c, A', n', c', A'', n'', c'', f, h, l⟩, ?_, ⟨s0, s1, s2, a0, a1, a2⟩, ⟨f0, f1, f2⟩⟩
  obtain ⟨l⟩ := cs
  match l, hsz with
  | [x, y, z], _ =>
    simp [Value.cells] at e0 e1 e2
    subst e0 e1 e2
    rfl
end
end Go.Proofs.YtglemfdnfaemiaaDoor
