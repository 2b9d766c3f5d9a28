/- Tokens as arguments, with the form's own reach. -/
import Derived.Test.YtglemfdnfaemiaaDoorOpenR
import Derived.Test.YtglemfdnfaemiaaDoorToks
import Derived.Test.YtglemfdnfaemiaaDoorRows
import Derived.KernelRfl
namespace Go.Proofs.YtglemfdnfaemiaaDoor
set_option maxRecDepth 100000
open Go.ChangeShapes Go.WideShapes Go.ChangeAt Go.RowKit
structure TokArg where
  A : Option Addr
  n : Nat
  c : Nat
  l : List Tok
section
variable {H : Type} {enc : TypeId × Value → H} {w : World} {base : Nat} {spare : Nat → Bool} {held : Bool}
theorem cellsTok : Tryd.prog.cellsOf 104 = 3 := by kernel_rfl
theorem cellsStr3 : Tryd.prog.cellsOf 9 = 1 := by kernel_rfl
theorem cellsInt3 : Tryd.prog.cellsOf 3 = 1 := by kernel_rfl
theorem bytesTok : Tryd.prog.bytesOf 104 = 32 := by kernel_rfl
theorem open_tok (cs : List Value) (m : Nat) (y : DataW H × List MemPlace) (h : DataW.trod enc Tryd.prog w base spare held m 104 cs = some y) (hs : Small Tryd.prog 104 y.1) : ∃ x : Tok, cs = tokCells x ∧ tokFits x := by
  obtain ⟨hcl, hg⟩ := fielded_r Tryd.underlying104 h hs
  rw [cellsTok] at hcl
  obtain ⟨s, g0, w0⟩ := field_string_r hg 0 0 9 rfl rfl rfl Tryd.underlying9 cellsStr3
  obtain ⟨r, g1, w1⟩ := field_int hg.all 1 1 3 rfl rfl rfl Tryd.underlying3 cellsInt3
  obtain ⟨t, g2, w2⟩ := field_int hg.all 2 2 3 rfl rfl rfl Tryd.underlying3 cellsInt3
  refine ⟨(s, r, t), ?_, w0, bounds_i64 w1, bounds_i64 w2⟩
  match cs, hcl with
  | [a, b, c], _ =>
    simp at g0 g1 g2
    subst g0 g1 g2
    rfl
theorem open_toks {r : Reach} {b0 : Nat} {v : Value} {d : DataW H} {p : List MemPlace} (hv : Value.okWide Tryd.prog w r b0 53 v) (h : DataW.Trod enc Tryd.prog w base spare held 53 v d p) (hs : Small Tryd.prog 53 d) :
    ∃ a : TokArg, v = .slice a.A a.n a.c ∧ (Toks w w.heap.size a.A a.n a.l ∧ a.n * 32 ≤ 140737488351232) := by
  obtain ⟨A, n, c, l, rfl, hn, hl, hs, ho⟩ := open_elems_r tokCells 3 (by omega) (fun _ => rfl) tokFits 32 Tryd.underlying53 cellsTok bytesTok hs open_tok hv h
  exact ⟨⟨A, n, c, l⟩, rfl, ⟨hs, ho⟩, hn⟩
end
end Go.Proofs.YtglemfdnfaemiaaDoor
