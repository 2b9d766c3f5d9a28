/- Slices of strings and of numbers as arguments, with the form's own reach. -/
import Derived.Test.YtglemfdnfaemiaaDoorOpenR
import Derived.Test.YtglemfdnfaemiaaDoorOpenS
namespace Go.Proofs.YtglemfdnfaemiaaDoor
set_option maxRecDepth 100000
open Go.ChangeShapes Go.WideShapes Go.ChangeAt Go.RowKit
section
variable {H : Type} {enc : TypeId × Value → H} {w : World} {base : Nat} {spare : Nat → Bool} {held : Bool}
theorem bytesStr : Tryd.prog.bytesOf 9 = 16 := by kernel_rfl
theorem bytesInt : Tryd.prog.bytesOf 3 = 8 := by kernel_rfl
theorem open_strs_r {r : Reach} {b0 : Nat} {v : Value} {d : DataW H} {p : List MemPlace} (hv : Value.okWide Tryd.prog w r b0 45 v) (h : DataW.Trod enc Tryd.prog w base spare held 45 v d p) (hs : Small Tryd.prog 45 d) :
    ∃ a : StrArg, v = .slice a.A a.n a.c ∧ (Strs w a.A a.n a.l ∧ a.n * 16 ≤ 140737488351232 ∧ ∀ s ∈ a.l, s.size ≤ 140737488351232) := by
  obtain ⟨A, n, c, l, rfl, hn, hl, hs, ho⟩ := open_elems_r (fun x : ByteArray => [Value.string x]) 1 (by omega) (fun _ => rfl) (fun s => s.size ≤ 140737488351232) 16 Tryd.underlying45 cellsStr bytesStr hs (fun cs m y hy hsm => by
    obtain ⟨s, e, rfl, _⟩ := DataW.trod_string Tryd.underlying9 hy
    exact ⟨s, e, str_small hsm⟩) hv h
  exact ⟨⟨A, n, c, l⟩, rfl, hs, hn, ho⟩
theorem open_nums_r {r : Reach} {b0 : Nat} {v : Value} {d : DataW H} {p : List MemPlace} (hv : Value.okWide Tryd.prog w r b0 46 v) (h : DataW.Trod enc Tryd.prog w base spare held 46 v d p) (hs : Small Tryd.prog 46 d) :
    ∃ a : IntArg, v = .slice a.A a.n a.c ∧ (Ints w a.A a.n a.l ∧ a.n * 8 ≤ 140737488351232 ∧ ∀ x ∈ a.l, -9223372036854775808 ≤ x ∧ x ≤ 9223372036854775807) := by
  obtain ⟨A, n, c, l, rfl, hn, hl, hs, ho⟩ := open_elems_r (fun x : Int => [Value.int .i64 x]) 1 (by omega) (fun _ => rfl) (fun x => -9223372036854775808 ≤ x ∧ x ≤ 9223372036854775807) 8 Tryd.underlying46 cellsInt' bytesInt hs (fun cs m y hy _ => by
    obtain ⟨s, e, _, hs⟩ := DataW.trod_int Tryd.underlying3 hy
    exact ⟨s, e, bounds_i64 hs⟩) hv h
  exact ⟨⟨A, n, c, l⟩, rfl, hs, hn, ho⟩
end
end Go.Proofs.YtglemfdnfaemiaaDoor
