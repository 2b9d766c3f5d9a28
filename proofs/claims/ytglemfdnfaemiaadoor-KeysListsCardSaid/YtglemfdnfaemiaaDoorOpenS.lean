/- Slices of strings and of numbers as arguments. -/
import Derived.Test.YtglemfdnfaemiaaDoorOpen
import Derived.Test.YtglemfdnfaemiaaDoorEqual
import Derived.Test.YtglemfdnfaemiaaDoorRows
import Derived.KernelRfl
namespace Go.Proofs.YtglemfdnfaemiaaDoor
set_option maxRecDepth 100000
open Go.ChangeShapes Go.WideShapes Go.ChangeAt Go.RowKit
section
variable {H : Type} {enc : TypeId × Value → H} {w : World} {base : Nat} {spare : Nat → Bool} {held : Bool}
theorem cellsStr : Tryd.prog.cellsOf 9 = 1 := by kernel_rfl
theorem cellsInt' : Tryd.prog.cellsOf 3 = 1 := by kernel_rfl
structure StrArg where
  A : Option Addr
  n : Nat
  c : Nat
  l : List ByteArray
structure IntArg where
  A : Option Addr
  n : Nat
  c : Nat
  l : List Int
theorem open_strs {r : Reach} {b0 : Nat} {v : Value} {d : DataW H} {p : List MemPlace} (hv : Value.okWide Tryd.prog w r b0 45 v) (h : DataW.Trod enc Tryd.prog w base spare held 45 v d p) :
    ∃ a : StrArg, v = .slice a.A a.n a.c ∧ (Strs w a.A a.n a.l ∧ a.n ≤ maxLen ∧ ∀ s ∈ a.l, s.size ≤ maxLen) := by
  obtain ⟨A, n, c, l, rfl, hn, hl, hs, ho⟩ := open_elems (fun x : ByteArray => [Value.string x]) 1 (by omega) (fun _ => rfl) (fun s => s.size ≤ maxLen) Tryd.underlying45 cellsStr (fun cs m y hy => by
    obtain ⟨s, e, _, hs⟩ := DataW.trod_string Tryd.underlying9 hy
    exact ⟨s, e, hs⟩) hv h
  exact ⟨⟨A, n, c, l⟩, rfl, hs, hn, ho⟩
theorem open_nums {r : Reach} {b0 : Nat} {v : Value} {d : DataW H} {p : List MemPlace} (hv : Value.okWide Tryd.prog w r b0 46 v) (h : DataW.Trod enc Tryd.prog w base spare held 46 v d p) :
    ∃ a : IntArg, v = .slice a.A a.n a.c ∧ (Ints w a.A a.n a.l ∧ a.n ≤ maxLen ∧ ∀ x ∈ a.l, -9223372036854775808 ≤ x ∧ x ≤ 9223372036854775807) := by
  obtain ⟨A, n, c, l, rfl, hn, hl, hs, ho⟩ := open_elems (fun x : Int => [Value.int .i64 x]) 1 (by omega) (fun _ => rfl) (fun x => -9223372036854775808 ≤ x ∧ x ≤ 9223372036854775807) Tryd.underlying46 cellsInt' (fun cs m y hy => by
    obtain ⟨s, e, _, hs⟩ := DataW.trod_int Tryd.underlying3 hy
    exact ⟨s, e, bounds_i64 hs⟩) hv h
  exact ⟨⟨A, n, c, l⟩, rfl, hs, hn, ho⟩
end
end Go.Proofs.YtglemfdnfaemiaaDoor
