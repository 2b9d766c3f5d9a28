/- The law VaryInts returns true and changes nothing. -/
import Derived.Test.YtglemfdnfaemiaaDoorVaryWalks
import Derived.Test.YtglemfdnfaemiaaDoorOpen
namespace Go.Proofs.YtglemfdnfaemiaaDoor
open Go.RowKit As
theorem walkVaryInts (s : ByteArray) (m : Int) (w : World) (hs : s.size ≤ maxLen) (hm : (Lit.int .i64 m).wf = true) (hg : Handle w) :
    Calls Tryd.prog 4 #[.string s, .int .i64 m] w fun e w' => e = .returned (.bool true) ∧ Below w.heap.size w w' := by
  have hm' : m ≤ 9223372036854775807 := (bounds_i64 hm).2
  have hS := Lib.hid hs
  clear hm
  unfold maxLen at hs
  by_cases hbig : 100 < s.size
  · have hd : decide (100 < s.size) = true := by simpa using hbig
    go_enter Tryd.func4, Tryd.ntmps4
    go_wp2
    go_ret
    exact ⟨rfl, Below.refl _ _⟩
  · have hd : decide (100 < s.size) = false := by simpa using hbig
    go_enter Tryd.func4, Tryd.ntmps4
    go_wp2_with fail
    refine (rvint_any s m w hS hm').mono ?_
    rintro e w1 ⟨rfl, rfl⟩
    go_wp2_with fail
    refine (vint_any s m w hS hm').mono ?_
    rintro e w1 ⟨rfl, rfl⟩
    generalize vint s.data.toList m = g
    obtain ⟨n, k, e⟩ := g
    go_wp2_with fail
    refine (bare_any (errV_is w e) hg e).mono ?_
    rintro r w1 ⟨rfl, hb⟩
    rw [decide_eq_true ⟨rfl, rfl⟩]
    go_wp2
    go_ret
    exact ⟨rfl, hb⟩
end Go.Proofs.YtglemfdnfaemiaaDoor
