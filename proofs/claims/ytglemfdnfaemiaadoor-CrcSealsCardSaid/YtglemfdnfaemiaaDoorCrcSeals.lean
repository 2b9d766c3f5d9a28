/- The law CrcSeals returns true and changes nothing. -/
import Derived.Test.YtglemfdnfaemiaaDoorSealWalks
import Derived.Test.YtglemfdnfaemiaaDoorOpen
namespace Go.Proofs.YtglemfdnfaemiaaDoor
open Go.RowKit As
set_option maxRecDepth 100000 in
theorem walkCrcSeals (s : ByteArray) (w : World) (hs : s.size ≤ maxLen) (hg : Handle w) :
    Calls Tryd.prog 5 #[.string s] w fun e w' => e = .returned (.bool true) ∧ Below w.heap.size w w' := by
  unfold maxLen at hs
  by_cases hbig : 800 < s.size
  · have hd : decide (800 < s.size) = true := by simpa using hbig
    go_enter Tryd.func5, Tryd.ntmps5
    go_wp2
    go_ret
    exact ⟨rfl, Below.refl _ _⟩
  · have hd : decide (800 < s.size) = false := by simpa using hbig
    have hS : s.size ≤ 1000000 := by omega
    go_enter Tryd.func5, Tryd.ntmps5
    go_wp2_with fail
    refine (ropen_any s w hS).mono ?_
    rintro e w1 ⟨rfl, hb1⟩
    go_wp2_with fail
    refine (open_any s w1 hS).mono ?_
    rintro e w2 ⟨rfl, hb2⟩
    have hb12 := hb1.trans (hb2.mono hb1.size)
    generalize openOf s = x
    obtain ⟨x1, x2⟩ := x
    go_wp2_with fail
    refine (seal_any s w2 hS).mono ?_
    rintro e w3 ⟨rfl, hb3⟩
    have hb13 := hb12.trans (hb3.mono hb12.size)
    go_wp2_with fail
    refine (rseal_any s w3 hS).mono ?_
    rintro e w4 ⟨rfl, hb4⟩
    have hb14 := hb13.trans (hb4.mono hb13.size)
    have hg4 := hg.below hb14
    generalize sealOf s = z
    go_wp2_with fail
    refine (bare_any (errV_is w4 x2) hg4 x2).mono ?_
    rintro r w5 ⟨rfl, hb5⟩
    have hb15 := hb14.trans (hb5.mono hb14.size)
    rw [decide_eq_true ⟨rfl, rfl⟩]
    go_wp2
    go_ret
    exact ⟨rfl, hb15⟩
end Go.Proofs.YtglemfdnfaemiaaDoor
