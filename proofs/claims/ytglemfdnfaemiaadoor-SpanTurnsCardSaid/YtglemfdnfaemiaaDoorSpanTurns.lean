/- The law SpanTurns returns true and changes nothing. -/
import Derived.Test.YtglemfdnfaemiaaDoorSpanWalks
import Derived.Test.YtglemfdnfaemiaaDoorOpen
namespace Go.Proofs.YtglemfdnfaemiaaDoor
open Go.RowKit As
set_option maxRecDepth 100000 in
theorem walkSpanTurns (s : ByteArray) (w : World) (hs : s.size ≤ maxLen) (hg : Handle w) :
    Calls Tryd.prog 12 #[.string s] w fun e w' => e = .returned (.bool true) ∧ Below w.heap.size w w' := by
  have hS := Lib.hid hs
  unfold maxLen at hs
  by_cases hbig : 2100 < s.size
  · have hd : decide (2100 < s.size) = true := by simpa using hbig
    go_enter Tryd.func12, Tryd.ntmps12
    go_wp2
    go_ret
    exact ⟨rfl, Below.refl _ _⟩
  · have hd : decide (2100 < s.size) = false := by simpa using hbig
    go_enter Tryd.func12, Tryd.ntmps12
    go_wp2_with fail
    refine (rspan_any s w hS.out).mono ?_
    rintro e w1 ⟨rfl, hb1⟩
    have hg1 := hg.below hb1
    go_wp2_with fail
    refine (spanput_any s w1 hS.out).mono ?_
    rintro e w2 ⟨rfl, hb2⟩
    have hb12 := hb1.trans (hb2.mono hb1.size)
    have hg2 := hg.below hb12
    generalize spanOf s = x
    obtain ⟨x1, x2⟩ := x
    go_wp2_with fail
    refine (runspan_any s w2 hS.out).mono ?_
    rintro e w3 ⟨rfl, rfl⟩
    go_wp2_with fail
    refine (spanget_any s w2 hS.out hg2).mono ?_
    rintro e w3 ⟨rfl, hb3⟩
    have hb13 := hb12.trans (hb3.mono hb12.size)
    have hg3 := hg.below hb13
    generalize unspan s = y
    obtain ⟨y1, y2, y3⟩ := y
    go_wp2_with fail
    refine (bare_any (errV_is w3 x2) hg3 x2).mono ?_
    rintro r w4 ⟨rfl, hb4⟩
    have hb14 := hb13.trans (hb4.mono hb13.size)
    have hg4 := hg.below hb14
    rw [decide_eq_true ⟨rfl, rfl⟩]
    go_wp2_with fail
    refine (bare_any (errV_is w4 y3) hg4 y3).mono ?_
    rintro r w5 ⟨rfl, hb5⟩
    have hb15 := hb14.trans (hb5.mono hb14.size)
    rw [decide_eq_true ⟨rfl, rfl⟩]
    go_wp2
    go_ret
    exact ⟨rfl, hb15⟩
end Go.Proofs.YtglemfdnfaemiaaDoor
