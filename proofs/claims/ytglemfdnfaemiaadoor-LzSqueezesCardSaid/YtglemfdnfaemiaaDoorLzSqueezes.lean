/- The law LzSqueezes returns true and changes nothing. -/
import Derived.Test.YtglemfdnfaemiaaDoorSqueezeWalks
import Derived.Test.YtglemfdnfaemiaaDoorOpen
namespace Go.Proofs.YtglemfdnfaemiaaDoor
open Go.RowKit As
set_option maxHeartbeats 1000000 in
set_option maxRecDepth 100000 in
theorem walkLzSqueezes (s : ByteArray) (w : World) (hs : s.size ≤ maxLen) (hg : Handle w) :
    Calls Tryd.prog 18 #[.string s] w fun e w' => e = .returned (.bool true) ∧ Below w.heap.size w w' := by
  unfold maxLen at hs
  by_cases hbig : (1500 < s.size ∧ s.size ≤ 20000) ∨ 20009 < s.size
  · have hq : (decide (1500 < (s.size : Int)) = true ∧ decide ((s.size : Int) ≤ 20000) = true) ∨ (decide (1500 < (s.size : Int)) = true ∧ decide ((s.size : Int) ≤ 20000) = false ∧ decide (20009 < (s.size : Int)) = true) := by
      simp only [decide_eq_true_eq, decide_eq_false_iff_not]; omega
    rcases hq with ⟨d0, d1⟩ | ⟨d0, d1, d2⟩
    all_goals
      go_enter Tryd.func18, Tryd.ntmps18
      go_wp2
      go_ret
      exact ⟨rfl, Below.refl _ _⟩
  · have hq : (decide (1500 < (s.size : Int)) = false ∧ decide (20009 < (s.size : Int)) = false) ∨ (decide (1500 < (s.size : Int)) = true ∧ decide ((s.size : Int) ≤ 20000) = false ∧ decide (20009 < (s.size : Int)) = false) := by
      simp only [decide_eq_true_eq, decide_eq_false_iff_not]; omega
    have hS : s.size ≤ 100000 := by omega
    rcases hq with ⟨d0, d2⟩ | ⟨d0, d1, d2⟩
    all_goals
      go_enter Tryd.func18, Tryd.ntmps18
      go_wp2_with fail
      refine (rsqueeze_any s w hS).mono ?_
      rintro e w2 ⟨rfl, hb2⟩
      have hbX := below1 w2 (.cells #[.int .i64 (squeezeOf s).2.1, .int .i64 (squeezeOf s).2.2] 29)
      have hT := Two.new w2 (squeezeOf s).2.1 (squeezeOf s).2.2 29
      have hb13 := hb2.trans (hbX.mono hb2.size)
      have hg2 := hg.below hb13
      unfold faultV
      go_wp2_with fail
      refine (squeeze_any s _ hS).mono ?_
      rintro e w3 ⟨v, rfl, hv, hb3⟩
      have hg3 := hg2.below hb3
      have hT3 := hT.below hb3
      have hb14 := hb13.trans (hb3.mono hb13.size)
      unfold ErrOf at hv
      clear hT
      generalize squeezeOf s = f at *
      obtain ⟨t, e1, p1⟩ := f
      simp only at *
      obtain ⟨c0, c1, f0, f1⟩ := hT3
      go_wp2_with fail
      refine (placed_any hv hg3 e1 p1).mono ?_
      rintro r w4 ⟨rfl, hb4⟩
      rw [decide_eq_true ⟨rfl, rfl⟩]
      go_wp2
      go_ret
      exact ⟨rfl, hb14.trans (hb4.mono hb14.size)⟩
end Go.Proofs.YtglemfdnfaemiaaDoor
