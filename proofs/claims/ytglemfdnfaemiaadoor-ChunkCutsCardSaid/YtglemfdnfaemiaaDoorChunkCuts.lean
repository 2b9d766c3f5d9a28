/- The law ChunkCuts returns true and changes nothing. -/
import Derived.Test.YtglemfdnfaemiaaDoorCutWalks
import Derived.Test.YtglemfdnfaemiaaDoorOpen
namespace Go.Proofs.YtglemfdnfaemiaaDoor
open Go.RowKit As
theorem cut_len (s : ByteArray) (z : Int) : (cutOf s z).1.length ≤ s.size := by
  unfold cutOf
  split
  · simp
  · split
    · simp
    · rw [pieces_len]
      exact howMany_le (by omega)
set_option maxHeartbeats 1000000 in
set_option maxRecDepth 100000 in
theorem walkChunkCuts (s : ByteArray) (z : Int) (w : World) (hs : s.size ≤ maxLen) (_ : (Lit.int .i64 z).wf = true) (hg : Handle w) :
    Calls Tryd.prog 9 #[.string s, .int .i64 z] w fun e w' => e = .returned (.bool true) ∧ Below w.heap.size w w' := by
  unfold maxLen at hs
  by_cases hbig : (1500 < s.size ∧ s.size ≤ 4096) ∨ 4105 < s.size
  · have hq : (decide (1500 < (s.size : Int)) = true ∧ decide ((s.size : Int) ≤ 4096) = true) ∨ (decide (1500 < (s.size : Int)) = true ∧ decide ((s.size : Int) ≤ 4096) = false ∧ decide (4105 < (s.size : Int)) = true) := by
      simp only [decide_eq_true_eq, decide_eq_false_iff_not]; omega
    rcases hq with ⟨d0, d1⟩ | ⟨d0, d1, d2⟩
    all_goals
      go_enter Tryd.func9, Tryd.ntmps9
      go_wp2
      go_ret
      exact ⟨rfl, Below.refl _ _⟩
  · have hq : (decide (1500 < (s.size : Int)) = false ∧ decide (4105 < (s.size : Int)) = false) ∨ (decide (1500 < (s.size : Int)) = true ∧ decide ((s.size : Int) ≤ 4096) = false ∧ decide (4105 < (s.size : Int)) = false) := by
      simp only [decide_eq_true_eq, decide_eq_false_iff_not]; omega
    have hS : s.size ≤ 1000000 := by omega
    have hlen := cut_len s z
    have HL := Lib.hid (show (cutOf s z).1.length ≤ maxLen by unfold maxLen; omega)
    clear hlen
    rcases hq with ⟨d0, d2⟩ | ⟨d0, d1, d2⟩
    all_goals
      go_enter Tryd.func9, Tryd.ntmps9
      go_wp2_with fail
      refine (rcut_any s z w hS).mono ?_
      rintro e w1 ⟨v1, rfl, hT1, hb1⟩
      go_wp2_with fail
      refine (cut_any s z w1 hS).mono ?_
      rintro e w2 ⟨v2, rfl, hT2, hb2⟩
      obtain ⟨A1, e1, rfl⟩ := own_form hT1
      obtain ⟨A2, e2, rfl⟩ := own_form hT2
      have s1 := (Sl.of_own hT1).grow hb2
      have s2 := Sl.of_own hT2
      have hb12 := hb1.trans (hb2.mono hb1.size)
      have hg2 := hg.below hb12
      clear hT1 hT2 hb1 hb2
      generalize cutOf s z = X at *
      obtain ⟨L, e⟩ := X
      simp only at *
      go_wp2_with fail
      refine (bare_any (errV_is w2 e) hg2 e).mono ?_
      rintro r w4 ⟨rfl, hb4⟩
      rw [decide_eq_true ⟨rfl, rfl⟩]
      have hb24 := hb12.trans (hb4.mono hb12.size)
      go_wp2_with fail
      refine (equal_chunks _ _ _ _ _ _ _ _ _ (s1.grow hb4) (s2.grow hb4) HL.out HL.out).mono ?_
      rintro r w5 ⟨rfl, q, rfl⟩
      rw [decide_eq_true (rfl : L = L)]
      go_wp2
      go_ret
      exact ⟨rfl, below_drewN hb24 q⟩
end Go.Proofs.YtglemfdnfaemiaaDoor
