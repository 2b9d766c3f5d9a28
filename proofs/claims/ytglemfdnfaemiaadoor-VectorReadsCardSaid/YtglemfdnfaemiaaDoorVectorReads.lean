/- The law VectorReads returns true and changes nothing. -/
import Derived.Test.YtglemfdnfaemiaaDoorVecRead
import Derived.Test.YtglemfdnfaemiaaDoorEqualS
import Derived.Test.YtglemfdnfaemiaaDoorOpen
namespace Go.Proofs.YtglemfdnfaemiaaDoor
set_option linter.unusedSimpArgs false
open Go.RowKit As
theorem vread_len (s : ByteArray) : (vread s).1.length ≤ 16 := by
  unfold vread
  split
  · simp
  · split
    · simp
    · rename_i h
      exact vright_ok_len (by simpa using h)
set_option maxHeartbeats 1000000 in
set_option maxRecDepth 100000 in
theorem walkVectorReads (s : ByteArray) (w : World) (hs : s.size ≤ maxLen) (hg : Handle w) :
    Calls Tryd.prog 14 #[.string s] w fun e w' => e = .returned (.bool true) ∧ Below w.heap.size w w' := by
  unfold maxLen at hs
  by_cases hbig : 800 < s.size
  · have hd : decide (800 < s.size) = true := by simpa using hbig
    go_enter Tryd.func14, Tryd.ntmps14
    go_wp2
    go_ret
    exact ⟨rfl, Below.refl _ _⟩
  · have hd : decide (800 < s.size) = false := by simpa using hbig
    have hS : s.size ≤ 1000000 := by omega
    have HL := Lib.hid (show (vread s).1.length ≤ maxLen by have := vread_len s; unfold maxLen; omega)
    go_enter Tryd.func14, Tryd.ntmps14
    go_wp2_with fail
    refine (rvread_any s w hS).mono ?_
    rintro e w1 ⟨v1, rfl, hT1, hb1⟩
    unfold faultV
    go_wp2_with fail
    have bF := below1 w1 (.cells #[.int .i64 (vread s).2.2, .int .i64 (-1)] 29)
    have hF := Two.new w1 (vread s).2.2 (-1) 29
    have b1 := hb1.trans (bF.mono hb1.size)
    refine (vecread_any s _ hS (hg.below b1)).mono ?_
    rintro e w2 ⟨v2, rfl, hT2, hb2⟩
    have b2 := b1.trans (hb2.mono b1.size)
    obtain ⟨A1, c1, rfl⟩ := own_form hT1
    obtain ⟨A2, c2, rfl⟩ := own_form hT2
    have S1 := ((Sl.of_own hT1).grow bF).grow hb2
    have S2 := Sl.of_own hT2
    obtain ⟨k0, k1, _, _⟩ := hF.below hb2
    clear hT1 hT2 hF bF
    generalize vread s = y at *
    obtain ⟨L, p, q⟩ := y
    simp only at *
    go_wp2_with fail
    refine (placed_any (errV_is w2 q) (hg.below b2) q (-1)).mono ?_
    rintro r w3 ⟨rfl, hb3⟩
    have b3 := b2.trans (hb3.mono b2.size)
    rw [decide_eq_true ⟨rfl, rfl⟩]
    go_wp2_with fail
    refine (equal_ents L.length L.length c1 c2 A1 A2 L L w3 (S1.grow hb3) (S2.grow hb3) HL.out HL.out).mono ?_
    rintro r w4 ⟨rfl, q4, rfl⟩
    rw [decide_eq_true rfl]
    go_wp2
    go_ret
    exact ⟨by first | rfl | simp, below_drewN b3 q4⟩
end Go.Proofs.YtglemfdnfaemiaaDoor
