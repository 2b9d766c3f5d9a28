/- The law VectorWrites returns true and changes nothing. -/
import Derived.Test.YtglemfdnfaemiaaDoorRVecWrite
import Derived.Test.YtglemfdnfaemiaaDoorOpenEC
namespace Go.Proofs.YtglemfdnfaemiaaDoor
set_option linter.unusedSimpArgs false
open Go.RowKit As
set_option maxHeartbeats 2000000 in
set_option maxRecDepth 100000 in
theorem walkVectorWrites (a : EntArg) (w : World) (ha : Ents w w.heap.size a.A a.n a.l ∧ a.n * 16 ≤ 140737488351232 ∧ a.n ≤ a.c) (hg : Handle w) :
    Calls Tryd.prog 11 #[.slice a.A a.n a.c] w fun e w' => e = .returned (.bool true) ∧ Below w.heap.size w w' := by
  obtain ⟨A, n, c, l⟩ := a
  obtain ⟨hl, hn', hc⟩ := ha
  simp only at hl hn' hc ⊢
  have hn : n ≤ maxLen := by unfold maxLen; omega
  clear hn'
  by_cases hbig : 100 < n
  · have d0 : decide (100 < (n : Int)) = true := by simp; omega
    have d1 : decide (100 < n) = true := by simpa using hbig
    go_enter Tryd.func11, Tryd.ntmps11
    go_wp2
    go_ret
    exact ⟨rfl, Below.refl _ _⟩
  · have d0 : decide (100 < (n : Int)) = false := by simp; omega
    have d1 : decide (100 < n) = false := by simpa using hbig
    go_enter Tryd.func11, Tryd.ntmps11
    go_wp2_with fail
    refine (rvwrite_any w n c A l hl hn).mono ?_
    rintro e w1 ⟨rfl, hb1⟩
    unfold faultV
    generalize hY : vwrite l = y
    have HY := Lib.hid hY
    clear hY
    obtain ⟨t, q, p⟩ := y
    have bT := below1 w1 (.cells #[.int .i64 q, .int .i64 p] 29)
    have T1 := Two.new w1 q p 29
    have hb2 := hb1.trans (bT.mono hb1.size)
    have hl2 := hl.grow hb2
    simp only
    go_wp2_with fail
    refine (vwrite_any _ n c A l hl2 hn hc).mono ?_
    rintro e w3 ⟨v, rfl, hv, hb3⟩
    rw [HY.out] at hv
    rw [HY.out]
    have hb03 := hb2.trans (hb3.mono hb2.size)
    obtain ⟨t0, t1, _, _⟩ := T1.below hb3
    unfold ErrOf at hv
    simp only at hv ⊢
    go_wp2_with fail
    refine (placed_any hv (hg.below hb03) q p).mono ?_
    rintro r w4 ⟨rfl, hb4⟩
    rw [decide_eq_true ⟨rfl, rfl⟩]
    go_wp2
    go_ret
    exact ⟨rfl, hb03.trans (hb4.mono hb03.size)⟩
end Go.Proofs.YtglemfdnfaemiaaDoor
