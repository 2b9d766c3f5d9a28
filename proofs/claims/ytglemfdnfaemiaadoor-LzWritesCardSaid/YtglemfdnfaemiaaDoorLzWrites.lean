/- The law LzWrites returns true and changes nothing. -/
import Derived.Test.YtglemfdnfaemiaaDoorRLzWalks
import Derived.Test.YtglemfdnfaemiaaDoorOpenT
namespace Go.Proofs.YtglemfdnfaemiaaDoor
open Go.RowKit As
set_option maxHeartbeats 2000000 in
set_option maxRecDepth 100000 in
theorem walkLzWrites (a : TokArg) (w : World) (ha : Toks w w.heap.size a.A a.n a.l ∧ a.n * 32 ≤ 140737488351232) (hg : Handle w) :
    Calls Tryd.prog 16 #[.slice a.A a.n a.c] w fun e w' => e = .returned (.bool true) ∧ Below w.heap.size w w' := by
  obtain ⟨A, n, c, l⟩ := a
  obtain ⟨hl, hn⟩ := ha
  simp only at hl hn ⊢
  have hN : n ≤ maxLen := by unfold maxLen; omega
  go_enter Tryd.func16, Tryd.ntmps16
  go_wp2_with fail
  refine (heavy_any w n c A l hl hN).mono ?_
  rintro e w1 ⟨⟨bb, rfl⟩, hb1⟩
  cases bb with
  | true =>
    go_wp2
    go_ret
    exact ⟨rfl, hb1⟩
  | false =>
    have hl1 := hl.grow hb1
    have hg1 := hg.below hb1
    go_wp2_with fail
    refine (rtwrite_any w1 n c A l hl1 hn).mono ?_
    rintro e w2 ⟨rfl, hb2⟩
    have hb12 := hb1.trans (hb2.mono hb1.size)
    have hbX := below1 w2 (.cells #[.int .i64 (twrite l).2.1, .int .i64 (twrite l).2.2] 29)
    have hl2 := (hl1.grow hb2).grow hbX
    have hg2 := (hg1.below hb2).below hbX
    have hT := Two.new w2 (twrite l).2.1 (twrite l).2.2 29
    have hb13 := hb12.trans (hbX.mono hb12.size)
    unfold faultV
    go_wp2_with fail
    refine (twrite_any _ n c A l hl2 hn).mono ?_
    rintro e w3 ⟨v, rfl, hv, hb3⟩
    have hg3 := hg2.below hb3
    have hT3 := hT.below hb3
    have hb14 := hb13.trans (hb3.mono hb13.size)
    unfold ErrOf at hv
    clear hl hl1 hl2 hT
    generalize twrite l = f at *
    obtain ⟨t, e1, p1⟩ := f
    simp only at *
    obtain ⟨c0, c1, f0, f1⟩ := hT3
    go_wp2_with fail
    refine (placed_any hv hg3 e1 p1).mono ?_
    rintro r w4 ⟨rfl, hb4⟩
    rw [decide_eq_true ⟨rfl, rfl⟩]
    go_wp2
    go_ret
    exact ⟨rfl, hb14.trans (hb4.mono hb14.size)⟩
end Go.Proofs.YtglemfdnfaemiaaDoor
