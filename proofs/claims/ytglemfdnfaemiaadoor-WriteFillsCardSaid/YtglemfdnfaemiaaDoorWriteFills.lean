/- The law WriteFills returns true and changes nothing. -/
import Derived.Test.YtglemfdnfaemiaaDoorRWriteFill
import Derived.Test.YtglemfdnfaemiaaDoorOpenW
namespace Go.Proofs.YtglemfdnfaemiaaDoor
set_option linter.unusedSimpArgs false
open Go.RowKit As
set_option maxHeartbeats 2000000 in
set_option maxRecDepth 100000 in
theorem walkWriteFills (x : Wr) (s : ByteArray) (w : World) (hx : wrFits x ∧ x.2.2.2.1.size ≤ 140737488351232 ∧ x.2.2.2.2.1.size ≤ 140737488351232) (hs : s.size ≤ 140737488351232) (hg : Handle w) :
    Calls Tryd.prog 20 #[wrV x.1 x.2.1 x.2.2.1 x.2.2.2.1 x.2.2.2.2.1 x.2.2.2.2.2, .string s] w fun e w' => e = .returned (.bool true) ∧ Below w.heap.size w w' := by
  obtain ⟨a, b, c, d, e, f⟩ := x
  obtain ⟨_, hd, _⟩ := hx
  simp only at hd ⊢
  have hS : s.size ≤ maxLen := by unfold maxLen; omega
  have hW := WrAt.new w a b c d e f
  have b0 := below1 w (wrO a b c d e f)
  by_cases hbig : 900 < d.size + s.size
  · have t0 : decide (900 < (d.size : Int) + (s.size : Int)) = true := by simp only [decide_eq_true_eq]; omega
    obtain ⟨c0, c1, c2, c3, c4, c5⟩ := hW
    go_enter Tryd.func20, Tryd.ntmps20
    go_wp2
    go_ret
    exact ⟨rfl, b0⟩
  · have t0 : decide (900 < (d.size : Int) + (s.size : Int)) = false := by simp only [decide_eq_false_iff_not]; omega
    have HW := hW
    obtain ⟨c0, c1, c2, c3, c4, c5⟩ := hW
    go_enter Tryd.func20, Tryd.ntmps20
    go_wp2_with fail
    refine (rfill_any (a, b, c, d, e, f) s _ hS).mono ?_
    rintro r w1 ⟨rfl, hb1⟩
    unfold rfillV
    have b01 := b0.trans (hb1.mono b0.size)
    have HW1 := HW.below hb1
    generalize hY : wfill (a, b, c, d, e, f) s = y
    have HY := Lib.hid hY
    clear hY
    obtain ⟨⟨a1, b1, y1, d1, e1, f1⟩, n, q⟩ := y
    have bA := below1 w1 (wrO a1 b1 y1 d1 e1 f1)
    have A1 := WrAt.new w1 a1 b1 y1 d1 e1 f1
    have b02 := b01.trans (bA.mono b01.size)
    obtain ⟨k0, k1, k2, k3, k4, k5⟩ := HW1.below bA
    clear c0 c1 c2 c3 c4 c5 HW
    simp only
    go_wp2_with fail
    refine (fill_any (a, b, c, d, e, f) s _ hS (hg.below b02)).mono ?_
    rintro r w2 ⟨rfl, hb2⟩
    unfold fillV
    rw [HY.out]
    have b03 := b02.trans (hb2.mono b02.size)
    have A2 := A1.below hb2
    have bB := below1 w2 (wrO a1 b1 y1 d1 e1 f1)
    have b04 := b03.trans (bB.mono b03.size)
    have A3 := A2.below bB
    have B1 := WrAt.new w2 a1 b1 y1 d1 e1 f1
    clear k0 k1 k2 k3 k4 k5 A1 A2
    simp only
    go_wp2_with fail
    refine (bare_any (errV_is _ q) (hg.below b04) q).mono ?_
    rintro r w3 ⟨rfl, hb3⟩
    rw [decide_eq_true ⟨rfl, rfl⟩]
    have b05 := b04.trans (hb3.mono b04.size)
    obtain ⟨u0, u1, u2, u3, u4, u5⟩ := A3.below hb3
    obtain ⟨v0, v1, v2, v3, v4, v5⟩ := B1.below hb3
    clear A3 B1
    go_wp2
    go_ret
    exact ⟨rfl, b05⟩
end Go.Proofs.YtglemfdnfaemiaaDoor
