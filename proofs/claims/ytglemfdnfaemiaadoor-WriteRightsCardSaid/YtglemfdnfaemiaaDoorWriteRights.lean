/- The law WriteRights returns true and changes nothing. -/
import Derived.Test.YtglemfdnfaemiaaDoorRTail
import Derived.Test.YtglemfdnfaemiaaDoorOpenW
namespace Go.Proofs.YtglemfdnfaemiaaDoor
set_option linter.unusedSimpArgs false
open Go.RowKit As
theorem wtail_two (x : Wr) : (wtail x).2 = wright x := by
  unfold wtail
  split
  · rfl
  · simp only; omega
set_option maxHeartbeats 2000000 in
set_option maxRecDepth 100000 in
theorem walkWriteRights (x : Wr) (w : World) (hx : wrFits x ∧ x.2.2.2.1.size ≤ 140737488351232 ∧ x.2.2.2.2.1.size ≤ 140737488351232) (hg : Handle w) :
    Calls Tryd.prog 19 #[wrV x.1 x.2.1 x.2.2.1 x.2.2.2.1 x.2.2.2.2.1 x.2.2.2.2.2] w fun e w' => e = .returned (.bool true) ∧ Below w.heap.size w w' := by
  obtain ⟨a, b, c, d, e, f⟩ := x
  obtain ⟨_, hd, he⟩ := hx
  simp only at hd he ⊢
  have hW := WrAt.new w a b c d e f
  have b0 := below1 w (wrO a b c d e f)
  have HW := hW
  obtain ⟨c0, c1, c2, c3, c4, c5⟩ := hW
  by_cases hbig : 900 < d.size + e.size
  · have t0 : decide (900 < (d.size : Int) + (e.size : Int)) = true := by simp only [decide_eq_true_eq]; omega
    go_enter Tryd.func19, Tryd.ntmps19
    go_wp2
    go_ret
    exact ⟨rfl, b0⟩
  · have t0 : decide (900 < (d.size : Int) + (e.size : Int)) = false := by simp only [decide_eq_false_iff_not]; omega
    go_enter Tryd.func19, Tryd.ntmps19
    go_wp2_with fail
    refine (rtail_any (a, b, c, d, e, f) _).mono ?_
    rintro r w1 ⟨rfl, hb1⟩
    have b1 := b0.trans (hb1.mono b0.size)
    obtain ⟨k0, k1, k2, k3, k4, k5⟩ := HW.below hb1
    clear c0 c1 c2 c3 c4 c5
    go_wp2_with fail
    refine (tail_any (a, b, c, d, e, f) _).mono ?_
    rintro r w2 ⟨rfl, hb2⟩
    have b2 := b1.trans (hb2.mono b1.size)
    have HT := Lib.hid (wtail_two (a, b, c, d, e, f))
    rw [HT.out]
    clear k0 k1 k2 k3 k4 k5
    generalize (wtail (a, b, c, d, e, f)).1 = t
    go_wp2_with fail
    refine (bare_any (errV_is _ (wright (a, b, c, d, e, f))) (hg.below b2) _).mono ?_
    rintro r w3 ⟨rfl, hb3⟩
    rw [decide_eq_true ⟨rfl, rfl⟩]
    have b3 := b2.trans (hb3.mono b2.size)
    have HW3 := (HW.below hb1).below hb2 |>.below hb3
    obtain ⟨k0, k1, k2, k3, k4, k5⟩ := HW3
    go_wp2_with fail
    refine (wright_any (a, b, c, d, e, f) _).mono ?_
    rintro r w4 ⟨rfl, hb4⟩
    have b4 := b3.trans (hb4.mono b3.size)
    go_wp2_with fail
    refine (bare_any (errV_is _ (wright (a, b, c, d, e, f))) (hg.below b4) _).mono ?_
    rintro r w5 ⟨rfl, hb5⟩
    rw [decide_eq_true ⟨rfl, rfl⟩]
    go_wp2
    go_ret
    exact ⟨rfl, b4.trans (hb5.mono b4.size)⟩
end Go.Proofs.YtglemfdnfaemiaaDoor
