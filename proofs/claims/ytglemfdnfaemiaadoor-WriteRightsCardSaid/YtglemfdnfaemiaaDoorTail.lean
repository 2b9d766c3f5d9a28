/- write.Tail says what wtail says. -/
import Derived.Test.YtglemfdnfaemiaaDoorRWriteRight
import Derived.Test.YtglemfdnfaemiaaDoorSpanWalks
import Derived.Test.YtglemfdnfaemiaaDoorRVary
import Derived.Test.YtglemfdnfaemiaaDoorZig
namespace Go.Proofs.YtglemfdnfaemiaaDoor
set_option linter.unusedSimpArgs false
open Go.RowKit As
theorem wright_vals {a b c f : Int} {d e : ByteArray} (h : wright (a, b, c, d, e, f) = 0) : (c = 1 ∨ c = 2 ∨ c = 3 ∨ c = 4) ∧ d.size ≤ 40 ∧ e.size ≤ 300 ∧ (c = 2 → e.size = 0) ∧ (c = 3 → -1125899906842624 ≤ f ∧ f ≤ 1125899906842624) ∧ (c = 4 → 0 ≤ f ∧ f ≤ 1000) := by
  unfold wright at h
  simp only at h
  split at h
  · omega
  · split at h
    · omega
    · split at h
      · omega
      · split at h
        · omega
        · split at h
          · omega
          · omega
theorem span_small {s : ByteArray} (h : s.size ≤ 300) : spanOf s = (strOf (vput s.size) ++ s, 0) := by unfold spanOf; rw [if_neg (by omega)]
theorem wtail_bad {x : Wr} (h : wright x ≠ 0) : wtail x = (strOf [], wright x) := by unfold wtail; rw [if_pos h]
theorem wtail_good {x : Wr} (h : wright x = 0) : wtail x = (wtailOf x, 0) := by unfold wtail; rw [if_neg (by omega)]
set_option maxHeartbeats 2000000 in
set_option maxRecDepth 100000 in
theorem tail_any (x : Wr) (w : World) :
    Calls Tryd.prog 79 #[wrV x.1 x.2.1 x.2.2.1 x.2.2.2.1 x.2.2.2.2.1 x.2.2.2.2.2] w fun r w' => r = .returned (.tuple #[.string (wtail x).1, errV (wtail x).2]) ∧ Below w.heap.size w w' := by
  obtain ⟨a, b, c, d, e, f⟩ := x
  have hW := WrAt.new w a b c d e f
  have b0 := below1 w (wrO a b c d e f)
  by_cases hw : wright (a, b, c, d, e, f) = 0
  · have hr := Lib.hid (wtail_good hw)
    obtain ⟨hc, hd, he, v2, v3, v4⟩ := wright_vals hw
    have hm : e.size ≤ maxLen := by unfold maxLen; omega
    have H0 := Lib.hid hw
    clear hw
    rcases hc with rfl | rfl | rfl | rfl
    · have hs := Lib.hid (span_small he)
      have HW := hW
      obtain ⟨c0, c1, c2, c3, c4, c5⟩ := hW
      go_enter Tryd.func79, Tryd.ntmps79
      go_wp2_with fail
      refine (wright_any (a, b, 1, d, e, f) _).mono ?_
      rintro r w1 ⟨rfl, hb1⟩
      rw [H0.out, errV_zero]
      have b1 := b0.trans (hb1.mono b0.size)
      obtain ⟨k0, k1, k2, k3, k4, k5⟩ := HW.below hb1
      go_wp2_with fail
      refine (spanput_any e _ hm).mono ?_
      rintro r w2 ⟨rfl, hb2⟩
      rw [hs.out]
      go_wp2
      go_ret2
      exact ⟨by rw [hr.out]; rfl, b1.trans (hb2.mono b1.size)⟩
    · have HW := hW
      obtain ⟨c0, c1, c2, c3, c4, c5⟩ := hW
      go_enter Tryd.func79, Tryd.ntmps79
      go_wp2_with fail
      refine (wright_any (a, b, 2, d, e, f) _).mono ?_
      rintro r w1 ⟨rfl, hb1⟩
      rw [H0.out, errV_zero]
      have b1 := b0.trans (hb1.mono b0.size)
      obtain ⟨k0, k1, k2, k3, k4, k5⟩ := HW.below hb1
      go_wp2
      go_ret2
      exact ⟨by rw [hr.out]; rfl, b1⟩
    · have v3 := v3 rfl
      have hzi := Lib.hid (Zg.zig_is f (by omega))
      have hzl : zigN f < 18446744073709551616 := by unfold zigN; split <;> omega
      have HW := hW
      obtain ⟨c0, c1, c2, c3, c4, c5⟩ := hW
      go_enter Tryd.func79, Tryd.ntmps79
      go_wp2_with fail
      refine (wright_any (a, b, 3, d, e, f) _).mono ?_
      rintro r w1 ⟨rfl, hb1⟩
      rw [H0.out, errV_zero]
      have b1 := b0.trans (hb1.mono b0.size)
      obtain ⟨k0, k1, k2, k3, k4, k5⟩ := HW.below hb1
      go_wp2_with fail
      refine (Zg.zig_any f _ (by omega) (by omega)).mono ?_
      rintro r w2 ⟨rfl, rfl⟩
      rw [hzi.out]
      go_wp2_with fail
      refine (vput_any (zigN f) _ hzl).mono ?_
      rintro r w2 ⟨rfl, hb2⟩
      go_wp2
      go_ret2
      exact ⟨by rw [hr.out]; rfl, b1.trans (hb2.mono b1.size)⟩
    · have v4 := v4 rfl
      obtain ⟨m, rfl⟩ := Int.eq_ofNat_of_zero_le (show 0 ≤ f by omega)
      have hs := Lib.hid (span_small he)
      have hl1 := vput_len10 (n := m) (by omega)
      have hl2 := vput_len10 (n := e.size) (by omega)
      rw [← strOf_size] at hl1 hl2
      have HW := hW
      obtain ⟨c0, c1, c2, c3, c4, c5⟩ := hW
      go_enter Tryd.func79, Tryd.ntmps79
      go_wp2_with fail
      refine (wright_any (a, b, 4, d, e, (m : Int)) _).mono ?_
      rintro r w1 ⟨rfl, hb1⟩
      rw [H0.out, errV_zero]
      have b1 := b0.trans (hb1.mono b0.size)
      obtain ⟨k0, k1, k2, k3, k4, k5⟩ := HW.below hb1
      go_wp2_with fail
      refine (spanput_any e _ hm).mono ?_
      rintro r w2 ⟨rfl, hb2⟩
      rw [hs.out]
      have b2 := b1.trans (hb2.mono b1.size)
      have k5 := (hb2.cell (cell_lt k5)).trans k5
      clear k0 k1 k2 k3 k4
      obtain ⟨t2, ht2⟩ : ∃ t, t = strOf (vput e.size) ++ e := ⟨_, rfl⟩
      have hz2 : t2.size ≤ 400 := by rw [ht2, ByteArray.size_append]; omega
      rw [← ht2]
      have HT2 := Lib.hid ht2
      clear ht2
      go_wp2_with fail
      refine (vput_any m _ (by omega)).mono ?_
      rintro r w3 ⟨rfl, hb3⟩
      obtain ⟨t1, ht1⟩ : ∃ t, t = strOf (vput m) := ⟨_, rfl⟩
      rw [← ht1] at hl1
      have hE : (⟨(vput m).toArray⟩ : ByteArray) = t1 := ht1.symm
      rw [hE]
      have HT1 := Lib.hid ht1
      clear ht1 hE
      have hcat : t1.size + t2.size ≤ 9223372036854775807 := by omega
      have hcat' : ¬ 9223372036854775807 < t1.size + t2.size := by omega
      go_wp2
      go_ret2
      exact ⟨by rw [hr.out, HT1.out, HT2.out]; rfl, b2.trans (hb3.mono b2.size)⟩
  · have hr := Lib.hid (wtail_bad hw)
    have HW := Lib.hid hw
    clear hw
    obtain ⟨c0, c1, c2, c3, c4, c5⟩ := hW
    go_enter Tryd.func79, Tryd.ntmps79
    go_wp2_with fail
    refine (wright_any (a, b, c, d, e, f) _).mono ?_
    rintro r w1 ⟨rfl, hb1⟩
    rw [errV_of HW.out]
    go_wp2
    go_ret2
    exact ⟨by rw [hr.out]; simp only; rw [errV_of HW.out]; rfl, b0.trans (hb1.mono b0.size)⟩
end Go.Proofs.YtglemfdnfaemiaaDoor
