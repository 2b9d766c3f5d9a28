/- The law SpanAlls returns true and changes nothing. -/
import Derived.Test.YtglemfdnfaemiaaDoorSpansWalks
import Derived.Test.YtglemfdnfaemiaaDoorOpen
namespace Go.Proofs.YtglemfdnfaemiaaDoor
open Go.RowKit As
set_option maxRecDepth 100000 in
theorem walkSpanAlls (s : ByteArray) (n : Int) (w : World) (hs : s.size ≤ maxLen) (_ : (Lit.int .i64 n).wf = true) (hg : Handle w) :
    Calls Tryd.prog 10 #[.string s, .int .i64 n] w fun e w' => e = .returned (.bool true) ∧ Below w.heap.size w w' := by
  unfold maxLen at hs
  by_cases hbig : 1500 < s.size
  · have hd : decide (1500 < s.size) = true := by simpa using hbig
    go_enter Tryd.func10, Tryd.ntmps10
    go_wp2
    go_ret
    exact ⟨rfl, Below.refl _ _⟩
  · have hd : decide (1500 < s.size) = false := by simpa using hbig
    by_cases hn : 3000 < n
    · go_enter Tryd.func10, Tryd.ntmps10
      go_wp2
      go_ret
      exact ⟨rfl, Below.refl _ _⟩
    · have hS : s.size ≤ 1500 := by omega
      have hN : n ≤ 3000 := by omega
      go_enter Tryd.func10, Tryd.ntmps10
      go_wp2_with fail
      refine (rspans_any s n w hS hN).mono ?_
      rintro e w1 ⟨v1, rfl, hT1, hb1⟩
      have hg1 := (hg.below hb1).below (below1 w1 (.cells #[.int .i64 (spansOf s n.toNat).2.2.1, .int .i64 (spansOf s n.toNat).2.2.2] 29))
      go_wp2_with fail
      refine (spanall_any s n _ hS hN hg1).mono ?_
      rintro e w2 ⟨v2, x2, rfl, hT2, hE2, hb2⟩
      have hlen : (spansOf s n.toNat).1.length ≤ maxLen := by have := spans_len s n.toNat; unfold maxLen; omega
      have hb1X := hb1.trans ((below1 w1 (.cells #[.int .i64 (spansOf s n.toNat).2.2.1, .int .i64 (spansOf s n.toNat).2.2.2] 29)).mono hb1.size)
      have hT := (Two.new w1 (spansOf s n.toNat).2.2.1 (spansOf s n.toNat).2.2.2 29).below hb2
      obtain ⟨A1, d1, rfl⟩ := own_form hT1
      obtain ⟨A2, d2, rfl⟩ := own_form hT2
      have s1 := ((Strs.of_own hT1).grow (below1 w1 (.cells #[.int .i64 (spansOf s n.toNat).2.2.1, .int .i64 (spansOf s n.toNat).2.2.2] 29))).grow hb2
      have s2 := Strs.of_own hT2
      have hb12 := hb1X.trans (hb2.mono hb1X.size)
      have hg2 := hg1.below hb2
      clear hT1 hT2 hb2 hb1X hb1 hg1
      generalize spansOf s n.toNat = X at *
      obtain ⟨l, p, e, pl⟩ := X
      simp only at *
      obtain ⟨c0, c1, f0, f1⟩ := hT
      go_wp2_with fail
      refine (placed_any hE2 hg2 e pl).mono ?_
      rintro r w4 ⟨rfl, hb4⟩
      rw [decide_eq_true ⟨rfl, rfl⟩]
      have hb24 := hb12.trans (hb4.mono hb12.size)
      go_wp2_with fail
      refine (equal_strs _ _ _ _ _ _ _ _ _ (s1.grow hb4) (s2.grow hb4) hlen hlen).mono ?_
      rintro r w5 ⟨rfl, q, rfl⟩
      rw [decide_eq_true (rfl : l = l)]
      go_wp2
      go_ret
      exact ⟨rfl, below_drewN hb24 q⟩
end Go.Proofs.YtglemfdnfaemiaaDoor
