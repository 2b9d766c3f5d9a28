/- The law LzReads returns true and changes nothing. -/
import Derived.Test.YtnaclpfcldoebaaDoorSwell
import Derived.Test.YtnaclpfcldoebaaDoorEqualS
import Derived.Test.YtnaclpfcldoebaaDoorOpen
namespace Go.Proofs.YtnaclpfcldoebaaDoor
set_option linter.unusedSimpArgs false
open Go.RowKit As Tokens
set_option maxHeartbeats 1000000 in
set_option maxRecDepth 100000 in
theorem walkLzReads (s : ByteArray) (w : World) (hs : s.size ≤ maxLen) (hg : Handle w) :
    Calls Tryd.prog 4 #[.string s] w fun e w' => e = .returned (.bool true) ∧ Below w.heap.size w w' := by
  unfold maxLen at hs
  by_cases hbig : 1500 < s.size
  · have hd : decide (1500 < s.size) = true := by simpa using hbig
    go_enter Tryd.func4, Tryd.ntmps4
    go_wp2
    go_ret
    exact ⟨rfl, Below.refl _ _⟩
  · have hd : decide (1500 < s.size) = false := by simpa using hbig
    have hS : s.size ≤ 1000000 := by omega
    have HL := Lib.hid (show (lread s).1.length ≤ maxLen by have := lread_len s; unfold maxLen; omega)
    go_enter Tryd.func4, Tryd.ntmps4
    go_wp2_with fail
    refine (rlzread_any s w hS).mono ?_
    rintro e w1 ⟨v1, rfl, hT1, hb1⟩
    unfold faultV
    go_wp2_with fail
    have bF := below1 w1 (.cells #[.int .i64 (lread s).2.1, .int .i64 (lread s).2.2] 25)
    have hF := Two.new w1 (lread s).2.1 (lread s).2.2 25
    have b1 := hb1.trans (bF.mono hb1.size)
    refine (lzread_any s _ hS (hg.below b1)).mono ?_
    rintro e w2 ⟨v2, x2, rfl, hT2, hx2, hb2⟩
    have b2 := b1.trans (hb2.mono b1.size)
    obtain ⟨A1, c1, rfl⟩ := own_form hT1
    obtain ⟨A2, c2, rfl⟩ := own_form hT2
    have S1 := ((Sl.of_own hT1).grow bF).grow hb2
    have S2 := Sl.of_own hT2
    have F2 := hF.below hb2
    clear hT1 hT2 hF bF
    go_wp2_with fail
    refine (rswell_any s _ hS).mono ?_
    rintro e w3 ⟨rfl, hb3⟩
    have b3 := b2.trans (hb3.mono b2.size)
    have F3 := F2.below hb3
    have x3 := hx2.below hb3
    have P1 := S1.grow hb3
    have P2 := S2.grow hb3
    unfold faultV
    go_wp2_with fail
    have bG := below1 w3 (.cells #[.int .i64 (lswell s).2.1, .int .i64 (lswell s).2.2] 25)
    have hG := Two.new w3 (lswell s).2.1 (lswell s).2.2 25
    have b4 := b3.trans (bG.mono b3.size)
    refine (swell_any s _ hS (hg.below b4)).mono ?_
    rintro e w4 ⟨x4, rfl, hx4, hb4⟩
    have b5 := b4.trans (hb4.mono b4.size)
    have F5 := (F3.below bG).below hb4
    have x5 := (x3.below bG).below hb4
    have Q1 := (P1.grow bG).grow hb4
    have Q2 := (P2.grow bG).grow hb4
    have G5 := hG.below hb4
    have g5 := hg.below b5
    unfold ErrOf at hx4
    clear S1 S2 F2 hx2 F3 x3 P1 P2 bG hG
    generalize lswell s = z at *
    generalize lread s = y at *
    obtain ⟨L, p, q⟩ := y
    obtain ⟨t, p', q'⟩ := z
    simp only at *
    obtain ⟨k0, k1, _, _⟩ := F5
    go_wp2_with fail
    refine (placed_any x5 g5 p q).mono ?_
    rintro r w6 ⟨rfl, hb6⟩
    have b6 := b5.trans (hb6.mono b5.size)
    rw [decide_eq_true ⟨rfl, rfl⟩]
    go_wp2_with fail
    refine (equal_toks L.length L.length c1 c2 A1 A2 L L w6 (Q1.grow hb6) (Q2.grow hb6) HL.out HL.out).mono ?_
    rintro r w7 ⟨rfl, q4, rfl⟩
    rw [decide_eq_true rfl]
    have hq := below_drewN (Below.refl w6.heap.size w6) q4
    have b7 := b6.trans (hq.mono b6.size)
    obtain ⟨m0, m1, _, _⟩ := (G5.below hb6).below hq
    go_wp2_with fail
    refine (placed_any ((hx4.below hb6).below hq) ((g5.below hb6).below hq) p' q').mono ?_
    rintro r w8 ⟨rfl, hb8⟩
    rw [decide_eq_true ⟨rfl, rfl⟩]
    go_wp2
    go_ret
    exact ⟨by first | rfl | simp, b7.trans (hb8.mono b7.size)⟩
end Go.Proofs.YtnaclpfcldoebaaDoor
