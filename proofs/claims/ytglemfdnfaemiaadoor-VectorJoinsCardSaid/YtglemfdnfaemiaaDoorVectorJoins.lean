/- The law VectorJoins returns true and changes nothing. -/
import Derived.Test.YtglemfdnfaemiaaDoorVecJoin
import Derived.Test.YtglemfdnfaemiaaDoorOpenEC
namespace Go.Proofs.YtglemfdnfaemiaaDoor
open Go.RowKit As
set_option maxHeartbeats 2000000 in
set_option maxRecDepth 100000 in
theorem walkVectorJoins (a b : EntArg) (w : World) (ha : Ents w w.heap.size a.A a.n a.l ∧ a.n * 16 ≤ 140737488351232 ∧ a.n ≤ a.c) (hb : Ents w w.heap.size b.A b.n b.l ∧ b.n * 16 ≤ 140737488351232 ∧ b.n ≤ b.c) (hg : Handle w) :
    Calls Tryd.prog 13 #[.slice a.A a.n a.c, .slice b.A b.n b.c] w fun e w' => e = .returned (.bool true) ∧ Below w.heap.size w w' := by
  obtain ⟨A, n, c, l⟩ := a
  obtain ⟨A', n', c', l'⟩ := b
  obtain ⟨hl, hn, hc⟩ := ha
  obtain ⟨hl', hn', hc'⟩ := hb
  simp only at hl hn hc hl' hn' hc' ⊢
  have N : Hid (n ≤ maxLen) := Lib.hid (by unfold maxLen; omega)
  have N' : Hid (n' ≤ maxLen) := Lib.hid (by unfold maxLen; omega)
  have w0 : wrap64 ((n : Int) + (n' : Int)) = (n : Int) + (n' : Int) := IntWalk.wrap64_in _ (by omega)
  have w1 : IntKind.i64.wrap ((n : Int) + (n' : Int)) = (n : Int) + (n' : Int) := IntWalk.i64_in _ (by omega)
  by_cases hbig : 100 < n + n'
  · have d0 : decide (100 < (n : Int) + (n' : Int)) = true := by simp only [decide_eq_true_eq]; omega
    have d1 : decide (100 < n + n') = true := by simp only [decide_eq_true_eq]; omega
    go_enter Tryd.func13, Tryd.ntmps13
    go_wp2
    go_ret
    exact ⟨rfl, Below.refl _ _⟩
  · have d0 : decide (100 < (n : Int) + (n' : Int)) = false := by simp only [decide_eq_false_iff_not]; omega
    have d1 : decide (100 < n + n') = false := by simp only [decide_eq_false_iff_not]; omega
    go_enter Tryd.func13, Tryd.ntmps13
    go_wp2_with fail
    refine (rvjoin_any w n c n' c' A A' l l' hl hl' N.out N'.out).mono ?_
    rintro e w1 ⟨v1, rfl, hT1, hb1⟩
    have hl1 := hl.grow hb1
    have hl1' := hl'.grow hb1
    go_wp2_with fail
    refine (vjoin_any w1 n c n' c' A A' l l' hl1 hl1' N.out N'.out hc hc' (hg.below hb1)).mono ?_
    rintro e w2 ⟨v2, rfl, hT2, hb2⟩
    have hb12 := hb1.trans (hb2.mono hb1.size)
    obtain ⟨A1, c1, rfl⟩ := own_form hT1
    obtain ⟨A2, c2, rfl⟩ := own_form hT2
    have hlen := canon_len (gmax l l') 0 0
    have hv : (vjoin l l').1.length ≤ 16 := by
      unfold vjoin
      split
      · simp
      · split
        · simp
        · split
          · simp
          · rename_i h; simp only; omega
    have S1 := (Sl.of_own hT1).grow hb2
    have S2 := Sl.of_own hT2
    clear hT1 hT2 hlen
    generalize vjoin l l' = y at *
    obtain ⟨L, q⟩ := y
    simp only at *
    go_wp2_with fail
    refine (bare_any (errV_is w2 q) (hg.below hb12) q).mono ?_
    rintro r w3 ⟨rfl, hb3⟩
    have hb13 := hb12.trans (hb3.mono hb12.size)
    rw [decide_eq_true ⟨rfl, rfl⟩]
    go_wp2_with fail
    refine (equal_ents L.length L.length c1 c2 A1 A2 L L w3 (S1.grow hb3) (S2.grow hb3) (by unfold maxLen; omega) (by unfold maxLen; omega)).mono ?_
    rintro r w4 ⟨rfl, q4, rfl⟩
    rw [decide_eq_true rfl]
    have hb14 := below_drewN hb13 q4
    go_wp2_with fail
    refine (covers_any _ n c n' c' A A' l l' (hl.grow hb14) (hl'.grow hb14) N.out N'.out).mono ?_
    rintro r w5 ⟨rfl, hb5⟩
    have hb15 := hb14.trans (hb5.mono hb14.size)
    go_wp2_with fail
    refine (rcovers_any _ n c n' c' A A' l l' (hl.grow hb15) (hl'.grow hb15) N.out N'.out).mono ?_
    rintro r w6 ⟨rfl, hb6⟩
    have hb16 := hb15.trans (hb6.mono hb15.size)
    go_wp2
    go_ret
    exact ⟨by first | rfl | simp, hb16⟩
end Go.Proofs.YtglemfdnfaemiaaDoor
