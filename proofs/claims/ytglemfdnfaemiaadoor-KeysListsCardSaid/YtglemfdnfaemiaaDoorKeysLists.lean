/- The law KeysLists returns true and changes nothing. -/
import Derived.Test.YtglemfdnfaemiaaDoorRListWalks
import Derived.Test.YtglemfdnfaemiaaDoorOpenSR
namespace Go.Proofs.YtglemfdnfaemiaaDoor
open Go.RowKit As
set_option maxHeartbeats 1000000 in
set_option maxRecDepth 100000 in
theorem walkKeysLists (a : StrArg) (a' : IntArg) (w : World) (h : Strs w a.A a.n a.l ∧ a.n * 16 ≤ 140737488351232 ∧ ∀ s ∈ a.l, s.size ≤ 140737488351232) (h' : Ints w a'.A a'.n a'.l ∧ a'.n * 8 ≤ 140737488351232 ∧ ∀ x ∈ a'.l, -9223372036854775808 ≤ x ∧ x ≤ 9223372036854775807) (hg : Handle w) :
    Calls Tryd.prog 6 #[.slice a.A a.n a.c, .slice a'.A a'.n a'.c] w fun e w' => e = .returned (.bool true) ∧ Below w.heap.size w w' := by
  obtain ⟨A, n, c, T⟩ := a
  obtain ⟨A', n', c', l⟩ := a'
  obtain ⟨h, hn, hsz⟩ := h
  obtain ⟨h', hn', hli⟩ := h'
  simp only at h hn hsz h' hn' hli ⊢
  by_cases hbig : 150 < n + n'
  · have hd : decide (150 < (n : Int) + (n' : Int)) = true := by simp; omega
    go_enter Tryd.func6, Tryd.ntmps6
    go_wp2
    go_ret
    exact ⟨rfl, Below.refl _ _⟩
  · have hd : decide (150 < (n : Int) + (n' : Int)) = false := by simp; omega
    have hN : n ≤ 1000 := by omega
    have hN' : n' ≤ 1000 := by omega
    have hlen := klist_len T l
    have hll := sl1_len (Value.int .i64) h'
    have hlen2 : (klist T l).1.length ≤ maxLen := by unfold maxLen; omega
    have hszM : ∀ s ∈ T, s.size ≤ maxLen := fun s hs => by have := hsz s hs; unfold maxLen; omega
    have HSZ := Lib.hid hszM
    have HLI := Lib.hid hli
    have HL := Lib.hid hlen2
    clear hsz hszM hli hlen hll hlen2
    go_enter Tryd.func6, Tryd.ntmps6
    go_wp2_with fail
    refine (rlist_any n c n' c' A A' T l w h h' hN hN' HLI.out).mono ?_
    rintro e w1 ⟨v1, rfl, hT1, hb1⟩
    have hbX := below1 w1 (.cells #[.int .i64 (klist T l).2.1, .int .i64 (klist T l).2.2] 29)
    have hb1X := hb1.trans (hbX.mono hb1.size)
    unfold faultV
    go_wp2_with fail
    refine (klist_any n c n' c' A A' T l _ ((h.grow hb1).grow hbX) ((h'.grow hb1).grow hbX) hN hN' HSZ.out HLI.out).mono ?_
    rintro e w2 ⟨v2, x2, rfl, hT2, hE2, hb2⟩
    have hT := (Two.new w1 (klist T l).2.1 (klist T l).2.2 29).below hb2
    obtain ⟨A1, d1, rfl⟩ := own_form hT1
    obtain ⟨A2, d2, rfl⟩ := own_form hT2
    have s1 := ((Strs.of_own hT1).grow hbX).grow hb2
    have s2 := Strs.of_own hT2
    have hb12 := hb1X.trans (hb2.mono hb1X.size)
    have hg2 := hg.below hb12
    clear hT1 hT2 hb2 hb1X hb1 hbX h h'
    generalize klist T l = X at *
    obtain ⟨L, e, pl⟩ := X
    simp only at *
    obtain ⟨c0, c1, f0, f1⟩ := hT
    go_wp2_with fail
    refine (placed_any hE2 hg2 e pl).mono ?_
    rintro r w4 ⟨rfl, hb4⟩
    rw [decide_eq_true ⟨rfl, rfl⟩]
    have hb24 := hb12.trans (hb4.mono hb12.size)
    go_wp2_with fail
    refine (equal_strs _ _ _ _ _ _ _ _ _ (s1.grow hb4) (s2.grow hb4) HL.out HL.out).mono ?_
    rintro r w5 ⟨rfl, q, rfl⟩
    rw [decide_eq_true (rfl : L = L)]
    go_wp2
    go_ret
    exact ⟨rfl, below_drewN hb24 q⟩
end Go.Proofs.YtglemfdnfaemiaaDoor
