/- The law KeysTables returns true and changes nothing. No condition. -/
import Derived.Test.YtoaekpnppinolaaTableRef
import Derived.Test.YtoaekpnppinolaaOpenS
namespace Go.Proofs.Ytoaekpnppinolaa
open Go.RowKit Keys
theorem walkKeysTables (a : StrArg) (w : World) (h : Strs w a.A a.n a.l ∧ a.n ≤ maxLen ∧ ∀ s ∈ a.l, s.size ≤ maxLen) :
    Calls Try.prog 8 #[.slice a.A a.n a.c] w fun e w' => e = .returned (.bool true) ∧ Below w.heap.size w w' := by
  obtain ⟨A, n, c, l⟩ := a
  obtain ⟨h, hn, hsz⟩ := h
  simp only at h hn hsz
  unfold maxLen at hn
  have hl := Lib.hid (sl1_len Value.string h)
  by_cases hbig : 150 < n
  · go_enter Try.func8, Try.ntmps8
    go_wp2
    go_ret
    exact ⟨rfl, Below.refl _ _⟩
  · go_enter Try.func8, Try.ntmps8
    go_wp2_with fail
    refine (rtable_any n c A l w h (by omega)).mono ?_
    rintro e w1 ⟨v2, v3, rfl, hT, hA, hb1⟩
    go_wp2_with fail
    refine (table_any n c A l w1 (h.grow hb1) (by omega) hsz).mono ?_
    rintro e w2 ⟨v4, v5, rfl, hT2, hA2, hb2⟩
    obtain ⟨B2, d2, rfl⟩ := own_form hT
    obtain ⟨B3, d3, rfl⟩ := own_form hA
    obtain ⟨B4, d4, rfl⟩ := own_form hT2
    obtain ⟨B5, d5, rfl⟩ := own_form hA2
    have hlen := Lib.hid (tab_len l)
    have b1 : (tab l).1.length ≤ maxLen := by have := hlen.out.1; rw [hl.out] at this; unfold maxLen; omega
    have b2 : (tab l).2.length ≤ maxLen := by have := hlen.out.2.1; rw [hl.out] at this; unfold maxLen; omega
    have s1 := (Strs.of_own hT).grow hb2
    have s2 := (Ints.of_own hA).grow hb2
    have s3 := Strs.of_own hT2
    have s4 := Ints.of_own hA2
    generalize (tab l).1 = T at *
    generalize (tab l).2 = I at *
    go_wp2_with fail
    refine (equal_strs _ _ _ _ _ _ _ _ _ s1 s3 b1 b1).mono ?_
    rintro e w' ⟨rfl, q, rfl⟩
    rw [decide_eq_true (rfl : T = T)]
    go_wp2_with fail
    refine (equal_ints _ _ _ _ _ _ _ _ _ (by exact s2) (by exact s4) b2 b2).mono ?_
    rintro e w' ⟨rfl, q', rfl⟩
    rw [decide_eq_true (rfl : I = I)]
    go_wp2_with fail
    go_ret
    exact ⟨rfl, below_drewN (hb1.trans (hb2.mono hb1.size)) _⟩
end Go.Proofs.Ytoaekpnppinolaa
