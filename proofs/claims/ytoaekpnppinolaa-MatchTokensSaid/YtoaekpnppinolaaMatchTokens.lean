/- The law MatchTokens returns true and changes nothing. No condition. -/
import Derived.Test.YtoaekpnppinolaaTokRef
import Derived.Test.YtoaekpnppinolaaEqualS
namespace Go.Proofs.Ytoaekpnppinolaa
open Go.RowKit Tokens
theorem walkMatchTokens (s : ByteArray) (w : World) (hs : s.size ≤ maxLen) :
    Calls Try.prog 10 #[.string s] w fun e w' => e = .returned (.bool true) ∧ Below w.heap.size w w' := by
  unfold maxLen at hs
  by_cases hbig : 1500 < s.size
  · have hd : decide (1500 < s.size) = true := by simp; omega
    go_enter Try.func10, Try.ntmps10
    go_wp2
    go_ret
    exact ⟨rfl, Below.refl _ _⟩
  · have hlen := tokens_len s
    go_enter Try.func10, Try.ntmps10
    go_wp2_with fail
    refine (tokens_any s w (by omega)).mono ?_
    rintro e w1 ⟨v1, rfl, hT1, hb1⟩
    go_wp2_with fail
    refine (rtokens_any s w1 (by omega)).mono ?_
    rintro e w2 ⟨v2, rfl, hT2, hb2⟩
    obtain ⟨A1, c1, rfl⟩ := own_form hT1
    obtain ⟨A2, c2, rfl⟩ := own_form hT2
    have s1 := (Sl.of_own hT1).grow hb2
    have s2 := Sl.of_own hT2
    generalize tokens s = T at *
    go_wp2_with fail
    refine (equal_toks _ _ _ _ _ _ _ _ _ s1 s2 (by unfold maxLen; omega) (by unfold maxLen; omega)).mono ?_
    rintro e w' ⟨rfl, q, rfl⟩
    rw [decide_eq_true (rfl : T = T)]
    go_wp2_with fail
    go_ret
    exact ⟨rfl, below_drewN (hb1.trans (hb2.mono hb1.size)) _⟩
end Go.Proofs.Ytoaekpnppinolaa
