/- The law LinkTurns returns true and changes nothing. No condition. -/
import Derived.Test.YtoaekpnppinolaaTurnRef
import Derived.OpenShut
namespace Go.Proofs.Ytoaekpnppinolaa
open Go.RowKit Turn
theorem walkLinkTurns (s : ByteArray) (m : Int) (w : World) (hs : s.size ≤ maxLen) (hm : (Lit.int .u64 m).wf = true) :
    Calls Try.prog 4 #[.string s, .int .u64 m] w fun e w' => e = .returned (.bool true) ∧ Below w.heap.size w w' := by
  obtain ⟨b0, b1⟩ := bounds_u64 hm
  unfold maxLen at hs
  clear hm
  obtain ⟨m, rfl⟩ := Int.eq_ofNat_of_zero_le b0
  have hm1 : m ≤ 18446744073709551615 := by omega
  by_cases hbig : 500 < s.size
  · have hd : decide (500 < s.size) = true := by simp; omega
    go_enter Try.func4, Try.ntmps4
    go_wp2
    go_ret
    exact ⟨rfl, Below.refl _ _⟩
  · by_cases h4 : s.size < 4
    · go_enter Try.func4, Try.ntmps4
      go_wp2_with (first
        | (go_at_call 16; refine (turn_small _ _ _ h4).mono ?_; rintro e w' ⟨rfl, rfl⟩)
        | (go_at_call 17; refine (rturn_small _ _ _ h4).mono ?_; rintro e w' ⟨rfl, rfl⟩))
      go_ret
      exact ⟨rfl, Below.refl _ _⟩
    · go_enter Try.func4, Try.ntmps4
      go_wp2_with (first
        | (go_at_call 16; refine (turn_any _ m _ (by omega) hm1 (by omega)).mono ?_; rintro e w1 ⟨rfl, hb1⟩)
        | (go_at_call 17; refine (rturn_any _ m _ (by omega) hm1 (by omega)).mono ?_; rintro e w2 ⟨rfl, hb2⟩))
      go_ret
      exact ⟨rfl, hb1.trans (hb2.mono hb1.size)⟩
end Go.Proofs.Ytoaekpnppinolaa
