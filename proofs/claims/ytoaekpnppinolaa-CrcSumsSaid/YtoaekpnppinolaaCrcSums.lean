/- The law CrcSums returns true and changes nothing. No condition. -/
import Derived.Test.YtoaekpnppinolaaCrcWalks
import Derived.OpenShut
import Derived.Deep.QuietTactic
import Derived.BigQuiet
namespace Go.Proofs.Ytoaekpnppinolaa
open Go.RowKit Crc
theorem walkCrcSums (s : ByteArray) (n : Int) (w : World) (hs : s.size ≤ maxLen) (hn : (Lit.int .u32 n).wf = true) :
    Calls Try.prog 6 #[.string s, .int .u32 n] w fun e w' => e = .returned (.bool true) ∧ Below w.heap.size w w' := by
  obtain ⟨b0, b1⟩ := bounds_u32 hn
  obtain ⟨m, rfl⟩ := Int.eq_ofNat_of_zero_le b0
  clear hn
  have hm : m < 4294967296 := by omega
  by_cases hbig : 800 < s.size
  · go_enter Try.func6, Try.ntmps6
    go_wp2
    go_ret
    exact ⟨rfl, Below.refl _ _⟩
  · go_enter Try.func6, Try.ntmps6
    go_wp2_with (first
      | (go_at_call 21; refine (sum_any _ _ hs).mono ?_; rintro e w' ⟨rfl, rfl⟩)
      | (go_at_call 22; refine (rsum_any _ _ (by omega)).mono ?_; rintro e w' ⟨rfl, rfl⟩)
      | (go_at_call 23; refine (more_any _ _ _ hm hs).mono ?_; rintro e w' ⟨rfl, rfl⟩)
      | (go_at_call 24; refine (rmore_any _ _ _ hm (by omega)).mono ?_; rintro e w' ⟨rfl, rfl⟩))
    go_ret
    exact ⟨rfl, Below.refl _ _⟩
end Go.Proofs.Ytoaekpnppinolaa
