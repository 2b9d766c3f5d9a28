/- The law MatchFinds returns true and changes nothing. No condition. -/
import Derived.Test.YtoaekpnppinolaaMatchRef
import Derived.OpenShut
namespace Go.Proofs.Ytoaekpnppinolaa
open Go.RowKit Match
theorem below_drewN {B : Nat} {a w : World} (h : Below B a w) (n : Nat) : Below B a (w.drewN n) := ⟨h.os, h.tape, h.output, h.size, h.block⟩
theorem walkMatchFinds (s : ByteArray) (p : Int) (w : World) (hs : s.size ≤ maxLen) (hp : (Lit.int .i64 p).wf = true) :
    Calls Try.prog 7 #[.string s, .int .i64 p] w fun e w' => e = .returned (.bool true) ∧ Below w.heap.size w w' := by
  obtain ⟨b0, b1⟩ := bounds_i64 hp
  unfold maxLen at hs
  clear hp
  by_cases hbig : 3000 < s.size
  · go_enter Try.func7, Try.ntmps7
    go_wp2
    go_ret
    exact ⟨rfl, Below.refl _ _⟩
  · by_cases h : p < 0 ∨ (s.size : Int) ≤ p
    · go_enter Try.func7, Try.ntmps7
      go_wp2_with fail
      refine (rfind_out _ _ _ (by omega) h).mono ?_
      rintro e w' ⟨rfl, q, rfl⟩
      go_wp2_with fail
      refine (find_out _ _ _ h).mono ?_
      rintro e w' ⟨rfl, q', rfl⟩
      go_wp2
      go_ret
      exact ⟨rfl, below_drewN (Below.refl _ _) _⟩
    · obtain ⟨i, rfl⟩ := Int.eq_ofNat_of_zero_le (a := p) (by omega)
      have hi : i < s.size := by omega
      clear h
      go_enter Try.func7, Try.ntmps7
      go_wp2_with fail
      refine (rfind_in _ _ _ (by omega) hi).mono ?_
      rintro e w' ⟨rfl, q, rfl⟩
      go_wp2_with fail
      refine (find_in _ _ _ (by omega) hi).mono ?_
      rintro e w' ⟨rfl, q', rfl⟩
      go_wp2
      go_ret
      exact ⟨rfl, below_drewN (Below.refl _ _) _⟩
end Go.Proofs.Ytoaekpnppinolaa
