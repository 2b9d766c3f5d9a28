/- The law VaryTurns returns true and changes nothing. -/
import Derived.Test.YtglemfdnfaemiaaDoorVaryWalks
import Derived.Test.YtglemfdnfaemiaaDoorRVary
import Derived.Test.YtglemfdnfaemiaaDoorOpen
namespace Go.Proofs.YtglemfdnfaemiaaDoor
open Go.RowKit As
theorem wf_u64 {n : Int} (h : (Lit.int .u64 n).wf = true) : ∃ k : Nat, n = (k : Int) ∧ k < 18446744073709551616 := by
  have := bounds_u64 h
  exact ⟨n.toNat, by omega, by omega⟩
theorem beqS (s : ByteArray) : (s == s) = true := by simp
set_option maxRecDepth 100000 in
theorem walkVaryTurns (z : Int) (s : ByteArray) (w : World) (hz : (Lit.int .u64 z).wf = true) (hs : s.size ≤ maxLen) (hg : Handle w) :
    Calls Tryd.prog 8 #[.int .u64 z, .string s] w fun e w' => e = .returned (.bool true) ∧ Below w.heap.size w w' := by
  obtain ⟨n, rfl, hn⟩ := wf_u64 hz
  have hS := Lib.hid hs
  clear hz
  unfold maxLen at hs
  by_cases hbig : 100 < s.size
  · have hd : decide (100 < s.size) = true := by simpa using hbig
    go_enter Tryd.func8, Tryd.ntmps8
    go_wp2
    go_ret
    exact ⟨rfl, Below.refl _ _⟩
  · have hd : decide (100 < s.size) = false := by simpa using hbig
    go_enter Tryd.func8, Tryd.ntmps8
    go_wp2_with fail
    refine (runvary_any s w hS).mono ?_
    rintro e w1 ⟨rfl, rfl⟩
    go_wp2_with fail
    refine (vget_any s w hS).mono ?_
    rintro e w1 ⟨rfl, rfl⟩
    generalize vget s.data.toList = g
    obtain ⟨a, k, e⟩ := g
    go_wp2_with fail
    refine (vput_any n w hn).mono ?_
    rintro r w1 ⟨rfl, hb1⟩
    go_wp2_with fail
    refine (rvary_any n w1 hn).mono ?_
    rintro r w2 ⟨rfl, hb2⟩
    have hb12 := hb1.trans (hb2.mono hb1.size)
    have hg2 := hg.below hb12
    generalize (⟨(vput n).toArray⟩ : ByteArray) = t
    go_wp2_with fail
    refine (bare_any (errV_is w2 e) hg2 e).mono ?_
    rintro r w3 ⟨rfl, hb3⟩
    have hb13 := hb12.trans (hb3.mono hb12.size)
    rw [decide_eq_true ⟨rfl, rfl⟩]
    go_wp2
    go_ret
    exact ⟨rfl, hb13⟩
end Go.Proofs.YtglemfdnfaemiaaDoor
