/- The law VectorRights returns true and changes nothing. -/
import Derived.Test.YtoaekpnppinolaaDoorRVecRight
import Derived.Test.YtoaekpnppinolaaDoorROf
namespace Go.Proofs.YtoaekpnppinolaaDoor
open Go.RowKit As
theorem walkVectorRights (a : EntArg) (r : Int) (w : World) (ha : Ents w w.heap.size a.A a.n a.l ∧ a.n ≤ maxLen) (_ : (Lit.int .i64 r).wf = true) (hg : Handle w) :
    Calls Tryd.prog 3 #[.slice a.A a.n a.c, .int .i64 r] w fun e w' => e = .returned (.bool true) ∧ Below w.heap.size w w' := by
  obtain ⟨A, n, c, l⟩ := a
  obtain ⟨hl, hn⟩ := ha
  simp only at hl hn ⊢
  have hN := Lib.hid hn
  unfold maxLen at hn
  by_cases hbig : 100 < n
  · have hd : decide (100 < n) = true := by simpa using hbig
    clear hl
    go_enter Tryd.func3, Tryd.ntmps3
    go_wp2
    go_ret
    exact ⟨rfl, Below.refl _ _⟩
  · have hd : decide (100 < n) = false := by simpa using hbig
    go_enter Tryd.func3, Tryd.ntmps3
    go_wp2_with fail
    refine (vright_any w n c A l hl hN).mono ?_
    rintro e w1 ⟨v, rfl, hv, hb1⟩
    have hl1 := hl.grow hb1
    have hg1 := hg.below hb1
    go_wp2_with fail
    refine (rvright_any w1 n c A l hl1 hN).mono ?_
    rintro e w2 ⟨rfl, hb2⟩
    have hl2 := hl1.grow hb2
    have hg2 := hg1.below hb2
    have hv2 := ErrIs.below hv hb2
    have hb12 := hb1.trans (hb2.mono hb1.size)
    unfold faultV
    generalize vright l = f at *
    go_wp2_with fail
    refine (placed_any hv2 hg2 f.1 f.2).mono ?_
    rintro e w3 ⟨rfl, hb3⟩
    have hl3 := hl2.grow hb3
    have hb13 := hb12.trans (hb3.mono hb12.size)
    rw [decide_eq_true ⟨rfl, rfl⟩]
    go_wp2_with fail
    refine (of_any w3 n c A l r hl3 hN).mono ?_
    rintro e w4 ⟨rfl, hb4⟩
    have hl4 := hl3.grow hb4
    have hb14 := hb13.trans (hb4.mono hb13.size)
    go_wp2_with fail
    refine (rof_any w4 n c A l r hl4 hN).mono ?_
    rintro e w5 ⟨rfl, rfl⟩
    generalize vof l r = z
    go_wp2
    go_ret
    exact ⟨rfl, hb14⟩
end Go.Proofs.YtoaekpnppinolaaDoor
