/- The law MatchTexts returns true and changes nothing. -/
import Derived.Test.YtglemfdnfaemiaaDoorRTextWalks
import Derived.Test.YtglemfdnfaemiaaDoorOpenT
import Derived.Test.YtglemfdnfaemiaaDoorQuiet
import Derived.Test.YtglemfdnfaemiaaDoorPair
import Derived.Deep.RegionHeld3
import Derived.Deep.RegionWith
namespace Go.Proofs.YtglemfdnfaemiaaDoor
open Go.RowKit As
set_option maxHeartbeats 2000000 in
set_option maxRecDepth 100000 in
theorem walkMatchTexts (a : TokArg) (w : World) (ha : Toks w w.heap.size a.A a.n a.l ∧ a.n * 32 ≤ 140737488351232) (hg : Handle w) :
    Calls Tryd.prog 7 #[.slice a.A a.n a.c] w fun e w' => e = .returned (.bool true) ∧ Below w.heap.size w w' := by
  obtain ⟨A, n, c, l⟩ := a
  obtain ⟨hl, hn⟩ := ha
  simp only at hl hn ⊢
  have hN : n ≤ maxLen := by unfold maxLen; omega
  go_enter Tryd.func7, Tryd.ntmps7
  go_wp2_with fail
  refine (heavy_any w n c A l hl hN).mono ?_
  rintro e w1 ⟨⟨bb, rfl⟩, hb1⟩
  cases bb with
  | true =>
    go_wp2
    go_ret
    exact ⟨rfl, hb1⟩
  | false =>
    have hl1 := hl.grow hb1
    have hg1 := hg.below hb1
    go_wp2_with fail
    refine (rtext_any w1 n c A l hl1 hN).mono ?_
    rintro e w2 ⟨rfl, hb2⟩
    have hb12 := hb1.trans (hb2.mono hb1.size)
    have hbX := below1 w2 (.cells #[.int .i64 (textOf l).2.1, .int .i64 (textOf l).2.2] 29)
    have hl2 := (hl1.grow hb2).grow hbX
    have hg2 := (hg1.below hb2).below hbX
    have hT := Two.new w2 (textOf l).2.1 (textOf l).2.2 29
    have hb13 := hb12.trans (hbX.mono hb12.size)
    unfold faultV
    go_wp2_with fail
    refine (text_any _ n c A l hl2 hN).mono ?_
    rintro e w3 ⟨v, rfl, hv, hb3⟩
    have hl3 := hl2.grow hb3
    have hg3 := hg2.below hb3
    have hT3 := hT.below hb3
    have hb14 := hb13.trans (hb3.mono hb13.size)
    have hsame := Lib.hid (show (textOf l).2 = tright l by unfold textOf; split; exact rfl; rename_i h; exact (tright_place (by omega)).symm)
    unfold ErrOf at hv
    generalize textOf l = f at *
    obtain ⟨t, e1, p1⟩ := f
    simp only at *
    obtain ⟨c0, c1, f0, f1⟩ := hT3
    go_wp2_with fail
    have hD : Below w3.heap.size w3 w3.drew := (Below.refl _ _).drew
    have hvD := hv.below hD
    have hgD := hg3.below hD
    have hlD := hl3.grow hD
    have k0 := two_cells hD ⟨c0, c1⟩
    clear hl hl1 hl2 hl3 hv hT
    go_region_held3 (fun wx => wx.cell? ⟨w2.heap.size, 0, none⟩ = some (.int .i64 e1) ∧ wx.cell? ⟨w2.heap.size, 1, none⟩ = some (.int .i64 p1))
      (first | go_keep | exact k4 | exact k5 | exact k6)
      (first
        | (go_at_call_of 23 v; refine (placed_any hvD hgD e1 p1).mono ?_; rintro r w4 ⟨rfl, hb4⟩; rw [decide_eq_true ⟨rfl, rfl⟩]; have k4 := two_cells hb4 k0; have hb24 := hD.trans (hb4.mono hD.size))
        | (go_at_call 41; refine (tright_any _ n c A l (hlD.grow hb4) hN).mono ?_; rintro r w5 ⟨v5, rfl, hv5, hb5⟩; rw [← hsame.out] at hv5; have k5 := two_cells hb5 k4; have hb25 := hb24.trans (hb5.mono hb24.size); have hg5 := hg3.below hb25)
        | (go_at_call_of 23 v5; refine (placed_any hv5 hg5 e1 p1).mono ?_; rintro r w6 ⟨rfl, hb6⟩; rw [decide_eq_true ⟨rfl, rfl⟩]; have k6 := two_cells hb6 k5; have hb26 := hb25.trans (hb6.mono hb25.size)))
    go_wp2
    go_ret
    exact ⟨rfl, hb14.trans (hb26.mono hb14.size)⟩
end Go.Proofs.YtglemfdnfaemiaaDoor
