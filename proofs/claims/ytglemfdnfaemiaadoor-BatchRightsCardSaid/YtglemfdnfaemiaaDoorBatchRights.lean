/- The law BatchRights returns true and changes nothing. -/
import Derived.Test.YtglemfdnfaemiaaDoorRBatchRight
import Derived.Test.YtglemfdnfaemiaaDoorOpenB
import Derived.Test.YtglemfdnfaemiaaDoorBig
import Derived.Test.YtglemfdnfaemiaaDoorQuiet
import Derived.Deep.RegionHeld3
import Derived.Deep.RegionWith
namespace Go.Proofs.YtglemfdnfaemiaaDoor
open Go.RowKit As
theorem three_cells {w w' : World} {s : Nat} {u v x : Value} (hb : Below w.heap.size w w') (h : w.cell? ⟨s, 0, none⟩ = some u ∧ w.cell? ⟨s, 1, none⟩ = some v ∧ w.cell? ⟨s, 2, none⟩ = some x) :
    w'.cell? ⟨s, 0, none⟩ = some u ∧ w'.cell? ⟨s, 1, none⟩ = some v ∧ w'.cell? ⟨s, 2, none⟩ = some x :=
  ⟨(hb.cell (cell_lt h.1)).trans h.1, (hb.cell (cell_lt h.2.1)).trans h.2.1, (hb.cell (cell_lt h.2.2)).trans h.2.2⟩
set_option maxHeartbeats 2000000 in
set_option maxRecDepth 100000 in
theorem walkBatchRights (a : BatArg) (w : World) (ha : Bat w a ∧ BatFits a) (hg : Handle w) :
    Calls Tryd.prog 21 #[a.v] w fun e w' => e = .returned (.bool true) ∧ Below w.heap.size w w' := by
  obtain ⟨A, n, c, A', n', c', A'', n'', c'', f, h, l⟩ := a
  obtain ⟨hb, hfit⟩ := ha
  have hx0 := BxAt.new w ⟨A, n, c, A', n', c', A'', n'', c'', f, h, l⟩
  have b0 := below1 w (.cells #[.slice A n c, .slice A' n' c', .slice A'' n'' c''] 128)
  obtain ⟨c0, c1, c2⟩ := hx0
  have hbG := fun (w' : World) (hb' : Below w.heap.size w w') => hb.grow hb'
  have nl := hb.nl
  simp only at c0 c1 c2 nl
  have hf := hfit.f
  have hh := hfit.h
  simp only at hf hh
  clear hb hfit
  unfold BatArg.v
  simp only
  generalize hbb : bigB n n' n'' l = bb
  have Hbb := Lib.hid hbb
  clear hbb
  generalize hW : w.alloc (.cells #[.slice A n c, .slice A' n' c', .slice A'' n'' c''] 128) = W at *
  have hD : Below W.heap.size W W.drew := (Below.refl _ _).drew
  have k0 := three_cells hD ⟨c0, c1, c2⟩
  have bD := b0.trans (hD.mono b0.size)
  subst hW
  go_enter Tryd.func21, Tryd.ntmps21
  go_wp2_with fail
  cases bb with
  | true =>
    have q0 := Inv.cell c0
    have q1 := Inv.cell c1
    have q2 := Inv.cell c2
    have GA := fun (x : Inv (w.alloc (.cells #[.slice A n c, .slice A' n' c', .slice A'' n'' c''] 128))) => hbG _ (b0.trans (x.below.mono b0.size))
    refine wp_region_inv (by kernel_rfl) (by kernel_rfl) ?_
    repeat (go_big_quiet_step ((first
      | (go_at_call 83; exact Calls.inv_of (big_is A A' A'' n n' n'' c c' c'' l _ (GA _).l nl Hbb.out)))))
    refine wpQuiet_nil ?_
    intro _ hw'
    obtain ⟨x, rfl⟩ := hw'
    go_wp2
    go_ret
    exact ⟨rfl, b0.trans (x.below.mono b0.size)⟩
  | false =>
    go_region_held3 (fun wx => wx.cell? ⟨w.heap.size, 0, none⟩ = some (.slice A n c) ∧ wx.cell? ⟨w.heap.size, 1, none⟩ = some (.slice A' n' c') ∧ wx.cell? ⟨w.heap.size, 2, none⟩ = some (.slice A'' n'' c''))
      (first | go_keep | exact k1 | exact k2 | exact k3 | exact k4)
      (first
        | (go_at_call 83; refine (big_is A A' A'' n n' n'' c c' c'' l _ (hbG _ bD).l nl Hbb.out).mono ?_; rintro r w1 ⟨rfl, hb1⟩; have k1 := three_cells hb1 k0; have hb01 := bD.trans (hb1.mono bD.size))
        | (go_at_call 84; refine (bright_any _ ⟨A, n, c, A', n', c', A'', n'', c'', f, h, l⟩ (hbG _ hb01) hf hh (hg.below hb01)).mono ?_; rintro r w2 ⟨v, rfl, hv, hb2⟩; have k2 := three_cells hb2 k1; have hb02 := hb01.trans (hb2.mono hb01.size))
        | (go_at_call 85; refine (rbright_any _ ⟨A, n, c, A', n', c', A'', n'', c'', f, h, l⟩ (hbG _ hb02) hf hh).mono ?_; rintro r w3 ⟨rfl, hb3⟩; have k3 := three_cells hb3 k2; have hb03 := hb02.trans (hb3.mono hb02.size); have hv3 := hv.below hb3)
        | (go_at_call 23; refine (placed_any hv3 (hg.below hb03) (bright f h l).1 (bright f h l).2).mono ?_; rintro r w4 ⟨rfl, hb4⟩; rw [decide_eq_true ⟨rfl, rfl⟩]; have k4 := three_cells hb4 k3; have hb04 := hb03.trans (hb4.mono hb03.size)))
    go_wp2
    go_ret
    exact ⟨rfl, hb04⟩
end Go.Proofs.YtglemfdnfaemiaaDoor
