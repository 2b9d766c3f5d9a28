/- The law ChunkTurns returns true and changes nothing. -/
import Derived.Test.YtglemfdnfaemiaaDoorChunkWrite
import Derived.Test.YtglemfdnfaemiaaDoorRChunkRead
import Derived.Test.YtglemfdnfaemiaaDoorOpen
import Derived.Test.YtglemfdnfaemiaaDoorOpenR
import Derived.KernelRfl
namespace Go.Proofs.YtglemfdnfaemiaaDoor
set_option linter.unusedSimpArgs false
open Go.RowKit As
section
open Go.ChangeShapes Go.WideShapes Go.ChangeAt
variable {H : Type} {enc : TypeId × Value → H} {w : World} {base : Nat} {spare : Nat → Bool} {held : Bool}
set_option maxRecDepth 100000 in
theorem open_chunk_r {r : Reach} {b0 : Nat} {v : Value} {d : DataW H} {p : List MemPlace} (hv : Value.okWide Tryd.prog w r b0 74 v) (h : DataW.Trod enc Tryd.prog w base spare held 74 v d p) (hs : Small Tryd.prog 74 d) :
    ∃ x : Chk, v = ckV x.1 x.2.1 x.2.2.1 x.2.2.2 ∧ (0 ≤ x.1 ∧ x.1 < 4294967296 ∧ x.2.2.2.size ≤ 140737488351232) := by
  have cI : Tryd.prog.cellsOf 3 = 1 := by kernel_rfl
  have cU : Tryd.prog.cellsOf 72 = 1 := by kernel_rfl
  have cS : Tryd.prog.cellsOf 9 = 1 := by kernel_rfl
  have cC : Tryd.prog.cellsOf 74 = 4 := by kernel_rfl
  obtain ⟨cs, rfl, hsz⟩ := okWide_struct Tryd.underlying74 hv
  obtain ⟨fuel, hf⟩ := h
  obtain ⟨_, hg⟩ := fielded Tryd.underlying74 hf
  obtain ⟨_, hgr⟩ := fielded_r Tryd.underlying74 hf hs
  obtain ⟨m, g0, w0⟩ := field_int hg 0 0 72 rfl rfl rfl Tryd.underlying72 cU
  obtain ⟨t, g1, w1⟩ := field_int hg 1 1 3 rfl rfl rfl Tryd.underlying3 cI
  obtain ⟨a, g2, w2⟩ := field_int hg 2 2 3 rfl rfl rfl Tryd.underlying3 cI
  obtain ⟨s, g3, w3⟩ := field_string_r hgr 3 3 9 rfl rfl rfl Tryd.underlying9 cS
  have hc : cs.size = 4 := hsz.trans cC
  have hm : 0 ≤ m ∧ m < 4294967296 := by
    simp [Lit.wf] at w0
    have e1 : IntKind.u32.min = 0 := rfl
    have e2 : IntKind.u32.max = 4294967295 := rfl
    omega
  refine ⟨(m, t, a, s), ?_, hm.1, hm.2, w3⟩
  obtain ⟨l⟩ := cs
  match l, hc with
  | [x0, x1, x2, x3], _ =>
    simp [Value.cells] at g0 g1 g2 g3
    subst g0 g1 g2 g3
    rfl
end
set_option maxHeartbeats 2000000 in
set_option maxRecDepth 100000 in
theorem walkChunkTurns (x : Chk) (s : ByteArray) (w : World) (hx : 0 ≤ x.1 ∧ x.1 < 4294967296 ∧ x.2.2.2.size ≤ 140737488351232) (hs : s.size ≤ 140737488351232) (hg : Handle w) :
    Calls Tryd.prog 17 #[ckV x.1 x.2.1 x.2.2.1 x.2.2.2, .string s] w fun e w' => e = .returned (.bool true) ∧ Below w.heap.size w w' := by
  obtain ⟨m, t, a, d⟩ := x
  obtain ⟨hm0, hm1, hd⟩ := hx
  simp only at hm0 hm1 hd ⊢
  have hW := CkAt.new w m t a d
  have b0 := below1 w (ckO m t a d)
  have HW := hW
  obtain ⟨c0, c1, c2, c3⟩ := hW
  by_cases hbig : 1500 < d.size + s.size
  · have t0 : decide (1500 < (d.size : Int) + (s.size : Int)) = true := by simp only [decide_eq_true_eq]; omega
    go_enter Tryd.func17, Tryd.ntmps17
    go_wp2
    go_ret
    exact ⟨rfl, b0⟩
  · have t0 : decide (1500 < (d.size : Int) + (s.size : Int)) = false := by simp only [decide_eq_false_iff_not]; omega
    have hd' : d.size ≤ 1000000 := by omega
    have hs' : s.size ≤ 1000000 := by omega
    go_enter Tryd.func17, Tryd.ntmps17
    go_wp2_with fail
    refine (rchunk_any m t a d _ hm0 hm1 hd').mono ?_
    rintro r w1 ⟨rfl, hb1⟩
    have b1 := b0.trans (hb1.mono b0.size)
    have HW1 := HW.below hb1
    obtain ⟨k0, k1, k2, k3⟩ := HW1
    clear c0 c1 c2 c3
    go_wp2_with fail
    refine (cwrite_any m t a d _ hm0 hm1 hd').mono ?_
    rintro r w2 ⟨rfl, hb2⟩
    have b2 := b1.trans (hb2.mono b1.size)
    have HW2 := (HW.below hb1).below hb2
    clear k0 k1 k2 k3 hb1 hb2
    generalize hE : chkRight t a d.size = e at *
    generalize (chkOf (m, t, a, d)).1 = z
    go_wp2_with fail
    refine (rcread_any s _ hs').mono ?_
    rintro r w3 ⟨rfl, hb3⟩
    have b3 := b2.trans (hb3.mono b2.size)
    have HW3 := HW2.below hb3
    obtain ⟨u, hu⟩ : ∃ u, u = unchunk s := ⟨_, rfl⟩
    rw [← hu]
    have HU := Lib.hid hu
    clear hu
    obtain ⟨⟨um, ut, ua, ud⟩, f⟩ := u
    simp only [ckVal]
    go_wp2_with fail
    have hX := CkAt.new w3 um ut ua ud
    have bX := below1 w3 (ckO um ut ua ud)
    have b4 := b3.trans (bX.mono b3.size)
    have HW4 := HW3.below bX
    refine (cread_any s _ hs').mono ?_
    rintro r w5 ⟨rfl, hb5⟩
    rw [← HU.out]
    simp only [ckVal]
    go_wp2_with fail
    have bY := below1 w5 (ckO um ut ua ud)
    have hY := CkAt.new w5 um ut ua ud
    have b5 := b4.trans (hb5.mono b4.size)
    have b6 := b5.trans (bY.mono b5.size)
    have HX6 := (hX.below hb5).below bY
    have HW6 := (HW4.below hb5).below bY
    clear hX HW3 HW4 HW2 b0 b1 b2 b3 b4 hb3 hb5 bX bY
    refine (bare_any (errV_is _ e) (hg.below b6) e).mono ?_
    rintro r w7 ⟨rfl, hb7⟩
    rw [decide_eq_true ⟨rfl, rfl⟩]
    have b7 := b6.trans (hb7.mono b6.size)
    have HX7 := HX6.below hb7
    have HY7 := hY.below hb7
    obtain ⟨k0, k1, k2, k3⟩ := HW6.below hb7
    clear hY HX6 HW6 hb7
    go_wp2_with fail
    refine (ckright_any m t a d _).mono ?_
    rintro r w8 ⟨rfl, hb8⟩
    rw [hE]
    have b8 := b7.trans (hb8.mono b7.size)
    have HX8 := HX7.below hb8
    have HY8 := HY7.below hb8
    clear k0 k1 k2 k3
    go_wp2_with fail
    refine (bare_any (errV_is _ e) (hg.below b8) e).mono ?_
    rintro r w9 ⟨rfl, hb9⟩
    rw [decide_eq_true ⟨rfl, rfl⟩]
    have b9 := b8.trans (hb9.mono b8.size)
    have HX9 := HX8.below hb9
    have HY9 := HY8.below hb9
    go_wp2_with fail
    refine (bare_any (errV_is _ f) (hg.below b9) f).mono ?_
    rintro r w10 ⟨rfl, hb10⟩
    rw [decide_eq_true ⟨rfl, rfl⟩]
    have b10 := b9.trans (hb10.mono b9.size)
    obtain ⟨x0, x1, x2, x3⟩ := HX9.below hb10
    obtain ⟨y0, y1, y2, y3⟩ := HY9.below hb10
    clear HX7 HY7 HX8 HY8 HX9 HY9
    go_wp2
    go_ret
    exact ⟨rfl, b10⟩
end Go.Proofs.YtglemfdnfaemiaaDoor
