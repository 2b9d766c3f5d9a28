/- The reference's Accept: what it leaves and answers. Printed by gen_rloga.py out of rloga.src. -/
import Derived.Test.YtlpkpfpmcppciaaGreatDoorZ6
import Derived.Test.YtlpkpfpmcppciaaGreatDoorZ10
import Derived.Test.YtlpkpfpmcppciaaGreatDoorZ14
import Derived.Test.YtlpkpfpmcppciaaGreatDoorZ5
import Derived.Test.YtlpkpfpmcppciaaGreatDoorZ16b
section
namespace Go.Proofs.YtlpkpfpmcppciaaGreatDoor
set_option linter.unusedSimpArgs false
set_option linter.unusedVariables false
open Go.RowKit As
/-- What the reference's Accept answers. -/
structure RAccP (w : World) (B : Nat) (c : LgC) (rep : Int) (R : Lg × Nat × Int × Int) (e : Ending) (w' : World) : Prop where
 ex : ∃ c' : LgC, c'.p = c.p ∧ e = .returned (.tuple #[.int .i64 (R.2.1 : Int), .agg #[.int .i64 R.2.2.1, .int .i64 R.2.2.2]]) ∧ LogAt w' B c' rep R.1.1 R.1.2 ∧ Moves c.foot c'.foot w w'
theorem knows_take {L : List Wr} {j : Nat} {x y : Wr} (h : L[j]? = some y) : knows (L.take (j + 1)) x = (knows (L.take j) x || decide (wid y = wid x)) := by
 obtain ⟨h1, h2⟩ := List.getElem?_eq_some_iff.1 h
 unfold knows
 rw [List.take_succ_eq_append_getElem h1, h2, List.any_append]
 simp
theorem clash_take {L : List Wr} {j : Nat} {x y : Wr} (h : L[j]? = some y) : clash (L.take (j + 1)) x = (clash (L.take j) x || (decide (wid y = wid x) && !decide (y = x))) := by
 obtain ⟨h1, h2⟩ := List.getElem?_eq_some_iff.1 h
 unfold clash
 rw [List.take_succ_eq_append_getElem h1, h2, List.any_append]
 simp
theorem clash_in {L : List Wr} {j : Nat} {x y : Wr} (h : L[j]? = some y) (hw : wid y = wid x) (hn : y ≠ x) : clash L x = true := clash_iff.2 ⟨y, List.mem_of_getElem? h, hw, hn⟩
theorem w_sum {a b : Nat} (ha : a ≤ 4000000) (hb : b ≤ 4000000) : IntKind.i64.wrap ((a : Int) + (b : Int)) = (a : Int) + (b : Int) ∧ wrap64 ((a : Int) + (b : Int)) = (a : Int) + (b : Int) := ⟨IntWalk.i64_in _ (by omega), IntWalk.wrap64_in _ (by omega)⟩
theorem eqId_no {a1 a2 b1 b2 : Int} (h : ¬ (a1, a2) = (b1, b2)) (w : World) : (Op.equalIn 10000 30 (.agg #[.int .i64 a1, .int .i64 a2]) (.agg #[.int .i64 b1, .int .i64 b2])).run Tryz.prog w = .ok false w :=
 (eqId 9998 a1 a2 b1 b2 w).trans (by rw [decide_eq_false h])
def ra3V (gf gt : Nat) (be1 be2 : Int) (g : Unit) : Nat → Value
 | 0 => .agg #[.int .i64 be1, .int .i64 be2]
 | 1 => .int .i64 0
 | _ => undef
def ra4V (p gb ch n c_ : Nat) (AH A : Option Addr) (V f : List Ent) (g : Unit) : Nat → Value
 | 0 => .pointer (some ⟨p, 0, none⟩)
 | 1 => .pointer (some ⟨p, 0, none⟩)
 | 2 => .pointer (some ⟨p, 1, none⟩)
 | 3 => .slice AH V.length ch
 | 4 => .pointer (some ⟨gb, 0, none⟩)
 | 5 => .slice A n c_
 | 6 => .bool (vcovers V f)
 | 7 => .bool (!vcovers V f)
 | _ => undef
def ra6V (p gb ch n' c' : Nat) (AH A' : Option Addr) (V hh : List Ent) (gz : Value) : Nat → Value
 | 0 => .pointer (some ⟨p, 0, none⟩)
 | 1 => .pointer (some ⟨p, 0, none⟩)
 | 2 => .pointer (some ⟨p, 1, none⟩)
 | 3 => .slice AH V.length ch
 | 4 => .pointer (some ⟨gb, 1, none⟩)
 | 5 => .slice A' n' c'
 | 6 => .tuple #[gz, .int .i64 (vjoin V hh).2]
 | 7 => .tuple #[gz, .int .i64 (vjoin V hh).2]
 | 8 => gz
 | 9 => .int .i64 (vjoin V hh).2
 | 10 => gz
 | 11 => .int .i64 (vjoin V hh).2
 | _ => undef
set_option maxHeartbeats 8000000 in
set_option maxRecDepth 100000 in
theorem raccept_any {w : World} {B : Nat} {c : LgC} {rep : Int} {V : List Ent} {L_ : List Wr} (h : LogAt w B c rep V L_) (hF : LFit V L_) (x : BatArg) (hb : Bat w x) (hf : ∀ y ∈ x.f, entFits y) (hh_ : ∀ y ∈ x.h, entFits y) :
  Calls Tryz.prog 18 #[.pointer (some ⟨c.p, 0, none⟩), x.v] w (RAccP w B c rep (lacc V L_ x.f x.h x.l)) := by
 obtain ⟨p, hv, lv⟩ := c
 obtain ⟨AH, ch, e1, hch⟩ := own_form' h.h
 obtain ⟨AL, cl, e2, hcl⟩ := own_form' h.l
 simp only at e1 e2
 subst e1 e2
 have hbx := (BxAt.new w x).below (below1 _ (.cells #[.int .i64 0, .int .i64 0] 44))
 have b0 := below2 w (.cells #[.slice x.A x.n x.c, .slice x.A' x.n' x.c', .slice x.A'' x.n'' x.c''] 26) (.cells #[.int .i64 0, .int .i64 0] 44)
 have hGF : RC ((w.alloc (.cells #[.slice x.A x.n x.c, .slice x.A' x.n' x.c', .slice x.A'' x.n'' x.c''] 26)).alloc (.cells #[.int .i64 0, .int .i64 0] 44)) (w.alloc (.cells #[.slice x.A x.n x.c, .slice x.A' x.n' x.c', .slice x.A'' x.n'' x.c''] 26)).heap.size [.int .i64 0, .int .i64 0] := RC.new _ [.int .i64 0, .int .i64 0] 44
 rw [show (w.alloc (.cells #[.slice x.A x.n x.c, .slice x.A' x.n' x.c', .slice x.A'' x.n'' x.c''] 26)).heap.size = w.heap.size + 1 by simp] at hGF
 have h0 := h.below b0
 have hbr := rbright_any _ x (hb.grow b0) hf hh_
 obtain ⟨R, hR⟩ : ∃ R, lacc V L_ x.f x.h x.l = R := ⟨_, rfl⟩
 obtain ⟨A, n, c_, A', n', c', A'', n'', c'', f, hh, l⟩ := x
 obtain ⟨sf, sh, sl, nf, nh, nl⟩ := hb
 simp only at hbx b0 h0 hbr hR hf hh_ sf sh sl nf nh nl hGF ⊢
 have HR := Lib.hid hR
 rw [hR]
 clear hR
 have HW := Lib.hid (And.intro h.within (And.intro h.hl (And.intro h.nh h.nl)))
 have HM := Lib.hid (own_cap' h.h)
 have HYR := Lib.hid hF.vr
 have HFI := Lib.hid hF
 have HNF := Lib.hid nf
 have HNH := Lib.hid nh
 have HEF0 : Hid (Ents w w.heap.size A n f) := Lib.hid ⟨sf, hf⟩
 have HEH0 : Hid (Ents w w.heap.size A' n' hh) := Lib.hid ⟨sh, hh_⟩
 have HSL0 := Lib.hid sl
 have HLL : Hid (l.length = n'') := Lib.hid (slk_len wrCells 6 (by omega) (fun _ => rfl) sl)
 unfold BatArg.v faultV at hbr
 unfold BatArg.v
 simp only at hbr ⊢
 clear h hF hf hh_ sf sh sl nf nh nl hch hcl
 go_enter Tryz.func18, Tryz.ntmps18
 go_upto_region 1 with fail
 obtain ⟨gf, hgf⟩ : ∃ g, g = w.heap.size + 1 := ⟨_, rfl⟩
 obtain ⟨gb, hgb⟩ : ∃ g, g = w.heap.size := ⟨_, rfl⟩
 rw [← hgf] at hGF
 rw [← hgb] at hbx
 have HGE : Hid (w.heap.size ≤ gb ∧ w.heap.size ≤ gf) := Lib.hid (by omega)
 have HGB : Hid (gb ≠ gf) := Lib.hid (by omega)
 rw [← hgf, ← hgb]
 clear hgb hgf
 generalize (w.alloc (.cells #[.slice A n c_, .slice A' n' c', .slice A'' n'' c''] 26)).alloc (.cells #[.int .i64 0, .int .i64 0] 44) = W at *
 have c0 := hbx.c0
 have c1 := hbx.c1
 have c2 := hbx.c2
 simp only at c0 c1 c2
 have HBX := Lib.hid hbx
 have HH0 := Lib.hid h0
 have HB0 := Lib.hid b0
 have HGF := Lib.hid hGF
 obtain ⟨be, hbe⟩ : ∃ be, bright f hh l = be := ⟨_, rfl⟩
 rw [hbe] at hbr
 have HBE := Lib.hid hbe
 clear hbx h0 b0 hbe hGF
 obtain ⟨be1, be2⟩ := be
 simp only at hbr
 go_wp2_with fail
 refine hbr.mono ?_
 rintro e wa ⟨rfl, hba⟩
 go_wp2_with fail
 have hGT := RC.new wa [.int .i64 be1, .int .i64 be2] 44
 have hbt := below1 wa (.cells #[.int .i64 be1, .int .i64 be2] 44)
 have HGN : Hid (wa.heap.size ≠ gf) := Lib.hid (fun e => by have h1 : gf < W.heap.size := cell_lt (HGF.out 0 _ rfl).1; have := hba.size; omega)
 refine (is_any (be1, be2) _).mono ?_
 rintro e w1 ⟨rfl, hb1⟩
 obtain ⟨gt, hgt⟩ : ∃ g, g = wa.heap.size := ⟨_, rfl⟩
 have hGT1 := RC.below (vs := [.int .i64 be1, .int .i64 be2]) hGT hb1
 have hba1 := (hba.trans (hbt.mono hba.size)).trans (hb1.mono (Nat.le_trans hba.size hbt.size))
 have h1 := HH0.out.below hba1
 have hbx1 := HBX.out.below hba1
 have hGF1 := HGF.out.below hba1
 have HB1 := Lib.hid (HB0.out.trans (hba1.mono HB0.out.size))
 rw [← hgt] at hGT1 HGN ⊢
 clear hbr hba hGT hbt hb1 hba1 HBX HH0 HB0 HGF hgt c0 c1 c2
 simp only
 by_cases hz : be1 = 0
 ·have e1 : (be1 == 0) = true := by simpa using hz
  rw [e1]
  clear e1
  have HZ := Lib.hid hz
  have HEF : Hid (Ents w1 w1.heap.size A n f) := Lib.hid (HEF0.out.grow HB1.out)
  have HO1 := Lib.hid h1.h
  have k1 := (h1.rc 1 _ rfl).1
  have c0 := hbx1.c0
  simp only at k1 c0
  have HH1 := Lib.hid h1
  have HBX1 := Lib.hid hbx1
  have HGF1 := Lib.hid hGF1
  clear h1 hbx1 hz hGT1 hGF1
  go_upto_region 4 with fail
  refine Flow.wp_region_go (by kernel_rfl) (by kernel_rfl) (by kernel_rfl) 116 rfl (by kernel_rfl) (ra4V p gb ch n c_ AH A V f) (fun _ _ wz => Below w1.heap.size w1 wz) (fun _ _ => False) (()) ((Below.refl _ _).drew) ⟨?_, ?_, ?_, ?_, ?_, ?_, ?_, ?_, trivial⟩ ?_ ?_
  ·intro gz L wz K ρ hc0 hf0 hF hO hU hcl hi hd hC hK
   have e0 : ρ (.tmp 0) = .pointer (some ⟨p, 0, none⟩) := hO 0 (by kernel_rfl)
   simp [go_sem, Flow.ylP_value, Flow.ylP_skip, Flow.ylP_enter, Flow.ylP_panic, hc0, hf0, e0]
   exact hK gz wz hC (fun _ _ => rfl)
  ·intro gz L wz K ρ hc0 hf0 hF hO hU hcl hi hd hC hK
   have d0 : L 0 = true := hd ⟨0, .data⟩ (by simp) rfl
   have e21 : ρ (.tmp 21) = .pointer (some ⟨p, 0, none⟩) := hF 21 0 (by kernel_rfl) d0
   simp [go_sem, Flow.ylP_value, Flow.ylP_skip, Flow.ylP_enter, Flow.ylP_panic, hc0, hf0, e21]
   exact hK gz wz hC (fun _ _ => rfl)
  ·intro gz L wz K ρ hc0 hf0 hF hO hU hcl hi hd hC hK
   have d1 : L 1 = true := hd ⟨1, .data⟩ (by simp) rfl
   have e22 : ρ (.tmp 22) = .pointer (some ⟨p, 0, none⟩) := hF 22 1 (by kernel_rfl) d1
   simp [go_sem, Flow.ylP_value, Flow.ylP_skip, Flow.ylP_enter, Flow.ylP_panic, hc0, hf0, e22]
   exact hK gz wz hC (fun _ _ => rfl)
  ·intro gz L wz K ρ hc0 hf0 hF hO hU hcl hi hd hC hK
   have d2 : L 2 = true := hd ⟨2, .data⟩ (by simp) rfl
   have e23 : ρ (.tmp 23) = .pointer (some ⟨p, 1, none⟩) := hF 23 2 (by kernel_rfl) d2
   have cc := (hC.cell (p := ⟨p, 1, none⟩) (cell_lt k1)).trans k1
   simp [go_sem, Flow.ylP_value, Flow.ylP_skip, Flow.ylP_enter, Flow.ylP_panic, hc0, hf0, e23, cc]
   exact hK gz wz hC (fun _ _ => rfl)
  ·intro gz L wz K ρ hc0 hf0 hF hO hU hcl hi hd hC hK
   have e3 : ρ (.tmp 3) = .pointer (some ⟨gb, 0, none⟩) := hO 3 (by kernel_rfl)
   simp [go_sem, Flow.ylP_value, Flow.ylP_skip, Flow.ylP_enter, Flow.ylP_panic, hc0, hf0, e3]
   exact hK gz wz hC (fun _ _ => rfl)
  ·intro gz L wz K ρ hc0 hf0 hF hO hU hcl hi hd hC hK
   have d4 : L 4 = true := hd ⟨4, .data⟩ (by simp) rfl
   have e25 : ρ (.tmp 25) = .pointer (some ⟨gb, 0, none⟩) := hF 25 4 (by kernel_rfl) d4
   have cc := (hC.cell (p := ⟨gb, 0, none⟩) (cell_lt c0)).trans c0
   simp [go_sem, Flow.ylP_value, Flow.ylP_skip, Flow.ylP_enter, Flow.ylP_panic, hc0, hf0, e25, cc]
   exact hK gz wz hC (fun _ _ => rfl)
  ·intro gz L wz K ρ hc0 hf0 hF hO hU hcl hi hd hC hK
   have d3 : L 3 = true := hd ⟨3, .data⟩ (by simp) rfl
   have e24 : ρ (.tmp 24) = .slice AH V.length ch := hF 24 3 (by kernel_rfl) d3
   have d5 : L 5 = true := hd ⟨5, .data⟩ (by simp) rfl
   have e26 : ρ (.tmp 26) = .slice A n c_ := hF 26 5 (by kernel_rfl) d5
   simp [go_sem, Flow.ylP_value, Flow.ylP_skip, Flow.ylP_enter, Flow.ylP_panic, hc0, hf0, e24, e26]
   refine (rcovers_any wz V.length ch n c_ AH A V f (ents_own ((Turned.of_below (S := fun _ => False) hC).own HO1.out (fun _ _ q => q)) HYR.out) (HEF.out.grow hC) HM.out HNF.out).mono ?_
   rintro r wn ⟨rfl, hbn⟩
   exact ⟨_, rfl, hK gz wn (hC.trans (hbn.mono hC.size)) (by intro j hj; unfold ra4V; split <;> first | rfl | (rw [hi] at hj; cases hj) | (have hz := hcl _ 6 (by kernel_rfl) hj; rw [hi] at hz; cases hz))⟩
  ·intro gz L wz K ρ hc0 hf0 hF hO hU hcl hi hd hC hK
   have d6 : L 6 = true := hd ⟨6, .data⟩ (by simp) rfl
   have e27 : ρ (.tmp 27) = .bool (vcovers V f) := hF 27 6 (by kernel_rfl) d6
   simp [go_sem, Flow.ylP_value, Flow.ylP_skip, Flow.ylP_enter, Flow.ylP_panic, hc0, hf0, e27]
   exact hK gz wz hC (fun _ _ => rfl)
  ·intro gz L ch wz h; exact h.elim
  ·intro gz L wz hL hC
   have HC2 := Lib.hid hC
   clear hC
   simp only [Flow.putAll, ra4V]
   simp [Act.put]
   have h2 := HH1.out.below HC2.out
   have hbx2 := HBX1.out.below HC2.out
   have hGF2 := HGF1.out.below HC2.out
   have HB2 := Lib.hid (HB1.out.trans (HC2.out.mono HB1.out.size))
   clear k1 c0 HC2 HH1 HBX1 HO1 HEF HB1 HGF1
   obtain ⟨w2, hw2⟩ : ∃ w2, w2 = wz := ⟨_, rfl⟩
   rw [← hw2] at h2 hbx2 HB2 hGF2 ⊢
   clear hw2 hL
   cases hcv : vcovers V f with
   | false =>
    have HRe : Hid (R = ((V, L_), 0, 10, -1)) := Lib.hid (by rw [← HR.out]; unfold lacc; rw [HBE.out, if_neg (fun q => q HZ.out), if_pos hcv])
    have HH2 := Lib.hid h2
    have HGF2 := Lib.hid hGF2
    clear h2 hbx2 hGF2
    go_wp2_with (first | (go_at_call 51; refine (bareF_any 10 _).mono ?_; rintro e w3 ⟨rfl, hbb⟩; have hGFb := HGF2.out.below hbb; have HFb := Lib.hid (And.intro (HH2.out.below hbb) hGFb); have HBb := Lib.hid (HB2.out.trans (hbb.mono HB2.out.size)); have z0 := (hGFb 0 _ rfl).1; have z1 := (hGFb 1 _ rfl).1; have f0 := (hGFb 0 _ rfl).2; have f1 := (hGFb 1 _ rfl).2; clear hGFb hbb))
    have hz := HFb.out.2.two (.int .i64 10) (.int .i64 (-1))
    have q0 := (hz 0 _ rfl).1
    have q1 := (hz 1 _ rfl).1
    have hla := HFb.out.1.two (g := gf) (fun i hi => by have := (HW.out.1 i hi).2; have := HGE.out.2; omega) (.int .i64 10) (.int .i64 (-1))
    have hbf := below_set2 (.int .i64 10) (.int .i64 (-1)) HBb.out HGE.out.2
    refine bodyPost_ret (v := .tuple #[.int .i64 0, .agg #[.int .i64 10, .int .i64 (-1)]]) (by simp [results, Tryz.results18, go_sem, q0, q1]) rfl ⟨⟨p, .slice AH V.length ch, .slice AL L_.length cl⟩, rfl, by rw [HRe.out]; rfl, by rw [HRe.out]; exact hla, .of_below hbf⟩
   | true =>
    have HCV := Lib.hid hcv
    have HEH : Hid (Ents w2 w2.heap.size A' n' hh) := Lib.hid (HEH0.out.grow HB2.out)
    have HO2 := Lib.hid h2.h
    have k1 := (h2.rc 1 _ rfl).1
    have c1 := hbx2.c1
    simp only at k1 c1
    have HH2 := Lib.hid h2
    have HBX2 := Lib.hid hbx2
    have HGF2 := Lib.hid hGF2
    have HGF2x := HGF2
    clear h2 hbx2 hcv hGF2
    go_upto_region 6 with fail
    refine Flow.wp_region_go (by kernel_rfl) (by kernel_rfl) (by kernel_rfl) 116 rfl (by kernel_rfl) (ra6V p gb ch n' c' AH A' V hh) (fun gz L wz => Below w2.heap.size w2 wz ∧ (L 6 = true → wz.ownsRow w2.heap.size 73 2 gz (vjoin V hh).1.length (entV (vjoin V hh).1))) (fun _ _ => False) ((.slice none 0 0)) (⟨(Below.refl _ _).drew, (fun q => by cases q)⟩) ⟨?_, ?_, ?_, ?_, ?_, ?_, ?_, ?_, ?_, ?_, ?_, ?_, trivial⟩ ?_ ?_
    ·intro gz L wz K ρ hc0 hf0 hF hO hU hcl hi hd hC hK
     have e0 : ρ (.tmp 0) = .pointer (some ⟨p, 0, none⟩) := hO 0 (by kernel_rfl)
     simp [go_sem, Flow.ylP_value, Flow.ylP_skip, Flow.ylP_enter, Flow.ylP_panic, hc0, hf0, e0]
     exact hK gz wz hC (fun _ _ => rfl)
    ·intro gz L wz K ρ hc0 hf0 hF hO hU hcl hi hd hC hK
     have d0 : L 0 = true := hd ⟨0, .data⟩ (by simp) rfl
     have e31 : ρ (.tmp 31) = .pointer (some ⟨p, 0, none⟩) := hF 31 0 (by kernel_rfl) d0
     simp [go_sem, Flow.ylP_value, Flow.ylP_skip, Flow.ylP_enter, Flow.ylP_panic, hc0, hf0, e31]
     exact hK gz wz hC (fun _ _ => rfl)
    ·intro gz L wz K ρ hc0 hf0 hF hO hU hcl hi hd hC hK
     have d1 : L 1 = true := hd ⟨1, .data⟩ (by simp) rfl
     have e32 : ρ (.tmp 32) = .pointer (some ⟨p, 0, none⟩) := hF 32 1 (by kernel_rfl) d1
     simp [go_sem, Flow.ylP_value, Flow.ylP_skip, Flow.ylP_enter, Flow.ylP_panic, hc0, hf0, e32]
     exact hK gz wz hC (fun _ _ => rfl)
    ·intro gz L wz K ρ hc0 hf0 hF hO hU hcl hi hd hC hK
     have d2 : L 2 = true := hd ⟨2, .data⟩ (by simp) rfl
     have e33 : ρ (.tmp 33) = .pointer (some ⟨p, 1, none⟩) := hF 33 2 (by kernel_rfl) d2
     have cc := (hC.1.cell (p := ⟨p, 1, none⟩) (cell_lt k1)).trans k1
     simp [go_sem, Flow.ylP_value, Flow.ylP_skip, Flow.ylP_enter, Flow.ylP_panic, hc0, hf0, e33, cc]
     exact hK gz wz hC (fun _ _ => rfl)
    ·intro gz L wz K ρ hc0 hf0 hF hO hU hcl hi hd hC hK
     have e3 : ρ (.tmp 3) = .pointer (some ⟨gb, 0, none⟩) := hO 3 (by kernel_rfl)
     simp [go_sem, Flow.ylP_value, Flow.ylP_skip, Flow.ylP_enter, Flow.ylP_panic, hc0, hf0, e3]
     exact hK gz wz hC (fun _ _ => rfl)
    ·intro gz L wz K ρ hc0 hf0 hF hO hU hcl hi hd hC hK
     have d4 : L 4 = true := hd ⟨4, .data⟩ (by simp) rfl
     have e35 : ρ (.tmp 35) = .pointer (some ⟨gb, 1, none⟩) := hF 35 4 (by kernel_rfl) d4
     have cc := (hC.1.cell (p := ⟨gb, 1, none⟩) (cell_lt c1)).trans c1
     simp [go_sem, Flow.ylP_value, Flow.ylP_skip, Flow.ylP_enter, Flow.ylP_panic, hc0, hf0, e35, cc]
     exact hK gz wz hC (fun _ _ => rfl)
    ·intro gz L wz K ρ hc0 hf0 hF hO hU hcl hi hd hC hK
     have d3 : L 3 = true := hd ⟨3, .data⟩ (by simp) rfl
     have e34 : ρ (.tmp 34) = .slice AH V.length ch := hF 34 3 (by kernel_rfl) d3
     have d5 : L 5 = true := hd ⟨5, .data⟩ (by simp) rfl
     have e36 : ρ (.tmp 36) = .slice A' n' c' := hF 36 5 (by kernel_rfl) d5
     simp [go_sem, Flow.ylP_value, Flow.ylP_skip, Flow.ylP_enter, Flow.ylP_panic, hc0, hf0, e34, e36]
     refine (rvjoin_any wz V.length ch n' c' AH A' V hh (ents_own ((Turned.of_below (S := fun _ => False) hC.1).own HO2.out (fun _ _ q => q)) HYR.out) (HEH.out.grow hC.1) HM.out HNH.out).mono ?_
     rintro r wn ⟨v, rfl, hov, hbn⟩
     exact ⟨_, rfl, hK v wn ⟨hC.1.trans (hbn.mono hC.1.size), fun _ => own_less hov hC.1.size⟩ (by intro j hj; unfold ra6V; split <;> first | rfl | (rw [hi] at hj; cases hj) | (have hz := hcl _ 6 (by kernel_rfl) hj; rw [hi] at hz; cases hz))⟩
    ·intro gz L wz K ρ hc0 hf0 hF hO hU hcl hi hd hC hK
     have d6 : L 6 = true := hd ⟨6, .data⟩ (by simp) rfl
     have e37 : ρ (.tmp 37) = .tuple #[gz, .int .i64 (vjoin V hh).2] := hF 37 6 (by kernel_rfl) d6
     simp [go_sem, Flow.ylP_value, Flow.ylP_skip, Flow.ylP_enter, Flow.ylP_panic, hc0, hf0, e37]
     exact hK gz wz hC (fun _ _ => rfl)
    ·intro gz L wz K ρ hc0 hf0 hF hO hU hcl hi hd hC hK
     have d7 : L 7 = true := hd ⟨7, .data⟩ (by simp) rfl
     have e30 : ρ (.tmp 30) = .tuple #[gz, .int .i64 (vjoin V hh).2] := hF 30 7 (by kernel_rfl) d7
     simp [go_sem, Flow.ylP_value, Flow.ylP_skip, Flow.ylP_enter, Flow.ylP_panic, hc0, hf0, e30]
     exact hK gz wz hC (fun _ _ => rfl)
    ·intro gz L wz K ρ hc0 hf0 hF hO hU hcl hi hd hC hK
     have d7 : L 7 = true := hd ⟨7, .data⟩ (by simp) rfl
     have e30 : ρ (.tmp 30) = .tuple #[gz, .int .i64 (vjoin V hh).2] := hF 30 7 (by kernel_rfl) d7
     simp [go_sem, Flow.ylP_value, Flow.ylP_skip, Flow.ylP_enter, Flow.ylP_panic, hc0, hf0, e30]
     exact hK gz wz hC (fun _ _ => rfl)
    ·intro gz L wz K ρ hc0 hf0 hF hO hU hcl hi hd hC hK
     have d8 : L 8 = true := hd ⟨8, .data⟩ (by simp) rfl
     have e38 : ρ (.tmp 38) = gz := hF 38 8 (by kernel_rfl) d8
     simp [go_sem, Flow.ylP_value, Flow.ylP_skip, Flow.ylP_enter, Flow.ylP_panic, hc0, hf0, e38]
     exact hK gz wz hC (fun _ _ => rfl)
    ·intro gz L wz K ρ hc0 hf0 hF hO hU hcl hi hd hC hK
     have d9 : L 9 = true := hd ⟨9, .data⟩ (by simp) rfl
     have e39 : ρ (.tmp 39) = .int .i64 (vjoin V hh).2 := hF 39 9 (by kernel_rfl) d9
     simp [go_sem, Flow.ylP_value, Flow.ylP_skip, Flow.ylP_enter, Flow.ylP_panic, hc0, hf0, e39]
     exact hK gz wz hC (fun _ _ => rfl)
    ·intro gz L ch wz h; exact h.elim
    ·intro gz L wz hL hC
     have HC6 := Lib.hid (And.intro hC.1 (hC.2 (hL 6 (by decide))))
     clear hC hL
     try simp only at HC6
     obtain ⟨AV, cv, rfl⟩ := own_form HC6.out.2
     have h3 := HH2.out.below HC6.out.1
     have hbx3 := HBX2.out.below HC6.out.1
     have hGF3 := HGF2.out.below HC6.out.1
     have HB3 := Lib.hid (HB2.out.trans (HC6.out.1.mono HB2.out.size))
     have HVO := Lib.hid HC6.out.2
     have HS23 : Hid (w2.heap.size ≤ wz.heap.size ∧ w.heap.size ≤ w2.heap.size) := Lib.hid ⟨HC6.out.1.size, HB2.out.size⟩
     obtain ⟨J, hJ⟩ : ∃ J, vjoin V hh = J := ⟨_, rfl⟩
     have HJ := Lib.hid hJ
     rw [hJ] at HVO
     simp only [Flow.putAll, ra6V]
     simp [Act.put]
     rw [hJ]
     clear hJ HC6 HH2 HBX2 HB2 HO2 HEH k1 c1 HGF2
     obtain ⟨JV, je⟩ := J
     simp only at HVO ⊢
     have HSW : Hid (w2.heap.size ≤ wz.heap.size) := Lib.hid HS23.out.1
     have HGFL : Hid (gf < w2.heap.size) := Lib.hid (cell_lt (HGF2x.out 0 _ rfl).1)
     obtain ⟨w3, hw3⟩ : ∃ w3, w3 = wz := ⟨_, rfl⟩
     rw [← hw3] at h3 hbx3 HB3 HVO HS23 hGF3 HSW ⊢
     clear hw3
     have HH3 := Lib.hid h3
     have HGF3 := Lib.hid hGF3
     by_cases hje : je = 0
     ·subst hje
      have e0 : ((0 : Int) == 0) = true := rfl
      have c2 := hbx3.c2
      simp only at c2
      clear h3 hGF3 hbx3
      have HSL : Hid (Sl w3 w3.heap.size 6 A'' n'' (l.flatMap wrCells)) := Lib.hid (HSL0.out.grow HB3.out)
      have HRI : Hid (Rise l) := Lib.hid (bright_rise (f := f) (h := hh) (by rw [HBE.out]; exact HZ.out))
      have HL60 : Hid (l.length ≤ 60) := Lib.hid (bright_ok (f := f) (h := hh) (by rw [HBE.out]; exact HZ.out)).2.2.2.1
      go_wp2
      clear c2
      go_loopw [9, 12, 14, 47, 57] (fun v9 _ _ v47 _ wr => ∃ k : Nat, k ≤ n'' ∧ v47 = .int .i64 (k : Int) ∧ wr.ownsRow w3.heap.size 32 6 v9 (fresh L_ (l.take k)).length ((fresh L_ (l.take k)).flatMap wrCells) ∧ Hid (CAt L_ l k) ∧ Below w3.heap.size w3 wr) (fun _ _ _ i _ _ => n'' - (intOf i).toNat)
      case atStart => exact ⟨0, Nat.zero_le _, rfl, World.ownsRow_nil _ _ _ _, Lib.hid (.zero _ _), Below.refl _ _⟩
      case round =>
       obtain ⟨k, hk, rfl, hoF, HCA, hb⟩ := hrel
       have HNN : Hid (L_.length ≤ 300 ∧ (fresh L_ (l.take k)).length ≤ 60) := Lib.hid (by
        have h2 := fresh_len L_ (l.take k)
        have h3 : (l.take k).length ≤ 60 := by rw [List.length_take]; have := HL60.out; omega
        exact ⟨HFI.out.len, by omega⟩)
       obtain ⟨AF, cF, rfl⟩ := own_form hoF
       by_cases hlt : k < n''
       ·obtain ⟨b, o, ⟨x1, x2, x3, x4, x5, x6⟩, rfl, hbl, hx, hc⟩ := slk_at wrCells 6 (fun _ => rfl) HSL.out HLL.out hlt
        have c0 := (hb.cell (p := ⟨b, _, none⟩) hbl).trans (hc 0 _ rfl)
        have c1 := (hb.cell (p := ⟨b, _, none⟩) hbl).trans (hc 1 _ rfl)
        have c2 := (hb.cell (p := ⟨b, _, none⟩) hbl).trans (hc 2 _ rfl)
        have c3 := (hb.cell (p := ⟨b, _, none⟩) hbl).trans (hc 3 _ rfl)
        have c4 := (hb.cell (p := ⟨b, _, none⟩) hbl).trans (hc 4 _ rfl)
        have c5 := (hb.cell (p := ⟨b, _, none⟩) hbl).trans (hc 5 _ rfl)
        simp only [Nat.add_zero] at c0
        have HX := Lib.hid hx
        have bA := below1 wr (.cells #[.int .i64 x1, .int .i64 x2, .int .i64 x3, .string x4, .string x5, .int .i64 x6] 32)
        have hGW : RC (wr.alloc (.cells #[.int .i64 x1, .int .i64 x2, .int .i64 x3, .string x4, .string x5, .int .i64 x6] 32)) wr.heap.size (wrCells (x1, x2, x3, x4, x5, x6)) := RC.new wr (wrCells (x1, x2, x3, x4, x5, x6)) _
        have hoA := hoF.alloc (.cells #[.int .i64 x1, .int .i64 x2, .int .i64 x3, .string x4, .string x5, .int .i64 x6] 32)
        have hbA := hb.trans (bA.mono hb.size)
        have hA := HH3.out.below hb
        have k2 := ((hA.below bA).rc 2 _ rfl).1
        have HLA := Lib.hid (hA.below bA)
        obtain ⟨gw, hgw⟩ : ∃ g, g = wr.heap.size := ⟨_, rfl⟩
        have W1 := Lib.hid (w_one (a := k) (by have := HLL.out; have := HL60.out; omega))
        have HM1 : Hid (n'' - (k + 1) < n'' - k) := Lib.hid (by omega)
        have HK1 : Hid (k + 1 ≤ n'') := Lib.hid hlt
        simp only at k2
        rw [← hgw] at hGW
        clear hc hx hbl hlt hk hoF hb bA hA
        go_upto_region 13 with fail
        rw [← hgw]
        clear hgw c0 c1 c2 c3 c4 c5
        generalize wr.alloc (.cells #[.int .i64 x1, .int .i64 x2, .int .i64 x3, .string x4, .string x5, .int .i64 x6] 32) = WA at *
        go_wp2
        clear k2
        have HGW := Lib.hid hGW
        have HOA := Lib.hid hoA
        have HBA := Lib.hid hbA
        clear hGW hoA hbA
        go_loopw [12, 57] (fun v12 v57 wr => ∃ j : Nat, j ≤ L_.length ∧ v57 = .int .i64 (j : Int) ∧ v12 = .bool (knows (L_.take j) (x1, x2, x3, x4, x5, x6)) ∧ Hid (clash (L_.take j) (x1, x2, x3, x4, x5, x6) = false) ∧ Below WA.heap.size WA wr) (fun _ i _ => L_.length - (intOf i).toNat)
        case atStart => exact ⟨0, Nat.zero_le _, rfl, rfl, Lib.hid rfl, Below.refl _ _⟩
        case round =>
         obtain ⟨j, hj, rfl, rfl, HCJ, hb⟩ := hrel
         by_cases hlt : j < L_.length
         ·obtain ⟨⟨y1, y2, y3, y4, y5, y6⟩, hy⟩ : ∃ y, L_[j]? = some y := ⟨_, List.getElem?_eq_getElem hlt⟩
          obtain ⟨gl, rfl⟩ := own_some_of HLA.out.l (by omega)
          have cy := wr_cells_own HLA.out.l rfl hy
          have r0 := (hb.cell (p := ⟨gl, j * 6, none⟩) (cell_lt (cy 0 _ rfl))).trans (cy 0 _ rfl)
          have r1 := (hb.cell (p := ⟨gl, j * 6 + 1, none⟩) (cell_lt (cy 1 _ rfl))).trans (cy 1 _ rfl)
          have r2 := (hb.cell (p := ⟨gl, j * 6 + 2, none⟩) (cell_lt (cy 2 _ rfl))).trans (cy 2 _ rfl)
          have r3 := (hb.cell (p := ⟨gl, j * 6 + 3, none⟩) (cell_lt (cy 3 _ rfl))).trans (cy 3 _ rfl)
          have r4 := (hb.cell (p := ⟨gl, j * 6 + 4, none⟩) (cell_lt (cy 4 _ rfl))).trans (cy 4 _ rfl)
          have r5 := (hb.cell (p := ⟨gl, j * 6 + 5, none⟩) (cell_lt (cy 5 _ rfl))).trans (cy 5 _ rfl)
          have hGWb := HGW.out.below hb
          have g0 := (hGWb 0 _ rfl).1
          have g1 := (hGWb 1 _ rfl).1
          have g2 := (hGWb 2 _ rfl).1
          have g3 := (hGWb 3 _ rfl).1
          have g4 := (hGWb 4 _ rfl).1
          have g5 := (hGWb 5 _ rfl).1
          have HY := Lib.hid hy
          have HB7 := Lib.hid hb
          have W2 := Lib.hid (w_one (a := j) (by have := HNN.out; omega))
          have HM2 : Hid (L_.length - (j + 1) < L_.length - j) := Lib.hid (by omega)
          have HK2 : Hid (j + 1 ≤ L_.length) := Lib.hid hlt
          have hbs := Lib.hid hb.size
          clear cy hGWb hy hb hlt hj
          by_cases hid_ : ((y1, y2) : Id) = (x1, x2)
          ·simp only [Prod.mk.injEq] at hid_
           obtain ⟨rfl, rfl⟩ := hid_
           by_cases heq : ((y1, y2, y3, y4, y5, y6) : Wr) = (y1, y2, x3, x4, x5, x6)
           ·simp only [Prod.mk.injEq] at heq
            obtain ⟨_, _, rfl, rfl, rfl, rfl⟩ := heq
            have HKJ : Hid (knows (L_.take (j + 1)) (y1, y2, y3, y4, y5, y6) = (knows (L_.take j) (y1, y2, y3, y4, y5, y6) || true)) := Lib.hid (by rw [knows_take HY.out]; simp [wid])
            have HCJ2 : Hid (clash (L_.take (j + 1)) (y1, y2, y3, y4, y5, y6) = false) := Lib.hid (by rw [clash_take HY.out, HCJ.out]; simp)
            have bY := below1 wr (.cells #[.int .i64 y1, .int .i64 y2, .int .i64 y3, .string y4, .string y5, .int .i64 y6] 32)
            have hGX : RC (wr.alloc (.cells #[.int .i64 y1, .int .i64 y2, .int .i64 y3, .string y4, .string y5, .int .i64 y6] 32)) wr.heap.size (wrCells (y1, y2, y3, y4, y5, y6)) := RC.new wr (wrCells (y1, y2, y3, y4, y5, y6)) _
            have hGWY := (HGW.out.below HB7.out).below bY
            have HB8 := Lib.hid (HB7.out.trans (bY.mono HB7.out.size))
            obtain ⟨gx, hgx⟩ : ∃ g, g = wr.heap.size := ⟨_, rfl⟩
            rw [← hgx] at hGX
            clear g0 g1 g2 g3 g4 g5 bY HB7
            go_upto_region 17 with fail
            rw [← hgx]
            clear hgx r0 r1 r2 r3 r4 r5
            generalize wr.alloc (.cells #[.int .i64 y1, .int .i64 y2, .int .i64 y3, .string y4, .string y5, .int .i64 y6] 32) = WB at *
            have g0 := (hGWY 0 _ rfl).1
            have g1 := (hGWY 1 _ rfl).1
            have g2 := (hGWY 2 _ rfl).1
            have g3 := (hGWY 3 _ rfl).1
            have g4 := (hGWY 4 _ rfl).1
            have g5 := (hGWY 5 _ rfl).1
            have r0 := (hGX 0 _ rfl).1
            have r1 := (hGX 1 _ rfl).1
            have r2 := (hGX 2 _ rfl).1
            have r3 := (hGX 3 _ rfl).1
            have r4 := (hGX 4 _ rfl).1
            have r5 := (hGX 5 _ rfl).1
            clear hGWY hGX
            obtain ⟨kb, hkb⟩ : ∃ kb, knows (L_.take j) (y1, y2, y3, y4, y5, y6) = kb := ⟨_, rfl⟩
            rw [hkb] at HKJ ⊢
            clear hkb
            obtain ⟨m1, m2⟩ := W2.out
            cases kb with
            | true =>
             go_wp2
             go_roundw
             case rel => exact ⟨j + 1, HK2.out, by go_num, by rw [HKJ.out]; rfl, HCJ2, HB8.out⟩
             case measure => simpa [intOf] using HM2.out
            | false =>
             go_wp2
             go_roundw
             case rel => exact ⟨j + 1, HK2.out, by go_num, by rw [HKJ.out]; rfl, HCJ2, HB8.out⟩
             case measure => simpa [intOf] using HM2.out
           ·have hdec : ∀ W_ : World, (Op.equalIn 10000 32 (.agg #[.int .i64 y1, .int .i64 y2, .int .i64 y3, .string y4, .string y5, .int .i64 y6]) (.agg #[.int .i64 y1, .int .i64 y2, .int .i64 x3, .string x4, .string x5, .int .i64 x6])).run Tryz.prog W_ = .ok false W_ := fun W_ => eqWr_no heq W_
            have HCL : Hid (clash L_ (y1, y2, x3, x4, x5, x6) = true) := Lib.hid (clash_in HY.out rfl heq)
            have HRe : Hid (R = ((V, L_), 0, 9, (k : Int))) := Lib.hid (by rw [← HR.out]; unfold lacc; rw [HBE.out, if_neg (fun q => q HZ.out), if_neg (by rw [HCV.out]; decide), HJ.out, if_neg (fun q => q rfl), HCA.out.bad HX.out HCL.out])
            clear heq
            have bY := below1 wr (.cells #[.int .i64 y1, .int .i64 y2, .int .i64 y3, .string y4, .string y5, .int .i64 y6] 32)
            have hGX : RC (wr.alloc (.cells #[.int .i64 y1, .int .i64 y2, .int .i64 y3, .string y4, .string y5, .int .i64 y6] 32)) wr.heap.size (wrCells (y1, y2, y3, y4, y5, y6)) := RC.new wr (wrCells (y1, y2, y3, y4, y5, y6)) _
            have hGWY := (HGW.out.below HB7.out).below bY
            have HB8 := Lib.hid (HB7.out.trans (bY.mono HB7.out.size))
            obtain ⟨gx, hgx⟩ : ∃ g, g = wr.heap.size := ⟨_, rfl⟩
            rw [← hgx] at hGX
            clear g0 g1 g2 g3 g4 g5 bY HB7
            go_upto_region 17 with fail
            rw [← hgx]
            clear hgx r0 r1 r2 r3 r4 r5
            generalize wr.alloc (.cells #[.int .i64 y1, .int .i64 y2, .int .i64 y3, .string y4, .string y5, .int .i64 y6] 32) = WB at *
            have g0 := (hGWY 0 _ rfl).1
            have g1 := (hGWY 1 _ rfl).1
            have g2 := (hGWY 2 _ rfl).1
            have g3 := (hGWY 3 _ rfl).1
            have g4 := (hGWY 4 _ rfl).1
            have g5 := (hGWY 5 _ rfl).1
            have r0 := (hGX 0 _ rfl).1
            have r1 := (hGX 1 _ rfl).1
            have r2 := (hGX 2 _ rfl).1
            have r3 := (hGX 3 _ rfl).1
            have r4 := (hGX 4 _ rfl).1
            have r5 := (hGX 5 _ rfl).1
            clear hGWY hGX
            have hbz := HBA.out.trans (HB8.out.mono HBA.out.size)
            have hGFz := HGF3.out.below hbz
            have HFz := Lib.hid (And.intro (HH3.out.below hbz) hGFz)
            have HBz := Lib.hid (HB3.out.trans (hbz.mono HB3.out.size))
            have z0 := (hGFz 0 _ rfl).1
            have z1 := (hGFz 1 _ rfl).1
            have f0 := (hGFz 0 _ rfl).2
            have f1 := (hGFz 1 _ rfl).2
            clear hbz hGFz
            go_wp2
            have hz := HFz.out.2.two (.int .i64 9) (.int .i64 (k : Int))
            have q0 := (hz 0 _ rfl).1
            have q1 := (hz 1 _ rfl).1
            have hla := HFz.out.1.two (g := gf) (fun i hi => by have := (HW.out.1 i hi).2; have := HGE.out.2; omega) (.int .i64 9) (.int .i64 (k : Int))
            have hbf := below_set2 (.int .i64 9) (.int .i64 (k : Int)) HBz.out HGE.out.2
            refine bodyPost_ret (v := .tuple #[.int .i64 0, .agg #[.int .i64 9, .int .i64 (k : Int)]]) (by simp [results, Tryz.results18, go_sem, q0, q1]) rfl ⟨⟨p, .slice AH V.length ch, .slice (some ⟨gl, 0, none⟩) L_.length cl⟩, rfl, by rw [HRe.out]; rfl, by rw [HRe.out]; exact hla, .of_below hbf⟩
          ·have hdec : ∀ W_ : World, (Op.equalIn 10000 30 (.agg #[.int .i64 y1, .int .i64 y2]) (.agg #[.int .i64 x1, .int .i64 x2])).run Tryz.prog W_ = .ok false W_ := fun W_ => eqId_no hid_ W_
           have hnw : ¬ wid (y1, y2, y3, y4, y5, y6) = wid (x1, x2, x3, x4, x5, x6) := hid_
           have HKJ : Hid (knows (L_.take (j + 1)) (x1, x2, x3, x4, x5, x6) = (knows (L_.take j) (x1, x2, x3, x4, x5, x6) || false)) := Lib.hid (by rw [knows_take HY.out, decide_eq_false hnw])
           have HCJ2 : Hid (clash (L_.take (j + 1)) (x1, x2, x3, x4, x5, x6) = false) := Lib.hid (by rw [clash_take HY.out, HCJ.out, decide_eq_false hnw]; rfl)
           clear hid_ hnw
           have bY := below1 wr (.cells #[.int .i64 y1, .int .i64 y2, .int .i64 y3, .string y4, .string y5, .int .i64 y6] 32)
           have hGX : RC (wr.alloc (.cells #[.int .i64 y1, .int .i64 y2, .int .i64 y3, .string y4, .string y5, .int .i64 y6] 32)) wr.heap.size (wrCells (y1, y2, y3, y4, y5, y6)) := RC.new wr (wrCells (y1, y2, y3, y4, y5, y6)) _
           have hGWY := (HGW.out.below HB7.out).below bY
           have HB8 := Lib.hid (HB7.out.trans (bY.mono HB7.out.size))
           obtain ⟨gx, hgx⟩ : ∃ g, g = wr.heap.size := ⟨_, rfl⟩
           rw [← hgx] at hGX
           clear g0 g1 g2 g3 g4 g5 bY HB7
           go_upto_region 17 with fail
           rw [← hgx]
           clear hgx r0 r1 r2 r3 r4 r5
           generalize wr.alloc (.cells #[.int .i64 y1, .int .i64 y2, .int .i64 y3, .string y4, .string y5, .int .i64 y6] 32) = WB at *
           have g0 := (hGWY 0 _ rfl).1
           have g1 := (hGWY 1 _ rfl).1
           have g2 := (hGWY 2 _ rfl).1
           have g3 := (hGWY 3 _ rfl).1
           have g4 := (hGWY 4 _ rfl).1
           have g5 := (hGWY 5 _ rfl).1
           have r0 := (hGX 0 _ rfl).1
           have r1 := (hGX 1 _ rfl).1
           have r2 := (hGX 2 _ rfl).1
           have r3 := (hGX 3 _ rfl).1
           have r4 := (hGX 4 _ rfl).1
           have r5 := (hGX 5 _ rfl).1
           clear hGWY hGX
           obtain ⟨kb, hkb⟩ : ∃ kb, knows (L_.take j) (x1, x2, x3, x4, x5, x6) = kb := ⟨_, rfl⟩
           rw [hkb] at HKJ ⊢
           clear hkb
           obtain ⟨m1, m2⟩ := W2.out
           cases kb with
           | true =>
            go_wp2
            go_roundw
            case rel => exact ⟨j + 1, HK2.out, by go_num, by rw [HKJ.out]; rfl, HCJ2, HB8.out⟩
            case measure => simpa [intOf] using HM2.out
           | false =>
            go_wp2
            go_roundw
            case rel => exact ⟨j + 1, HK2.out, by go_num, by rw [HKJ.out]; rfl, HCJ2, HB8.out⟩
            case measure => simpa [intOf] using HM2.out
         ·obtain rfl : j = L_.length := by omega
          rw [List.take_length] at HCJ ⊢
          have hLX := HLA.out.below hb
          have hGWX := HGW.out.below hb
          have hoX := (Turned.of_below (S := fun _ => False) hb).own HOA.out (fun _ _ q => q)
          have hbX := HBA.out.trans (hb.mono HBA.out.size)
          have HCA2 : Hid (CAt L_ l (k + 1)) := Lib.hid (HCA.out.succ HX.out HCJ.out)
          clear hlt hj hb HLA HGW HOA HBA
          obtain ⟨m1, m2⟩ := W1.out
          cases hkn : knows L_ (x1, x2, x3, x4, x5, x6) with
          | true =>
           have ho7 : wr.ownsRow w3.heap.size 32 6 (.slice AF (fresh L_ (l.take k)).length cF) (fresh L_ (l.take (k + 1))).length ((fresh L_ (l.take (k + 1))).flatMap wrCells) := by rw [fresh_take HX.out, hkn]; simpa using hoX
           clear hkn hLX hGWX hoX
           go_wp2
           go_roundw
           case rel => exact ⟨k + 1, HK1.out, by go_num, ho7, HCA2, hbX⟩
           case measure => simpa [intOf] using HM1.out
          | false =>
           have g0 := (hGWX 0 _ rfl).1
           have g1 := (hGWX 1 _ rfl).1
           have g2 := (hGWX 2 _ rfl).1
           have g3 := (hGWX 3 _ rfl).1
           have g4 := (hGWX 4 _ rfl).1
           have g5 := (hGWX 5 _ rfl).1
           have hbO := hbX.alloc hbX.size (.cells #[.int .i64 x1, .int .i64 x2, .int .i64 x3, .string x4, .string x5, .int .i64 x6] 32)
           obtain ⟨v', w7, hrun, hov, hgn, _⟩ := app_wr1 (x := (x1, x2, x3, x4, x5, x6)) (hoX.alloc (.cells #[.int .i64 x1, .int .i64 x2, .int .i64 x3, .string x4, .string x5, .int .i64 x6] 32)) (heap_alloc_new wr (.cells #[.int .i64 x1, .int .i64 x2, .int .i64 x3, .string x4, .string x5, .int .i64 x6] 32)) (by have := HNN.out; omega) (by have := hbX.size; simp; omega) 22
           have hb7 : Below w3.heap.size w3 w7 := grown_own hbO hgn hbO.size (hoX.alloc (.cells #[.int .i64 x1, .int .i64 x2, .int .i64 x3, .string x4, .string x5, .int .i64 x6] 32))
           have HFT : Hid (fresh L_ (l.take (k + 1)) = fresh L_ (l.take k) ++ [(x1, x2, x3, x4, x5, x6)]) := Lib.hid (by rw [fresh_take HX.out, hkn]; rfl)
           rw [← HFT.out] at hov
           have HO7 := Lib.hid (And.intro hov hb7)
           clear hkn hLX hGWX hoX hbX hbO hov hgn hb7
           go_upto_region 23 with (at_builtin; refine Lib.wpList_append_run _ rfl _ _ _ _ rfl _ _ rfl rfl _ _ hrun ?_)
           clear hrun g0 g1 g2 g3 g4 g5
           go_wp2
           go_roundw
           case rel => exact ⟨k + 1, HK1.out, by go_num, HO7.out.1, HCA2, HO7.out.2⟩
           case measure => simpa [intOf] using HM1.out
       ·obtain rfl : k = n'' := by omega
        have hcn := HCA.out.all (by rw [HLL.out]; exact Nat.le_refl _)
        have htk : l.take k = l := List.take_of_length_le (by rw [HLL.out]; exact Nat.le_refl _)
        rw [htk] at hoF HNN ⊢
        have HCN := Lib.hid hcn
        obtain ⟨FR, hFR⟩ : ∃ FR, FR = fresh L_ l := ⟨_, rfl⟩
        have HFR := Lib.hid hFR
        rw [← hFR] at hoF HNN ⊢
        clear hlt hk hcn htk hFR
        have h9 := HH3.out.below hb
        have hvo9 := (Turned.of_below (S := fun _ => False) hb).own HVO.out (fun _ _ q => q)
        have HB9 := Lib.hid (HB3.out.trans (hb.mono HB3.out.size))
        have HS39 : Hid (w3.heap.size ≤ wr.heap.size) := Lib.hid hb.size
        have HGF9 := Lib.hid (HGF3.out.below hb)
        have HH9 := Lib.hid h9
        have k2 := (h9.rc 2 _ rfl).1
        simp only at k2
        have WS := Lib.hid (w_sum (a := L_.length) (b := FR.length) (by have := HNN.out; omega) (by have := HNN.out; omega))
        clear hb
        by_cases hfull : 300 < L_.length + FR.length
        ·have d3 : decide ((300 : Int) < (L_.length : Int) + (FR.length : Int)) = true := decide_eq_true (by omega)
         have HRe : Hid (R = ((V, L_), 0, 12, -1)) := Lib.hid (by rw [← HR.out]; unfold lacc; rw [HBE.out, if_neg (fun q => q HZ.out), if_neg (by rw [HCV.out]; decide), HJ.out, if_neg (fun q => q rfl), HCN.out]; simp only; rw [if_pos (by rw [← HFR.out]; exact hfull)])
         obtain ⟨m1, m2⟩ := WS.out
         clear hfull h9 hvo9 hoF
         go_wp2_with (first | (go_at_call 51; refine (bareF_any 12 _).mono ?_; rintro e w4 ⟨rfl, hbb⟩; have hGFb := HGF9.out.below hbb; have HFb := Lib.hid (And.intro (HH9.out.below hbb) hGFb); have HBb := Lib.hid (HB9.out.trans (hbb.mono HB9.out.size)); have z0 := (hGFb 0 _ rfl).1; have z1 := (hGFb 1 _ rfl).1; have f0 := (hGFb 0 _ rfl).2; have f1 := (hGFb 1 _ rfl).2; clear hGFb hbb))
         have hz := HFb.out.2.two (.int .i64 12) (.int .i64 (-1))
         have q0 := (hz 0 _ rfl).1
         have q1 := (hz 1 _ rfl).1
         have hla := HFb.out.1.two (g := gf) (fun i hi => by have := (HW.out.1 i hi).2; have := HGE.out.2; omega) (.int .i64 12) (.int .i64 (-1))
         have hbf := below_set2 (.int .i64 12) (.int .i64 (-1)) HBb.out HGE.out.2
         refine bodyPost_ret (v := .tuple #[.int .i64 0, .agg #[.int .i64 12, .int .i64 (-1)]]) (by simp [results, Tryz.results18, go_sem, q0, q1]) rfl ⟨⟨p, .slice AH V.length ch, .slice AL L_.length cl⟩, rfl, by rw [HRe.out]; rfl, by rw [HRe.out]; exact hla, .of_below hbf⟩
        ·have d3 : decide ((300 : Int) < (L_.length : Int) + (FR.length : Int)) = false := decide_eq_false (by omega)
         have HRe : Hid (R = ((JV, L_ ++ FR), FR.length, 0, -1)) := Lib.hid (by rw [← HR.out]; unfold lacc; rw [HBE.out, if_neg (fun q => q HZ.out), if_neg (by rw [HCV.out]; decide), HJ.out, if_neg (fun q => q rfl), HCN.out]; simp only; rw [if_neg (by rw [← HFR.out]; exact hfull), ← HFR.out])
         have HPG : Hid (p < w.heap.size ∧ B ≤ p) := Lib.hid ⟨(HW.out.1 p (.inl rfl)).2, (HW.out.1 p (.inl rfl)).1⟩
         obtain ⟨m1, m2⟩ := WS.out
         clear hfull
         go_upto_region 26 with fail
         clear d3 m1 m2 k2
         have hRC8 := h9.rc
         have hLO8 := h9.l
         simp only at hRC8 hLO8
         have hVO8 : wr.ownsRow B 73 2 (.slice AV JV.length cv) JV.length (entV JV) := own_less hvo9 (by have := HS23.out; have := HPG.out; omega)
         have hvp : (Value.slice AV JV.length cv).ownBlock ≠ some p := fun e => by have := (hvo9.lt p e).1; have := HS23.out; have := HPG.out; omega
         obtain ⟨vc, wc, hr1, hoc, hgc⟩ := app_wrs (World.ownsRow_nil wr wr.heap.size 32 6) hLO8 (by have := HNN.out; omega) (Nat.le_refl _) 22
         rw [Nat.zero_add, List.nil_append] at hoc
         have hbc : Below wr.heap.size wr wc := ⟨hgc.os, hgc.tape, hgc.output, hgc.size, fun i hi => hgc.block i hi (by intro e; cases e)⟩
         obtain ⟨vn, wn, hr2, hon, hgn⟩ := app_wrs hoc ((Turned.of_below (S := fun _ => False) hbc).own hoF (fun _ _ q => q)) (by have := HNN.out; omega) hbc.size 22
         have hbn : Below wr.heap.size wr wn := grown_own hbc hgn hbc.size hoc
         obtain ⟨Ac, cc, rfl⟩ := own_form hoc
         obtain ⟨An, cn, rfl⟩ := own_form hon
         have hrp := RC.below hRC8 hbn
         have k1 := (hrp 1 _ rfl).1
         have fk1 := (hrp 1 _ rfl).2
         have k2 := (hRC8 2 _ rfl).1
         have k2n := (hrp 2 _ rfl).1
         have fk2 := (hrp 2 _ rfl).2
         have hrc : RC ((wn.setCell ⟨p, 1, none⟩ (.slice AV JV.length cv)).setCell ⟨p, 2, none⟩ (.slice An (L_.length + FR.length) cn)) p [.int .i64 rep, .slice AV JV.length cv, .slice An (L_.length + FR.length) cn] := (hrp.set 1 _ (by simp)).set 2 _ (by simp)
         have hT : Turned (fun i => i = p) wr ((wn.setCell ⟨p, 1, none⟩ (.slice AV JV.length cv)).setCell ⟨p, 2, none⟩ (.slice An (L_.length + FR.length) cn)) := (Turned.of_below hbn).trans (Turned.trans (S := fun i => i = p) (.set _ _ _ rfl) (.set _ _ _ rfl))
         have hTn : Turned (fun i => i = p) wn ((wn.setCell ⟨p, 1, none⟩ (.slice AV JV.length cv)).setCell ⟨p, 2, none⟩ (.slice An (L_.length + FR.length) cn)) := Turned.trans (S := fun i => i = p) (.set _ _ _ rfl) (.set _ _ _ rfl)
         have hpl : p < wr.heap.size := cell_lt (hRC8 0 _ rfl).1
         have hnp : (Value.slice An (L_.length + FR.length) cn).ownBlock ≠ some p := fun e => by have := (hon.lt p e).1; omega
         have hon9 := hTn.own hon (fun j hj e => by rw [show j = p from e] at hj; exact hnp hj)
         have hvo99 := hT.own hVO8 (fun j hj e => by rw [show j = p from e] at hj; exact hvp hj)
         have hgp : gf ≠ p := fun e => by have := HGE.out.2; have := HPG.out; omega
         have hGFn := HGF9.out.turned hT hgp
         have hla : LogAt ((wn.setCell ⟨p, 1, none⟩ (.slice AV JV.length cv)).setCell ⟨p, 2, none⟩ (.slice An (L_.length + FR.length) cn)) B ⟨p, .slice AV JV.length cv, .slice An (L_.length + FR.length) cn⟩ rep JV (L_ ++ FR) := ⟨hrc, HPG.out.2, hvo99, by rw [List.length_append, List.flatMap_append]; exact own_less hon9 (by have := HPG.out; omega), hvp, hnp⟩
         have hM : Turned (LgC.foot ⟨p, .slice AH V.length ch, .slice AL L_.length cl⟩) w ((wn.setCell ⟨p, 1, none⟩ (.slice AV JV.length cv)).setCell ⟨p, 2, none⟩ (.slice An (L_.length + FR.length) cn)) := (Turned.of_below HB9.out).trans (hT.mono (fun i hi => .inl hi))
         have hlr : ∀ i, LgC.foot ⟨p, .slice AV JV.length cv, .slice An (L_.length + FR.length) cn⟩ i → i ≠ gf ∧ (LgC.foot ⟨p, .slice AH V.length ch, .slice AL L_.length cl⟩ i ∨ w.heap.size ≤ i) := fun i hi => by
          have hgl : gf < w2.heap.size := HGFL.out
          rcases hi with rfl | hi | hi
          ·exact ⟨fun e => hgp e.symm, .inl (.inl rfl)⟩
          ·have h1 := (hvo9.lt i hi).1; have h2 := HS23.out; exact ⟨fun e => by omega, .inr (by omega)⟩
          ·have h1 := (hon.lt i hi).1; have h3 := HS23.out; have h4 := HS39.out; have h5 := HSW.out; exact ⟨fun e => by omega, .inr (by omega)⟩
         have HMM := Lib.hid (And.intro hla (And.intro hM (And.intro hlr hGFn)))
         clear h9 hvo9 hoF hvp hRC8 hLO8 hVO8 hoc hgc hbc hon hgn hbn hrp hrc hT hTn hpl hnp hon9 hvo99 hGFn hla hM hlr
         go_upto_region 27 with (first
          | (at_builtin; refine Lib.wpList_append_run _ rfl _ _ _ _ rfl _ _ rfl rfl _ _ hr1 ?_)
          | (at_builtin; refine Lib.wpList_append_run _ rfl _ _ _ _ rfl _ _ rfl rfl _ _ hr2 ?_))
         clear hr1 hr2 k1 fk1 k2 k2n fk2
         generalize (wn.setCell ⟨p, 1, none⟩ (.slice AV JV.length cv)).setCell ⟨p, 2, none⟩ (.slice An (L_.length + FR.length) cn) = w10 at *
         go_wp2_with (first | (go_at_call 52; refine (good_any _).mono ?_; rintro e w9 ⟨rfl, hbb⟩; have hGFb := HMM.out.2.2.2.below hbb; have HBb := Lib.hid hbb; have z0 := (hGFb 0 _ rfl).1; have z1 := (hGFb 1 _ rfl).1; have f0 := (hGFb 0 _ rfl).2; have f1 := (hGFb 1 _ rfl).2; have HFb := Lib.hid hGFb; clear hGFb hbb))
         have hz := HFb.out.two (.int .i64 0) (.int .i64 (-1))
         have q0 := (hz 0 _ rfl).1
         have q1 := (hz 1 _ rfl).1
         have hla2 := (HMM.out.1.below HBb.out).two (g := gf) (fun i hi => (HMM.out.2.2.1 i hi).1) (.int .i64 0) (.int .i64 (-1))
         refine bodyPost_ret (v := .tuple #[.int .i64 (FR.length : Int), .agg #[.int .i64 0, .int .i64 (-1)]]) (by simp [results, Tryz.results18, go_sem, q0, q1]) rfl ⟨⟨p, .slice AV JV.length cv, .slice An (L_.length + FR.length) cn⟩, rfl, by rw [HRe.out], by rw [HRe.out]; exact hla2, ?_, fun i hi => (HMM.out.2.2.1 i hi).2⟩
         exact ((HMM.out.2.1.trans (.of_below HBb.out)).then (S' := fun i => i = gf) (.set _ _ _ rfl) (fun i hi => .inr (by rw [show i = gf from hi]; exact HGE.out.2))).then (S' := fun i => i = gf) (.set _ _ _ rfl) (fun i hi => .inr (by rw [show i = gf from hi]; exact HGE.out.2))
     ·have HJE := Lib.hid hje
      have e0 : (je == 0) = false := beq_eq_false_iff_ne.2 hje
      have HRe : Hid (R = ((V, L_), 0, je, -1)) := Lib.hid (by rw [← HR.out]; unfold lacc; rw [HBE.out, if_neg (fun q => q HZ.out), if_neg (by rw [HCV.out]; decide), HJ.out, if_pos hje])
      clear hje h3 hbx3 hGF3
      go_wp2_with (first | (go_at_call 51; refine (bareF_any je _).mono ?_; rintro e w4 ⟨rfl, hbb⟩; have hGFb := HGF3.out.below hbb; have HFb := Lib.hid (And.intro (HH3.out.below hbb) hGFb); have HBb := Lib.hid (HB3.out.trans (hbb.mono HB3.out.size)); have z0 := (hGFb 0 _ rfl).1; have z1 := (hGFb 1 _ rfl).1; have f0 := (hGFb 0 _ rfl).2; have f1 := (hGFb 1 _ rfl).2; clear hGFb hbb))
      have hz := HFb.out.2.two (.int .i64 je) (.int .i64 (-1))
      have q0 := (hz 0 _ rfl).1
      have q1 := (hz 1 _ rfl).1
      have hla := HFb.out.1.two (g := gf) (fun i hi => by have := (HW.out.1 i hi).2; have := HGE.out.2; omega) (.int .i64 je) (.int .i64 (-1))
      have hbf := below_set2 (.int .i64 je) (.int .i64 (-1)) HBb.out HGE.out.2
      refine bodyPost_ret (v := .tuple #[.int .i64 0, .agg #[.int .i64 je, .int .i64 (-1)]]) (by simp [results, Tryz.results18, go_sem, q0, q1]) rfl ⟨⟨p, .slice AH V.length ch, .slice AL L_.length cl⟩, rfl, by rw [HRe.out]; rfl, by rw [HRe.out]; exact hla, .of_below hbf⟩
 ·have e1 : (be1 == 0) = false := beq_eq_false_iff_ne.2 hz
  rw [e1]
  clear e1
  have HRe : Hid (R = ((V, L_), 0, be1, be2)) := Lib.hid (by rw [← HR.out]; unfold lacc; rw [HBE.out, if_pos hz])
  clear hz
  have hGT3 := hGT1
  have hGF3 := hGF1
  have h3 := h1
  have HB3 := HB1
  clear hGT1 hGF1 h1 HB1
  go_upto_region 3 with fail
  refine Flow.wp_region_go (by kernel_rfl) (by kernel_rfl) (by kernel_rfl) 116 rfl (by kernel_rfl) (ra3V gf gt be1 be2) (fun _ L wz => RC wz gt [.int .i64 be1, .int .i64 be2] ∧ (∃ a b : Value, RC wz gf [a, b] ∧ (L 2 = true → a = .int .i64 be1 ∧ b = .int .i64 be2)) ∧ Below w.heap.size w wz ∧ LogAt wz B ⟨p, .slice AH V.length ch, .slice AL L_.length cl⟩ rep V L_) (fun _ _ => False) (()) (⟨hGT3.below (Below.refl _ _).drew, ⟨_, _, hGF3.below (Below.refl _ _).drew, (fun q => by cases q)⟩, HB3.out.trans (Below.refl _ _).drew, h3.below (Below.refl _ _).drew⟩) ⟨?_, ?_, ?_, trivial⟩ ?_ ?_
  ·intro gz L wz K ρ hc0 hf0 hF hO hU hcl hi hd hC hK
   have e6 : ρ (.tmp 6) = .pointer (some ⟨gt, 0, none⟩) := hO 6 (by kernel_rfl)
   have q0 := (hC.1 0 _ rfl).1
   have q1 := (hC.1 1 _ rfl).1
   simp [go_sem, Flow.ylP_value, Flow.ylP_skip, Flow.ylP_enter, Flow.ylP_panic, hc0, hf0, e6, q0, q1]
   exact hK gz wz hC (fun _ _ => rfl)
  ·intro gz L wz K ρ hc0 hf0 hF hO hU hcl hi hd hC hK
   simp [go_sem, Flow.ylP_value, Flow.ylP_skip, Flow.ylP_enter, Flow.ylP_panic, hc0, hf0]
   exact hK gz wz hC (fun _ _ => rfl)
  ·intro gz L wz K ρ hc0 hf0 hF hO hU hcl hi hd hC hK
   have e5 : ρ (.tmp 5) = .pointer (some ⟨gf, 0, none⟩) := hO 5 (by kernel_rfl)
   have d0 : L 0 = true := hd ⟨0, .data⟩ (by simp) rfl
   have e20 : ρ (.tmp 20) = .agg #[.int .i64 be1, .int .i64 be2] := hF 20 0 (by kernel_rfl) d0
   obtain ⟨ga, gb2, hgf, _⟩ := hC.2.1
   have q0 := (hgf 0 _ rfl).1
   have q1 := (hgf 1 _ rfl).1
   have f0 := (hgf 0 _ rfl).2
   have f1 := (hgf 1 _ rfl).2
   simp [go_sem, Flow.ylP_value, Flow.ylP_skip, Flow.ylP_enter, Flow.ylP_panic, hc0, hf0, e5, e20, q0, q1, f0, f1]
   exact hK gz _ ⟨hC.1.setAt2 (fun e => HGN.out e) _ _, ⟨_, _, hgf.two _ _, fun _ => ⟨rfl, rfl⟩⟩, below_set2 _ _ hC.2.2.1 HGE.out.2, hC.2.2.2.two (fun i hi => by have := (HW.out.1 i hi).2; have := HGE.out.2; omega) _ _⟩ (fun _ _ => rfl)
  ·intro gz L ch wz h; exact h.elim
  ·intro gz L wz hL hC
   obtain ⟨_, ⟨ga, gb2, hgf, he⟩, hbf, hla⟩ := hC
   obtain ⟨rfl, rfl⟩ := he (hL 2 (by decide))
   have HX := Lib.hid (And.intro hbf hla)
   have q0 := (hgf 0 _ rfl).1
   have q1 := (hgf 1 _ rfl).1
   clear hgf hbf hla he
   simp only [Flow.putAll, ra3V]
   try simp [Act.put]
   go_wp2
   refine bodyPost_ret (v := .tuple #[.int .i64 0, .agg #[.int .i64 be1, .int .i64 be2]]) (by simp [results, Tryz.results18, go_sem, q0, q1]) rfl ⟨⟨p, .slice AH V.length ch, .slice AL L_.length cl⟩, rfl, by rw [HRe.out]; rfl, by rw [HRe.out]; exact HX.out.2, .of_below HX.out.1⟩
end Go.Proofs.YtlpkpfpmcppciaaGreatDoor
end
