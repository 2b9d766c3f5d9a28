/- Accept of a log: what it leaves and answers. Printed by gen_loga.py out of loga.src. -/
import Derived.Test.YtlpkpfpmcppciaaGreatDoorZ14
import Derived.Test.YtlpkpfpmcppciaaGreatDoorZ15
import Derived.Test.YtlpkpfpmcppciaaGreatDoorZ7
import Derived.Test.YtlpkpfpmcppciaaGreatDoorZ15b
section
namespace Go.Proofs.YtlpkpfpmcppciaaGreatDoor
set_option linter.unusedSimpArgs false
set_option linter.unusedVariables false
open Go.RowKit As
theorem str_of {s t : ByteArray} (h : s.toList = t.toList) : s = t := by
 have := beq_str s t
 rw [h, beq_self_eq_true] at this
 exact of_decide_eq_true this.symm
theorem foundAt_true {N : List Wr} {x : Wr} {q : Nat} (h : foundAt N x q = true) : ∃ y, N[q]? = some y ∧ wid y = wid x := by
 unfold foundAt at h
 split at h
 ·rename_i y hy; exact ⟨y, hy, of_decide_eq_true h⟩
 ·cases h
/-- What Accept answers: v is its error. -/
structure AccP (w : World) (B : Nat) (c : LgC) (rep : Int) (R : Lg × Nat × Int × Int) (e : Ending) (w' : World) : Prop where
 ex : ∃ (c' : LgC) (v : Value) (S' : List Wr), c'.p = c.p ∧ e = .returned (.tuple #[.int .i64 (R.2.1 : Int), v]) ∧ ErrIs w' v R.2.2.1 R.2.2.2 ∧ SortOf R.1.2 S' ∧ LogAt w' B c' rep R.1.1 S' ∧ Moves c.foot c'.foot w w'
def la4V (p gb ch n c_ : Nat) (AH A : Option Addr) (V f : List Ent) (g : Unit) : Nat → Value
 | 0 => .pointer (some ⟨p, 0, none⟩)
 | 1 => .pointer (some ⟨p, 0, none⟩)
 | 2 => .pointer (some ⟨p, 1, none⟩)
 | 3 => .slice AH V.length ch
 | 4 => .pointer (some ⟨gb, 0, none⟩)
 | 5 => .slice A n c_
 | 6 => .bool (vcovers V f)
 | 7 => .bool (!vcovers V f)
 | _ => undef
def la6V (p gb ch n' c' : Nat) (AH A' : Option Addr) (V hh : List Ent) (gz : Value) : Nat → Value
 | 0 => .pointer (some ⟨p, 0, none⟩)
 | 1 => .pointer (some ⟨p, 0, none⟩)
 | 2 => .pointer (some ⟨p, 1, none⟩)
 | 3 => .slice AH V.length ch
 | 4 => .pointer (some ⟨gb, 1, none⟩)
 | 5 => .slice A' n' c'
 | 6 => .tuple #[gz, errV (vjoin V hh).2]
 | 7 => .tuple #[gz, errV (vjoin V hh).2]
 | 8 => gz
 | 9 => errV (vjoin V hh).2
 | 10 => gz
 | 11 => errV (vjoin V hh).2
 | _ => undef
def la15V (gn gw q cN : Nat) (N : List Wr) (x1 x2 x3 x6 y1 y2 y3 y6 : Int) (x4 x5 y4 y5 : ByteArray) (bq : Bool) (g : Unit) : Nat → Value
 | 0 => .bool true
 | 1 => .bool true
 | 2 => .slice (some ⟨gn, 0, none⟩) N.length cN
 | 3 => .int .i64 (q : Int)
 | 4 => .pointer (some ⟨gn, q * 6, none⟩)
 | 5 => .agg #[.int .i64 y1, .int .i64 y2, .int .i64 y3, .string y4, .string y5, .int .i64 y6]
 | 6 => .agg #[.int .i64 x1, .int .i64 x2, .int .i64 x3, .string x4, .string x5, .int .i64 x6]
 | 7 => .bool (!bq)
 | 8 => .bool (!bq)
 | 9 => .bool (!bq)
 | _ => undef
set_option maxHeartbeats 8000000 in
set_option maxRecDepth 100000 in
theorem paccept_any {w : World} {B : Nat} {c : LgC} {rep : Int} {V : List Ent} {L_ S_ : List Wr} (h : LogAt w B c rep V S_) (hs : SortOf L_ S_) (hF : LFit V L_) (x : BatArg) (hb : Bat w x) (hf : ∀ y ∈ x.f, entFits y) (hh_ : ∀ y ∈ x.h, entFits y) (hroom : x.n' ≤ x.c') (hg : Handle w) :
  Calls Tryz.prog 19 #[.pointer (some ⟨c.p, 0, none⟩), x.v] w (AccP w B c rep (lacc V L_ x.f x.h x.l)) := by
 obtain ⟨p, hv, lv⟩ := c
 obtain ⟨AH, ch, e1, hch⟩ := own_form' h.h
 obtain ⟨AL, cl, e2, hcl⟩ := own_form' h.l
 simp only at e1 e2
 subst e1 e2
 have hbx := BxAt.new w x
 have b0 := below1 w (.cells #[.slice x.A x.n x.c, .slice x.A' x.n' x.c', .slice x.A'' x.n'' x.c''] 26)
 have h0 := h.below b0
 have hbr := bright_any _ x (hb.grow b0) hf hh_ (hg.below b0)
 obtain ⟨R, hR⟩ : ∃ R, lacc V L_ x.f x.h x.l = R := ⟨_, rfl⟩
 obtain ⟨A, n, c_, A', n', c', A'', n'', c'', f, hh, l⟩ := x
 obtain ⟨sf, sh, sl, nf, nh, nl⟩ := hb
 simp only at hbx b0 h0 hbr hR hf hh_ sf sh sl nf nh nl hroom ⊢
 have HR := Lib.hid hR
 rw [hR]
 clear hR
 have HW := Lib.hid (And.intro h.within (And.intro h.hl (And.intro h.nh h.nl)))
 have HM := Lib.hid (own_cap' h.h)
 have HCH := Lib.hid hch
 have HYR := Lib.hid hF.vr
 have HFI := Lib.hid hF
 have HS := Lib.hid hs
 have HG := Lib.hid hg
 have HRM := Lib.hid hroom
 have HNF := Lib.hid nf
 have HNH := Lib.hid nh
 have HEF0 : Hid (Ents w w.heap.size A n f) := Lib.hid ⟨sf, hf⟩
 have HEH0 : Hid (Ents w w.heap.size A' n' hh) := Lib.hid ⟨sh, hh_⟩
 have HSL0 := Lib.hid sl
 have HNL := Lib.hid nl
 have HLL : Hid (l.length = n'') := Lib.hid (slk_len wrCells 6 (by omega) (fun _ => rfl) sl)
 have HSZ : Hid (S_.length ≤ 300) := Lib.hid (by rw [hs.len]; exact hF.len)
 unfold BatArg.v at hbr ⊢
 simp only at hbr ⊢
 clear h hs hF hf hh_ sf sh sl nf nh nl hroom hg hch hcl
 go_enter Tryz.func19, Tryz.ntmps19
 go_upto_region 1 with fail
 obtain ⟨gb, hgb⟩ : ∃ g, g = w.heap.size := ⟨_, rfl⟩
 rw [← hgb] at hbx ⊢
 clear hgb
 generalize w.alloc (.cells #[.slice A n c_, .slice A' n' c', .slice A'' n'' c''] 26) = W at *
 have c0 := hbx.c0
 have c1 := hbx.c1
 have c2 := hbx.c2
 simp only at c0 c1 c2
 have HBX := Lib.hid hbx
 have HH0 := Lib.hid h0
 have HB0 := Lib.hid b0
 obtain ⟨be, hbe⟩ : ∃ be, bright f hh l = be := ⟨_, rfl⟩
 rw [hbe] at hbr
 have HBE := Lib.hid hbe
 clear hbx h0 b0 hbe
 by_cases hz : be.1 = 0
 ·go_upto_region 2 with (first | (go_at_call 53; refine hbr.mono ?_; rintro e w1 ⟨v, rfl, hE, hb1⟩; obtain rfl := err_nil hE hz))
  have h1 := HH0.out.below hb1
  have hbx1 := HBX.out.below hb1
  have HB1 := Lib.hid (HB0.out.trans (hb1.mono HB0.out.size))
  have HZ := Lib.hid hz
  clear hbr hE hz c0 c1 c2 hb1 HBX HH0 HB0
  have HEF : Hid (Ents w1 w1.heap.size A n f) := Lib.hid (HEF0.out.grow HB1.out)
  have HO1 := Lib.hid h1.h
  have k1 := (h1.rc 1 _ rfl).1
  have c0 := hbx1.c0
  simp only at k1 c0
  have HH1 := Lib.hid h1
  have HBX1 := Lib.hid hbx1
  clear h1 hbx1
  go_upto_region 4 with fail
  refine Flow.wp_region_go (by kernel_rfl) (by kernel_rfl) (by kernel_rfl) 99 rfl (by kernel_rfl) (la4V p gb ch n c_ AH A V f) (fun _ _ wz => Below w1.heap.size w1 wz) (fun _ _ => False) (()) ((Below.refl _ _).drew) ⟨?_, ?_, ?_, ?_, ?_, ?_, ?_, ?_, trivial⟩ ?_ ?_
  ·intro gz L wz K ρ hc0 hf0 hF hO hU hcl hi hd hC hK
   have e0 : ρ (.tmp 0) = .pointer (some ⟨p, 0, none⟩) := hO 0 (by kernel_rfl)
   simp [go_sem, Flow.ylP_value, Flow.ylP_skip, Flow.ylP_enter, Flow.ylP_panic, hc0, hf0, e0]
   exact hK gz wz hC (fun _ _ => rfl)
  ·intro gz L wz K ρ hc0 hf0 hF hO hU hcl hi hd hC hK
   have d0 : L 0 = true := hd ⟨0, .data⟩ (by simp) rfl
   have e20 : ρ (.tmp 20) = .pointer (some ⟨p, 0, none⟩) := hF 20 0 (by kernel_rfl) d0
   simp [go_sem, Flow.ylP_value, Flow.ylP_skip, Flow.ylP_enter, Flow.ylP_panic, hc0, hf0, e20]
   exact hK gz wz hC (fun _ _ => rfl)
  ·intro gz L wz K ρ hc0 hf0 hF hO hU hcl hi hd hC hK
   have d1 : L 1 = true := hd ⟨1, .data⟩ (by simp) rfl
   have e21 : ρ (.tmp 21) = .pointer (some ⟨p, 0, none⟩) := hF 21 1 (by kernel_rfl) d1
   simp [go_sem, Flow.ylP_value, Flow.ylP_skip, Flow.ylP_enter, Flow.ylP_panic, hc0, hf0, e21]
   exact hK gz wz hC (fun _ _ => rfl)
  ·intro gz L wz K ρ hc0 hf0 hF hO hU hcl hi hd hC hK
   have d2 : L 2 = true := hd ⟨2, .data⟩ (by simp) rfl
   have e22 : ρ (.tmp 22) = .pointer (some ⟨p, 1, none⟩) := hF 22 2 (by kernel_rfl) d2
   have cc := (hC.cell (p := ⟨p, 1, none⟩) (cell_lt k1)).trans k1
   simp [go_sem, Flow.ylP_value, Flow.ylP_skip, Flow.ylP_enter, Flow.ylP_panic, hc0, hf0, e22, cc]
   exact hK gz wz hC (fun _ _ => rfl)
  ·intro gz L wz K ρ hc0 hf0 hF hO hU hcl hi hd hC hK
   have e3 : ρ (.tmp 3) = .pointer (some ⟨gb, 0, none⟩) := hO 3 (by kernel_rfl)
   simp [go_sem, Flow.ylP_value, Flow.ylP_skip, Flow.ylP_enter, Flow.ylP_panic, hc0, hf0, e3]
   exact hK gz wz hC (fun _ _ => rfl)
  ·intro gz L wz K ρ hc0 hf0 hF hO hU hcl hi hd hC hK
   have d4 : L 4 = true := hd ⟨4, .data⟩ (by simp) rfl
   have e24 : ρ (.tmp 24) = .pointer (some ⟨gb, 0, none⟩) := hF 24 4 (by kernel_rfl) d4
   have cc := (hC.cell (p := ⟨gb, 0, none⟩) (cell_lt c0)).trans c0
   simp [go_sem, Flow.ylP_value, Flow.ylP_skip, Flow.ylP_enter, Flow.ylP_panic, hc0, hf0, e24, cc]
   exact hK gz wz hC (fun _ _ => rfl)
  ·intro gz L wz K ρ hc0 hf0 hF hO hU hcl hi hd hC hK
   have d3 : L 3 = true := hd ⟨3, .data⟩ (by simp) rfl
   have e23 : ρ (.tmp 23) = .slice AH V.length ch := hF 23 3 (by kernel_rfl) d3
   have d5 : L 5 = true := hd ⟨5, .data⟩ (by simp) rfl
   have e25 : ρ (.tmp 25) = .slice A n c_ := hF 25 5 (by kernel_rfl) d5
   simp [go_sem, Flow.ylP_value, Flow.ylP_skip, Flow.ylP_enter, Flow.ylP_panic, hc0, hf0, e23, e25]
   refine (covers_any wz V.length ch n c_ AH A V f (ents_own ((Turned.of_below (S := fun _ => False) hC).own HO1.out (fun _ _ q => q)) HYR.out) (HEF.out.grow hC) HM.out HNF.out).mono ?_
   rintro r wn ⟨rfl, hbn⟩
   exact ⟨_, rfl, hK gz wn (hC.trans (hbn.mono hC.size)) (by intro j hj; unfold la4V; split <;> first | rfl | (rw [hi] at hj; cases hj) | (have hz := hcl _ 6 (by kernel_rfl) hj; rw [hi] at hz; cases hz))⟩
  ·intro gz L wz K ρ hc0 hf0 hF hO hU hcl hi hd hC hK
   have d6 : L 6 = true := hd ⟨6, .data⟩ (by simp) rfl
   have e26 : ρ (.tmp 26) = .bool (vcovers V f) := hF 26 6 (by kernel_rfl) d6
   simp [go_sem, Flow.ylP_value, Flow.ylP_skip, Flow.ylP_enter, Flow.ylP_panic, hc0, hf0, e26]
   exact hK gz wz hC (fun _ _ => rfl)
  ·intro gz L ch wz h; exact h.elim
  ·intro gz L wz hL hC
   have HC2 := Lib.hid hC
   clear hC
   simp only [Flow.putAll, la4V]
   simp [Act.put]
   have h2 := HH1.out.below HC2.out
   have hbx2 := HBX1.out.below HC2.out
   have HB2 := Lib.hid (HB1.out.trans (HC2.out.mono HB1.out.size))
   clear k1 c0 HC2 HH1 HBX1 HO1 HEF HB1
   obtain ⟨w2, hw2⟩ : ∃ w2, w2 = wz := ⟨_, rfl⟩
   rw [← hw2] at h2 hbx2 HB2 ⊢
   clear hw2 hL
   cases hcv : vcovers V f with
   | false =>
    have HRe : Hid (R = ((V, L_), 0, 10, -1)) := Lib.hid (by rw [← HR.out]; unfold lacc; rw [HBE.out, if_neg (fun q => q HZ.out), if_pos hcv])
    have HH2 := Lib.hid h2
    clear h2 hbx2
    go_wp2
    go_ret2
    exact ⟨⟨⟨p, .slice AH V.length ch, .slice AL S_.length cl⟩, _, S_, rfl, by rw [HRe.out]; rfl, by rw [HRe.out]; exact .bare 10 (by decide), by rw [HRe.out]; exact HS.out, by rw [HRe.out]; exact HH2.out, .of_below HB2.out⟩⟩
   | true =>
    have HCV := Lib.hid hcv
    have HEH : Hid (Ents w2 w2.heap.size A' n' hh) := Lib.hid (HEH0.out.grow HB2.out)
    have HO2 := Lib.hid h2.h
    have HG2 := Lib.hid (HG.out.below HB2.out)
    have k1 := (h2.rc 1 _ rfl).1
    have c1 := hbx2.c1
    simp only at k1 c1
    have HH2 := Lib.hid h2
    have HBX2 := Lib.hid hbx2
    clear h2 hbx2 hcv
    go_upto_region 6 with fail
    refine Flow.wp_region_go (by kernel_rfl) (by kernel_rfl) (by kernel_rfl) 99 rfl (by kernel_rfl) (la6V p gb ch n' c' AH A' V hh) (fun gz L wz => Below w2.heap.size w2 wz ∧ (L 6 = true → wz.ownsRow w2.heap.size 73 2 gz (vjoin V hh).1.length (entV (vjoin V hh).1))) (fun _ _ => False) ((.slice none 0 0)) (⟨(Below.refl _ _).drew, (fun q => by cases q)⟩) ⟨?_, ?_, ?_, ?_, ?_, ?_, ?_, ?_, ?_, ?_, ?_, ?_, trivial⟩ ?_ ?_
    ·intro gz L wz K ρ hc0 hf0 hF hO hU hcl hi hd hC hK
     have e0 : ρ (.tmp 0) = .pointer (some ⟨p, 0, none⟩) := hO 0 (by kernel_rfl)
     simp [go_sem, Flow.ylP_value, Flow.ylP_skip, Flow.ylP_enter, Flow.ylP_panic, hc0, hf0, e0]
     exact hK gz wz hC (fun _ _ => rfl)
    ·intro gz L wz K ρ hc0 hf0 hF hO hU hcl hi hd hC hK
     have d0 : L 0 = true := hd ⟨0, .data⟩ (by simp) rfl
     have e30 : ρ (.tmp 30) = .pointer (some ⟨p, 0, none⟩) := hF 30 0 (by kernel_rfl) d0
     simp [go_sem, Flow.ylP_value, Flow.ylP_skip, Flow.ylP_enter, Flow.ylP_panic, hc0, hf0, e30]
     exact hK gz wz hC (fun _ _ => rfl)
    ·intro gz L wz K ρ hc0 hf0 hF hO hU hcl hi hd hC hK
     have d1 : L 1 = true := hd ⟨1, .data⟩ (by simp) rfl
     have e31 : ρ (.tmp 31) = .pointer (some ⟨p, 0, none⟩) := hF 31 1 (by kernel_rfl) d1
     simp [go_sem, Flow.ylP_value, Flow.ylP_skip, Flow.ylP_enter, Flow.ylP_panic, hc0, hf0, e31]
     exact hK gz wz hC (fun _ _ => rfl)
    ·intro gz L wz K ρ hc0 hf0 hF hO hU hcl hi hd hC hK
     have d2 : L 2 = true := hd ⟨2, .data⟩ (by simp) rfl
     have e32 : ρ (.tmp 32) = .pointer (some ⟨p, 1, none⟩) := hF 32 2 (by kernel_rfl) d2
     have cc := (hC.1.cell (p := ⟨p, 1, none⟩) (cell_lt k1)).trans k1
     simp [go_sem, Flow.ylP_value, Flow.ylP_skip, Flow.ylP_enter, Flow.ylP_panic, hc0, hf0, e32, cc]
     exact hK gz wz hC (fun _ _ => rfl)
    ·intro gz L wz K ρ hc0 hf0 hF hO hU hcl hi hd hC hK
     have e3 : ρ (.tmp 3) = .pointer (some ⟨gb, 0, none⟩) := hO 3 (by kernel_rfl)
     simp [go_sem, Flow.ylP_value, Flow.ylP_skip, Flow.ylP_enter, Flow.ylP_panic, hc0, hf0, e3]
     exact hK gz wz hC (fun _ _ => rfl)
    ·intro gz L wz K ρ hc0 hf0 hF hO hU hcl hi hd hC hK
     have d4 : L 4 = true := hd ⟨4, .data⟩ (by simp) rfl
     have e34 : ρ (.tmp 34) = .pointer (some ⟨gb, 1, none⟩) := hF 34 4 (by kernel_rfl) d4
     have cc := (hC.1.cell (p := ⟨gb, 1, none⟩) (cell_lt c1)).trans c1
     simp [go_sem, Flow.ylP_value, Flow.ylP_skip, Flow.ylP_enter, Flow.ylP_panic, hc0, hf0, e34, cc]
     exact hK gz wz hC (fun _ _ => rfl)
    ·intro gz L wz K ρ hc0 hf0 hF hO hU hcl hi hd hC hK
     have d3 : L 3 = true := hd ⟨3, .data⟩ (by simp) rfl
     have e33 : ρ (.tmp 33) = .slice AH V.length ch := hF 33 3 (by kernel_rfl) d3
     have d5 : L 5 = true := hd ⟨5, .data⟩ (by simp) rfl
     have e35 : ρ (.tmp 35) = .slice A' n' c' := hF 35 5 (by kernel_rfl) d5
     simp [go_sem, Flow.ylP_value, Flow.ylP_skip, Flow.ylP_enter, Flow.ylP_panic, hc0, hf0, e33, e35]
     refine (vjoin_any wz V.length ch n' c' AH A' V hh (ents_own ((Turned.of_below (S := fun _ => False) hC.1).own HO2.out (fun _ _ q => q)) HYR.out) (HEH.out.grow hC.1) HM.out HNH.out HCH.out HRM.out (HG2.out.below hC.1)).mono ?_
     rintro r wn ⟨v, rfl, hov, hbn⟩
     exact ⟨_, rfl, hK v wn ⟨hC.1.trans (hbn.mono hC.1.size), fun _ => own_less hov hC.1.size⟩ (by intro j hj; unfold la6V; split <;> first | rfl | (rw [hi] at hj; cases hj) | (have hz := hcl _ 6 (by kernel_rfl) hj; rw [hi] at hz; cases hz))⟩
    ·intro gz L wz K ρ hc0 hf0 hF hO hU hcl hi hd hC hK
     have d6 : L 6 = true := hd ⟨6, .data⟩ (by simp) rfl
     have e36 : ρ (.tmp 36) = .tuple #[gz, errV (vjoin V hh).2] := hF 36 6 (by kernel_rfl) d6
     simp [go_sem, Flow.ylP_value, Flow.ylP_skip, Flow.ylP_enter, Flow.ylP_panic, hc0, hf0, e36]
     exact hK gz wz hC (fun _ _ => rfl)
    ·intro gz L wz K ρ hc0 hf0 hF hO hU hcl hi hd hC hK
     have d7 : L 7 = true := hd ⟨7, .data⟩ (by simp) rfl
     have e29 : ρ (.tmp 29) = .tuple #[gz, errV (vjoin V hh).2] := hF 29 7 (by kernel_rfl) d7
     simp [go_sem, Flow.ylP_value, Flow.ylP_skip, Flow.ylP_enter, Flow.ylP_panic, hc0, hf0, e29]
     exact hK gz wz hC (fun _ _ => rfl)
    ·intro gz L wz K ρ hc0 hf0 hF hO hU hcl hi hd hC hK
     have d7 : L 7 = true := hd ⟨7, .data⟩ (by simp) rfl
     have e29 : ρ (.tmp 29) = .tuple #[gz, errV (vjoin V hh).2] := hF 29 7 (by kernel_rfl) d7
     simp [go_sem, Flow.ylP_value, Flow.ylP_skip, Flow.ylP_enter, Flow.ylP_panic, hc0, hf0, e29]
     exact hK gz wz hC (fun _ _ => rfl)
    ·intro gz L wz K ρ hc0 hf0 hF hO hU hcl hi hd hC hK
     have d8 : L 8 = true := hd ⟨8, .data⟩ (by simp) rfl
     have e37 : ρ (.tmp 37) = gz := hF 37 8 (by kernel_rfl) d8
     simp [go_sem, Flow.ylP_value, Flow.ylP_skip, Flow.ylP_enter, Flow.ylP_panic, hc0, hf0, e37]
     exact hK gz wz hC (fun _ _ => rfl)
    ·intro gz L wz K ρ hc0 hf0 hF hO hU hcl hi hd hC hK
     have d9 : L 9 = true := hd ⟨9, .data⟩ (by simp) rfl
     have e38 : ρ (.tmp 38) = errV (vjoin V hh).2 := hF 38 9 (by kernel_rfl) d9
     simp [go_sem, Flow.ylP_value, Flow.ylP_skip, Flow.ylP_enter, Flow.ylP_panic, hc0, hf0, e38]
     exact hK gz wz hC (fun _ _ => rfl)
    ·intro gz L ch wz h; exact h.elim
    ·intro gz L wz hL hC
     have HC6 := Lib.hid (And.intro hC.1 (hC.2 (hL 6 (by decide))))
     clear hC hL
     try simp only at HC6
     obtain ⟨AV, cv, rfl⟩ := own_form HC6.out.2
     have h3 := HH2.out.below HC6.out.1
     have hbx3 := HBX2.out.below HC6.out.1
     have HB3 := Lib.hid (HB2.out.trans (HC6.out.1.mono HB2.out.size))
     have HVO := Lib.hid HC6.out.2
     have HS23 : Hid (w2.heap.size ≤ wz.heap.size ∧ w.heap.size ≤ w2.heap.size) := Lib.hid ⟨HC6.out.1.size, HB2.out.size⟩
     have HS3 : Hid (w2.heap.size ≤ wz.heap.size) := Lib.hid HC6.out.1.size
     obtain ⟨J, hJ⟩ : ∃ J, vjoin V hh = J := ⟨_, rfl⟩
     have HJ := Lib.hid hJ
     rw [hJ] at HVO
     simp only [Flow.putAll, la6V]
     simp [Act.put]
     rw [hJ]
     clear hJ HC6 HH2 HBX2 HB2 HO2 HG2 HEH k1 c1
     obtain ⟨JV, je⟩ := J
     simp only at HVO ⊢
     obtain ⟨w3, hw3⟩ : ∃ w3, w3 = wz := ⟨_, rfl⟩
     rw [← hw3] at h3 hbx3 HB3 HVO HS23 HS3 ⊢
     clear hw3
     by_cases hje : je = 0
     ·subst hje
      rw [errV_zero]
      have hcl := clonew_any h3.l (by have := HSZ.out; omega)
      have k2 := (h3.rc 2 _ rfl).1
      simp only at k2 hcl
      go_upto_region 10 with (first | (go_at_call 55; refine hcl.mono ?_; rintro e w5 ⟨vc, rfl, hoc, hb5⟩; obtain ⟨AN0, cN0, rfl⟩ := own_form hoc))
      have hbx5 := hbx3.below hb5
      have HX5 := Lib.hid (And.intro h3 HVO.out)
      have HOC := Lib.hid hoc
      have HB5 := Lib.hid hb5
      have c2 := hbx5.c2
      simp only at c2
      clear h3 hbx3 hcl k2 hbx5 hoc hb5
      have HSL : Hid (Sl w3 w3.heap.size 6 A'' n'' (l.flatMap wrCells)) := Lib.hid (HSL0.out.grow HB3.out)
      have HRI : Hid (Rise l) := Lib.hid (bright_rise (f := f) (h := hh) (by rw [HBE.out]; exact HZ.out))
      have HL60 : Hid (l.length ≤ 60) := Lib.hid (bright_ok (f := f) (h := hh) (by rw [HBE.out]; exact HZ.out)).2.2.2.1
      go_wp2
      clear c2
      go_loopw [9, 10, 50] (fun v9 v10 v50 wr => ∃ (k : Nat) (N : List Wr), k ≤ n'' ∧ v50 = .int .i64 (k : Int) ∧ v10 = .int .i64 ((fresh L_ (l.take k)).length : Int) ∧ wr.ownsRow w3.heap.size 32 6 v9 N.length (N.flatMap wrCells) ∧ Hid (Mid L_ l k N ∧ CAt L_ l k) ∧ Below w3.heap.size w3 wr) (fun _ _ i _ => n'' - (intOf i).toNat)
      case atStart => exact ⟨0, S_, Nat.zero_le _, rfl, rfl, HOC.out, Lib.hid ⟨.zero HS.out, .zero _ _⟩, HB5.out⟩
      case round =>
       obtain ⟨k, N, hk, rfl, rfl, hoN, HMD, hb⟩ := hrel
       clear HOC HB5
       by_cases hlt : k < n''
       ·obtain ⟨b, o, ⟨x1, x2, x3, x4, x5, x6⟩, rfl, hbl, hx, hc⟩ := slk_at wrCells 6 (fun _ => rfl) HSL.out HLL.out hlt
        have c0 := (hb.cell (p := ⟨b, _, none⟩) hbl).trans (hc 0 _ rfl)
        have c1 := (hb.cell (p := ⟨b, _, none⟩) hbl).trans (hc 1 _ rfl)
        have c2 := (hb.cell (p := ⟨b, _, none⟩) hbl).trans (hc 2 _ rfl)
        have c3 := (hb.cell (p := ⟨b, _, none⟩) hbl).trans (hc 3 _ rfl)
        have c4 := (hb.cell (p := ⟨b, _, none⟩) hbl).trans (hc 4 _ rfl)
        have c5 := (hb.cell (p := ⟨b, _, none⟩) hbl).trans (hc 5 _ rfl)
        simp only [Nat.add_zero] at c0
        obtain ⟨AN, cN, rfl⟩ := own_form hoN
        have HX := Lib.hid hx
        have bA := below1 wr (.cells #[.int .i64 x1, .int .i64 x2, .int .i64 x3, .string x4, .string x5, .int .i64 x6] 32)
        have hGW : RC (wr.alloc (.cells #[.int .i64 x1, .int .i64 x2, .int .i64 x3, .string x4, .string x5, .int .i64 x6] 32)) wr.heap.size (wrCells (x1, x2, x3, x4, x5, x6)) := RC.new wr (wrCells (x1, x2, x3, x4, x5, x6)) _
        have hoA := hoN.alloc (.cells #[.int .i64 x1, .int .i64 x2, .int .i64 x3, .string x4, .string x5, .int .i64 x6] 32)
        have hbA := hb.trans (bA.mono hb.size)
        have HNG : Hid ((Value.slice AN N.length cN).ownBlock ≠ some wr.heap.size) := Lib.hid (fun e => by have := (hoN.lt _ e).2; omega)
        obtain ⟨gw, hgw⟩ : ∃ g, g = wr.heap.size := ⟨_, rfl⟩
        have HNN : Hid (N.length ≤ 400 ∧ (fresh L_ (l.take k)).length ≤ 400) := Lib.hid (by
         have h1 := HMD.out.1.len
         have h2 := fresh_len L_ (l.take k)
         have h3 : (l.take k).length ≤ 60 := by rw [List.length_take]; have := HL60.out; omega
         have h4 := HFI.out.len
         omega)
        have W1 := Lib.hid (w_one (a := k) (by have := HLL.out; have := HL60.out; omega))
        have HM1 : Hid (n'' - (k + 1) < n'' - k) := Lib.hid (by omega)
        have HK1 : Hid (k + 1 ≤ n'') := Lib.hid hlt
        have hbs := bsearch_any hoA rfl HMD.out.1.s.rise (by have := HNN.out; omega) (x1, x2, x3, x4, x5, x6)
        unfold wrV at hbs
        simp only at hbs
        rw [← hgw] at hGW HNG
        clear hc hx hbl hlt hk hoN hb bA
        go_upto_region 14 with fail
        rw [← hgw]
        clear hgw c0 c1 c2 c3 c4 c5
        generalize wr.alloc (.cells #[.int .i64 x1, .int .i64 x2, .int .i64 x3, .string x4, .string x5, .int .i64 x6] 32) = WA at *
        have g0 := (hGW 0 _ rfl).1
        have g1 := (hGW 1 _ rfl).1
        have g2 := (hGW 2 _ rfl).1
        have g3 := (hGW 3 _ rfl).1
        have g4 := (hGW 4 _ rfl).1
        have g5 := (hGW 5 _ rfl).1
        have HGW := Lib.hid hGW
        have HOA := Lib.hid hoA
        have HBA := Lib.hid hbA
        clear hGW hoA hbA
        go_upto_region 15 with (first | (go_at_call 56; refine hbs.mono ?_; rintro e w4 ⟨q, hq, rfl, hb4⟩))
        have hGW4 := HGW.out.below hb4
        have hoN4 := (Turned.of_below (S := fun _ => False) hb4).own HOA.out (fun _ _ q => q)
        have hbb4 := HBA.out.trans (hb4.mono HBA.out.size)
        have hfk : foundAt N (x1, x2, x3, x4, x5, x6) q = knows L_ (x1, x2, x3, x4, x5, x6) := (hq.found HMD.out.1.s.rise).trans (HMD.out.1.knows HRI.out HX.out)
        have HQ := Lib.hid hq
        clear hbs g0 g1 g2 g3 g4 g5 hb4 HGW HOA HBA hq
        have g0 := (hGW4 0 _ rfl).1
        have g1 := (hGW4 1 _ rfl).1
        have g2 := (hGW4 2 _ rfl).1
        have g3 := (hGW4 3 _ rfl).1
        have g4 := (hGW4 4 _ rfl).1
        have g5 := (hGW4 5 _ rfl).1
        have HFK := Lib.hid hfk
        rw [hfk]
        clear hfk
        cases hkn : knows L_ (x1, x2, x3, x4, x5, x6) with
        | true =>
         obtain ⟨⟨y1, y2, y3, y4, y5, y6⟩, hy, hwy⟩ := foundAt_true (HFK.out.trans hkn)
         have hql : q < N.length := (List.getElem?_eq_some_iff.1 hy).1
         obtain ⟨gn, rfl⟩ := own_some_of hoN4 (by omega)
         have cy := wr_cells_own hoN4 rfl hy
         have r0 : w4.cell? ⟨gn, q * 6, none⟩ = some (.int .i64 y1) := cy 0 _ rfl
         have r1 : w4.cell? ⟨gn, q * 6 + 1, none⟩ = some (.int .i64 y2) := cy 1 _ rfl
         have r2 : w4.cell? ⟨gn, q * 6 + 2, none⟩ = some (.int .i64 y3) := cy 2 _ rfl
         have r3 : w4.cell? ⟨gn, q * 6 + 3, none⟩ = some (.string y4) := cy 3 _ rfl
         have r4 : w4.cell? ⟨gn, q * 6 + 4, none⟩ = some (.string y5) := cy 4 _ rfl
         have r5 : w4.cell? ⟨gn, q * 6 + 5, none⟩ = some (.int .i64 y6) := cy 5 _ rfl
         have hi1 : (0 : Int) ≤ (q : Int) ∧ (q : Int) < (N.length : Int) := by omega
         have hi2 : (q : Int).toNat = q := by omega
         have hi3 : q < N.length := hql
         obtain ⟨bq, hbq⟩ : ∃ bq, decide ((y1, y2, y3, y4, y5, y6) = (x1, x2, x3, x4, x5, x6)) = bq := ⟨_, rfl⟩
         have HBQ := Lib.hid hbq
         have HCL : Hid (clash L_ (x1, x2, x3, x4, x5, x6) = !bq) := Lib.hid (by rw [HMD.out.1.clash HRI.out HX.out hy hwy, hbq])
         have HKN := Lib.hid hkn
         have HON4 := Lib.hid hoN4
         have HBB4 := Lib.hid hbb4
         simp at hbq
         clear cy hy hwy hql hkn hoN4 hbb4 hGW4
         refine Flow.wp_region_guard [(1, true)] (by kernel_rfl) (by kernel_rfl) (by kernel_rfl) 99 rfl (by kernel_rfl) (la15V gn gw q cN N x1 x2 x3 x6 y1 y2 y3 y6 x4 x5 y4 y5 bq) (by intro g p hp; simp only [List.mem_cons, List.not_mem_nil, or_false] at hp; rcases hp with rfl <;> rfl) (fun _ _ wz => Below w4.heap.size w4 wz) (fun _ _ => False) (()) ((Below.refl _ _).drew) ⟨?_, ?_, ?_, ?_, ?_, ?_, ?_, ?_, ?_, ?_, trivial⟩ ?_ ?_
         ·intro gz L wz K ρ hc0 hf0 hF hO hU hcl hi hd hC hK
          have e14 : ρ (.tmp 14) = .bool true := hO 14 (by kernel_rfl)
          simp [go_sem, Flow.ylP_value, Flow.ylP_skip, Flow.ylP_enter, Flow.ylP_panic, hc0, hf0, e14]
          exact hK gz wz hC (fun _ _ => rfl)
         ·intro gz L wz K ρ hc0 hf0 hF hO hU hcl hi hd hC hK
          have d0 : L 0 = true := hd ⟨0, .data⟩ (by simp) rfl
          have e62 : ρ (.tmp 62) = .bool true := hF 62 0 (by kernel_rfl) d0
          simp [go_sem, Flow.ylP_value, Flow.ylP_skip, Flow.ylP_enter, Flow.ylP_panic, hc0, hf0, e62]
          exact hK gz wz hC (fun _ _ => rfl)
         ·intro gz L wz K ρ hc0 hf0 hF hO hU hcl hi hd hC hK
          have e9 : ρ (.tmp 9) = .slice (some ⟨gn, 0, none⟩) N.length cN := hO 9 (by kernel_rfl)
          simp [go_sem, Flow.ylP_value, Flow.ylP_skip, Flow.ylP_enter, Flow.ylP_panic, hc0, hf0, e9]
          exact hK gz wz hC (fun _ _ => rfl)
         ·intro gz L wz K ρ hc0 hf0 hF hO hU hcl hi hd hC hK
          have e13 : ρ (.tmp 13) = .int .i64 (q : Int) := hO 13 (by kernel_rfl)
          simp [go_sem, Flow.ylP_value, Flow.ylP_skip, Flow.ylP_enter, Flow.ylP_panic, hc0, hf0, e13]
          exact hK gz wz hC (fun _ _ => rfl)
         ·intro gz L wz K ρ hc0 hf0 hF hO hU hcl hi hd hC hK
          have d2 : L 2 = true := hd ⟨2, .data⟩ (by simp) rfl
          have e64 : ρ (.tmp 64) = .slice (some ⟨gn, 0, none⟩) N.length cN := hF 64 2 (by kernel_rfl) d2
          have d3 : L 3 = true := hd ⟨3, .data⟩ (by simp) rfl
          have e65 : ρ (.tmp 65) = .int .i64 (q : Int) := hF 65 3 (by kernel_rfl) d3
          simp [go_sem, Flow.ylP_value, Flow.ylP_skip, Flow.ylP_enter, Flow.ylP_panic, hc0, hf0, e64, e65, hi1, hi2, hi3]
          exact hK gz wz hC (fun _ _ => rfl)
         ·intro gz L wz K ρ hc0 hf0 hF hO hU hcl hi hd hC hK
          have d4 : L 4 = true := hd ⟨4, .data⟩ (by simp) rfl
          have e66 : ρ (.tmp 66) = .pointer (some ⟨gn, q * 6, none⟩) := hF 66 4 (by kernel_rfl) d4
          have cc0 := (hC.cell (p := ⟨gn, q * 6, none⟩) (cell_lt r0)).trans r0
          have cc1 := (hC.cell (p := ⟨gn, q * 6 + 1, none⟩) (cell_lt r1)).trans r1
          have cc2 := (hC.cell (p := ⟨gn, q * 6 + 2, none⟩) (cell_lt r2)).trans r2
          have cc3 := (hC.cell (p := ⟨gn, q * 6 + 3, none⟩) (cell_lt r3)).trans r3
          have cc4 := (hC.cell (p := ⟨gn, q * 6 + 4, none⟩) (cell_lt r4)).trans r4
          have cc5 := (hC.cell (p := ⟨gn, q * 6 + 5, none⟩) (cell_lt r5)).trans r5
          simp [go_sem, Flow.ylP_value, Flow.ylP_skip, Flow.ylP_enter, Flow.ylP_panic, hc0, hf0, e66, cc0, cc1, cc2, cc3, cc4, cc5]
          exact hK gz wz hC (fun _ _ => rfl)
         ·intro gz L wz K ρ hc0 hf0 hF hO hU hcl hi hd hC hK
          have e12 : ρ (.tmp 12) = .pointer (some ⟨gw, 0, none⟩) := hO 12 (by kernel_rfl)
          have cc0 := (hC.cell (p := ⟨gw, 0, none⟩) (cell_lt g0)).trans g0
          have cc1 := (hC.cell (p := ⟨gw, 1, none⟩) (cell_lt g1)).trans g1
          have cc2 := (hC.cell (p := ⟨gw, 2, none⟩) (cell_lt g2)).trans g2
          have cc3 := (hC.cell (p := ⟨gw, 3, none⟩) (cell_lt g3)).trans g3
          have cc4 := (hC.cell (p := ⟨gw, 4, none⟩) (cell_lt g4)).trans g4
          have cc5 := (hC.cell (p := ⟨gw, 5, none⟩) (cell_lt g5)).trans g5
          simp [go_sem, Flow.ylP_value, Flow.ylP_skip, Flow.ylP_enter, Flow.ylP_panic, hc0, hf0, e12, cc0, cc1, cc2, cc3, cc4, cc5]
          exact hK gz wz hC (fun _ _ => rfl)
         ·intro gz L wz K ρ hc0 hf0 hF hO hU hcl hi hd hC hK
          have d5 : L 5 = true := hd ⟨5, .data⟩ (by simp) rfl
          have e67 : ρ (.tmp 67) = .agg #[.int .i64 y1, .int .i64 y2, .int .i64 y3, .string y4, .string y5, .int .i64 y6] := hF 67 5 (by kernel_rfl) d5
          have d6 : L 6 = true := hd ⟨6, .data⟩ (by simp) rfl
          have e68 : ρ (.tmp 68) = .agg #[.int .i64 x1, .int .i64 x2, .int .i64 x3, .string x4, .string x5, .int .i64 x6] := hF 68 6 (by kernel_rfl) d6
          simp [go_sem, Flow.ylP_value, Flow.ylP_skip, Flow.ylP_enter, Flow.ylP_panic, hc0, hf0, e67, e68]
          have hk : K (.bool (!bq)) wz := hK gz wz hC (fun _ _ => rfl)
          rcases Bool.eq_false_or_eq_true bq with hb1 | hb1
          ·have hE := of_decide_eq_true (HBQ.out.trans hb1)
           simp only [Prod.mk.injEq] at hE
           obtain ⟨z1, z2, z3, z4, z5, z6⟩ := hE
           rw [hb1] at hk
           simp only [z1, z2, z3, z4, z5, z6, if_true]
           exact hk
          ·have hE := of_decide_eq_false (HBQ.out.trans hb1)
           rw [hb1] at hk
           repeat' split
           all_goals (first | exact hk | (exfalso; apply hE; simp only [Prod.mk.injEq]; refine ⟨by assumption, by assumption, by assumption, str_of (by assumption), str_of (by assumption), by assumption⟩))
         ·intro gz L wz K ρ hc0 hf0 hF hO hU hcl hi hd hC hK
          have d1 : L 1 = true := hd ⟨1, .data⟩ (by simp) rfl
          have e63 : ρ (.tmp 63) = .bool true := hF 63 1 (by kernel_rfl) d1
          have d7 : L 7 = true := hd ⟨7, .data⟩ (by simp) rfl
          have e69 : ρ (.tmp 69) = .bool (!bq) := hF 69 7 (by kernel_rfl) d7
          simp [go_sem, Flow.ylP_value, Flow.ylP_skip, Flow.ylP_enter, Flow.ylP_panic, hc0, hf0, e63, e69]
          exact hK gz wz hC (fun _ _ => rfl)
         ·intro gz L wz K ρ hc0 hf0 hF hO hU hcl hi hd hC hK
          have d8 : L 8 = true := hd ⟨8, .data⟩ (by simp) rfl
          have e70 : ρ (.tmp 70) = .bool (!bq) := hF 70 8 (by kernel_rfl) d8
          simp [go_sem, Flow.ylP_value, Flow.ylP_skip, Flow.ylP_enter, Flow.ylP_panic, hc0, hf0, e70]
          exact hK gz wz hC (fun _ _ => rfl)
         ·intro gz L ch wz h; exact h.elim
         ·intro gz L wz hL hC
          have HC5 := Lib.hid hC
          clear hC
          simp only [Flow.putAll, la15V]
          simp [Act.put]
          cases bq with
          | true =>
           have HM7 : Hid (Mid L_ l (k + 1) N ∧ CAt L_ l (k + 1)) := Lib.hid ⟨HMD.out.1.same HX.out HKN.out, HMD.out.2.succ HX.out HCL.out⟩
           have HFL : Hid ((fresh L_ (l.take (k + 1))).length = (fresh L_ (l.take k)).length) := Lib.hid (by rw [fresh_take HX.out, HKN.out]; simp)
           have ho7 := (Turned.of_below (S := fun _ => False) HC5.out).own HON4.out (fun _ _ q => q)
           have hb7 := HBB4.out.trans (HC5.out.mono HBB4.out.size)
           obtain ⟨k1, k2⟩ := W1.out
           obtain ⟨F, hFe⟩ : ∃ F, F = (fresh L_ (l.take k)).length := ⟨_, rfl⟩
           rw [← hFe] at HFL ⊢
           clear hFe
           go_wp2
           go_roundw
           case rel => exact ⟨k + 1, N, HK1.out, by go_num, by rw [HFL.out], ho7, HM7, hb7⟩
           case measure => simpa [intOf] using HM1.out
          | false =>
           have HRe : Hid (R = ((V, L_), 0, 9, (k : Int))) := Lib.hid (by rw [← HR.out]; unfold lacc; rw [HBE.out, if_neg (fun q => q HZ.out), if_neg (by rw [HCV.out]; decide), HJ.out, if_neg (fun q => q rfl), HMD.out.2.bad HX.out HCL.out])
           have hb7 := HB3.out.trans ((HBB4.out.trans (HC5.out.mono HBB4.out.size)).mono HB3.out.size)
           have HL7 := Lib.hid (HX5.out.1.below (HBB4.out.trans (HC5.out.mono HBB4.out.size)))
           have HB7 := Lib.hid hb7
           clear hb7
           go_wp2
           go_ret2
           exact ⟨⟨⟨p, .slice AH V.length ch, .slice AL S_.length cl⟩, _, S_, rfl, by rw [HRe.out]; rfl, by rw [HRe.out]; exact err_new wz 9 (k : Int) (by decide), by rw [HRe.out]; exact HS.out, by rw [HRe.out]; exact HL7.out.below (below1 _ _), .of_below (HB7.out.alloc HB7.out.size _)⟩⟩
        | false =>
         have HKN := Lib.hid hkn
         have HCL : Hid (clash L_ (x1, x2, x3, x4, x5, x6) = false) := Lib.hid (clash_unknown hkn)
         have HON4 := Lib.hid hoN4
         have HBB4 := Lib.hid hbb4
         have HGW4 := Lib.hid hGW4
         have HB34 : Hid (w3.heap.size ≤ w4.heap.size) := Lib.hid hbb4.size
         have HNB : Hid (∀ j, (Value.slice AN N.length cN).ownBlock = some j → j < w4.heap.size) := Lib.hid (fun j hj => (hoN4.lt j hj).2)
         clear hkn hoN4 hbb4 hGW4
         refine wp_region_inv (by kernel_rfl) (by kernel_rfl) ?_
         repeat (go_big_quiet_step (fail))
         refine wpQuiet_nil ?_
         intro _ hw'
         obtain ⟨xw, rfl⟩ := hw'
         have hoX := (Turned.of_below (S := fun _ => False) xw.below).own HON4.out (fun _ _ q => q)
         have hGX := HGW4.out.below xw.below
         have hbX := HBB4.out.trans (xw.below.mono HBB4.out.size)
         have hsX : w4.heap.size ≤ xw.w.heap.size := xw.below.size
         generalize xw.w = wX at *
         clear g0 g1 g2 g3 g4 g5
         have g0 := (hGX 0 _ rfl).1
         have g1 := (hGX 1 _ rfl).1
         have g2 := (hGX 2 _ rfl).1
         have g3 := (hGX 3 _ rfl).1
         have g4 := (hGX 4 _ rfl).1
         have g5 := (hGX 5 _ rfl).1
         have hin := insw_any (hoX.alloc (.cells #[.int .i64 x1, .int .i64 x2, .int .i64 x3, .string x4, .string x5, .int .i64 x6] 32)) q (by have := HQ.out.le; omega) (x1, x2, x3, x4, x5, x6) wX.heap.size (by have := HNN.out; omega) (by have := HB34.out; simp; omega) (heap_alloc_new wX _) (fun e => by have := HNB.out _ e; omega)
         have WF := Lib.hid (w_one (a := (fresh L_ (l.take k)).length) (by have := HNN.out; omega))
         have HFL : Hid ((fresh L_ (l.take (k + 1))).length = (fresh L_ (l.take k)).length + 1) := Lib.hid (by rw [fresh_take HX.out, HKN.out, List.length_append]; rfl)
         have bX := hbX.alloc hbX.size (.cells #[.int .i64 x1, .int .i64 x2, .int .i64 x3, .string x4, .string x5, .int .i64 x6] 32)
         have HBX := Lib.hid bX
         have HSX := Lib.hid hsX
         obtain ⟨F, hFe⟩ : ∃ F, F = (fresh L_ (l.take k)).length := ⟨_, rfl⟩
         rw [← hFe] at WF HFL ⊢
         clear hFe hoX hGX hbX hsX bX
         go_upto_region 19 with (first | (go_at_call 59; refine hin.mono ?_; rintro e w7 ⟨v', rfl, hins⟩; obtain ⟨A9, c9, rfl⟩ := own_form hins.own))
         have hb7 : Below w3.heap.size w3 w7 := HBX.out.trans ((hins.turn).below (fun i hi => (HON4.out.lt i hi).1) HBX.out.size)
         have ho7 : w7.ownsRow w3.heap.size 32 6 (.slice A9 (N.length + 1) c9) (wIns N q (x1, x2, x3, x4, x5, x6)).length ((wIns N q (x1, x2, x3, x4, x5, x6)).flatMap wrCells) := by rw [wIns_len]; exact hins.own
         have HM7 : Hid (Mid L_ l (k + 1) (wIns N q (x1, x2, x3, x4, x5, x6)) ∧ CAt L_ l (k + 1)) := Lib.hid ⟨HMD.out.1.put HRI.out HX.out HKN.out HQ.out, HMD.out.2.succ HX.out HCL.out⟩
         obtain ⟨f1, f2⟩ := WF.out
         obtain ⟨k1, k2⟩ := W1.out
         clear hin g0 g1 g2 g3 g4 g5 hins
         go_wp2
         go_roundw
         case rel => exact ⟨k + 1, wIns N q (x1, x2, x3, x4, x5, x6), HK1.out, by go_num, by rw [HFL.out]; simp, ho7, HM7, hb7⟩
         case measure => simpa [intOf] using HM1.out
       ·obtain rfl : k = n'' := by omega
        have hall := HMD.out.1.all (by rw [HLL.out]; exact Nat.le_refl _)
        have hcn := HMD.out.2.all (by rw [HLL.out]; exact Nat.le_refl _)
        have htk : l.take k = l := List.take_of_length_le (by rw [HLL.out]; exact Nat.le_refl _)
        rw [htk]
        have HNL : Hid (N.length = L_.length + (fresh L_ l).length) := Lib.hid (by rw [hall.len, List.length_append])
        obtain ⟨AN, cN, rfl⟩ := own_form hoN
        have HON := Lib.hid hoN
        have h9 := HX5.out.1.below hb
        have hvo9 := (Turned.of_below (S := fun _ => False) hb).own HX5.out.2 (fun _ _ q => q)
        have HB9 := Lib.hid (HB3.out.trans (hb.mono HB3.out.size))
        have HALL := Lib.hid hall
        have HCN := Lib.hid hcn
        clear hlt hk hall hcn htk hb hoN
        by_cases hfull : 300 < N.length
        ·have d3 : decide ((300 : Int) < (N.length : Int)) = true := decide_eq_true (by omega)
         have HRe : Hid (R = ((V, L_), 0, 12, -1)) := Lib.hid (by rw [← HR.out]; unfold lacc; rw [HBE.out, if_neg (fun q => q HZ.out), if_neg (by rw [HCV.out]; decide), HJ.out, if_neg (fun q => q rfl), HCN.out]; simp only; rw [if_pos (by rw [← HNL.out]; exact hfull)])
         have HH9 := Lib.hid h9
         clear hfull h9 hvo9
         go_wp2
         go_ret2
         exact ⟨⟨⟨p, .slice AH V.length ch, .slice AL S_.length cl⟩, _, S_, rfl, by rw [HRe.out]; rfl, by rw [HRe.out]; exact .bare 12 (by decide), by rw [HRe.out]; exact HS.out, by rw [HRe.out]; exact HH9.out, .of_below HB9.out⟩⟩
        ·have d3 : decide ((300 : Int) < (N.length : Int)) = false := decide_eq_false (by omega)
         have HRe : Hid (R = ((JV, L_ ++ fresh L_ l), (fresh L_ l).length, 0, -1)) := Lib.hid (by rw [← HR.out]; unfold lacc; rw [HBE.out, if_neg (fun q => q HZ.out), if_neg (by rw [HCV.out]; decide), HJ.out, if_neg (fun q => q rfl), HCN.out]; simp only; rw [if_neg (by rw [← HNL.out]; exact hfull)])
         have HPG : Hid (p < w.heap.size ∧ B ≤ p) := Lib.hid ⟨(HW.out.1 p (.inl rfl)).2, (HW.out.1 p (.inl rfl)).1⟩
         have k1 := (h9.rc 1 _ rfl).1
         have fk1 := (h9.rc 1 _ rfl).2
         have k2 := (h9.rc 2 _ rfl).1
         have fk2 := (h9.rc 2 _ rfl).2
         have hrc : RC ((wr.setCell ⟨p, 1, none⟩ (.slice AV JV.length cv)).setCell ⟨p, 2, none⟩ (.slice AN N.length cN)) p [.int .i64 rep, .slice AV JV.length cv, .slice AN N.length cN] := (h9.rc.set 1 _ (by simp)).set 2 _ (by simp)
         have hT : Turned (fun i => i = p) wr ((wr.setCell ⟨p, 1, none⟩ (.slice AV JV.length cv)).setCell ⟨p, 2, none⟩ (.slice AN N.length cN)) := Turned.trans (S := fun i => i = p) (.set _ _ _ rfl) (.set _ _ _ rfl)
         have hvp : (Value.slice AV JV.length cv).ownBlock ≠ some p := fun e => by have := (hvo9.lt p e).1; have := HS23.out; have := HPG.out; omega
         have hnp : (Value.slice AN N.length cN).ownBlock ≠ some p := fun e => by have := (HON.out.lt p e).1; have := HS23.out; have := HPG.out; have := HS3.out; omega
         have hvo : World.ownsRow _ B 73 2 (.slice AV JV.length cv) JV.length (entV JV) := own_less (hT.own hvo9 (fun j hj e => by rw [show j = p from e] at hj; exact hvp hj)) (by have := HS23.out; have := HPG.out; omega)
         have hno : World.ownsRow _ B 32 6 (.slice AN N.length cN) N.length (N.flatMap wrCells) := own_less (hT.own HON.out (fun j hj e => by rw [show j = p from e] at hj; exact hnp hj)) (by have := HS23.out; have := HPG.out; have := HS3.out; omega)
         have hla : LogAt _ B ⟨p, .slice AV JV.length cv, .slice AN N.length cN⟩ rep JV N := ⟨hrc, HPG.out.2, hvo, hno, hvp, hnp⟩
         have hM : Turned (LgC.foot ⟨p, .slice AH V.length ch, .slice AL S_.length cl⟩) w ((wr.setCell ⟨p, 1, none⟩ (.slice AV JV.length cv)).setCell ⟨p, 2, none⟩ (.slice AN N.length cN)) := (Turned.of_below HB9.out).trans (hT.mono (fun i hi => .inl hi))
         have hG : ∀ i, LgC.foot ⟨p, .slice AV JV.length cv, .slice AN N.length cN⟩ i → LgC.foot ⟨p, .slice AH V.length ch, .slice AL S_.length cl⟩ i ∨ w.heap.size ≤ i := fun i hi => by
          rcases hi with rfl | hi | hi
          ·exact .inl (.inl rfl)
          ·refine .inr ?_; have := (hvo9.lt i hi).1; have := HS23.out; omega
          ·refine .inr ?_; have := (HON.out.lt i hi).1; have := HS23.out; have := HS3.out; omega
         have HFIN := Lib.hid (And.intro hla (And.intro hM hG))
         obtain ⟨F, hFe⟩ : ∃ F, F = (fresh L_ l).length := ⟨_, rfl⟩
         rw [← hFe] at HRe ⊢
         clear hfull h9 hvo9 hrc hT hvo hno hla hM hG hvp hnp hFe
         go_wp2
         go_ret2
         exact ⟨⟨⟨p, .slice AV JV.length cv, .slice AN N.length cN⟩, _, N, rfl, by rw [HRe.out]; rfl, by rw [HRe.out]; exact .none, by rw [HRe.out]; exact HALL.out, by rw [HRe.out]; exact HFIN.out.1, HFIN.out.2.1, HFIN.out.2.2⟩⟩
     ·have HJE := Lib.hid hje
      rw [errV_of hje]
      have HRe : Hid (R = ((V, L_), 0, je, -1)) := Lib.hid (by rw [← HR.out]; unfold lacc; rw [HBE.out, if_neg (fun q => q HZ.out), if_neg (by rw [HCV.out]; decide), HJ.out, if_pos hje])
      have HH3 := Lib.hid h3
      clear hje h3 hbx3
      go_wp2
      go_ret2
      exact ⟨⟨⟨p, .slice AH V.length ch, .slice AL S_.length cl⟩, _, S_, rfl, by rw [HRe.out]; rfl, by rw [HRe.out]; exact .bare je HJE.out, by rw [HRe.out]; exact HS.out, by rw [HRe.out]; exact HH3.out, .of_below HB3.out⟩⟩
 ·obtain ⟨be1, be2⟩ := be
  simp only at hz
  have HRe : Hid (R = ((V, L_), 0, be1, be2)) := Lib.hid (by rw [← HR.out]; unfold lacc; rw [HBE.out, if_pos hz])
  go_upto_region 2 with (first | (go_at_call 53; refine hbr.mono ?_; rintro e w1 ⟨v, rfl, hE, hb1⟩; obtain ⟨tt, uu, rfl⟩ := err_some hE hz))
  have HE := Lib.hid (And.intro hE (And.intro (HH0.out.below hb1) (HB0.out.trans (hb1.mono HB0.out.size))))
  clear hE hb1 hbr c0 c1 c2 hz
  go_wp2
  go_ret2
  exact ⟨⟨⟨p, .slice AH V.length ch, .slice AL S_.length cl⟩, _, S_, rfl, by rw [HRe.out]; rfl, by rw [HRe.out]; exact HE.out.1, by rw [HRe.out]; exact HS.out, by rw [HRe.out]; exact HE.out.2.1, .of_below HE.out.2.2⟩⟩
end Go.Proofs.YtlpkpfpmcppciaaGreatDoor
end
