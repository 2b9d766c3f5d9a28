/- Unframe of the reference says what unframe says. Printed by gen_unframe.py.

The law's own function big: how much a batch has.

Whether two batches are one: Same of package batch and of the reference.

How the arguments of a law are opened: slices of structs, strings and numbers, and structs by value, as lists and tuples of mine. Any program.

The law FrameReads returns true and changes nothing. -/
import Derived.Test.YtkejlnjnoiidnaaGreatDoorZ19
import Derived.Test.YtkejlnjnoiidnaaGreatDoorZ21
import Derived.Test.YtkejlnjnoiidnaaGreatDoorZ24
import Derived.Test.YtkejlnjnoiidnaaGreatDoorZ6
import Derived.Test.YtkejlnjnoiidnaaGreatDoorZ1
import Derived.Test.YtkejlnjnoiidnaaGreatDoorZ7
import Derived.Deep.Cut
import Derived.ProofKit
import Derived.OpenShut
import Derived.Deep.Slices
import Derived.Deep.Fields
section
namespace Go.Proofs.YtkejlnjnoiidnaaGreatDoor
set_option linter.unusedSimpArgs false
set_option linter.unusedVariables false
open Go.RowKit As
def put5 (w : World) (O F : Nat) (a b c : Value) (x y : Int) : World := ((((w.setCell ⟨O, 0, none⟩ a).setCell ⟨O, 1, none⟩ b).setCell ⟨O, 2, none⟩ c).setCell ⟨F, 0, none⟩ (.int .i64 x)).setCell ⟨F, 1, none⟩ (.int .i64 y)
theorem below_put5 {B O F : Nat} {a w : World} (h : Below B a w) (hO : B ≤ O) (hF : B ≤ F) (x y z : Value) (e q : Int) : Below B a (put5 w O F x y z e q) := by
 unfold put5
 exact ((((h.setCell (p := ⟨O, 0, none⟩) hO _).setCell (p := ⟨O, 1, none⟩) hO _).setCell (p := ⟨O, 2, none⟩) hO _).setCell (p := ⟨F, 0, none⟩) hF _).setCell (p := ⟨F, 1, none⟩) hF _
/-- Where a call of the reference ends that reads a batch. -/
def RFEnd (X : BR) (w : World) (e : Ending) (w' : World) : Prop :=
 ∃ x : BatArg, e = .returned (.tuple #[x.v, faultV X.2]) ∧ Bat w' x ∧ (x.f, x.h, x.l) = X.1 ∧ (x.n ≤ x.c ∧ x.n' ≤ x.c' ∧ Above w.heap.size x) ∧ Below w.heap.size w w'
theorem above_mono {B B' : Nat} {x : BatArg} (h : Above B x) (hB : B' ≤ B) : Above B' x := ⟨fun a ha => Nat.le_trans hB (h.1 a ha), fun a ha => Nat.le_trans hB (h.2.1 a ha), fun a ha => Nat.le_trans hB (h.2.2 a ha)⟩
theorem sl_low {w : World} {B N C i size n : Nat} {A : Option Addr} {xs : List Value} (h : Sl w N size A n xs) (ha : ∀ a, A = some a → B ≤ a.block) (hC : C < B) (v : Value) : Sl (w.setCell ⟨C, i, none⟩ v) N size A n xs :=
 ⟨h.1, fun hn => by
  obtain ⟨b, o, e, hb, hc⟩ := h.2 hn
  have hB : B ≤ b := ha _ e
  exact ⟨b, o, e, hb, fun j u hu => res_nb (hc j u hu) (by omega)⟩⟩
theorem Bat.low {w : World} {B C i : Nat} {x : BatArg} (h : Bat w x) (ha : Above B x) (hC : C < B) (v : Value) : Bat (w.setCell ⟨C, i, none⟩ v) x := by
 refine ⟨?_, ?_, ?_, h.nf, h.nh, h.nl⟩ <;> rw [show (w.setCell ⟨C, i, none⟩ v).heap.size = w.heap.size by simp]
 ·exact sl_low h.f ha.1 hC v
 ·exact sl_low h.h ha.2.1 hC v
 ·exact sl_low h.l ha.2.2 hC v
theorem rf_no {X : BR} {w w' : World} {e p : Int} (hX : X = (noB, e, p)) (hb : Below w.heap.size w w') : RFEnd X w (.returned (.tuple #[.agg #[nilS, nilS, nilS], .agg #[.int .i64 e, .int .i64 p]])) w' := by
 subst hX
 exact ⟨noBat, rfl, noBat_is _, rfl, noCap _, hb⟩
theorem fr_k4 {k u : Nat} (h1 : k ≤ 10) (h2 : 4 + k ≤ u) : IntKind.i64.wrap (4 + (k : Int)) = ((4 + k : Nat) : Int) ∧ wrap64 (4 + (k : Int)) = ((4 + k : Nat) : Int) ∧ 4 + k ≤ u ∧ ((4 + k : Nat) : Int) ≤ (u : Int) ∧ (0 : Int) ≤ ((4 + k : Nat) : Int) := by
 have e : (4 : Int) + (k : Int) = ((4 + k : Nat) : Int) := by omega
 rw [e]
 exact ⟨IntWalk.i64_in _ (by omega), IntWalk.wrap64_in _ (by omega), by omega, by omega, by omega⟩
theorem fr_lt {O F z y : Nat} (_ : O < y ∧ F < y) (h1 : O < z) (h2 : F < z) : O ≠ z ∧ F ≠ z ∧ O ≠ z + 1 ∧ F ≠ z + 1 := by omega
theorem fr_gt {n : Nat} (h : 1 < n) : decide ((1 : Int) < (n : Int)) = true ∧ decide (1 < n) = true := ⟨by simp only [decide_eq_true_eq]; omega, by simp only [decide_eq_true_eq]; omega⟩
theorem fr_ngt {n : Nat} (h : ¬ 1 < n) : decide ((1 : Int) < (n : Int)) = false ∧ decide (1 < n) = false := ⟨by simp only [decide_eq_false_iff_not]; omega, by simp only [decide_eq_false_iff_not]; omega⟩
theorem BxAt.nb {w : World} {K C i : Nat} {x : BatArg} (h : BxAt w K x) (hn : C ≠ K) (v : Value) : BxAt (w.setCell ⟨C, i, none⟩ v) K x := ⟨res_nb h.c0 hn, res_nb h.c1 hn, res_nb h.c2 hn⟩
theorem Two.nb {w : World} {G C i : Nat} {a b : Int} (h : Two w G a b) (hn : C ≠ G) (v : Value) : Two (w.setCell ⟨C, i, none⟩ v) G a b := ⟨res_nb h.c0 hn, res_nb h.c1 hn, by simpa using h.f0, by simpa using h.f1⟩
def ruV (a b c : Value) (e q : Int) (_ : Unit) : Nat → Value
 | 0 => .agg #[a, b, c]
 | 1 => .agg #[.int .i64 e, .int .i64 q]
 | _ => undef
set_option maxHeartbeats 8000000 in
set_option maxRecDepth 100000 in
theorem runframe_any (s : ByteArray) (w : World) (hs : s.size ≤ 1000000) :
  Calls Tryz.prog 19 #[.string s] w fun e w' => RFEnd (unframe s) w e w' := by
 have hR := RB.new w 25 29
 have b0 := (below1 w (Obj.cells #[nilS, nilS, nilS] 25)).alloc (by simp) (.cells #[.int .i64 0, .int .i64 0] 29)
 have hn : w.heap.size ≠ w.heap.size + 1 := by omega
 go_enter Tryz.func19, Tryz.ntmps19
 go_wp2_with fail
 refine (rversion_any s _ hs).mono ?_
 rintro r w1 ⟨rfl, hb1⟩
 replace hR := hR.below hb1
 have b1 := b0.trans (hb1.mono b0.size)
 have lt1 : w.heap.size + 1 < w1.heap.size := cell_lt hR.x
 have lt0 : w.heap.size < w1.heap.size := cell_lt hR.c0
 generalize hOO : w.heap.size + 1 = F at hR hn lt1
 generalize hO2 : w.heap.size = O at hR hn lt0
 have lO : w.heap.size ≤ O := Nat.le_of_eq hO2
 have lF : w.heap.size ≤ F := by omega
 have lt : O < w1.heap.size ∧ F < w1.heap.size := ⟨lt0, lt1⟩
 have LTT := Lib.hid lt
 have LO := Lib.hid lO
 have LF := Lib.hid lF
 have HN := Lib.hid hn
 clear hOO hO2 lt0 lt1 lt lO lF hn
 obtain ⟨⟨v, e⟩, hy⟩ : ∃ y, fver s = y := ⟨_, rfl⟩
 have HY := Lib.hid hy
 rw [hy]
 clear hy b0 hb1
 simp only
 by_cases he : e = 0
 ·subst he
  have h8 := (fver_good HY.out).1
  have hop := (fver_good HY.out).2.1
  by_cases h3 : v = 3
  ·subst h3
   have hUs := fbody_size h8
   have hb3 : byteOf (fbody s) 3 = byteOf s (0 + 3) := byteOf_cut (s := s) (a := 0) (b := s.size - 4) (i := 3) (by omega) (by omega)
   obtain ⟨U, hU⟩ : ∃ U, U = fbody s := ⟨_, rfl⟩
   have HU := Lib.hid hU
   rw [← hU] at hop hUs hb3
   have p3 : 3 < U.size := by omega
   have p3' : 3 ≤ U.size := by omega
   have p4 : 4 ≤ U.size := by omega
   have q0 := byteOf_eq U 3 p3
   have e0 : (U.extract 3 U.size).toList.isEmpty = false := by rw [str_empty', ByteArray.size_extract]; simp only [decide_eq_false_iff_not]; omega
   have hb3' : byteOf s 3 = U[3].toNat := by rw [← q0, hb3]
   have HOP := Lib.hid hop
   have HB3 := Lib.hid hb3'
   have hUm : U.size ≤ 1000000 := by omega
   clear hU hUs hb3 q0 hop hb3'
   go_wp2_with fail
   refine (ropen_any s _ hs).mono ?_
   rintro r w2 ⟨rfl, hb2⟩
   rw [HOP.out]
   simp only
   have b2 := b1.trans (hb2.mono b1.size)
   replace hR := hR.below hb2
   by_cases hf : 1 < byteOf s 3
   ·have H := Lib.hid (uf_form HY.out hf)
    obtain ⟨d1, d1'⟩ := fr_gt (HB3.out ▸ hf)
    clear hf
    go_wp2_with fail
    refine (bareF_any 3 _).mono ?_
    rintro r w8 ⟨rfl, hb8⟩
    have b8 := b2.trans (hb8.mono b2.size)
    replace hR := hR.below hb8
    have H1 := hR.set0 HN.out (nilS)
    have H2 := H1.set1 HN.out (nilS)
    have H3 := H2.set2 HN.out (nilS)
    have H5 := H3.setF HN.out 3 (-1)
    have bZ := below_put5 b8 LO.out LF.out (nilS) (nilS) (nilS) 3 (-1)
    have p1 := H1.c1
    have p2 := H2.c2
    have p3 := H3.x
    have p4 := res_ne (v := .int .i64 3) H3.y (i := 0) (by decide)
    have m3 := H3.fx
    have m4 := H3.fy
    obtain ⟨u0, u1, u2, u3, u4, j0, j1, j2, j3, j4⟩ := hR
    go_wp2
    unfold put5 at bZ
    obtain ⟨z0, z1, z2, z3, z4, _, _, _, _, _⟩ := H5
    exact bodyPost_ret (v := .tuple #[.agg #[nilS, nilS, nilS], .agg #[.int .i64 3, .int .i64 (-1)]]) (by simp [results, Tryz.results19, go_sem, z0, z1, z2, z3, z4]) rfl (rf_no H.out bZ)
   ·obtain ⟨d1, d1'⟩ := fr_ngt (HB3.out ▸ hf)
    have hv1 : (U.extract 4 U.size).size ≤ maxLen := by rw [ByteArray.size_extract]; unfold maxLen; omega
    have HF := Lib.hid hf
    obtain ⟨n, k, ei, ha, hi⟩ := vat_of U 4 20000
    have HVA := Lib.hid (show vint (U.extract 4 U.size).data.toList 20000 = (n, k, ei) from ha)
    have HA := Lib.hid ha
    clear hf ha
    go_wp2_with fail
    refine (rvint_any _ 20000 _ hv1 (by decide)).mono ?_
    rintro r w3 ⟨rfl, rfl⟩
    rw [HVA.out]
    simp only
    rcases hi with ⟨rfl, hn2, hk0, hk1, hk2⟩ | ⟨hei, rfl, rfl⟩
    ·have HX := Lib.hid (uf_text HY.out HF.out (by rw [← HU.out]; exact HA.out))
     obtain ⟨wk, wk2, l1, l2, l3⟩ := fr_k4 hk1 hk2
     obtain ⟨TX, hTX2⟩ : ∃ x, x = U.extract (4 + k) U.size := ⟨_, rfl⟩
     have HXT := Lib.hid (show unframe s = ufText s n TX by rw [HX.out, hTX2, ← HU.out])
     have hTXs : TX.size ≤ 1000000 := by rw [hTX2]; exact fr_cut hUm
     replace hTX2 := hTX2.symm
     clear hn2
     by_cases hq : byteOf s 3 = 1
     ·obtain ⟨d2, d2'⟩ := fr_one (HB3.out.symm.trans hq)
      have HQ := Lib.hid hq
      clear hq
      go_wp2_with fail
      refine (rswell_any TX _ hTXs).mono ?_
      rintro r w4 ⟨rfl, hb4⟩
      have hsl := swell_len TX
      obtain ⟨⟨LT, le, lp⟩, hls⟩ : ∃ y, lswell TX = y := ⟨_, rfl⟩
      have HLS := Lib.hid hls
      rw [hls] at hsl ⊢
      simp only at hsl
      unfold faultV
      simp only
      have bA := below1 w4 (.cells #[.int .i64 le, .int .i64 lp] 29)
      have tA := Two.new w4 le lp 29
      have hb4A := hb4.trans (bA.mono hb4.size)
      have b4 := b2.trans (hb4A.mono b2.size)
      replace hR := hR.below hb4A
      clear hls bA hb4
      go_wp2_with fail
      refine (is_any (le, lp) _).mono ?_
      rintro r w5 ⟨rfl, hb5⟩
      have b5 := b4.trans (hb5.mono b4.size)
      replace hR := hR.below hb5
      obtain ⟨a0, a1, _, _⟩ := tA.below hb5
      clear tA
      by_cases hle : le = 0
      ·subst hle
       have hXL := Lib.hid (uf_swollen HXT.out HQ.out HLS.out)
       have e1 : (((0, lp) : Int × Int).1 == 0) = true := rfl
       rw [e1]
       clear e1
       by_cases hl : LT.size = n
       ·have hX2 := Lib.hid (uf_read hXL.out (fun h => h hl))
        have hl5 : LT.size ≤ 1000000 := Nat.le_trans hsl (by decide)
        obtain ⟨dl, dl2⟩ := fr_len hl
        clear hl
        go_wp2_with fail
        refine (unbody_any LT _ hl5).mono ?_
        rintro r wu ⟨x, rfl, hx, hx2, hcap, hbu⟩
        have bu := b5.trans (hbu.mono b5.size)
        have hR0 := hR
        replace hR := hR.below hbu
        obtain ⟨⟨xb, xe, xp⟩, hbr⟩ : ∃ y, bread LT = y := ⟨_, rfl⟩
        have HBR := Lib.hid hbr
        have hok := bread_ok LT
        rw [hbr] at hx2 hok ⊢
        simp only at hx2 hok
        clear hbr
        unfold faultV
        simp only
        have bK := below1 wu (.cells #[.slice x.A x.n x.c, .slice x.A' x.n' x.c', .slice x.A'' x.n'' x.c''] 25)
        have kK := BxAt.new wu x
        have bG := below1 (wu.alloc (.cells #[.slice x.A x.n x.c, .slice x.A' x.n' x.c', .slice x.A'' x.n'' x.c''] 25)) (.cells #[.int .i64 xe, .int .i64 xp] 29)
        have tG := Two.new (wu.alloc (.cells #[.slice x.A x.n x.c, .slice x.A' x.n' x.c', .slice x.A'' x.n'' x.c''] 25)) xe xp 29
        rw [World.size_alloc] at tG
        have bKG := bK.trans (bG.mono (by simp))
        have b6 := bu.trans (bKG.mono bu.size)
        replace hR := hR.below bKG
        replace kK := kK.below bG
        have hx6 := hx.grow bKG
        have HAB := Lib.hid hcap.2.2
        have HCP := Lib.hid (show x.n ≤ x.c ∧ x.n' ≤ x.c' ∧ Above w.heap.size x from ⟨hcap.1, hcap.2.1, above_mono hcap.2.2 b5.size⟩)
        have LA := Lib.hid (show O < _ ∧ F < _ from ⟨cell_lt hR0.c0, cell_lt hR0.x⟩)
        have LK := Lib.hid (fr_lt LTT.out (cell_lt (hR0.below hbu).c0) (cell_lt (hR0.below hbu).x))
        clear bK bG hbu hx hR0
        unfold BatArg.v
        go_wp2_with fail
        refine (is_any (xe, xp) _).mono ?_
        rintro r w6 ⟨rfl, hb6⟩
        have b7 := b6.trans (hb6.mono b6.size)
        replace hR := hR.below hb6
        replace kK := kK.below hb6
        replace tG := tG.below hb6
        have hx7 := hx6.grow hb6
        have NK : Hid (O ≠ wu.heap.size ∧ F ≠ wu.heap.size) := Lib.hid ⟨LK.out.1, LK.out.2.1⟩
        have NG : Hid (O ≠ wu.heap.size + 1 ∧ F ≠ wu.heap.size + 1) := Lib.hid ⟨LK.out.2.2.1, LK.out.2.2.2⟩
        clear b6 hb6 hx6 bKG LK
        generalize wu.heap.size + 1 = G at *
        generalize wu.heap.size = KB at *
        by_cases hxe : xe = 0
        ·subst hxe
         have e1 : (((0, xp) : Int × Int).1 == 0) = true := rfl
         rw [e1]
         have hbr0 := hok rfl
         obtain ⟨_, hvf, hvh, _, _⟩ := bright_ok hbr0
         have hE : xb.1 = x.f ∧ xb.2.1 = x.h ∧ xb.2.2 = x.l := by rw [← hx2]; exact ⟨rfl, rfl, rfl⟩
         rw [hE.1] at hvf
         rw [hE.2.1] at hvh
         have ff := fits_of hvf
         have fh := fits_of hvh
         have kK1 := kK
         obtain ⟨k0, k1, k2⟩ := kK1
         clear hok hbr0 hvf hvh e1
         go_wp2_with fail
         refine (rframe_any _ x hx7 ff fh).mono ?_
         rintro r w7 ⟨rfl, hb7⟩
         obtain ⟨⟨ft, fe, fp⟩, hfr⟩ : ∃ y, frameOf (bwrite x.f x.h x.l) = y := ⟨_, rfl⟩
         have HFR := Lib.hid hfr
         rw [hfr]
         unfold faultV
         simp only
         clear hfr
         have bM := hb7.trans ((below1 w7 (.cells #[.int .i64 fe, .int .i64 fp] 29)).mono hb7.size)
         have b8 := b7.trans (bM.mono b7.size)
         replace hR := hR.below bM
         replace tG := tG.below bM
         replace kK := kK.below bM
         replace k0 := (bM.cell (cell_lt k0)).trans k0
         replace k1 := (bM.cell (cell_lt k1)).trans k1
         replace k2 := (bM.cell (cell_lt k2)).trans k2
         have hx8 := hx7.grow bM
         clear hb7 bM b7 hx7
         by_cases hft : ft = s
         ·subst hft
          have H := Lib.hid (uf_ok hX2.out (by rw [HBR.out]; simp) (by rw [HBR.out]; simp only; rw [hE.1, hE.2.1, hE.2.2, HFR.out]; simp))
          go_wp2_with fail
          refine Flow.wp_region_go (by kernel_rfl) (by kernel_rfl) (by kernel_rfl) 106 rfl (by kernel_rfl) (ruV (.slice x.A x.n x.c) (.slice x.A' x.n' x.c') (.slice x.A'' x.n'' x.c'') 0 xp) (fun _ L wz => Below w.heap.size w wz ∧ RB wz O F (cond (L 2) (.slice x.A x.n x.c) nilS) (cond (L 2) (.slice x.A' x.n' x.c') nilS) (cond (L 2) (.slice x.A'' x.n'' x.c'') nilS) (cond (L 3) 0 0) (cond (L 3) xp 0) ∧ Two wz G 0 xp ∧ BxAt wz KB x ∧ Bat wz x) (fun _ _ => False) (()) (⟨b8.drew, hR.drew, tG.below (Below.refl _ _).drew, kK.below (Below.refl _ _).drew, hx8.grow (Below.refl _ _).drew⟩) ⟨?_, ?_, ?_, ?_, trivial⟩ ?_ ?_
          ·intro g L wz K ρ hc0 hf0 hF hO hU hcl hi hd hC hK
           have e13 : ρ (.tmp 13) = .pointer (some ⟨KB, 0, none⟩) := hO 13 (by kernel_rfl)
           obtain ⟨x0, x1, x2⟩ := hC.2.2.2.1
           simp [go_sem, Flow.ylP_value, Flow.ylP_skip, Flow.ylP_enter, Flow.ylP_panic, hc0, hf0, e13, x0, x1, x2]
           exact hK () wz hC (fun _ _ => rfl)
          ·intro g L wz K ρ hc0 hf0 hF hO hU hcl hi hd hC hK
           have e14 : ρ (.tmp 14) = .pointer (some ⟨G, 0, none⟩) := hO 14 (by kernel_rfl)
           have a0 := hC.2.2.1.c0
           have a1 := hC.2.2.1.c1
           simp [go_sem, Flow.ylP_value, Flow.ylP_skip, Flow.ylP_enter, Flow.ylP_panic, hc0, hf0, e14, a0, a1]
           exact hK () wz hC (fun _ _ => rfl)
          ·intro g L wz K ρ hc0 hf0 hF hO hU hcl hi hd hC hK
           have e2 : ρ (.tmp 2) = .pointer (some ⟨O, 0, none⟩) := hO 2 (by kernel_rfl)
           have d0 : L 0 = true := hd ⟨0, .data⟩ (by simp) rfl
           have e104 : ρ (.tmp 104) = .agg #[.slice x.A x.n x.c, .slice x.A' x.n' x.c', .slice x.A'' x.n'' x.c''] := hF 104 0 (by kernel_rfl) d0
           rw [hi] at hC
           obtain ⟨hb0, hR0, hG0, hK0, hX0⟩ := hC
           have H1 := hR0.set0 HN.out (.slice x.A x.n x.c)
           have H2 := H1.set1 HN.out (.slice x.A' x.n' x.c')
           have H3 := H2.set2 HN.out (.slice x.A'' x.n'' x.c'')
           have a0 := hR0.c0
           have a1 := H1.c1
           have a2 := H2.c2
           have m0 := hR0.f0
           have m1 := hR0.f1
           have m2 := hR0.f2
           simp only [cond] at a0 a1 a2
           simp [go_sem, Flow.ylP_value, Flow.ylP_skip, Flow.ylP_enter, Flow.ylP_panic, hc0, hf0, e2, e104, a0, a1, a2, m0, m1, m2]
           exact hK () _ ⟨((hb0.setCell (p := ⟨O, 0, none⟩) LO.out _).setCell (p := ⟨O, 1, none⟩) LO.out _).setCell (p := ⟨O, 2, none⟩) LO.out _, H3, ((hG0.nb NG.out.1 _).nb NG.out.1 _).nb NG.out.1 _, ((hK0.nb NK.out.1 _).nb NK.out.1 _).nb NK.out.1 _, ((hX0.low HAB.out LA.out.1 _).low HAB.out LA.out.1 _).low HAB.out LA.out.1 _⟩ (fun _ _ => rfl)
          ·intro g L wz K ρ hc0 hf0 hF hO hU hcl hi hd hC hK
           have e3 : ρ (.tmp 3) = .pointer (some ⟨F, 0, none⟩) := hO 3 (by kernel_rfl)
           have d1 : L 1 = true := hd ⟨1, .data⟩ (by simp) rfl
           have e105 : ρ (.tmp 105) = .agg #[.int .i64 0, .int .i64 xp] := hF 105 1 (by kernel_rfl) d1
           rw [hi] at hC
           obtain ⟨hb0, hR0, hG0, hK0, hX0⟩ := hC
           have a0 := hR0.x
           have a1 := res_ne (v := .int .i64 0) hR0.y (i := 0) (by decide)
           have m0 := hR0.fx
           have m1 := hR0.fy
           simp only [cond] at a0 a1
           simp [go_sem, Flow.ylP_value, Flow.ylP_skip, Flow.ylP_enter, Flow.ylP_panic, hc0, hf0, e3, e105, a0, a1, m0, m1]
           exact hK () _ ⟨(hb0.setCell (p := ⟨F, 0, none⟩) LF.out _).setCell (p := ⟨F, 1, none⟩) LF.out _, hR0.setF HN.out 0 xp, (hG0.nb NG.out.2 _).nb NG.out.2 _, (hK0.nb NK.out.2 _).nb NK.out.2 _, (hX0.low HAB.out LA.out.2 _).low HAB.out LA.out.2 _⟩ (fun _ _ => rfl)
          ·intro g L ch wz h; exact h.elim
          ·intro g L wz hL hC
           rw [hL 2 (by decide), hL 3 (by decide)] at hC
           obtain ⟨bZ, hR9, hG9, hK9, hX9⟩ := hC
           obtain ⟨z0, z1, z2, z3, z4, _, _, _, _, _⟩ := hR9
           simp only [cond] at z0 z1 z2 z3 z4
           simp only [Flow.putAll, ruV]
           go_wp2
           exact bodyPost_ret (v := .tuple #[.agg #[.slice x.A x.n x.c, .slice x.A' x.n' x.c', .slice x.A'' x.n'' x.c''], .agg #[.int .i64 0, .int .i64 xp]]) (by simp [results, Tryz.results19, go_sem, z0, z1, z2, z3, z4]) rfl ⟨x, by rw [H.out, HBR.out]; rfl, hX9, by rw [H.out, HBR.out]; exact hx2, HCP.out, bZ⟩
         ·have H := Lib.hid (uf_false hX2.out (by rw [HBR.out]; simp) (by rw [HBR.out]; simp only; rw [hE.1, hE.2.1, hE.2.2, HFR.out]; exact hft))
          have hne := toList_ne hft
          have hne2 : (ft.toList == s.toList) = false := by simpa using hne
          clear hft
          go_wp2_with fail
          refine (bareF_any 13 _).mono ?_
          rintro r w9 ⟨rfl, hb9⟩
          have b9 := b8.trans (hb9.mono b8.size)
          replace hR := hR.below hb9
          have H1 := hR.set0 HN.out (nilS)
          have H2 := H1.set1 HN.out (nilS)
          have H3 := H2.set2 HN.out (nilS)
          have H5 := H3.setF HN.out 13 (-1)
          have bZ := below_put5 b9 LO.out LF.out (nilS) (nilS) (nilS) 13 (-1)
          have p1 := H1.c1
          have p2 := H2.c2
          have p3 := H3.x
          have p4 := res_ne (v := .int .i64 13) H3.y (i := 0) (by decide)
          have m3 := H3.fx
          have m4 := H3.fy
          obtain ⟨u0, u1, u2, u3, u4, j0, j1, j2, j3, j4⟩ := hR
          go_wp2
          unfold put5 at bZ
          obtain ⟨z0, z1, z2, z3, z4, _, _, _, _, _⟩ := H5
          exact bodyPost_ret (v := .tuple #[.agg #[nilS, nilS, nilS], .agg #[.int .i64 13, .int .i64 (-1)]]) (by simp [results, Tryz.results19, go_sem, z0, z1, z2, z3, z4]) rfl (rf_no H.out bZ)
        ·have H := Lib.hid (uf_bad hX2.out (by rw [HBR.out]; exact hxe))
         rw [HBR.out] at H
         have e1 : (((xe, xp) : Int × Int).1 == 0) = false := beq_eq_false_iff_ne.2 hxe
         rw [e1]
         clear hok hxe hx2 e1
         go_wp2_with fail
         refine Flow.wp_region_go (by kernel_rfl) (by kernel_rfl) (by kernel_rfl) 106 rfl (by kernel_rfl) (ruV (nilS) (nilS) (nilS) xe xp) (fun _ L wz => Below w.heap.size w wz ∧ RB wz O F (cond (L 2) (nilS) nilS) (cond (L 2) (nilS) nilS) (cond (L 2) (nilS) nilS) (cond (L 3) xe 0) (cond (L 3) xp 0) ∧ Two wz G xe xp) (fun _ _ => False) (()) (⟨b7.drew, hR.drew, tG.below (Below.refl _ _).drew⟩) ⟨?_, ?_, ?_, ?_, trivial⟩ ?_ ?_
         ·intro g L wz K ρ hc0 hf0 hF hO hU hcl hi hd hC hK
          simp [go_sem, Flow.ylP_value, Flow.ylP_skip, Flow.ylP_enter, Flow.ylP_panic, hc0, hf0]
          exact hK g wz hC (fun _ _ => rfl)
         ·intro g L wz K ρ hc0 hf0 hF hO hU hcl hi hd hC hK
          have e14 : ρ (.tmp 14) = .pointer (some ⟨G, 0, none⟩) := hO 14 (by kernel_rfl)
          have a0 := hC.2.2.c0
          have a1 := hC.2.2.c1
          simp [go_sem, Flow.ylP_value, Flow.ylP_skip, Flow.ylP_enter, Flow.ylP_panic, hc0, hf0, e14, a0, a1]
          exact hK () wz hC (fun _ _ => rfl)
         ·intro g L wz K ρ hc0 hf0 hF hO hU hcl hi hd hC hK
          have e2 : ρ (.tmp 2) = .pointer (some ⟨O, 0, none⟩) := hO 2 (by kernel_rfl)
          have d0 : L 0 = true := hd ⟨0, .data⟩ (by simp) rfl
          have e92 : ρ (.tmp 92) = .agg #[nilS, nilS, nilS] := hF 92 0 (by kernel_rfl) d0
          rw [hi] at hC
          obtain ⟨hb0, hR0, hG0⟩ := hC
          have H1 := hR0.set0 HN.out (nilS)
          have H2 := H1.set1 HN.out (nilS)
          have H3 := H2.set2 HN.out (nilS)
          have a0 := hR0.c0
          have a1 := H1.c1
          have a2 := H2.c2
          have m0 := hR0.f0
          have m1 := hR0.f1
          have m2 := hR0.f2
          simp only [cond] at a0 a1 a2
          simp [go_sem, Flow.ylP_value, Flow.ylP_skip, Flow.ylP_enter, Flow.ylP_panic, hc0, hf0, e2, e92, a0, a1, a2, m0, m1, m2]
          exact hK () _ ⟨((hb0.setCell (p := ⟨O, 0, none⟩) LO.out _).setCell (p := ⟨O, 1, none⟩) LO.out _).setCell (p := ⟨O, 2, none⟩) LO.out _, H3, ((hG0.nb NG.out.1 _).nb NG.out.1 _).nb NG.out.1 _⟩ (fun _ _ => rfl)
         ·intro g L wz K ρ hc0 hf0 hF hO hU hcl hi hd hC hK
          have e3 : ρ (.tmp 3) = .pointer (some ⟨F, 0, none⟩) := hO 3 (by kernel_rfl)
          have d1 : L 1 = true := hd ⟨1, .data⟩ (by simp) rfl
          have e93 : ρ (.tmp 93) = .agg #[.int .i64 xe, .int .i64 xp] := hF 93 1 (by kernel_rfl) d1
          rw [hi] at hC
          obtain ⟨hb0, hR0, hG0⟩ := hC
          have a0 := hR0.x
          have a1 := res_ne (v := .int .i64 xe) hR0.y (i := 0) (by decide)
          have m0 := hR0.fx
          have m1 := hR0.fy
          simp only [cond] at a0 a1
          simp [go_sem, Flow.ylP_value, Flow.ylP_skip, Flow.ylP_enter, Flow.ylP_panic, hc0, hf0, e3, e93, a0, a1, m0, m1]
          exact hK () _ ⟨(hb0.setCell (p := ⟨F, 0, none⟩) LF.out _).setCell (p := ⟨F, 1, none⟩) LF.out _, hR0.setF HN.out xe xp, (hG0.nb NG.out.2 _).nb NG.out.2 _⟩ (fun _ _ => rfl)
         ·intro g L ch wz h; exact h.elim
         ·intro g L wz hL hC
          rw [hL 2 (by decide), hL 3 (by decide)] at hC
          obtain ⟨bZ, hR9, hG9⟩ := hC
          obtain ⟨z0, z1, z2, z3, z4, _, _, _, _, _⟩ := hR9
          simp only [cond] at z0 z1 z2 z3 z4
          simp only [Flow.putAll, ruV]
          go_wp2
          exact bodyPost_ret (v := .tuple #[.agg #[nilS, nilS, nilS], .agg #[.int .i64 xe, .int .i64 xp]]) (by simp [results, Tryz.results19, go_sem, z0, z1, z2, z3, z4]) rfl (rf_no H.out bZ)
       ·have H := Lib.hid (uf_len hXL.out hl)
        obtain ⟨dl, dl2⟩ := fr_lno hl
        clear hl
        go_wp2_with fail
        refine (bareF_any 2 _).mono ?_
        rintro r w8 ⟨rfl, hb8⟩
        have b8 := b5.trans (hb8.mono b5.size)
        replace hR := hR.below hb8
        have H1 := hR.set0 HN.out (nilS)
        have H2 := H1.set1 HN.out (nilS)
        have H3 := H2.set2 HN.out (nilS)
        have H5 := H3.setF HN.out 2 (-1)
        have bZ := below_put5 b8 LO.out LF.out (nilS) (nilS) (nilS) 2 (-1)
        have p1 := H1.c1
        have p2 := H2.c2
        have p3 := H3.x
        have p4 := res_ne (v := .int .i64 2) H3.y (i := 0) (by decide)
        have m3 := H3.fx
        have m4 := H3.fy
        obtain ⟨u0, u1, u2, u3, u4, j0, j1, j2, j3, j4⟩ := hR
        go_wp2
        unfold put5 at bZ
        obtain ⟨z0, z1, z2, z3, z4, _, _, _, _, _⟩ := H5
        exact bodyPost_ret (v := .tuple #[.agg #[nilS, nilS, nilS], .agg #[.int .i64 2, .int .i64 (-1)]]) (by simp [results, Tryz.results19, go_sem, z0, z1, z2, z3, z4]) rfl (rf_no H.out bZ)
      ·have H := Lib.hid (uf_swell HXT.out HQ.out HLS.out hle)
       have e1 : (((le, lp) : Int × Int).1 == 0) = false := beq_eq_false_iff_ne.2 hle
       rw [e1]
       clear hle e1
       go_wp2_with fail
       refine (bareF_any le _).mono ?_
       rintro r w8 ⟨rfl, hb8⟩
       have b8 := b5.trans (hb8.mono b5.size)
       replace hR := hR.below hb8
       have H1 := hR.set0 HN.out (nilS)
       have H2 := H1.set1 HN.out (nilS)
       have H3 := H2.set2 HN.out (nilS)
       have H5 := H3.setF HN.out le (-1)
       have bZ := below_put5 b8 LO.out LF.out (nilS) (nilS) (nilS) le (-1)
       have p1 := H1.c1
       have p2 := H2.c2
       have p3 := H3.x
       have p4 := res_ne (v := .int .i64 le) H3.y (i := 0) (by decide)
       have m3 := H3.fx
       have m4 := H3.fy
       obtain ⟨u0, u1, u2, u3, u4, j0, j1, j2, j3, j4⟩ := hR
       go_wp2
       unfold put5 at bZ
       obtain ⟨z0, z1, z2, z3, z4, _, _, _, _, _⟩ := H5
       exact bodyPost_ret (v := .tuple #[.agg #[nilS, nilS, nilS], .agg #[.int .i64 le, .int .i64 (-1)]]) (by simp [results, Tryz.results19, go_sem, z0, z1, z2, z3, z4]) rfl (rf_no H.out bZ)
     ·obtain ⟨d2, d2'⟩ := fr_not (fun h => hq (HB3.out.trans h))
      have hXL := Lib.hid (uf_plain HXT.out hq)
      clear hq
      by_cases hl : TX.size = n
      ·have hX2 := Lib.hid (uf_read hXL.out (fun h => h hl))
       have hl5 : TX.size ≤ 1000000 := hTXs
       obtain ⟨dl, dl2⟩ := fr_len hl
       clear hl
       go_wp2_with fail
       refine (unbody_any TX _ hl5).mono ?_
       rintro r wu ⟨x, rfl, hx, hx2, hcap, hbu⟩
       have bu := b2.trans (hbu.mono b2.size)
       have hR0 := hR
       replace hR := hR.below hbu
       obtain ⟨⟨xb, xe, xp⟩, hbr⟩ : ∃ y, bread TX = y := ⟨_, rfl⟩
       have HBR := Lib.hid hbr
       have hok := bread_ok TX
       rw [hbr] at hx2 hok ⊢
       simp only at hx2 hok
       clear hbr
       unfold faultV
       simp only
       have bK := below1 wu (.cells #[.slice x.A x.n x.c, .slice x.A' x.n' x.c', .slice x.A'' x.n'' x.c''] 25)
       have kK := BxAt.new wu x
       have bG := below1 (wu.alloc (.cells #[.slice x.A x.n x.c, .slice x.A' x.n' x.c', .slice x.A'' x.n'' x.c''] 25)) (.cells #[.int .i64 xe, .int .i64 xp] 29)
       have tG := Two.new (wu.alloc (.cells #[.slice x.A x.n x.c, .slice x.A' x.n' x.c', .slice x.A'' x.n'' x.c''] 25)) xe xp 29
       rw [World.size_alloc] at tG
       have bKG := bK.trans (bG.mono (by simp))
       have b6 := bu.trans (bKG.mono bu.size)
       replace hR := hR.below bKG
       replace kK := kK.below bG
       have hx6 := hx.grow bKG
       have HAB := Lib.hid hcap.2.2
       have HCP := Lib.hid (show x.n ≤ x.c ∧ x.n' ≤ x.c' ∧ Above w.heap.size x from ⟨hcap.1, hcap.2.1, above_mono hcap.2.2 b2.size⟩)
       have LA := Lib.hid (show O < _ ∧ F < _ from ⟨cell_lt hR0.c0, cell_lt hR0.x⟩)
       have LK := Lib.hid (fr_lt LTT.out (cell_lt (hR0.below hbu).c0) (cell_lt (hR0.below hbu).x))
       clear bK bG hbu hx hR0
       unfold BatArg.v
       go_wp2_with fail
       refine (is_any (xe, xp) _).mono ?_
       rintro r w6 ⟨rfl, hb6⟩
       have b7 := b6.trans (hb6.mono b6.size)
       replace hR := hR.below hb6
       replace kK := kK.below hb6
       replace tG := tG.below hb6
       have hx7 := hx6.grow hb6
       have NK : Hid (O ≠ wu.heap.size ∧ F ≠ wu.heap.size) := Lib.hid ⟨LK.out.1, LK.out.2.1⟩
       have NG : Hid (O ≠ wu.heap.size + 1 ∧ F ≠ wu.heap.size + 1) := Lib.hid ⟨LK.out.2.2.1, LK.out.2.2.2⟩
       clear b6 hb6 hx6 bKG LK
       generalize wu.heap.size + 1 = G at *
       generalize wu.heap.size = KB at *
       by_cases hxe : xe = 0
       ·subst hxe
        have e1 : (((0, xp) : Int × Int).1 == 0) = true := rfl
        rw [e1]
        have hbr0 := hok rfl
        obtain ⟨_, hvf, hvh, _, _⟩ := bright_ok hbr0
        have hE : xb.1 = x.f ∧ xb.2.1 = x.h ∧ xb.2.2 = x.l := by rw [← hx2]; exact ⟨rfl, rfl, rfl⟩
        rw [hE.1] at hvf
        rw [hE.2.1] at hvh
        have ff := fits_of hvf
        have fh := fits_of hvh
        have kK1 := kK
        obtain ⟨k0, k1, k2⟩ := kK1
        clear hok hbr0 hvf hvh e1
        go_wp2_with fail
        refine (rframe_any _ x hx7 ff fh).mono ?_
        rintro r w7 ⟨rfl, hb7⟩
        obtain ⟨⟨ft, fe, fp⟩, hfr⟩ : ∃ y, frameOf (bwrite x.f x.h x.l) = y := ⟨_, rfl⟩
        have HFR := Lib.hid hfr
        rw [hfr]
        unfold faultV
        simp only
        clear hfr
        have bM := hb7.trans ((below1 w7 (.cells #[.int .i64 fe, .int .i64 fp] 29)).mono hb7.size)
        have b8 := b7.trans (bM.mono b7.size)
        replace hR := hR.below bM
        replace tG := tG.below bM
        replace kK := kK.below bM
        replace k0 := (bM.cell (cell_lt k0)).trans k0
        replace k1 := (bM.cell (cell_lt k1)).trans k1
        replace k2 := (bM.cell (cell_lt k2)).trans k2
        have hx8 := hx7.grow bM
        clear hb7 bM b7 hx7
        by_cases hft : ft = s
        ·subst hft
         have H := Lib.hid (uf_ok hX2.out (by rw [HBR.out]; simp) (by rw [HBR.out]; simp only; rw [hE.1, hE.2.1, hE.2.2, HFR.out]; simp))
         go_wp2_with fail
         refine Flow.wp_region_go (by kernel_rfl) (by kernel_rfl) (by kernel_rfl) 106 rfl (by kernel_rfl) (ruV (.slice x.A x.n x.c) (.slice x.A' x.n' x.c') (.slice x.A'' x.n'' x.c'') 0 xp) (fun _ L wz => Below w.heap.size w wz ∧ RB wz O F (cond (L 2) (.slice x.A x.n x.c) nilS) (cond (L 2) (.slice x.A' x.n' x.c') nilS) (cond (L 2) (.slice x.A'' x.n'' x.c'') nilS) (cond (L 3) 0 0) (cond (L 3) xp 0) ∧ Two wz G 0 xp ∧ BxAt wz KB x ∧ Bat wz x) (fun _ _ => False) (()) (⟨b8.drew, hR.drew, tG.below (Below.refl _ _).drew, kK.below (Below.refl _ _).drew, hx8.grow (Below.refl _ _).drew⟩) ⟨?_, ?_, ?_, ?_, trivial⟩ ?_ ?_
         ·intro g L wz K ρ hc0 hf0 hF hO hU hcl hi hd hC hK
          have e13 : ρ (.tmp 13) = .pointer (some ⟨KB, 0, none⟩) := hO 13 (by kernel_rfl)
          obtain ⟨x0, x1, x2⟩ := hC.2.2.2.1
          simp [go_sem, Flow.ylP_value, Flow.ylP_skip, Flow.ylP_enter, Flow.ylP_panic, hc0, hf0, e13, x0, x1, x2]
          exact hK () wz hC (fun _ _ => rfl)
         ·intro g L wz K ρ hc0 hf0 hF hO hU hcl hi hd hC hK
          have e14 : ρ (.tmp 14) = .pointer (some ⟨G, 0, none⟩) := hO 14 (by kernel_rfl)
          have a0 := hC.2.2.1.c0
          have a1 := hC.2.2.1.c1
          simp [go_sem, Flow.ylP_value, Flow.ylP_skip, Flow.ylP_enter, Flow.ylP_panic, hc0, hf0, e14, a0, a1]
          exact hK () wz hC (fun _ _ => rfl)
         ·intro g L wz K ρ hc0 hf0 hF hO hU hcl hi hd hC hK
          have e2 : ρ (.tmp 2) = .pointer (some ⟨O, 0, none⟩) := hO 2 (by kernel_rfl)
          have d0 : L 0 = true := hd ⟨0, .data⟩ (by simp) rfl
          have e104 : ρ (.tmp 104) = .agg #[.slice x.A x.n x.c, .slice x.A' x.n' x.c', .slice x.A'' x.n'' x.c''] := hF 104 0 (by kernel_rfl) d0
          rw [hi] at hC
          obtain ⟨hb0, hR0, hG0, hK0, hX0⟩ := hC
          have H1 := hR0.set0 HN.out (.slice x.A x.n x.c)
          have H2 := H1.set1 HN.out (.slice x.A' x.n' x.c')
          have H3 := H2.set2 HN.out (.slice x.A'' x.n'' x.c'')
          have a0 := hR0.c0
          have a1 := H1.c1
          have a2 := H2.c2
          have m0 := hR0.f0
          have m1 := hR0.f1
          have m2 := hR0.f2
          simp only [cond] at a0 a1 a2
          simp [go_sem, Flow.ylP_value, Flow.ylP_skip, Flow.ylP_enter, Flow.ylP_panic, hc0, hf0, e2, e104, a0, a1, a2, m0, m1, m2]
          exact hK () _ ⟨((hb0.setCell (p := ⟨O, 0, none⟩) LO.out _).setCell (p := ⟨O, 1, none⟩) LO.out _).setCell (p := ⟨O, 2, none⟩) LO.out _, H3, ((hG0.nb NG.out.1 _).nb NG.out.1 _).nb NG.out.1 _, ((hK0.nb NK.out.1 _).nb NK.out.1 _).nb NK.out.1 _, ((hX0.low HAB.out LA.out.1 _).low HAB.out LA.out.1 _).low HAB.out LA.out.1 _⟩ (fun _ _ => rfl)
         ·intro g L wz K ρ hc0 hf0 hF hO hU hcl hi hd hC hK
          have e3 : ρ (.tmp 3) = .pointer (some ⟨F, 0, none⟩) := hO 3 (by kernel_rfl)
          have d1 : L 1 = true := hd ⟨1, .data⟩ (by simp) rfl
          have e105 : ρ (.tmp 105) = .agg #[.int .i64 0, .int .i64 xp] := hF 105 1 (by kernel_rfl) d1
          rw [hi] at hC
          obtain ⟨hb0, hR0, hG0, hK0, hX0⟩ := hC
          have a0 := hR0.x
          have a1 := res_ne (v := .int .i64 0) hR0.y (i := 0) (by decide)
          have m0 := hR0.fx
          have m1 := hR0.fy
          simp only [cond] at a0 a1
          simp [go_sem, Flow.ylP_value, Flow.ylP_skip, Flow.ylP_enter, Flow.ylP_panic, hc0, hf0, e3, e105, a0, a1, m0, m1]
          exact hK () _ ⟨(hb0.setCell (p := ⟨F, 0, none⟩) LF.out _).setCell (p := ⟨F, 1, none⟩) LF.out _, hR0.setF HN.out 0 xp, (hG0.nb NG.out.2 _).nb NG.out.2 _, (hK0.nb NK.out.2 _).nb NK.out.2 _, (hX0.low HAB.out LA.out.2 _).low HAB.out LA.out.2 _⟩ (fun _ _ => rfl)
         ·intro g L ch wz h; exact h.elim
         ·intro g L wz hL hC
          rw [hL 2 (by decide), hL 3 (by decide)] at hC
          obtain ⟨bZ, hR9, hG9, hK9, hX9⟩ := hC
          obtain ⟨z0, z1, z2, z3, z4, _, _, _, _, _⟩ := hR9
          simp only [cond] at z0 z1 z2 z3 z4
          simp only [Flow.putAll, ruV]
          go_wp2
          exact bodyPost_ret (v := .tuple #[.agg #[.slice x.A x.n x.c, .slice x.A' x.n' x.c', .slice x.A'' x.n'' x.c''], .agg #[.int .i64 0, .int .i64 xp]]) (by simp [results, Tryz.results19, go_sem, z0, z1, z2, z3, z4]) rfl ⟨x, by rw [H.out, HBR.out]; rfl, hX9, by rw [H.out, HBR.out]; exact hx2, HCP.out, bZ⟩
        ·have H := Lib.hid (uf_false hX2.out (by rw [HBR.out]; simp) (by rw [HBR.out]; simp only; rw [hE.1, hE.2.1, hE.2.2, HFR.out]; exact hft))
         have hne := toList_ne hft
         have hne2 : (ft.toList == s.toList) = false := by simpa using hne
         clear hft
         go_wp2_with fail
         refine (bareF_any 13 _).mono ?_
         rintro r w9 ⟨rfl, hb9⟩
         have b9 := b8.trans (hb9.mono b8.size)
         replace hR := hR.below hb9
         have H1 := hR.set0 HN.out (nilS)
         have H2 := H1.set1 HN.out (nilS)
         have H3 := H2.set2 HN.out (nilS)
         have H5 := H3.setF HN.out 13 (-1)
         have bZ := below_put5 b9 LO.out LF.out (nilS) (nilS) (nilS) 13 (-1)
         have p1 := H1.c1
         have p2 := H2.c2
         have p3 := H3.x
         have p4 := res_ne (v := .int .i64 13) H3.y (i := 0) (by decide)
         have m3 := H3.fx
         have m4 := H3.fy
         obtain ⟨u0, u1, u2, u3, u4, j0, j1, j2, j3, j4⟩ := hR
         go_wp2
         unfold put5 at bZ
         obtain ⟨z0, z1, z2, z3, z4, _, _, _, _, _⟩ := H5
         exact bodyPost_ret (v := .tuple #[.agg #[nilS, nilS, nilS], .agg #[.int .i64 13, .int .i64 (-1)]]) (by simp [results, Tryz.results19, go_sem, z0, z1, z2, z3, z4]) rfl (rf_no H.out bZ)
       ·have H := Lib.hid (uf_bad hX2.out (by rw [HBR.out]; exact hxe))
        rw [HBR.out] at H
        have e1 : (((xe, xp) : Int × Int).1 == 0) = false := beq_eq_false_iff_ne.2 hxe
        rw [e1]
        clear hok hxe hx2 e1
        go_wp2_with fail
        refine Flow.wp_region_go (by kernel_rfl) (by kernel_rfl) (by kernel_rfl) 106 rfl (by kernel_rfl) (ruV (nilS) (nilS) (nilS) xe xp) (fun _ L wz => Below w.heap.size w wz ∧ RB wz O F (cond (L 2) (nilS) nilS) (cond (L 2) (nilS) nilS) (cond (L 2) (nilS) nilS) (cond (L 3) xe 0) (cond (L 3) xp 0) ∧ Two wz G xe xp) (fun _ _ => False) (()) (⟨b7.drew, hR.drew, tG.below (Below.refl _ _).drew⟩) ⟨?_, ?_, ?_, ?_, trivial⟩ ?_ ?_
        ·intro g L wz K ρ hc0 hf0 hF hO hU hcl hi hd hC hK
         simp [go_sem, Flow.ylP_value, Flow.ylP_skip, Flow.ylP_enter, Flow.ylP_panic, hc0, hf0]
         exact hK g wz hC (fun _ _ => rfl)
        ·intro g L wz K ρ hc0 hf0 hF hO hU hcl hi hd hC hK
         have e14 : ρ (.tmp 14) = .pointer (some ⟨G, 0, none⟩) := hO 14 (by kernel_rfl)
         have a0 := hC.2.2.c0
         have a1 := hC.2.2.c1
         simp [go_sem, Flow.ylP_value, Flow.ylP_skip, Flow.ylP_enter, Flow.ylP_panic, hc0, hf0, e14, a0, a1]
         exact hK () wz hC (fun _ _ => rfl)
        ·intro g L wz K ρ hc0 hf0 hF hO hU hcl hi hd hC hK
         have e2 : ρ (.tmp 2) = .pointer (some ⟨O, 0, none⟩) := hO 2 (by kernel_rfl)
         have d0 : L 0 = true := hd ⟨0, .data⟩ (by simp) rfl
         have e92 : ρ (.tmp 92) = .agg #[nilS, nilS, nilS] := hF 92 0 (by kernel_rfl) d0
         rw [hi] at hC
         obtain ⟨hb0, hR0, hG0⟩ := hC
         have H1 := hR0.set0 HN.out (nilS)
         have H2 := H1.set1 HN.out (nilS)
         have H3 := H2.set2 HN.out (nilS)
         have a0 := hR0.c0
         have a1 := H1.c1
         have a2 := H2.c2
         have m0 := hR0.f0
         have m1 := hR0.f1
         have m2 := hR0.f2
         simp only [cond] at a0 a1 a2
         simp [go_sem, Flow.ylP_value, Flow.ylP_skip, Flow.ylP_enter, Flow.ylP_panic, hc0, hf0, e2, e92, a0, a1, a2, m0, m1, m2]
         exact hK () _ ⟨((hb0.setCell (p := ⟨O, 0, none⟩) LO.out _).setCell (p := ⟨O, 1, none⟩) LO.out _).setCell (p := ⟨O, 2, none⟩) LO.out _, H3, ((hG0.nb NG.out.1 _).nb NG.out.1 _).nb NG.out.1 _⟩ (fun _ _ => rfl)
        ·intro g L wz K ρ hc0 hf0 hF hO hU hcl hi hd hC hK
         have e3 : ρ (.tmp 3) = .pointer (some ⟨F, 0, none⟩) := hO 3 (by kernel_rfl)
         have d1 : L 1 = true := hd ⟨1, .data⟩ (by simp) rfl
         have e93 : ρ (.tmp 93) = .agg #[.int .i64 xe, .int .i64 xp] := hF 93 1 (by kernel_rfl) d1
         rw [hi] at hC
         obtain ⟨hb0, hR0, hG0⟩ := hC
         have a0 := hR0.x
         have a1 := res_ne (v := .int .i64 xe) hR0.y (i := 0) (by decide)
         have m0 := hR0.fx
         have m1 := hR0.fy
         simp only [cond] at a0 a1
         simp [go_sem, Flow.ylP_value, Flow.ylP_skip, Flow.ylP_enter, Flow.ylP_panic, hc0, hf0, e3, e93, a0, a1, m0, m1]
         exact hK () _ ⟨(hb0.setCell (p := ⟨F, 0, none⟩) LF.out _).setCell (p := ⟨F, 1, none⟩) LF.out _, hR0.setF HN.out xe xp, (hG0.nb NG.out.2 _).nb NG.out.2 _⟩ (fun _ _ => rfl)
        ·intro g L ch wz h; exact h.elim
        ·intro g L wz hL hC
         rw [hL 2 (by decide), hL 3 (by decide)] at hC
         obtain ⟨bZ, hR9, hG9⟩ := hC
         obtain ⟨z0, z1, z2, z3, z4, _, _, _, _, _⟩ := hR9
         simp only [cond] at z0 z1 z2 z3 z4
         simp only [Flow.putAll, ruV]
         go_wp2
         exact bodyPost_ret (v := .tuple #[.agg #[nilS, nilS, nilS], .agg #[.int .i64 xe, .int .i64 xp]]) (by simp [results, Tryz.results19, go_sem, z0, z1, z2, z3, z4]) rfl (rf_no H.out bZ)
      ·have H := Lib.hid (uf_len hXL.out hl)
       obtain ⟨dl, dl2⟩ := fr_lno hl
       clear hl
       go_wp2_with fail
       refine (bareF_any 2 _).mono ?_
       rintro r w8 ⟨rfl, hb8⟩
       have b8 := b2.trans (hb8.mono b2.size)
       replace hR := hR.below hb8
       have H1 := hR.set0 HN.out (nilS)
       have H2 := H1.set1 HN.out (nilS)
       have H3 := H2.set2 HN.out (nilS)
       have H5 := H3.setF HN.out 2 (-1)
       have bZ := below_put5 b8 LO.out LF.out (nilS) (nilS) (nilS) 2 (-1)
       have p1 := H1.c1
       have p2 := H2.c2
       have p3 := H3.x
       have p4 := res_ne (v := .int .i64 2) H3.y (i := 0) (by decide)
       have m3 := H3.fx
       have m4 := H3.fy
       obtain ⟨u0, u1, u2, u3, u4, j0, j1, j2, j3, j4⟩ := hR
       go_wp2
       unfold put5 at bZ
       obtain ⟨z0, z1, z2, z3, z4, _, _, _, _, _⟩ := H5
       exact bodyPost_ret (v := .tuple #[.agg #[nilS, nilS, nilS], .agg #[.int .i64 2, .int .i64 (-1)]]) (by simp [results, Tryz.results19, go_sem, z0, z1, z2, z3, z4]) rfl (rf_no H.out bZ)
    ·have H := Lib.hid (uf_int HY.out HF.out (by rw [← HU.out]; exact HA.out) hei)
     have d5 : (ei != 0) = true := by rw [bne_iff_ne]; exact hei
     clear hei
     go_wp2_with fail
     refine (bareF_any ei _).mono ?_
     rintro r w8 ⟨rfl, hb8⟩
     have b8 := b2.trans (hb8.mono b2.size)
     replace hR := hR.below hb8
     have H1 := hR.set0 HN.out (nilS)
     have H2 := H1.set1 HN.out (nilS)
     have H3 := H2.set2 HN.out (nilS)
     have H5 := H3.setF HN.out ei (-1)
     have bZ := below_put5 b8 LO.out LF.out (nilS) (nilS) (nilS) ei (-1)
     have p1 := H1.c1
     have p2 := H2.c2
     have p3 := H3.x
     have p4 := res_ne (v := .int .i64 ei) H3.y (i := 0) (by decide)
     have m3 := H3.fx
     have m4 := H3.fy
     obtain ⟨u0, u1, u2, u3, u4, j0, j1, j2, j3, j4⟩ := hR
     go_wp2
     unfold put5 at bZ
     obtain ⟨z0, z1, z2, z3, z4, _, _, _, _, _⟩ := H5
     exact bodyPost_ret (v := .tuple #[.agg #[nilS, nilS, nilS], .agg #[.int .i64 ei, .int .i64 (-1)]]) (by simp [results, Tryz.results19, go_sem, z0, z1, z2, z3, z4]) rfl (rf_no H.out bZ)
  ·have H := Lib.hid (uf_state HY.out h3)
   have d1 : (v != 3) = true := by rw [bne_iff_ne]; exact h3
   clear h3
   go_wp2_with fail
   refine (bareF_any 6 _).mono ?_
   rintro r w8 ⟨rfl, hb8⟩
   have b8 := b1.trans (hb8.mono b1.size)
   replace hR := hR.below hb8
   have H1 := hR.set0 HN.out (nilS)
   have H2 := H1.set1 HN.out (nilS)
   have H3 := H2.set2 HN.out (nilS)
   have H5 := H3.setF HN.out 6 (-1)
   have bZ := below_put5 b8 LO.out LF.out (nilS) (nilS) (nilS) 6 (-1)
   have p1 := H1.c1
   have p2 := H2.c2
   have p3 := H3.x
   have p4 := res_ne (v := .int .i64 6) H3.y (i := 0) (by decide)
   have m3 := H3.fx
   have m4 := H3.fy
   obtain ⟨u0, u1, u2, u3, u4, j0, j1, j2, j3, j4⟩ := hR
   go_wp2
   unfold put5 at bZ
   obtain ⟨z0, z1, z2, z3, z4, _, _, _, _, _⟩ := H5
   exact bodyPost_ret (v := .tuple #[.agg #[nilS, nilS, nilS], .agg #[.int .i64 6, .int .i64 (-1)]]) (by simp [results, Tryz.results19, go_sem, z0, z1, z2, z3, z4]) rfl (rf_no H.out bZ)
 ·have H := Lib.hid (uf_ver HY.out he)
  have d1 : (e != 0) = true := by rw [bne_iff_ne]; exact he
  clear he
  go_wp2_with fail
  refine (bareF_any e _).mono ?_
  rintro r w8 ⟨rfl, hb8⟩
  have b8 := b1.trans (hb8.mono b1.size)
  replace hR := hR.below hb8
  have H1 := hR.set0 HN.out (nilS)
  have H2 := H1.set1 HN.out (nilS)
  have H3 := H2.set2 HN.out (nilS)
  have H5 := H3.setF HN.out e (-1)
  have bZ := below_put5 b8 LO.out LF.out (nilS) (nilS) (nilS) e (-1)
  have p1 := H1.c1
  have p2 := H2.c2
  have p3 := H3.x
  have p4 := res_ne (v := .int .i64 e) H3.y (i := 0) (by decide)
  have m3 := H3.fx
  have m4 := H3.fy
  obtain ⟨u0, u1, u2, u3, u4, j0, j1, j2, j3, j4⟩ := hR
  go_wp2
  unfold put5 at bZ
  obtain ⟨z0, z1, z2, z3, z4, _, _, _, _, _⟩ := H5
  exact bodyPost_ret (v := .tuple #[.agg #[nilS, nilS, nilS], .agg #[.int .i64 e, .int .i64 (-1)]]) (by simp [results, Tryz.results19, go_sem, z0, z1, z2, z3, z4]) rfl (rf_no H.out bZ)
end Go.Proofs.YtkejlnjnoiidnaaGreatDoor
end

section
namespace Go.Proofs.YtkejlnjnoiidnaaGreatDoor
open Go.RowKit
theorem below1' (w : World) (o : Obj) : Below w.heap.size w (w.alloc o) := (Below.refl _ _).alloc (Nat.le_refl _) o
end Go.Proofs.YtkejlnjnoiidnaaGreatDoor
end

section
namespace Go.Proofs.YtkejlnjnoiidnaaGreatDoor
open Go.RowKit
def batSame (a b : BatArg) : Bool := decide (a.f = b.f) && (decide (a.h = b.h) && decide (a.l = b.l))
theorem below2' (w : World) (o o' : Obj) : Below w.heap.size w ((w.alloc o).alloc o') := (below1' w o).alloc (by simp) o'
theorem batSame_1 {a b : BatArg} (x1 : a.f = b.f) (x2 : a.h = b.h) : batSame a b = decide (a.l = b.l) := by unfold batSame; rw [decide_eq_true x1, decide_eq_true x2]; rfl
theorem batSame_2 {a b : BatArg} (x2 : ¬ a.h = b.h) : batSame a b = false := by unfold batSame; rw [decide_eq_false x2, Bool.false_and, Bool.and_false]
theorem batSame_3 {a b : BatArg} (x1 : ¬ a.f = b.f) : batSame a b = false := by unfold batSame; rw [decide_eq_false x1, Bool.false_and]
theorem rsame_any (a b : BatArg) (w : World) (ha : Bat w a) (hb : Bat w b) :
  Calls Tryz.prog 18 #[a.v, b.v] w fun e w' => e = .returned (.bool (batSame a b)) ∧ Below w.heap.size w w' := by
 obtain ⟨A, n, c, A', n', c', A'', n'', c'', f, h, l⟩ := a
 obtain ⟨B, m, d, B', m', d', B'', m'', d'', f', h', l'⟩ := b
 obtain ⟨a1, a2, a3, a4, a5, a6⟩ := ha
 obtain ⟨b1, b2, b3, b4, b5, b6⟩ := hb
 simp only [BatArg.v] at *
 have hbel : Below w.heap.size w ((w.alloc (.cells #[.slice A n c, .slice A' n' c', .slice A'' n'' c''] 25)).alloc (.cells #[.slice B m d, .slice B' m' d', .slice B'' m'' d''] 25)) := below2' _ _ _
 have c1 := a1.grow hbel
 have c2 := a2.grow hbel
 have c3 := a3.grow hbel
 have e1 := b1.grow hbel
 have e2 := b2.grow hbel
 have e3 := b3.grow hbel
 by_cases x1 : f = f'
 ·by_cases x2 : h = h'
  ·have hs := Lib.hid (batSame_1 (a := ⟨A, n, c, A', n', c', A'', n'', c'', f, h, l⟩) (b := ⟨B, m, d, B', m', d', B'', m'', d'', f', h', l'⟩) x1 x2)
   go_enter Tryz.func18, Tryz.ntmps18
   go_wp2_with fail
   refine (same_ents _ _ _ _ _ _ _ _ _ c1 e1 a4 b4).mono ?_
   rintro e w' ⟨rfl, q, rfl⟩
   rw [decide_eq_true x1]
   go_wp2_with fail
   refine (same_ents _ _ _ _ _ _ _ _ _ (by exact c2) (by exact e2) a5 b5).mono ?_
   rintro e w' ⟨rfl, q', rfl⟩
   rw [decide_eq_true x2]
   go_wp2_with fail
   refine (same_wrs _ _ _ _ _ _ _ _ _ (by exact c3) (by exact e3) a6 b6).mono ?_
   rintro e w' ⟨rfl, q'', rfl⟩
   go_wp2_with fail
   go_ret
   exact ⟨retB (by rw [hs.out]), below_drewN hbel _⟩
  ·have hs := Lib.hid (batSame_2 (a := ⟨A, n, c, A', n', c', A'', n'', c'', f, h, l⟩) (b := ⟨B, m, d, B', m', d', B'', m'', d'', f', h', l'⟩) x2)
   go_enter Tryz.func18, Tryz.ntmps18
   go_wp2_with fail
   refine (same_ents _ _ _ _ _ _ _ _ _ c1 e1 a4 b4).mono ?_
   rintro e w' ⟨rfl, q, rfl⟩
   rw [decide_eq_true x1]
   go_wp2_with fail
   refine (same_ents _ _ _ _ _ _ _ _ _ (by exact c2) (by exact e2) a5 b5).mono ?_
   rintro e w' ⟨rfl, q', rfl⟩
   rw [decide_eq_false x2]
   go_wp2_with fail
   go_ret
   exact ⟨retB (by rw [hs.out]), below_drewN hbel _⟩
 ·have hs := Lib.hid (batSame_3 (a := ⟨A, n, c, A', n', c', A'', n'', c'', f, h, l⟩) (b := ⟨B, m, d, B', m', d', B'', m'', d'', f', h', l'⟩) x1)
  go_enter Tryz.func18, Tryz.ntmps18
  go_wp2_with fail
  refine (same_ents _ _ _ _ _ _ _ _ _ c1 e1 a4 b4).mono ?_
  rintro e w' ⟨rfl, q, rfl⟩
  rw [decide_eq_false x1]
  go_wp2_with fail
  go_ret
  exact ⟨retB (by rw [hs.out]), below_drewN hbel _⟩
end Go.Proofs.YtkejlnjnoiidnaaGreatDoor
end

section
namespace Go.Proofs.YtkejlnjnoiidnaaGreatDoor
open Go.ChangeShapes Go.WideShapes Go.ChangeAt Go.RowKit
open Go.ChangeMaps (open_string)
section
variable {H : Type} {enc : TypeId × Value → H} {P : Program} {w : World} {base : Nat} {spare : Nat → Bool} {held : Bool}

end
end Go.Proofs.YtkejlnjnoiidnaaGreatDoor
end

section
namespace Go.Proofs.YtkejlnjnoiidnaaGreatDoor
set_option linter.unusedSimpArgs false
set_option linter.unusedVariables false
open Go.RowKit As
theorem same_refl {a b : BatArg} {z : List Ent × List Ent × List Wr} (h1 : (a.f, a.h, a.l) = z) (h2 : (b.f, b.h, b.l) = z) : batSame a b = true := by
 subst h1
 injection h2 with e1 h2
 injection h2 with e2 e3
 unfold batSame
 rw [decide_eq_true e1.symm, decide_eq_true e2.symm, decide_eq_true e3.symm]
 rfl
theorem inside_bad {s : ByteArray} {v e : Int} (h : fver s = (v, e)) (he : e ≠ 0) : finside s = (⟨#[]⟩, e) := by unfold finside; rw [h, if_pos he]
theorem inside_ok {s : ByteArray} {v : Int} (h : fver s = (v, 0)) : finside s = (s.extract 3 (s.size - 4), 0) := by unfold finside; rw [h, if_neg (by simp)]
set_option maxHeartbeats 4000000 in
set_option maxRecDepth 100000 in
theorem walkFrameReads (s : ByteArray) (w : World) (hs : s.size ≤ maxLen) (hg : Handle w) :
  Calls Tryz.prog 6 #[.string s] w fun e w' => e = .returned (.bool true) ∧ Below w.heap.size w w' := by
 unfold maxLen at hs
 by_cases hbig : 2000 < s.size
 ·have d0 : decide (2000 < (s.size : Int)) = true := by simp only [decide_eq_true_eq]; omega
  go_enter Tryz.func6, Tryz.ntmps6
  go_wp2
  go_ret
  exact ⟨rfl, Below.refl _ _⟩
 ·have d0 : decide (2000 < (s.size : Int)) = false := by simp only [decide_eq_false_iff_not]; omega
  have hS : s.size ≤ 1000000 := by omega
  go_enter Tryz.func6, Tryz.ntmps6
  go_wp2_with fail
  refine (runframe_any s w hS).mono ?_
  rintro e w1 ⟨x, rfl, hx, hx2, _, hb1⟩
  have bB := below1 w1 (.cells #[.slice x.A x.n x.c, .slice x.A' x.n' x.c', .slice x.A'' x.n'' x.c''] 25)
  have kB := BxAt.new w1 x
  have bF := below1 (w1.alloc (.cells #[.slice x.A x.n x.c, .slice x.A' x.n' x.c', .slice x.A'' x.n'' x.c''] 25)) (.cells #[.int .i64 (unframe s).2.1, .int .i64 (unframe s).2.2] 29)
  have hF := Two.new (w1.alloc (.cells #[.slice x.A x.n x.c, .slice x.A' x.n' x.c', .slice x.A'' x.n'' x.c''] 25)) (unframe s).2.1 (unframe s).2.2 29
  simp only [World.size_alloc] at hF
  have b1 := hb1.trans (bB.mono hb1.size)
  have b2 := b1.trans (bF.mono b1.size)
  have kB2 := kB.below bF
  have hX2 := (hx.grow bB).grow bF
  unfold faultV
  unfold BatArg.v
  go_wp2_with fail
  refine (fread_any s _ hS (hg.below b2)).mono ?_
  rintro e w2 ⟨y, ve, rfl, hy, hy2, _, hev, hb2⟩
  have b3 := b2.trans (hb2.mono b2.size)
  have bY := below1 w2 (.cells #[.slice y.A y.n y.c, .slice y.A' y.n' y.c', .slice y.A'' y.n'' y.c''] 25)
  have kY := BxAt.new w2 y
  have b4 := b3.trans (bY.mono b3.size)
  have hX4 := (hX2.grow hb2).grow bY
  have hY4 := hy.grow bY
  have kB4 := (kB2.below hb2).below bY
  have F4 := (hF.below hb2).below bY
  have E4 := hev.below bY
  have HS := Lib.hid (same_refl hx2 hy2)
  clear hx hy hx2 hy2 hF kB kB2 hX2 hev bB bF bY hb1 hb2 b1 b2 b3
  generalize (unframe s).2.1 = ee at *
  generalize (unframe s).2.2 = pp at *
  unfold BatArg.v
  go_wp2_with fail
  refine (rversion_any s _ hS).mono ?_
  rintro e w3 ⟨rfl, hb3⟩
  obtain ⟨⟨v, e⟩, hy⟩ : ∃ y, fver s = y := ⟨_, rfl⟩
  have HY := Lib.hid hy
  rw [hy]
  clear hy
  simp only
  go_wp2_with fail
  refine (fversion_any s _ hS).mono ?_
  rintro r w5 ⟨rfl, hb5⟩
  rw [HY.out]
  simp only
  go_wp2_with fail
  refine (finside_any s _ hS).mono ?_
  rintro r w6 ⟨rfl, hb6⟩
  have bb := hb3.trans ((hb5.trans (hb6.mono hb5.size)).mono hb3.size)
  have b6 := b4.trans (bb.mono b4.size)
  have hX6 := hX4.grow bb
  have hY6 := hY4.grow bb
  have kB6 := kB4.below bb
  have kY6 := kY.below bb
  have F6 := F4.below bb
  have E6 := E4.below bb
  clear hb3 hb5 hb6 bb b4 hX4 hY4 kB4 kY F4 E4
  obtain ⟨W, hW⟩ : ∃ W, finside s = (W, e) := by
   by_cases he : e = 0
   ·subst he; exact ⟨_, inside_ok HY.out⟩
   ·exact ⟨_, inside_bad HY.out he⟩
  have HW := Lib.hid hW
  have ERR := Lib.hid (errV_is w6 e)
  by_cases he : e = 0
  ·subst he
   have hWs : W = s.extract 3 (s.size - 4) := by have := inside_ok HY.out; rw [hW] at this; exact congrArg Prod.fst this
   have h8 := (fver_good HY.out).1
   have w4 : IntKind.i64.wrap ((s.size : Int) - 4) = ((s.size - 4 : Nat) : Int) := by rw [show ((s.size : Int) - 4) = ((s.size - 4 : Nat) : Int) by omega]; exact IntWalk.i64_in _ (by omega)
   have w5' : wrap64 ((s.size : Int) - 4) = ((s.size - 4 : Nat) : Int) := by rw [show ((s.size : Int) - 4) = ((s.size - 4 : Nat) : Int) by omega]; exact IntWalk.wrap64_in _ (by omega)
   have j1 : (3 : Int) ≤ ((s.size - 4 : Nat) : Int) := by omega
   have j2 : s.size - 4 ≤ s.size := by omega
   have j3 : ((s.size - 4 : Nat) : Int) ≤ (s.size : Int) := by omega
   have j4 : 3 ≤ s.size - 4 := by omega
   rw [hW]
   subst hWs
   simp only
   clear hW hbig hs h8
   obtain ⟨g0, g1, _, _⟩ := F6
   go_wp2_with fail
   clear w4 w5' j1 j2 j3 j4
   refine (placed_any E6 (hg.below b6) ee pp).mono ?_
   rintro r w7 ⟨rfl, hb7⟩
   have b7 := b6.trans (hb7.mono b6.size)
   have hX7 := hX6.grow hb7
   have hY7 := hY6.grow hb7
   obtain ⟨p0, p1, p2⟩ := kB6.below hb7
   obtain ⟨q0, q1, q2⟩ := kY6.below hb7
   rw [decide_eq_true ⟨rfl, rfl⟩]
   go_wp2_with fail
   refine (rsame_any x y w7 hX7 hY7).mono ?_
   rintro r w8 ⟨rfl, hb8⟩
   rw [HS.out]
   have b8 := b7.trans (hb8.mono b7.size)
   go_wp2_with fail
   refine (bare_any (errV_is _ 0) (hg.below b8) 0).mono ?_
   rintro r w9 ⟨rfl, hb9⟩
   rw [decide_eq_true ⟨rfl, rfl⟩]
   have b9 := b8.trans (hb9.mono b8.size)
   go_wp2_with fail
   refine (bare_any (errV_is _ 0) (hg.below b9) 0).mono ?_
   rintro r w10 ⟨rfl, hb10⟩
   rw [decide_eq_true ⟨rfl, rfl⟩]
   go_wp2
   go_ret
   exact ⟨by first | rfl | simp, b9.trans (hb10.mono b9.size)⟩
  ·have hWs : W = ⟨#[]⟩ := by have := inside_bad HY.out he; rw [hW] at this; exact congrArg Prod.fst this
   have d3 : (e == 0) = false := beq_eq_false_iff_ne.2 he
   rw [hW]
   subst hWs
   simp only
   clear hW hbig hs he
   obtain ⟨g0, g1, _, _⟩ := F6
   go_wp2_with fail
   refine (placed_any E6 (hg.below b6) ee pp).mono ?_
   rintro r w7 ⟨rfl, hb7⟩
   have b7 := b6.trans (hb7.mono b6.size)
   have hX7 := hX6.grow hb7
   have hY7 := hY6.grow hb7
   obtain ⟨p0, p1, p2⟩ := kB6.below hb7
   obtain ⟨q0, q1, q2⟩ := kY6.below hb7
   rw [decide_eq_true ⟨rfl, rfl⟩]
   go_wp2_with fail
   refine (rsame_any x y w7 hX7 hY7).mono ?_
   rintro r w8 ⟨rfl, hb8⟩
   rw [HS.out]
   have b8 := b7.trans (hb8.mono b7.size)
   go_wp2_with fail
   refine (bare_any (errV_is _ e) (hg.below b8) e).mono ?_
   rintro r w9 ⟨rfl, hb9⟩
   rw [decide_eq_true ⟨rfl, rfl⟩]
   have b9 := b8.trans (hb9.mono b8.size)
   go_wp2_with fail
   refine (bare_any (errV_is _ e) (hg.below b9) e).mono ?_
   rintro r w10 ⟨rfl, hb10⟩
   rw [decide_eq_true ⟨rfl, rfl⟩]
   go_wp2
   go_ret
   exact ⟨by first | rfl | simp, b9.trans (hb10.mono b9.size)⟩
end Go.Proofs.YtkejlnjnoiidnaaGreatDoor
end
