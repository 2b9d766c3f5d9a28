/- frame.Read says what unframe says.

The results of the reference's Unbody, and what it lays over them where something is wrong.

What stands while Unbody of the reference reads.

List of the reference says what klist says. -/
import Derived.Test.YtkejlnjnoiidnaaGreatDoorZ13
import Derived.Test.YtkejlnjnoiidnaaGreatDoorZ16
import Derived.Test.YtkejlnjnoiidnaaGreatDoorZ18
import Derived.Test.YtkejlnjnoiidnaaGreatDoorZ15
import Derived.Test.YtkejlnjnoiidnaaGreatDoorZ3
import Derived.Laws.OwnMore
import Derived.Deep.QuietTactic
import Derived.BigQuiet
section
namespace Go.Proofs.YtkejlnjnoiidnaaGreatDoor
set_option linter.unusedSimpArgs false
set_option linter.unusedVariables false
open Go.RowKit As
/-- A batch's three cells that may be written. -/
structure O3 (w : World) (O : Nat) (v0 v1 v2 : Value) : Prop where
 c0 : w.cell? ⟨O, 0, none⟩ = some v0
 c1 : w.cell? ⟨O, 1, none⟩ = some v1
 c2 : w.cell? ⟨O, 2, none⟩ = some v2
 f0 : w.frozen? ⟨O, 0, none⟩ = false
 f1 : w.frozen? ⟨O, 1, none⟩ = false
 f2 : w.frozen? ⟨O, 2, none⟩ = false
def put3 (w : World) (O : Nat) (a b c : Value) : World := ((w.setCell ⟨O, 0, none⟩ a).setCell ⟨O, 1, none⟩ b).setCell ⟨O, 2, none⟩ c
section
variable {w w' : World} {O : Nat} {v0 v1 v2 : Value}
theorem O3.below (h : O3 w O v0 v1 v2) (hb : Below w.heap.size w w') : O3 w' O v0 v1 v2 :=
 ⟨(hb.cell (cell_lt h.c0)).trans h.c0, (hb.cell (cell_lt h.c1)).trans h.c1, (hb.cell (cell_lt h.c2)).trans h.c2, (hb.frozen (cell_lt h.c0)).trans h.f0, (hb.frozen (cell_lt h.c1)).trans h.f1, (hb.frozen (cell_lt h.c2)).trans h.f2⟩
theorem O3.new (w : World) (a b c : Value) (t : TypeId) : O3 (w.alloc (.cells #[a, b, c] t)) w.heap.size a b c := by
 refine ⟨?_, ?_, ?_, by simp, by simp, by simp⟩ <;> (rw [World.cell?_alloc_new]; rfl)
theorem O3.put (h : O3 w O v0 v1 v2) (a b c : Value) : O3 (put3 w O a b c) O a b c := by
 unfold put3
 refine ⟨?_, ?_, ?_, by simpa using h.f0, by simpa using h.f1, by simpa using h.f2⟩
 ·exact res_ne (res_ne (World.cell?_setCell_same _ _ _ h.c0) (by omega)) (by omega)
 ·exact res_ne (World.cell?_setCell_same _ _ _ (res_ne h.c1 (by omega))) (by omega)
 ·exact World.cell?_setCell_same _ _ _ (res_ne (res_ne h.c2 (by omega)) (by omega))
theorem below_put3 {B : Nat} {a : World} (h : Below B a w) (hO : B ≤ O) (x y z : Value) : Below B a (put3 w O x y z) := by
 unfold put3
 exact ((h.setCell (p := ⟨O, 0, none⟩) hO _).setCell (p := ⟨O, 1, none⟩) hO _).setCell (p := ⟨O, 2, none⟩) hO _
end
/-- Where a call ends that reads a batch. -/
def REnd (X : BR) (w : World) (e : Ending) (w' : World) : Prop :=
 ∃ (x : BatArg) (ve : Value), e = .returned (.tuple #[x.v, ve]) ∧ Bat w' x ∧ (x.f, x.h, x.l) = X.1 ∧ (x.n ≤ x.c ∧ x.n' ≤ x.c') ∧ ErrIs w' ve X.2.1 X.2.2 ∧ Below w.heap.size w w'
theorem rend_no {X : BR} {w w' : World} {ve : Value} {e p : Int} (hX : X = (noB, e, p)) (hv : ErrIs w' ve e p) (hb : Below w.heap.size w w') : REnd X w (.returned (.tuple #[.agg #[nilS, nilS, nilS], ve])) w' := by
 subst hX
 exact ⟨noBat, ve, rfl, noBat_is _, rfl, ⟨Nat.le_refl _, Nat.le_refl _⟩, hv, hb⟩
theorem cell_keep {w : World} {p q : Addr} {u v x : Value} (hq : w.cell? q = some u) (hp : w.cell? p = some v) (hne : u ≠ v) : (w.setCell p x).cell? q = some u := by
 rw [World.cell?_setCell_other _ _ _ _ (by intro h; subst h; rw [hq] at hp; injection hp with hp; exact hne hp)]
 exact hq
theorem cell_put3 {w : World} {O : Nat} {q : Addr} {u a b c : Value} (hO : O3 w O nilS nilS nilS) (hq : w.cell? q = some u) (hu : u ≠ nilS) : (put3 w O a b c).cell? q = some u := by
 unfold put3
 have h1 := cell_keep (x := a) hq hO.c0 hu
 have h2 := cell_keep (x := b) h1 (res_ne (v := a) hO.c1 (i := 0) (by omega)) hu
 exact cell_keep h2 (res_ne (v := b) (res_ne (v := a) hO.c2 (i := 0) (by omega)) (i := 1) (by omega)) hu
theorem size_put3 {w : World} {O : Nat} {a b c : Value} : (put3 w O a b c).heap.size = w.heap.size := by unfold put3; simp
theorem sl_put3 {w : World} {B O size n : Nat} {A : Option Addr} {xs : List Value} {a b c : Value} (h : Sl w B size A n xs) (hO : O3 w O nilS nilS nilS) (hx : ∀ u ∈ xs, u ≠ nilS) : Sl (put3 w O a b c) B size A n xs :=
 ⟨h.1, fun hn => by
  obtain ⟨b, o, e, hb, hc⟩ := h.2 hn
  exact ⟨b, o, e, hb, fun j u hu => cell_put3 hO (hc j u hu) (hx u (List.mem_of_getElem? hu))⟩⟩
theorem ent_no {l : List Ent} : ∀ u ∈ l.flatMap entCells, u ≠ nilS := by
 intro u hu e
 obtain ⟨x, _, hx⟩ := List.mem_flatMap.1 hu
 subst e
 simp [entCells] at hx
theorem wr_no {l : List Wr} : ∀ u ∈ l.flatMap wrCells, u ≠ nilS := by
 intro u hu e
 obtain ⟨x, _, hx⟩ := List.mem_flatMap.1 hu
 subst e
 simp [wrCells] at hx
theorem bat_put3 {w : World} {O : Nat} {a b c : Value} {x : BatArg} (h : Bat w x) (hO : O3 w O nilS nilS nilS) : Bat (put3 w O a b c) x := by
 refine ⟨?_, ?_, ?_, h.nf, h.nh, h.nl⟩ <;> rw [size_put3]
 ·exact sl_put3 h.f hO ent_no
 ·exact sl_put3 h.h hO ent_no
 ·exact sl_put3 h.l hO wr_no
theorem fr_k {k t u : Nat} (h1 : k ≤ 10) (h2 : 4 + k ≤ u) (h3 : u = t + 3) : IntKind.i64.wrap (1 + (k : Int)) = ((1 + k : Nat) : Int) ∧ wrap64 (1 + (k : Int)) = ((1 + k : Nat) : Int) ∧ 1 + k ≤ t ∧ ((1 + k : Nat) : Int) ≤ (t : Int) ∧ (0 : Int) ≤ ((1 + k : Nat) : Int) := by
 have e : (1 : Int) + (k : Int) = ((1 + k : Nat) : Int) := by omega
 rw [e]
 exact ⟨IntWalk.i64_in _ (by omega), IntWalk.wrap64_in _ (by omega), by omega, by omega, by omega⟩
theorem fr_cut {t : ByteArray} {a b : Nat} (h : t.size ≤ 1000000) : (t.extract a b).size ≤ 1000000 := by rw [ByteArray.size_extract]; omega
theorem fr_one {n : Nat} (h : n = 1) : decide ((n : Int) = 1) = true ∧ ((n : Int) == 1) = true := by subst h; exact ⟨rfl, rfl⟩
theorem fr_not {n : Nat} (h : n ≠ 1) : decide ((n : Int) = 1) = false ∧ ((n : Int) == 1) = false := ⟨by simp only [decide_eq_false_iff_not]; omega, by rw [beq_eq_false_iff_ne]; omega⟩
theorem fr_len {n m : Nat} (h : n = m) : decide ((n : Int) = (m : Int)) = true ∧ ((n : Int) != (m : Int)) = false := by subst h; exact ⟨by simp, by simp⟩
theorem fr_lno {n m : Nat} (h : n ≠ m) : decide ((n : Int) = (m : Int)) = false ∧ ((n : Int) != (m : Int)) = true := ⟨by simp only [decide_eq_false_iff_not]; omega, by rw [bne_iff_ne]; omega⟩
theorem fr_eight {n : Nat} (h : 8 ≤ n) (h2 : n = 0) : False := by omega
theorem frame_long {b : ByteArray × Int × Int} (h : (frameOf b).2.1 ≠ 0) : (frameOf b).1.size = 0 := by
 obtain ⟨t, e, p⟩ := b
 by_cases he : e = 0
 ·subst he; rw [frame_good] at h; exact absurd rfl h
 ·rw [frame_bad he]; rfl
theorem err_put3 {w : World} {O : Nat} {a b c v : Value} {e p : Int} (h : ErrIs w v e p) (hO : O3 w O nilS nilS nilS) : ErrIs (put3 w O a b c) v e p := by
 cases h with
 | none => exact .none
 | bare _ he => exact .bare _ he
 | at_ b o _ _ he h0 h1 => exact .at_ b o _ _ he (cell_put3 hO h0 (by intro h; cases h)) (cell_put3 hO h1 (by intro h; cases h))
set_option maxHeartbeats 4000000 in
set_option maxRecDepth 100000 in
theorem fread_any (s : ByteArray) (w : World) (hs : s.size ≤ 1000000) (hg : Handle w) :
  Calls Tryz.prog 20 #[.string s] w fun e w' => REnd (unframe s) w e w' := by
 have hO := O3.new w nilS nilS nilS 25
 have b0 := below1 w (.cells #[nilS, nilS, nilS] 25)
 go_enter Tryz.func20, Tryz.ntmps20
 go_wp2_with fail
 refine (fversion_any s _ hs).mono ?_
 rintro r w1 ⟨rfl, hb1⟩
 replace hO := hO.below hb1
 have b1 := b0.trans (hb1.mono b0.size)
 have lO := Nat.le_refl w.heap.size
 generalize hOO : w.heap.size = O at hO
 obtain ⟨⟨v, e⟩, hy⟩ : ∃ y, fver s = y := ⟨_, rfl⟩
 have HY := Lib.hid hy
 rw [hy]
 clear hy b0 hb1
 simp only
 by_cases he : e = 0
 ·subst he
  have h8 := (fver_good HY.out).1
  rw [errV_zero]
  by_cases h3 : v = 3
  ·subst h3
   have w4 : IntKind.i64.wrap ((s.size : Int) - 4) = ((s.size - 4 : Nat) : Int) := by rw [show ((s.size : Int) - 4) = ((s.size - 4 : Nat) : Int) by omega]; exact IntWalk.i64_in _ (by omega)
   have w5 : wrap64 ((s.size : Int) - 4) = ((s.size - 4 : Nat) : Int) := by rw [show ((s.size : Int) - 4) = ((s.size - 4 : Nat) : Int) by omega]; exact IntWalk.wrap64_in _ (by omega)
   have j1 : (3 : Int) ≤ ((s.size - 4 : Nat) : Int) := by omega
   have j2 : s.size - 4 ≤ s.size := by omega
   have j3 : ((s.size - 4 : Nat) : Int) ≤ (s.size : Int) := by omega
   have j4 : 3 ≤ s.size - 4 := by omega
   have hU3 := fbody_three h8
   have hUs := fbody_size h8
   have hTs : (s.extract 3 (s.size - 4)).size = s.size - 7 := by rw [ByteArray.size_extract]; omega
   have hb3 := byteOf_cut (s := s) (a := 3) (b := s.size - 4) (i := 0) (by omega) (by omega)
   obtain ⟨U, hU⟩ : ∃ U, U = fbody s := ⟨_, rfl⟩
   have HU := Lib.hid hU
   rw [← hU] at hU3 hUs
   obtain ⟨T, hT⟩ : ∃ T, T = s.extract 3 (s.size - 4) := ⟨_, rfl⟩
   rw [← hT] at hTs hb3 hU3
   have p0 : 0 < T.size := by omega
   have p1 : 1 ≤ T.size := by omega
   have q0 := byteOf_eq T 0 p0
   replace hT := hT.symm
   have hc1 : T.extract 1 T.size = U.extract 4 U.size := by rw [← hU3]; exact cut_one 0 0
   have hb3' : byteOf s 3 = T[0].toNat := by rw [← q0, hb3]
   have hTm : T.size ≤ 1000000 := by omega
   have HTU := Lib.hid (show U.size = T.size + 3 by omega)
   clear hb3 q0 hU hTs hUs j1 j2 j3 j4
   have j1 : (3 : Int) ≤ ((s.size - 4 : Nat) : Int) := by omega
   have j2 : s.size - 4 ≤ s.size := by omega
   have j3 : ((s.size - 4 : Nat) : Int) ≤ (s.size : Int) := by omega
   have j4 : 3 ≤ s.size - 4 := by omega
   by_cases hf : 1 < byteOf s 3
   ·have H := Lib.hid (uf_form HY.out hf)
    have d1 : decide ((1 : Int) < (T[0].toNat : Int)) = true := by simp only [decide_eq_true_eq]; omega
    have d1' : decide (1 < T[0].toNat) = true := by simp only [decide_eq_true_eq]; omega
    clear hf hb3' hU3 hc1
    have hZ := hO.put nilS nilS nilS
    have bZ := below_put3 b1 (Nat.le_of_eq hOO) nilS nilS nilS
    obtain ⟨u0, u1, u2, j0, j1, j2⟩ := hO
    go_wp2
    unfold put3 at hZ bZ
    obtain ⟨z0, z1, z2, _, _, _⟩ := hZ
    exact bodyPost_ret (v := .tuple #[.agg #[nilS, nilS, nilS], .iface 27 (.int .i64 3)]) (by simp [results, Tryz.results20, go_sem, z0, z1, z2]) rfl (rend_no H.out (.bare 3 (by decide)) bZ)
   ·have d1 : decide ((1 : Int) < (T[0].toNat : Int)) = false := by simp only [decide_eq_false_iff_not]; omega
    have d1' : decide (1 < T[0].toNat) = false := by simp only [decide_eq_false_iff_not]; omega
    have hv1 : (T.extract 1 T.size).size ≤ maxLen := by rw [ByteArray.size_extract]; unfold maxLen; omega
    have HF := Lib.hid hf
    have HB3 := Lib.hid hb3'
    have HU3 := Lib.hid hU3
    obtain ⟨n, k, ei, ha, hi⟩ := vat_of U 4 20000
    have hva : vint (T.extract 1 T.size).data.toList 20000 = (n, k, ei) := by rw [hc1]; exact ha
    have HVA := Lib.hid hva
    have HA := Lib.hid ha
    clear hf hb3' hU3 hc1 ha hva
    go_wp2_with fail
    refine (vint_any _ 20000 w1 hv1 (by decide)).mono ?_
    rintro r w2 ⟨rfl, rfl⟩
    rw [HVA.out]
    simp only
    rcases hi with ⟨rfl, hn2, hk0, hk1, hk2⟩ | ⟨hei, rfl, rfl⟩
    ·have HX := Lib.hid (uf_text HY.out HF.out (by rw [← HU.out]; exact HA.out))
     rw [errV_zero]
     clear w4 w5 j1 j2 j3 j4
     obtain ⟨wk, wk2, l1, l2, l3⟩ := fr_k hk1 hk2 HTU.out
     have hTX : T.extract (1 + k) T.size = U.extract (4 + k) U.size := by rw [← HU3.out]; exact cut_one 0 k
     obtain ⟨TX, hTX2⟩ : ∃ x, x = T.extract (1 + k) T.size := ⟨_, rfl⟩
     rw [← hTX2] at hTX
     have hXT : unframe s = ufText s n TX := by rw [HX.out, hTX, ← HU.out]
     have HXT := Lib.hid hXT
     have hTXs : TX.size ≤ 1000000 := by rw [hTX2]; exact fr_cut hTm
     replace hTX2 := hTX2.symm
     clear hXT hTX hn2
     by_cases hq : byteOf s 3 = 1
     ·obtain ⟨d2, d2'⟩ := fr_one (HB3.out.symm.trans hq)
      have HQ := Lib.hid hq
      clear hq
      go_wp2_with fail
      refine (swell_any TX _ hTXs (hg.below b1)).mono ?_
      rintro r w3 ⟨v3, rfl, hv3, hb3⟩
      have b3 := b1.trans (hb3.mono b1.size)
      replace hO := hO.below hb3
      have hsl := swell_len TX
      obtain ⟨⟨LT, le, lp⟩, hls⟩ : ∃ y, lswell TX = y := ⟨_, rfl⟩
      have HLS := Lib.hid hls
      rw [hls] at hv3 hsl ⊢
      unfold ErrOf at hv3
      simp only at hv3 hsl ⊢
      clear hls
      by_cases hle : le = 0
      ·subst hle
       obtain rfl := ferr_nil hv3 rfl
       have hXL := Lib.hid (uf_swollen HXT.out HQ.out HLS.out)
       clear hv3
       by_cases hl : LT.size = n
       ·have hX2 := Lib.hid (uf_read hXL.out (fun h => h hl))
        have hl5 : LT.size ≤ 1000000 := Nat.le_trans hsl (by decide)
        obtain ⟨dl, dl2⟩ := fr_len hl
        clear hl
        go_wp2_with fail
        refine (bodyread_any LT _ hl5 (hg.below b3)).mono ?_
        rintro r w5 ⟨x, ve, rfl, hx, hx2, hcap, hev, hb5⟩
        have b5 := b3.trans (hb5.mono b3.size)
        replace hO := hO.below hb5
        obtain ⟨⟨xb, xe, xp⟩, hbr⟩ : ∃ y, bread LT = y := ⟨_, rfl⟩
        have HBR := Lib.hid hbr
        have hok := bread_ok LT
        rw [hbr] at hx2 hev hok
        simp only at hx2 hev hok
        clear hbr
        have bK := below1 w5 (.cells #[.slice x.A x.n x.c, .slice x.A' x.n' x.c', .slice x.A'' x.n'' x.c''] 25)
        have kK := BxAt.new w5 x
        have b6 := b5.trans (bK.mono b5.size)
        have hx6 := hx.grow bK
        have hev6 := hev.below bK
        replace hO := hO.below bK
        obtain ⟨k0, k1, k2⟩ := kK
        unfold BatArg.v
        by_cases hxe : xe = 0
        ·subst hxe
         obtain ⟨hve, hxp⟩ := ErrIs.zero hev6
         subst hve hxp
         have hbr0 := hok rfl
         obtain ⟨_, hvf, hvh, _, _⟩ := bright_ok hbr0
         have hE : xb.1 = x.f ∧ xb.2.1 = x.h ∧ xb.2.2 = x.l := by rw [← hx2]; exact ⟨rfl, rfl, rfl⟩
         rw [hE.1] at hvf
         rw [hE.2.1] at hvh
         have ff := fits_of hvf
         have fh := fits_of hvh
         have h60 : xb.2.2.length ≤ 60 := (bright_ok hbr0).2.2.2.1
         clear hev hev6 hok hbr0 hvf hvh
         go_wp2_with fail
         refine (framewrite_any _ x hx6 ff fh hcap.1 hcap.2 (hg.below b6)).mono ?_
         rintro r w7 ⟨v7, rfl, hv7, hb7⟩
         have b7 := b6.trans (hb7.mono b6.size)
         have hx7 := hx6.grow hb7
         replace hO := hO.below hb7
         replace k0 := (hb7.cell (cell_lt k0)).trans k0
         replace k1 := (hb7.cell (cell_lt k1)).trans k1
         replace k2 := (hb7.cell (cell_lt k2)).trans k2
         obtain ⟨⟨ft, fe, fp⟩, hfr⟩ : ∃ y, frameOf (bwrite x.f x.h x.l) = y := ⟨_, rfl⟩
         have HFR := Lib.hid hfr
         rw [hfr] at hv7 ⊢
         have hFL := frame_long (b := bwrite x.f x.h x.l)
         rw [hfr] at hFL
         simp only at hFL ⊢
         unfold ErrOf at hv7
         simp only at hv7
         clear hfr
         by_cases hfe : fe = 0
         ·subst hfe
          obtain rfl := ferr_nil hv7 rfl
          by_cases hft : ft = s
          ·subst hft
           have H := Lib.hid (uf_ok hX2.out (by rw [HBR.out]; simp) (by rw [HBR.out]; simp only; rw [hE.1, hE.2.1, hE.2.2, HFR.out]; simp))
           clear hv7 hFL
           have hZ := hO.put (.slice x.A x.n x.c) (.slice x.A' x.n' x.c') (.slice x.A'' x.n'' x.c'')
           have bZ := below_put3 b7 (Nat.le_of_eq hOO) (.slice x.A x.n x.c) (.slice x.A' x.n' x.c') (.slice x.A'' x.n'' x.c'')
           have hx8 := bat_put3 (a := .slice x.A x.n x.c) (b := .slice x.A' x.n' x.c') (c := .slice x.A'' x.n'' x.c'') hx7 hO
           obtain ⟨u0, u1, u2, j0, j1, j2⟩ := hO
           go_wp2
           unfold put3 at hZ bZ hx8
           obtain ⟨z0, z1, z2, _, _, _⟩ := hZ
           exact bodyPost_ret (v := .tuple #[x.v, .nilIface]) (by simp [results, Tryz.results20, go_sem, z0, z1, z2, BatArg.v]) rfl ⟨x, .nilIface, rfl, hx8, by rw [H.out, HBR.out]; exact hx2, hcap, by rw [H.out, HBR.out]; exact .none, bZ⟩
          ·have H := Lib.hid (uf_false hX2.out (by rw [HBR.out]; simp) (by rw [HBR.out]; simp only; rw [hE.1, hE.2.1, hE.2.2, HFR.out]; exact hft))
           have hne := toList_ne hft
           have hne2 : (ft.toList == s.toList) = false := by simpa using hne
           clear hv7 hft hFL
           have hZ := hO.put nilS nilS nilS
           have bZ := below_put3 b7 (Nat.le_of_eq hOO) nilS nilS nilS
           obtain ⟨u0, u1, u2, j0, j1, j2⟩ := hO
           go_wp2
           unfold put3 at hZ bZ
           obtain ⟨z0, z1, z2, _, _, _⟩ := hZ
           exact bodyPost_ret (v := .tuple #[.agg #[nilS, nilS, nilS], .iface 27 (.int .i64 13)]) (by simp [results, Tryz.results20, go_sem, z0, z1, z2]) rfl (rend_no H.out (.bare 13 (by decide)) bZ)
         ·have hft : ft ≠ s := fun h => fr_eight h8 (h ▸ hFL hfe)
          have H := Lib.hid (uf_false hX2.out (by rw [HBR.out]; simp) (by rw [HBR.out]; simp only; rw [hE.1, hE.2.1, hE.2.2, HFR.out]; exact hft))
          obtain ⟨ty, u, rfl⟩ := ferr_some hv7 hfe
          clear hv7 hfe hft hFL
          have hZ := hO.put nilS nilS nilS
          have bZ := below_put3 b7 (Nat.le_of_eq hOO) nilS nilS nilS
          obtain ⟨u0, u1, u2, j0, j1, j2⟩ := hO
          go_wp2
          unfold put3 at hZ bZ
          obtain ⟨z0, z1, z2, _, _, _⟩ := hZ
          exact bodyPost_ret (v := .tuple #[.agg #[nilS, nilS, nilS], .iface 27 (.int .i64 13)]) (by simp [results, Tryz.results20, go_sem, z0, z1, z2]) rfl (rend_no H.out (.bare 13 (by decide)) bZ)
        ·have H := Lib.hid (uf_bad hX2.out (by rw [HBR.out]; exact hxe))
         rw [HBR.out] at H
         obtain ⟨ty, u, rfl⟩ := ferr_some hev6 hxe
         clear hok hxe hx2
         have HV := Lib.hid (show ErrIs (put3 (w5.alloc (.cells #[.slice x.A x.n x.c, .slice x.A' x.n' x.c', .slice x.A'' x.n'' x.c''] 25)) O nilS nilS nilS) (.iface ty u) xe xp from err_put3 hev6 hO)
         have hZ := hO.put nilS nilS nilS
         have bZ := below_put3 b6 (Nat.le_of_eq hOO) nilS nilS nilS
         obtain ⟨u0, u1, u2, j0, j1, j2⟩ := hO
         go_wp2
         unfold put3 at hZ bZ HV
         obtain ⟨z0, z1, z2, _, _, _⟩ := hZ
         exact bodyPost_ret (v := .tuple #[.agg #[nilS, nilS, nilS], .iface ty u]) (by simp [results, Tryz.results20, go_sem, z0, z1, z2]) rfl (rend_no H.out HV.out bZ)
       ·have H := Lib.hid (uf_len hXL.out hl)
        obtain ⟨dl, dl2⟩ := fr_lno hl
        clear hl
        have hZ := hO.put nilS nilS nilS
        have bZ := below_put3 b3 (Nat.le_of_eq hOO) nilS nilS nilS
        obtain ⟨u0, u1, u2, j0, j1, j2⟩ := hO
        go_wp2
        unfold put3 at hZ bZ
        obtain ⟨z0, z1, z2, _, _, _⟩ := hZ
        exact bodyPost_ret (v := .tuple #[.agg #[nilS, nilS, nilS], .iface 27 (.int .i64 2)]) (by simp [results, Tryz.results20, go_sem, z0, z1, z2]) rfl (rend_no H.out (.bare 2 (by decide)) bZ)
      ·have H := Lib.hid (uf_swell HXT.out HQ.out HLS.out hle)
       obtain ⟨ty, u, e9⟩ := ferr_some hv3 hle
       subst e9
       have HLE := Lib.hid hle
       clear hle
       go_wp2_with fail
       refine (tell_any hv3 (hg.below b3)).mono ?_
       rintro r w4 ⟨rfl, hb4⟩
       have b4 := b3.trans (hb4.mono b3.size)
       replace hO := hO.below hb4
       have hZ := hO.put nilS nilS nilS
       have bZ := below_put3 b4 (Nat.le_of_eq hOO) nilS nilS nilS
       obtain ⟨u0, u1, u2, j0, j1, j2⟩ := hO
       go_wp2
       unfold put3 at hZ bZ
       obtain ⟨z0, z1, z2, _, _, _⟩ := hZ
       exact bodyPost_ret (v := .tuple #[.agg #[nilS, nilS, nilS], .iface 27 (.int .i64 le)]) (by simp [results, Tryz.results20, go_sem, z0, z1, z2]) rfl (rend_no H.out (.bare le HLE.out) bZ)
     ·obtain ⟨d2, d2'⟩ := fr_not (fun h => hq (HB3.out.trans h))
      have hXL := Lib.hid (uf_plain HXT.out hq)
      clear hq
      by_cases hl : TX.size = n
      ·have hX2 := Lib.hid (uf_read hXL.out (fun h => h hl))
       have hl5 : TX.size ≤ 1000000 := hTXs
       obtain ⟨dl, dl2⟩ := fr_len hl
       clear hl
       go_wp2_with fail
       refine (bodyread_any TX _ hl5 (hg.below b1)).mono ?_
       rintro r w5 ⟨x, ve, rfl, hx, hx2, hcap, hev, hb5⟩
       have b5 := b1.trans (hb5.mono b1.size)
       replace hO := hO.below hb5
       obtain ⟨⟨xb, xe, xp⟩, hbr⟩ : ∃ y, bread TX = y := ⟨_, rfl⟩
       have HBR := Lib.hid hbr
       have hok := bread_ok TX
       rw [hbr] at hx2 hev hok
       simp only at hx2 hev hok
       clear hbr
       have bK := below1 w5 (.cells #[.slice x.A x.n x.c, .slice x.A' x.n' x.c', .slice x.A'' x.n'' x.c''] 25)
       have kK := BxAt.new w5 x
       have b6 := b5.trans (bK.mono b5.size)
       have hx6 := hx.grow bK
       have hev6 := hev.below bK
       replace hO := hO.below bK
       obtain ⟨k0, k1, k2⟩ := kK
       unfold BatArg.v
       by_cases hxe : xe = 0
       ·subst hxe
        obtain ⟨hve, hxp⟩ := ErrIs.zero hev6
        subst hve hxp
        have hbr0 := hok rfl
        obtain ⟨_, hvf, hvh, _, _⟩ := bright_ok hbr0
        have hE : xb.1 = x.f ∧ xb.2.1 = x.h ∧ xb.2.2 = x.l := by rw [← hx2]; exact ⟨rfl, rfl, rfl⟩
        rw [hE.1] at hvf
        rw [hE.2.1] at hvh
        have ff := fits_of hvf
        have fh := fits_of hvh
        have h60 : xb.2.2.length ≤ 60 := (bright_ok hbr0).2.2.2.1
        clear hev hev6 hok hbr0 hvf hvh
        go_wp2_with fail
        refine (framewrite_any _ x hx6 ff fh hcap.1 hcap.2 (hg.below b6)).mono ?_
        rintro r w7 ⟨v7, rfl, hv7, hb7⟩
        have b7 := b6.trans (hb7.mono b6.size)
        have hx7 := hx6.grow hb7
        replace hO := hO.below hb7
        replace k0 := (hb7.cell (cell_lt k0)).trans k0
        replace k1 := (hb7.cell (cell_lt k1)).trans k1
        replace k2 := (hb7.cell (cell_lt k2)).trans k2
        obtain ⟨⟨ft, fe, fp⟩, hfr⟩ : ∃ y, frameOf (bwrite x.f x.h x.l) = y := ⟨_, rfl⟩
        have HFR := Lib.hid hfr
        rw [hfr] at hv7 ⊢
        have hFL := frame_long (b := bwrite x.f x.h x.l)
        rw [hfr] at hFL
        simp only at hFL ⊢
        unfold ErrOf at hv7
        simp only at hv7
        clear hfr
        by_cases hfe : fe = 0
        ·subst hfe
         obtain rfl := ferr_nil hv7 rfl
         by_cases hft : ft = s
         ·subst hft
          have H := Lib.hid (uf_ok hX2.out (by rw [HBR.out]; simp) (by rw [HBR.out]; simp only; rw [hE.1, hE.2.1, hE.2.2, HFR.out]; simp))
          clear hv7 hFL
          have hZ := hO.put (.slice x.A x.n x.c) (.slice x.A' x.n' x.c') (.slice x.A'' x.n'' x.c'')
          have bZ := below_put3 b7 (Nat.le_of_eq hOO) (.slice x.A x.n x.c) (.slice x.A' x.n' x.c') (.slice x.A'' x.n'' x.c'')
          have hx8 := bat_put3 (a := .slice x.A x.n x.c) (b := .slice x.A' x.n' x.c') (c := .slice x.A'' x.n'' x.c'') hx7 hO
          obtain ⟨u0, u1, u2, j0, j1, j2⟩ := hO
          go_wp2
          unfold put3 at hZ bZ hx8
          obtain ⟨z0, z1, z2, _, _, _⟩ := hZ
          exact bodyPost_ret (v := .tuple #[x.v, .nilIface]) (by simp [results, Tryz.results20, go_sem, z0, z1, z2, BatArg.v]) rfl ⟨x, .nilIface, rfl, hx8, by rw [H.out, HBR.out]; exact hx2, hcap, by rw [H.out, HBR.out]; exact .none, bZ⟩
         ·have H := Lib.hid (uf_false hX2.out (by rw [HBR.out]; simp) (by rw [HBR.out]; simp only; rw [hE.1, hE.2.1, hE.2.2, HFR.out]; exact hft))
          have hne := toList_ne hft
          have hne2 : (ft.toList == s.toList) = false := by simpa using hne
          clear hv7 hft hFL
          have hZ := hO.put nilS nilS nilS
          have bZ := below_put3 b7 (Nat.le_of_eq hOO) nilS nilS nilS
          obtain ⟨u0, u1, u2, j0, j1, j2⟩ := hO
          go_wp2
          unfold put3 at hZ bZ
          obtain ⟨z0, z1, z2, _, _, _⟩ := hZ
          exact bodyPost_ret (v := .tuple #[.agg #[nilS, nilS, nilS], .iface 27 (.int .i64 13)]) (by simp [results, Tryz.results20, go_sem, z0, z1, z2]) rfl (rend_no H.out (.bare 13 (by decide)) bZ)
        ·have hft : ft ≠ s := fun h => fr_eight h8 (h ▸ hFL hfe)
         have H := Lib.hid (uf_false hX2.out (by rw [HBR.out]; simp) (by rw [HBR.out]; simp only; rw [hE.1, hE.2.1, hE.2.2, HFR.out]; exact hft))
         obtain ⟨ty, u, rfl⟩ := ferr_some hv7 hfe
         clear hv7 hfe hft hFL
         have hZ := hO.put nilS nilS nilS
         have bZ := below_put3 b7 (Nat.le_of_eq hOO) nilS nilS nilS
         obtain ⟨u0, u1, u2, j0, j1, j2⟩ := hO
         go_wp2
         unfold put3 at hZ bZ
         obtain ⟨z0, z1, z2, _, _, _⟩ := hZ
         exact bodyPost_ret (v := .tuple #[.agg #[nilS, nilS, nilS], .iface 27 (.int .i64 13)]) (by simp [results, Tryz.results20, go_sem, z0, z1, z2]) rfl (rend_no H.out (.bare 13 (by decide)) bZ)
       ·have H := Lib.hid (uf_bad hX2.out (by rw [HBR.out]; exact hxe))
        rw [HBR.out] at H
        obtain ⟨ty, u, rfl⟩ := ferr_some hev6 hxe
        clear hok hxe hx2
        have HV := Lib.hid (show ErrIs (put3 (w5.alloc (.cells #[.slice x.A x.n x.c, .slice x.A' x.n' x.c', .slice x.A'' x.n'' x.c''] 25)) O nilS nilS nilS) (.iface ty u) xe xp from err_put3 hev6 hO)
        have hZ := hO.put nilS nilS nilS
        have bZ := below_put3 b6 (Nat.le_of_eq hOO) nilS nilS nilS
        obtain ⟨u0, u1, u2, j0, j1, j2⟩ := hO
        go_wp2
        unfold put3 at hZ bZ HV
        obtain ⟨z0, z1, z2, _, _, _⟩ := hZ
        exact bodyPost_ret (v := .tuple #[.agg #[nilS, nilS, nilS], .iface ty u]) (by simp [results, Tryz.results20, go_sem, z0, z1, z2]) rfl (rend_no H.out HV.out bZ)
      ·have H := Lib.hid (uf_len hXL.out hl)
       obtain ⟨dl, dl2⟩ := fr_lno hl
       clear hl
       have hZ := hO.put nilS nilS nilS
       have bZ := below_put3 b1 (Nat.le_of_eq hOO) nilS nilS nilS
       obtain ⟨u0, u1, u2, j0, j1, j2⟩ := hO
       go_wp2
       unfold put3 at hZ bZ
       obtain ⟨z0, z1, z2, _, _, _⟩ := hZ
       exact bodyPost_ret (v := .tuple #[.agg #[nilS, nilS, nilS], .iface 27 (.int .i64 2)]) (by simp [results, Tryz.results20, go_sem, z0, z1, z2]) rfl (rend_no H.out (.bare 2 (by decide)) bZ)
    ·have H := Lib.hid (uf_int HY.out HF.out (by rw [← HU.out]; exact HA.out) hei)
     have HEI := Lib.hid hei
     rw [errV_of hei]
     clear hei
     have hZ := hO.put nilS nilS nilS
     have bZ := below_put3 b1 (Nat.le_of_eq hOO) nilS nilS nilS
     obtain ⟨u0, u1, u2, j0, j1, j2⟩ := hO
     go_wp2
     unfold put3 at hZ bZ
     obtain ⟨z0, z1, z2, _, _, _⟩ := hZ
     exact bodyPost_ret (v := .tuple #[.agg #[nilS, nilS, nilS], .iface 27 (.int .i64 ei)]) (by simp [results, Tryz.results20, go_sem, z0, z1, z2]) rfl (rend_no H.out (.bare ei HEI.out) bZ)
  ·have H := Lib.hid (uf_state HY.out h3)
   have d1 : (v != 3) = true := by rw [bne_iff_ne]; exact h3
   have hZ := hO.put nilS nilS nilS
   have bZ := below_put3 b1 (Nat.le_of_eq hOO) nilS nilS nilS
   obtain ⟨u0, u1, u2, j0, j1, j2⟩ := hO
   clear h3
   go_wp2
   unfold put3 at hZ bZ
   obtain ⟨z0, z1, z2, _, _, _⟩ := hZ
   exact bodyPost_ret (v := .tuple #[.agg #[nilS, nilS, nilS], .iface 27 (.int .i64 6)]) (by simp [results, Tryz.results20, go_sem, z0, z1, z2]) rfl (rend_no H.out (.bare 6 (by decide)) bZ)
 ·have H := Lib.hid (uf_ver HY.out he)
  have HE := Lib.hid he
  rw [errV_of he]
  have hZ := hO.put nilS nilS nilS
  have bZ := below_put3 b1 (Nat.le_of_eq hOO) nilS nilS nilS
  obtain ⟨u0, u1, u2, j0, j1, j2⟩ := hO
  clear he
  go_wp2
  unfold put3 at hZ bZ
  obtain ⟨z0, z1, z2, _, _, _⟩ := hZ
  exact bodyPost_ret (v := .tuple #[.agg #[nilS, nilS, nilS], .iface 27 (.int .i64 e)]) (by simp [results, Tryz.results20, go_sem, z0, z1, z2]) rfl (rend_no H.out (.bare e HE.out) bZ)
end Go.Proofs.YtkejlnjnoiidnaaGreatDoor
end

section
namespace Go.Proofs.YtkejlnjnoiidnaaGreatDoor
set_option linter.unusedSimpArgs false
set_option linter.unusedVariables false
open Go.RowKit As
/-- A batch's three slices and a fault. -/
structure RB (w : World) (O F : Nat) (v0 v1 v2 : Value) (x y : Int) : Prop where
 c0 : w.cell? ⟨O, 0, none⟩ = some v0
 c1 : w.cell? ⟨O, 1, none⟩ = some v1
 c2 : w.cell? ⟨O, 2, none⟩ = some v2
 x : w.cell? ⟨F, 0, none⟩ = some (.int .i64 x)
 y : w.cell? ⟨F, 1, none⟩ = some (.int .i64 y)
 f0 : w.frozen? ⟨O, 0, none⟩ = false
 f1 : w.frozen? ⟨O, 1, none⟩ = false
 f2 : w.frozen? ⟨O, 2, none⟩ = false
 fx : w.frozen? ⟨F, 0, none⟩ = false
 fy : w.frozen? ⟨F, 1, none⟩ = false
section
variable {w w' : World} {O F B : Nat} {v0 v1 v2 : Value} {x y : Int}
theorem RB.keep (h : RB w O F v0 v1 v2 x y) (hb : Below B w w') (h1 : O < B) (h2 : F < B) : RB w' O F v0 v1 v2 x y :=
  ⟨(hb.cell (p := ⟨O, 0, none⟩) h1).trans h.c0, (hb.cell (p := ⟨O, 1, none⟩) h1).trans h.c1, (hb.cell (p := ⟨O, 2, none⟩) h1).trans h.c2, (hb.cell (p := ⟨F, 0, none⟩) h2).trans h.x, (hb.cell (p := ⟨F, 1, none⟩) h2).trans h.y,
   (hb.frozen (p := ⟨O, 0, none⟩) h1).trans h.f0, (hb.frozen (p := ⟨O, 1, none⟩) h1).trans h.f1, (hb.frozen (p := ⟨O, 2, none⟩) h1).trans h.f2, (hb.frozen (p := ⟨F, 0, none⟩) h2).trans h.fx, (hb.frozen (p := ⟨F, 1, none⟩) h2).trans h.fy⟩
theorem RB.below (h : RB w O F v0 v1 v2 x y) (hb : Below w.heap.size w w') : RB w' O F v0 v1 v2 x y := h.keep hb (cell_lt h.c0) (cell_lt h.x)
theorem RB.drew (h : RB w O F v0 v1 v2 x y) : RB w.drew O F v0 v1 v2 x y := ⟨h.c0, h.c1, h.c2, h.x, h.y, h.f0, h.f1, h.f2, h.fx, h.fy⟩
theorem RB.set0 (h : RB w O F v0 v1 v2 x y) (hn : O ≠ F) (v : Value) : RB (w.setCell ⟨O, 0, none⟩ v) O F v v1 v2 x y :=
 ⟨World.cell?_setCell_same _ _ _ h.c0, res_ne h.c1 (by omega), res_ne h.c2 (by omega), res_nb h.x hn, res_nb h.y hn, by simpa using h.f0, by simpa using h.f1, by simpa using h.f2, by simpa using h.fx, by simpa using h.fy⟩
theorem RB.set1 (h : RB w O F v0 v1 v2 x y) (hn : O ≠ F) (v : Value) : RB (w.setCell ⟨O, 1, none⟩ v) O F v0 v v2 x y :=
 ⟨res_ne h.c0 (by omega), World.cell?_setCell_same _ _ _ h.c1, res_ne h.c2 (by omega), res_nb h.x hn, res_nb h.y hn, by simpa using h.f0, by simpa using h.f1, by simpa using h.f2, by simpa using h.fx, by simpa using h.fy⟩
theorem RB.set2 (h : RB w O F v0 v1 v2 x y) (hn : O ≠ F) (v : Value) : RB (w.setCell ⟨O, 2, none⟩ v) O F v0 v1 v x y :=
 ⟨res_ne h.c0 (by omega), res_ne h.c1 (by omega), World.cell?_setCell_same _ _ _ h.c2, res_nb h.x hn, res_nb h.y hn, by simpa using h.f0, by simpa using h.f1, by simpa using h.f2, by simpa using h.fx, by simpa using h.fy⟩
theorem RB.setF (h : RB w O F v0 v1 v2 x y) (hn : O ≠ F) (x' y' : Int) : RB ((w.setCell ⟨F, 0, none⟩ (.int .i64 x')).setCell ⟨F, 1, none⟩ (.int .i64 y')) O F v0 v1 v2 x' y' :=
 have q : F ≠ O := Ne.symm hn
 ⟨res_nb (res_nb h.c0 q) q, res_nb (res_nb h.c1 q) q, res_nb (res_nb h.c2 q) q, res_ne (World.cell?_setCell_same _ _ _ h.x) (by omega), World.cell?_setCell_same _ _ _ (res_ne h.y (by omega)), by simpa using h.f0, by simpa using h.f1, by simpa using h.f2, by simpa using h.fx, by simpa using h.fy⟩
theorem RB.other (h : RB w O F v0 v1 v2 x y) {C i : Nat} (h1 : C ≠ O) (h2 : C ≠ F) (v : Value) : RB (w.setCell ⟨C, i, none⟩ v) O F v0 v1 v2 x y :=
 ⟨res_nb h.c0 h1, res_nb h.c1 h1, res_nb h.c2 h1, res_nb h.x h2, res_nb h.y h2, by simpa using h.f0, by simpa using h.f1, by simpa using h.f2, by simpa using h.fx, by simpa using h.fy⟩
end
theorem RB.new (w : World) (t1 t2 : TypeId) : RB ((w.alloc (.cells #[nilS, nilS, nilS] t1)).alloc (.cells #[.int .i64 0, .int .i64 0] t2)) w.heap.size (w.heap.size + 1) nilS nilS nilS 0 0 := by
 generalize hW : w.alloc (.cells #[nilS, nilS, nilS] t1) = w1
 have b2 := below1 w1 (.cells #[.int .i64 0, .int .i64 0] t2)
 have l1 : w1.heap.size = w.heap.size + 1 := by rw [← hW]; simp
 have o : ∀ i, i < 3 → w1.cell? ⟨w.heap.size, i, none⟩ = some nilS := by
  intro i hi
  rw [← hW, World.cell?_alloc_new]
  have : i = 0 ∨ i = 1 ∨ i = 2 := by omega
  rcases this with rfl | rfl | rfl <;> rfl
 have g : ∀ i, (w1.alloc (.cells #[.int .i64 0, .int .i64 0] t2)).frozen? ⟨w.heap.size, i, none⟩ = false := by
  intro i
  rw [b2.frozen (p := ⟨w.heap.size, i, none⟩) (by simp; omega), ← hW]; simp
 have T := Two.new w1 0 0 t2
 rw [l1] at T
 exact ⟨(b2.cell (cell_lt (o 0 (by omega)))).trans (o 0 (by omega)), (b2.cell (cell_lt (o 1 (by omega)))).trans (o 1 (by omega)), (b2.cell (cell_lt (o 2 (by omega)))).trans (o 2 (by omega)), T.c0, T.c1, g 0, g 1, g 2, T.f0, T.f1⟩
set_option maxHeartbeats 1000000 in
set_option maxRecDepth 100000 in
theorem rbd_good (F O : Nat) (y : Int) (w : World) (h0 : w.cell? ⟨F, 0, none⟩ = some (.int .i64 0)) (h1 : w.cell? ⟨F, 1, none⟩ = some (.int .i64 y)) :
  CallsD Tryz.prog 97 #[.pointer (some ⟨F, 0, none⟩), .pointer (some ⟨O, 0, none⟩)] .returning w fun e u' w' => u' = .returning ∧ (e = .returned (.tuple #[]) ∧ Below w.heap.size w w') := by
 go_enter_d Tryz.func97, Tryz.ntmps97
 go_wp2_with fail
 refine (is_any (0, y) _).mono ?_
 rintro r w2 ⟨rfl, hb2⟩
 have e1 : (((0, y) : Int × Int).1 == 0) = true := rfl
 rw [e1]
 go_wp2
 go_end0
 exact ⟨rfl, hb2⟩
set_option maxHeartbeats 1000000 in
set_option maxRecDepth 100000 in
theorem rbd_bad (F O : Nat) (v0 v1 v2 : Value) (x y : Int) (w : World) (h : RB w O F v0 v1 v2 x y) (hx : x ≠ 0) (h2 : O ≠ F) :
  CallsD Tryz.prog 97 #[.pointer (some ⟨F, 0, none⟩), .pointer (some ⟨O, 0, none⟩)] .returning w fun e u' w' => u' = .returning ∧ (e = .returned (.tuple #[]) ∧ RB w' O F nilS nilS nilS x y ∧ ∀ B, B ≤ O → Below B w w') := by
 have HR := h
 obtain ⟨r0, r1, r2, r3, r4, _, _, _, _, _⟩ := h
 have e1 : (((x, y) : Int × Int).1 == 0) = false := by simpa using hx
 go_enter_d Tryz.func97, Tryz.ntmps97
 go_wp2_with fail
 refine (is_any (x, y) _).mono ?_
 rintro r w2 ⟨rfl, hb2⟩
 rw [e1]
 have H1 := (HR.below hb2).set0 h2 nilS
 have H2 := H1.set1 h2 nilS
 have H3 := H2.set2 h2 nilS
 have lO : O < w.heap.size := cell_lt HR.c0
 have p1 := H1.c1
 have p2 := H2.c2
 obtain ⟨k0, k1, k2, k3, k4, k5, k6, k7, k8, k9⟩ := HR.below hb2
 clear r0 r1 r2 r3 r4
 go_wp2
 go_end0
 exact ⟨rfl, H3, fun B q1 => (((hb2.mono (by omega)).setCell (p := ⟨O, 0, none⟩) q1 _).setCell (p := ⟨O, 1, none⟩) q1 _).setCell (p := ⟨O, 2, none⟩) q1 _⟩
/-- A batch's rows lie from B on. -/
def Above (B : Nat) (x : BatArg) : Prop := (∀ a, x.A = some a → B ≤ a.block) ∧ (∀ a, x.A' = some a → B ≤ a.block) ∧ (∀ a, x.A'' = some a → B ≤ a.block)
theorem own_above {w : World} {base B0 : Nat} {e : TypeId} {size n m c : Nat} {A : Option Addr} {xs : List Value} (h : w.ownsRow base e size (.slice A n c) m xs) (hB : B0 ≤ base) : ∀ a, A = some a → B0 ≤ a.block := by
 intro a ha
 subst ha
 rcases h.2 with ⟨hv, _⟩ | ⟨g, cap, cur, hv, hg, _⟩
 ·cases hv
 ·injection hv with h1
  injection h1 with h1
  subst h1
  exact Nat.le_trans hB hg
/-- Where Unbody ends. -/
def RbEnd (s : ByteArray) (w : World) (e : Ending) (w' : World) : Prop :=
 ∃ x : BatArg, e = .returned (.tuple #[x.v, faultV (bread s).2]) ∧ Bat w' x ∧ (x.f, x.h, x.l) = (bread s).1 ∧ (x.n ≤ x.c ∧ x.n' ≤ x.c' ∧ Above w.heap.size x) ∧ Below w.heap.size w w'
theorem noCap (B : Nat) : noBat.n ≤ noBat.c ∧ noBat.n' ≤ noBat.c' ∧ Above B noBat := ⟨Nat.le_refl _, Nat.le_refl _, fun _ h => (by cases h), fun _ h => (by cases h), fun _ h => (by cases h)⟩
theorem rdoor_bad {s : ByteArray} {w W : World} {O F : Nat} {v0 v1 v2 : Value} {e q : Int} {tmps : Array Value} (hv : bread s = (noB, e, q)) (he : e ≠ 0) (R : RB W O F v0 v1 v2 0 (-1)) (hn : O ≠ F) (lO : w.heap.size ≤ O) (lF : w.heap.size ≤ F) (b : Below w.heap.size w W)
  (t2 : tmps[2]? = some (.pointer (some ⟨O, 0, none⟩))) (t3 : tmps[3]? = some (.pointer (some ⟨F, 0, none⟩))) :
  Leaves Tryz.prog Tryz.f49 tmps (RbEnd s w) [{ target := .fn (.func 51) #[], args := #[.pointer (some ⟨F, 0, none⟩)] }, { target := .fn (.func 97) #[.pointer (some ⟨F, 0, none⟩), .pointer (some ⟨O, 0, none⟩)], args := #[] }] (.panicking (Thrown e q)) W := by
 have HR := R
 refine leaves_cons (f := 51) (args := #[.pointer (some ⟨F, 0, none⟩)]) (by simp) (by simp [go_sem]) ?_
 refine (caught_hit F 0 (-1) e q [] _ R.x R.y R.fx R.fy).mono ?_
 rintro e' u' w' ⟨rfl, rfl, rfl⟩
 show Leaves _ _ _ _ _ .returning _
 have hZ := (HR.below (below1 W (.cells #[.int .i64 e, .int .i64 q] 138))).setF hn e q
 have bZ := ((b.alloc b.size (.cells #[.int .i64 e, .int .i64 q] 138)).setCell (p := ⟨F, 0, none⟩) lF (.int .i64 e)).setCell (p := ⟨F, 1, none⟩) lF (.int .i64 q)
 refine leaves_cons (f := 97) (args := #[.pointer (some ⟨F, 0, none⟩), .pointer (some ⟨O, 0, none⟩)]) (by simp) (by simp [go_sem]) ?_
 refine (rbd_bad F O _ _ _ _ _ _ hZ he hn).mono ?_
 rintro e' u' w' ⟨rfl, rfl, hZ', hb⟩
 have bF := bZ.trans (hb w.heap.size lO)
 obtain ⟨z0, z1, z2, z3, z4, _, _, _, _, _⟩ := hZ'
 show Leaves _ _ _ _ [] .returning _
 exact ⟨.tuple #[noBat.v, .agg #[.int .i64 e, .int .i64 q]], by simp [results, Tryz.results49, go_sem, t2, t3, z0, z1, z2, z3, z4, BatArg.v], noBat, by rw [hv]; rfl, noBat_is _, by rw [hv], noCap _, bF⟩
end Go.Proofs.YtkejlnjnoiidnaaGreatDoor
end

section
namespace Go.Proofs.YtkejlnjnoiidnaaGreatDoor
set_option linter.unusedSimpArgs false
set_option linter.unusedVariables false
open Go.RowKit As
structure RL (w0 : World) (O E R B : Nat) (s : ByteArray) (p : Nat) (v0 v1 v2 tv av : Value) (f h : List Ent) (ws : List Wr) (T : List ByteArray) (a : List Int) (w : World) : Prop where
 sc : Sc w R s p
 bt : RB w O E v0 v1 v2 0 (-1)
 f : w.ownsRow B 79 2 v0 f.length (entV f)
 h : w.ownsRow B 79 2 v1 h.length (entV h)
 t : w.ownsRow B 9 1 tv T.length (T.map Value.string)
 ws : w.ownsRow B 53 6 v2 ws.length (wrsV ws)
 a : w.ownsRow B 3 1 av a.length (intsV a)
 bel : Below w0.heap.size w0 w
 sz : B ≤ w.heap.size
section
variable {w0 w w' : World} {O E R B p : Nat} {s : ByteArray} {v0 v1 v2 tv av v : Value} {f h : List Ent} {ws : List Wr} {T : List ByteArray} {a : List Int}
theorem RL.below (H : RL w0 O E R B s p v0 v1 v2 tv av f h ws T a w) (hb : Below w.heap.size w w') : RL w0 O E R B s p v0 v1 v2 tv av f h ws T a w' :=
 ⟨H.sc.below hb, H.bt.below hb, own_below H.f hb, own_below H.h hb, own_below H.t hb, own_below H.ws hb, own_below H.a hb, H.bel.trans (hb.mono H.bel.size), Nat.le_trans H.sz hb.size⟩
theorem RL.setR (H : RL w0 O E R B s p v0 v1 v2 tv av f h ws T a w) (S : BS w0 O E R B) (n : Nat) : RL w0 O E R B s n v0 v1 v2 tv av f h ws T a (w.setCell ⟨R, 1, none⟩ (.int .i64 (n : Int))) :=
 ⟨H.sc.step n, H.bt.other S.ro S.re _, own_set _ H.f S.r, own_set _ H.h S.r, own_set _ H.t S.r, own_set _ H.ws S.r, own_set _ H.a S.r, H.bel.setCell (p := ⟨R, 1, none⟩) S.lr _, by simpa using H.sz⟩
theorem RL.step (H : RL w0 O E R B s p v0 v1 v2 tv av f h ws T a w) (S : BS w0 O E R B) (q n : Nat) : RL w0 O E R B s n v0 v1 v2 tv av f h ws T a ((w.drewN q).setCell ⟨R, 1, none⟩ (.int .i64 (n : Int))) :=
 (H.below (below_drewN (Below.refl _ _) q)).setR S n
theorem RL.growT (H : RL w0 O E R B s p v0 v1 v2 tv av f h ws T a w) (S : BS w0 O E R B) (hg : w.grownBy w' tv.ownBlock) {T' : List ByteArray} (ht : w'.ownsRow B 9 1 v T'.length (T'.map Value.string)) : RL w0 O E R B s p v0 v1 v2 v av f h ws T' a w' :=
 have bb := grown_own (Below.refl B w) hg H.sz H.t
 ⟨H.sc.keep bb S.r, H.bt.keep bb S.o S.e, H.f.kept hg (own_ne H.f H.t (by decide)), H.h.kept hg (own_ne H.h H.t (by decide)), ht, H.ws.kept hg (own_ne H.ws H.t (by decide)), H.a.kept hg (own_ne H.a H.t (by decide)), H.bel.trans (bb.mono S.lb), Nat.le_trans H.sz bb.size⟩
theorem RL.growA (H : RL w0 O E R B s p v0 v1 v2 tv av f h ws T a w) (S : BS w0 O E R B) (hg : w.grownBy w' av.ownBlock) {a' : List Int} (ht : w'.ownsRow B 3 1 v a'.length (intsV a')) : RL w0 O E R B s p v0 v1 v2 tv v f h ws T a' w' :=
 have bb := grown_own (Below.refl B w) hg H.sz H.a
 ⟨H.sc.keep bb S.r, H.bt.keep bb S.o S.e, H.f.kept hg (own_ne H.f H.a (by decide)), H.h.kept hg (own_ne H.h H.a (by decide)), H.t.kept hg (own_ne H.t H.a (by decide)), H.ws.kept hg (own_ne H.ws H.a (by decide)), ht, H.bel.trans (bb.mono S.lb), Nat.le_trans H.sz bb.size⟩
theorem RL.growW (H : RL w0 O E R B s p v0 v1 v2 tv av f h ws T a w) (S : BS w0 O E R B) (hg : w.grownBy w' v2.ownBlock) {ws' : List Wr} (ht : w'.ownsRow B 53 6 v ws'.length (wrsV ws')) : RL w0 O E R B s p v0 v1 v tv av f h ws' T a (w'.setCell ⟨O, 2, none⟩ v) :=
 have bb := grown_own (Below.refl B w) hg H.sz H.ws
 ⟨by have k := H.sc.keep bb S.r; exact ⟨res_nb k.c0 (Ne.symm S.ro), res_nb k.c1 (Ne.symm S.ro), by simpa using k.f1⟩, (H.bt.keep bb S.o S.e).set2 S.oe _, own_set _ (H.f.kept hg (own_ne H.f H.ws (by decide))) S.o, own_set _ (H.h.kept hg (own_ne H.h H.ws (by decide))) S.o, own_set _ (H.t.kept hg (own_ne H.t H.ws (by decide))) S.o, own_set _ ht S.o, own_set _ (H.a.kept hg (own_ne H.a H.ws (by decide))) S.o, (H.bel.trans (bb.mono S.lb)).setCell (p := ⟨O, 2, none⟩) S.lo _, by simpa using Nat.le_trans H.sz bb.size⟩
theorem RL.vecs {f' h' : List Ent} {u0 u1 : Value} (H : RL w0 O E R B s p u0 u1 v2 tv av f' h' ws T a w) (S : BS w0 O E R B) (hf : w.ownsRow B 79 2 v0 f.length (entV f)) (hh : w.ownsRow B 79 2 v1 h.length (entV h)) : RL w0 O E R B s p v0 v1 v2 tv av f h ws T a ((w.setCell ⟨O, 0, none⟩ v0).setCell ⟨O, 1, none⟩ v1) :=
 ⟨⟨res_nb (res_nb H.sc.c0 (Ne.symm S.ro)) (Ne.symm S.ro), res_nb (res_nb H.sc.c1 (Ne.symm S.ro)) (Ne.symm S.ro), by simpa using H.sc.f1⟩, (H.bt.set0 S.oe _).set1 S.oe _, own_set _ (own_set _ hf S.o) S.o, own_set _ (own_set _ hh S.o) S.o, own_set _ (own_set _ H.t S.o) S.o, own_set _ (own_set _ H.ws S.o) S.o, own_set _ (own_set _ H.a S.o) S.o, (H.bel.setCell (p := ⟨O, 0, none⟩) S.lo _).setCell (p := ⟨O, 1, none⟩) S.lo _, by simpa using H.sz⟩
end
/-- Its write, in block g. -/
structure RLG (w0 : World) (O E R B g : Nat) (x : Wr) (s : ByteArray) (p : Nat) (v0 v1 v2 tv av : Value) (f h : List Ent) (ws : List Wr) (T : List ByteArray) (a : List Int) (w : World) : Prop where
 b : RL w0 O E R B s p v0 v1 v2 tv av f h ws T a w
 k : w.ownsRow B 53 6 (.slice (some ⟨g, 0, none⟩) 1 1) 1 (wrCells x)
 off : v2.ownBlock = none ∨ v2.ownBlock ≠ some g
section
variable {w0 w w' : World} {O E R B g p : Nat} {x : Wr} {s : ByteArray} {v0 v1 v2 tv av v : Value} {f h : List Ent} {ws : List Wr} {T : List ByteArray} {a : List Int}
theorem RLG.ge (H : RLG w0 O E R B g x s p v0 v1 v2 tv av f h ws T a w) : B ≤ g := (H.k.lt g rfl).1
theorem RLG.lt (H : RLG w0 O E R B g x s p v0 v1 v2 tv av f h ws T a w) : g < w.heap.size := (H.k.lt g rfl).2
theorem RL.newG (H : RL w0 O E R B s p v0 v1 v2 tv av f h ws T a w) (x : Wr) : RLG w0 O E R B w.heap.size x s p v0 v1 v2 tv av f h ws T a (w.alloc (wrO x.1 x.2.1 x.2.2.1 x.2.2.2.1 x.2.2.2.2.1 x.2.2.2.2.2)) :=
 ⟨H.below (below1 w _), World.ownsRow_lit w _ 1 H.sz (by unfold maxLen; omega) rfl, by
  rcases hv : v2.ownBlock with _ | k
  ·exact .inl rfl
  ·have := (H.ws.lt k hv).2
   exact .inr (by simp; omega)⟩
theorem RLG.below (H : RLG w0 O E R B g x s p v0 v1 v2 tv av f h ws T a w) (hb : Below w.heap.size w w') : RLG w0 O E R B g x s p v0 v1 v2 tv av f h ws T a w' := ⟨H.b.below hb, own_below H.k hb, H.off⟩
theorem RLG.setR (H : RLG w0 O E R B g x s p v0 v1 v2 tv av f h ws T a w) (S : BS w0 O E R B) (n : Nat) : RLG w0 O E R B g x s n v0 v1 v2 tv av f h ws T a (w.setCell ⟨R, 1, none⟩ (.int .i64 (n : Int))) := ⟨H.b.setR S n, own_set _ H.k S.r, H.off⟩
theorem RLG.step (H : RLG w0 O E R B g x s p v0 v1 v2 tv av f h ws T a w) (S : BS w0 O E R B) (q n : Nat) : RLG w0 O E R B g x s n v0 v1 v2 tv av f h ws T a ((w.drewN q).setCell ⟨R, 1, none⟩ (.int .i64 (n : Int))) :=
 (H.below (below_drewN (Below.refl _ _) q)).setR S n
theorem RLG.growA (H : RLG w0 O E R B g x s p v0 v1 v2 tv av f h ws T a w) (S : BS w0 O E R B) (hg : w.grownBy w' av.ownBlock) {a' : List Int} (ht : w'.ownsRow B 3 1 v a'.length (intsV a')) : RLG w0 O E R B g x s p v0 v1 v2 tv v f h ws T a' w' :=
 ⟨H.b.growA S hg ht, H.k.kept hg (own_ne H.k H.b.a (by decide)), H.off⟩
theorem RLG.setG (H : RLG w0 O E R B g x s p v0 v1 v2 tv av f h ws T a w) (S : BS w0 O E R B) {y : Wr} (j : Nat) (u : Value) (hy : wrCells y = (wrCells x).set j u) : RLG w0 O E R B g y s p v0 v1 v2 tv av f h ws T a (w.setCell ⟨g, j, none⟩ u) := by
 obtain ⟨h1, h2⟩ := H.k.stored j u
 rw [← hy] at h1
 have hge := H.ge
 have bb : Below B w (w.setCell ⟨g, j, none⟩ u) := (Below.refl B w).setCell (p := ⟨g, j, none⟩) hge _
 exact ⟨⟨H.b.sc.keep bb S.r, H.b.bt.keep bb S.o S.e, H.b.f.kept h2 (own_ne H.b.f H.k (by decide)), H.b.h.kept h2 (own_ne H.b.h H.k (by decide)), H.b.t.kept h2 (own_ne H.b.t H.k (by decide)), H.b.ws.kept h2 H.off, H.b.a.kept h2 (own_ne H.b.a H.k (by decide)), H.b.bel.trans (bb.mono S.lb), by simpa using H.b.sz⟩, h1, H.off⟩
theorem RLG.cell (H : RLG w0 O E R B g x s p v0 v1 v2 tv av f h ws T a w) (j : Nat) (hj : j < 6) : w.cell? ⟨g, j, none⟩ = (wrCells x)[j]? := H.k.cellAt j (by omega)
theorem RLG.froz (H : RLG w0 O E R B g x s p v0 v1 v2 tv av f h ws T a w) (j : Nat) : w.frozen? ⟨g, j, none⟩ = false := H.k.frozenAt j
theorem RLG.at_ (H : RLG w0 O E R B g x s p v0 v1 v2 tv av f h ws T a w) : WrAt w g x.1 x.2.1 x.2.2.1 x.2.2.2.1 x.2.2.2.2.1 x.2.2.2.2.2 :=
 ⟨H.cell 0 (by omega), H.cell 1 (by omega), H.cell 2 (by omega), H.cell 3 (by omega), H.cell 4 (by omega), H.cell 5 (by omega)⟩
theorem RLG.free (H : RLG w0 O E R B g x s p v0 v1 v2 tv av f h ws T a w) : Free6 w g := ⟨H.froz 0, H.froz 1, H.froz 2, H.froz 3, H.froz 4, H.froz 5⟩
end
end Go.Proofs.YtkejlnjnoiidnaaGreatDoor
end

section
namespace Go.Proofs.YtkejlnjnoiidnaaGreatDoor
open Go.RowKit As Go.Maps
theorem intKeyed : Keyed Tryz.prog 3 := int_keyed Tryz.underlying3
theorem not_in_succ {T : List ByteArray} {m : Nat} {s s2 : ByteArray} (h : ¬ s ∈ T.take m) (hx : T[m]? = some s2) (hne : s2 ≠ s) : ¬ s ∈ T.take (m + 1) := by
 obtain ⟨h1, h2⟩ := List.getElem?_eq_some_iff.1 hx
 rw [List.take_succ_eq_append_getElem h1, h2]
 simp only [List.mem_append, List.mem_singleton]
 rintro (h3 | h3)
 ·exact h h3
 ·exact hne h3.symm
theorem in_take {T : List ByteArray} {m k : Nat} {s : ByteArray} (hx : T[m]? = some s) (hm : m < k) : s ∈ T.take k := by
 have : (T.take k)[m]? = some s := by rw [List.getElem?_take_of_lt hm]; exact hx
 exact List.mem_of_getElem? this
set_option maxHeartbeats 4000000 in
set_option maxRecDepth 100000 in
theorem rlist_any (n c n' c' : Nat) (A A' : Option Addr) (T : List ByteArray) (l : List Int) (w : World) (h : Strs w A n T) (h' : Ints w A' n' l) (hn : n ≤ 1000) (hn' : n' ≤ 1000) (hli : ∀ x ∈ l, -9223372036854775808 ≤ x ∧ x ≤ 9223372036854775807) :
  Calls Tryz.prog 99 #[.slice A n c, .slice A' n' c'] w fun e w' => ∃ v, e = .returned (.tuple #[v, faultV (klist T l).2]) ∧ w'.ownsRow w.heap.size 9 1 v (klist T l).1.length ((klist T l).1.map Value.string) ∧ Below w.heap.size w w' := by
 have hmm := @run_makeMap Tryz.prog
 obtain ⟨i0, hi, hz0, hz1, hz2⟩ := info_parts strInfo
 have hT := Lib.hid (sl1_len Value.string h)
 have hL := Lib.hid (sl1_len (Value.int .i64) h')
 go_enter Tryz.func99, Tryz.ntmps99
 go_wp2
 go_loopw [6, 7, 14] (fun _ _ i wr => ∃ k : Nat, k ≤ n ∧ i = .int .i64 k ∧ KT T k ∧ Two wr w.heap.size 0 0 ∧ Below w.heap.size w wr) (fun _ _ i _ => n - (intOf i).toNat)
 case atStart => exact ⟨0, by omega, rfl, KT.zero T, Two.new _ _ _ _, below1 _ _⟩
 case round =>
  obtain ⟨k, hk, rfl, hkt, h2, hbel⟩ := hrel
  have HK := Lib.hid hkt
  clear hkt
  have hB := hbel.size
  by_cases hlt : k < n
  ·obtain ⟨b, o, s, rfl, hb, hx, hc⟩ := sl1_at Value.string h hT.out hlt
   have hkn : (k : Int) < (n : Int) := by omega
   have hX := Lib.hid hx
   clear hx
   go_wp2
   go_loopw [7, 18] (fun _ j wx => ∃ m : Nat, m ≤ k ∧ j = .int .i64 m ∧ Hid (¬ s ∈ T.take m) ∧ Two wx w.heap.size 0 0 ∧ Below w.heap.size w wx) (fun _ j _ => k - (intOf j).toNat)
   case atStart => exact ⟨0, by omega, rfl, Lib.hid (by simp), h2, hbel⟩
   case round =>
    clear h2 hbel hB
    obtain ⟨m, hm, rfl, hni, h2, hbel⟩ := hrel
    have hB := hbel.size
    have c1 := (hbel.cell (p := ⟨b, o + k, none⟩) hb).trans hc
    by_cases hlt2 : m < k
    ·obtain ⟨b', o', s2, e', hb', hx2, hc2⟩ := sl1_at Value.string h hT.out (k := m) (by omega)
     injection e' with e'
     injection e' with e1 e2
     subst e1 e2
     have c2 := (hbel.cell (p := ⟨b, o + m, none⟩) hb).trans hc2
     have hmn : (m : Int) < (n : Int) := by omega
     have hX2 := Lib.hid hx2
     clear hx2 hc2
     by_cases hss : s2 = s
     ·subst hss
      have hres := Lib.hid (klist_twice (a := l) (HK.out.hit hX.out (in_take hX2.out hlt2)))
      obtain ⟨d0, d1, f0, f1⟩ := h2
      go_wp2
      go_quiet (fail)
      have S := set2 (w := wr.drewN nq) (.int .i64 9) (.int .i64 (k : Int)) d0 d1
      go_wp2
      refine bodyPost_ret (v := .tuple #[.slice none 0 0, .agg #[.int .i64 9, .int .i64 (k : Int)]]) (by simp [results, Tryz.results99, go_sem, S.1, S.2]) rfl ⟨.slice none 0 0, by rw [hres.out]; rfl, ?_, below_set2 _ _ (below_drewN hbel _) (Nat.le_refl _)⟩
      rw [hres.out]; exact World.ownsRow_nil _ _ _ _
     ·have hne : (s2.toList == s.toList) = false := by have := toList_ne hss; simpa using this
      have hnx := Lib.hid (not_in_succ hni.out hX2.out hss)
      have Hss := Lib.hid hss
      clear hss
      go_wp2
      go_quiet (fail)
      go_wp2
      go_roundw
      case rel => exact ⟨m + 1, by omega, by go_num, hnx, h2.below (below_drewN (Below.refl _ _) _), below_drewN hbel _⟩
      case measure => simp [intOf]; omega
    ·obtain rfl : m = k := by omega
     have hnext := Lib.hid (HK.out.succ hX.out hni.out)
     go_wp2
     go_roundw
     case rel => exact ⟨m + 1, by omega, by go_num, hnext.out, h2, hbel⟩
     case measure => simp [intOf]; omega
  ·obtain rfl : k = n := by omega
   have honce := HK.out.all (by rw [hT.out]; exact Nat.le_refl _)
   have hres := Lib.hid (klist_once (a := l) honce)
   clear honce hlt HK
   have hs0 := h2.lt
   have hT2 := Lib.hid h2
   go_wp2
   obtain ⟨wA, hwA⟩ : ∃ wA, wA = wr := ⟨_, rfl⟩
   rw [← hwA] at hs0 hT2 hbel ⊢
   clear hwA h2 hB
   go_loopw [8, 10, 11, 37] (fun v _ _ i wx => ∃ (j next : Nat) (out : List ByteArray), j ≤ n' ∧ i = .int .i64 j ∧ KA T l j next out ∧ wx.ownsRow wA.heap.size 9 1 v out.length (out.map Value.string) ∧ (∃ D : DataW Unit, wx.ownsMap Tryz.prog 3 (plainElem Tryz.prog 4) wA.heap.size j D ∧ Upto D next) ∧ Below wA.heap.size wA wx) (fun _ _ _ i _ => n' - (intOf i).toNat)
   case atStart => exact ⟨0, 0, [], by omega, rfl, KA.zero T l, World.ownsRow_nil _ _ _ _, ⟨_, World.ownsMap_made _ _ _ _, Upto.nil⟩, below1 _ _⟩
   case round =>
    obtain ⟨j, next, out, hj, rfl, hka, hO, ⟨D, hM, hD⟩, hbx⟩ := hrel
    have hB := hbx.size
    have hbel2 := hbel.trans (hbx.mono hbel.size)
    have hB2 := hbel2.size
    have hol := hka.len
    have hnx := hka.le
    have hnx' := hka.le'
    have hTl := hT.out
    rw [hTl] at hnx
    have HKA := Lib.hid hka
    have HTL := Lib.hid hTl
    have HD := Lib.hid hD
    have hsz := Lib.hid hD.1
    clear hka hTl hD
    obtain ⟨d0, d1, f0, f1⟩ := hT2.out.keep hbx hs0
    have hs1 : w.heap.size < wr.heap.size := by omega
    by_cases hlt : j < n'
    ·obtain ⟨b, o, x, rfl, hb, hx, hc⟩ := sl1_at (Value.int .i64) h' hL.out hlt
     have hc' := (hbel2.cell (p := ⟨b, o + j, none⟩) hb).trans hc
     clear hc
     have hxi := hli x (List.mem_of_getElem? hx)
     have hX := Lib.hid hx
     clear hx
     by_cases h1 : x < 0 ∨ (k : Int) ≤ x
     ·have hr := Lib.hid (HKA.out.range hX.out (by rw [HTL.out]; exact h1))
      have B0 := Lib.hid (show inB x 0 ((k : Int) - 1) = false by unfold inB; rw [decide_eq_false]; omega)
      have S := set2 (.int .i64 2) (.int .i64 (j : Int)) d0 d1
      clear h1
      go_wp2_with fail
      refine (within_is B0 _).mono ?_
      rintro e w' ⟨rfl, rfl⟩
      go_wp2
      refine bodyPost_ret (v := .tuple #[.slice none 0 0, .agg #[.int .i64 2, .int .i64 (j : Int)]]) (by simp [results, Tryz.results99, go_sem, S.1, S.2]) rfl ⟨.slice none 0 0, by rw [hres.out, hr.out]; rfl, ?_, below_set2 _ _ hbel2 (Nat.le_refl _)⟩
      rw [hres.out, hr.out]; exact World.ownsRow_nil _ _ _ _
     ·have B0 := Lib.hid (show inB x 0 ((k : Int) - 1) = true by unfold inB; rw [decide_eq_true]; omega)
      by_cases h3 : (next : Int) < x
      ·have hr := Lib.hid (HKA.out.false hX.out (by rw [HTL.out]; exact h1) h3)
       have e3 : decide ((next : Int) < x) = true := by simpa using h3
       have S := set2 (.int .i64 13) (.int .i64 (j : Int)) d0 d1
       clear h1 h3
       go_wp2_with fail
       refine (within_is B0 _).mono ?_
       rintro e w' ⟨rfl, rfl⟩
       go_wp2_with (at_len; refine wpList_len_own _ rfl _ 179 rfl 3 4 Tryz.underlying179 _ wA.heap.size j D rfl hM ?_; rw [hsz.out])
       refine bodyPost_ret (v := .tuple #[.slice none 0 0, .agg #[.int .i64 13, .int .i64 (j : Int)]]) (by simp [results, Tryz.results99, go_sem, S.1, S.2]) rfl ⟨.slice none 0 0, by rw [hres.out, hr.out]; rfl, ?_, below_set2 _ _ hbel2 (Nat.le_refl _)⟩
       rw [hres.out, hr.out]; exact World.ownsRow_nil _ _ _ _
      ·obtain ⟨y, rfl⟩ := Int.eq_ofNat_of_zero_le (show 0 ≤ x by omega)
       have hyk : y < k := by omega
       have e3 : decide (next < y) = false := by simp; omega
       obtain ⟨b2, o2, s2, rfl, hb2, hx2, hc2⟩ := sl1_at Value.string h hT.out hyk
       have hc3 := (hbel2.cell (p := ⟨b2, o2 + y, none⟩) hb2).trans hc2
       have hg2 := Lib.hid (show T.getD (y : Int).toNat (strOf []) = s2 by rw [Int.toNat_natCast]; simp [List.getD, hx2])
       have hX2 := Lib.hid hx2
       have HC2 := Lib.hid ((hbel.cell (p := ⟨b2, o2 + y, none⟩) hb2).trans hc2)
       have hbA : b2 < wA.heap.size := by have := hbel.size; omega
       clear hc2 hx2
       have hkey := keyOf_int_mk Tryz.underlying3 (a := (y : Int)) (q := .i64) (WalkArith.wf_i64 (by omega))
       have hmO := own_map_ne' hO hM
       have hrel2 : ∃ next' : Nat, KA T l (j + 1) next' (out ++ [s2]) ∧ Upto (D.put (.int .i64 (y : Int)) (.lit (.bool true))) next' := by
        by_cases h4 : y = next
        ·have hnew := HKA.out.new hX.out (by rw [HTL.out]; exact h1) (by rw [h4])
         rw [hg2.out] at hnew
         subst h4
         exact ⟨_, hnew, HD.out.new⟩
        ·have hold := HKA.out.old hX.out (by rw [HTL.out]; exact h1) (show (y : Int) < (next : Int) by omega)
         rw [hg2.out] at hold
         exact ⟨_, hold, HD.out.old (by omega) (by omega)⟩
       have HREL := Lib.hid hrel2
       clear h1 h3 hrel2
       go_wp2_with fail
       refine (within_is B0 _).mono ?_
       rintro e w' ⟨rfl, rfl⟩
       go_wp2_with (first
        | (at_len; refine wpList_len_own _ rfl _ 179 rfl 3 4 Tryz.underlying179 _ wA.heap.size j D rfl hM ?_; rw [hsz.out])
        | (at_mapUpdate; refine wpList_mapUpdate_own _ rfl _ _ _ 179 rfl 3 4 intKeyed Tryz.underlying179 _ wA.heap.size j D rfl hM (by unfold maxLen; omega) _ _ _ rfl rfl hkey _ [] (plainElem_bool Tryz.underlying4 true) ?_; intro w1 hM1 hg1; have hb1 := hbx.grown hg1 hB (fun j hj => by cases hj; exact Nat.le_refl _); have hO1 := hO.kept hg1 (.inr hmO.symm); have hc4 := (hb1.cell (p := ⟨b2, o2 + y, none⟩) hbA).trans HC2.out)
        | (at_builtin; refine wpList_append_own _ rfl (.tmp 58) (.tmp 63) 116 rfl wA.heap.size 9 i0 (.string ⟨#[]⟩) 1 16 Tryz.underlying116 hi hz0 hz1 hz2 rfl (by decide) u8 out.length (out.map Value.string) rfl (hO1.alloc _) ⟨w1.heap.size, 0, none⟩ 1 1 [.string s2] rfl rfl (cells_new1 _ _ _) (by intro u hu; simp at hu; subst hu; rfl) (by unfold maxLen; omega) (by omega) (by have := hb1.size; simp; omega) ?_; intro v1 w2 hO2 hg3 _; have hb3 := grown_own (hb1.alloc hb1.size _) hg3 (by have := hb1.size; simp; omega) (hO1.alloc _); have hO3 := ownStr_snoc rfl hO2; have hM3 := (hM1.alloc _).kept hg3 (own_map_ne' hO1 hM1)))
       obtain ⟨nx, HA1, HU1⟩ := HREL.out
       go_roundw
       case rel => exact ⟨j + 1, nx, _, by omega, by go_num, HA1, hO3, ⟨_, hM3, HU1⟩, hb3⟩
       case measure => simp [intOf]; omega
    ·obtain rfl : j = n' := by omega
     by_cases h4 : next < k
     ·have hr := Lib.hid (HKA.out.less (by rw [hL.out]; exact Nat.le_refl _) (by rw [HTL.out]; exact h4))
      have d4 : decide (next < k) = true := by simpa using h4
      clear h4
      go_wp2_with (first
       | (at_len; refine wpList_len_own _ rfl _ 179 rfl 3 4 Tryz.underlying179 _ wA.heap.size j D rfl hM ?_; rw [hsz.out])
       | (go_at_call 47; refine (bareF_any 8 _).mono ?_; rintro e w3 ⟨rfl, hb3⟩; have hb4 := hbel2.trans (hb3.mono hB2); obtain ⟨c0, c1, g0, g1⟩ := hT2.out.keep (hbx.trans (hb3.mono hB)) hs0))
      have S := set2 (.int .i64 8) (.int .i64 (-1)) c0 c1
      go_wp2
      refine bodyPost_ret (v := .tuple #[.slice none 0 0, .agg #[.int .i64 8, .int .i64 (-1)]]) (by simp [results, Tryz.results99, go_sem, S.1, S.2]) rfl ⟨.slice none 0 0, by rw [hres.out, hr.out]; rfl, ?_, below_set2 _ _ hb4 (Nat.le_refl _)⟩
      rw [hres.out, hr.out]; exact World.ownsRow_nil _ _ _ _
     ·have hr := Lib.hid (HKA.out.done (by rw [hL.out]; exact Nat.le_refl _) (by rw [HTL.out]; exact h4))
      have d4 : decide (next < k) = false := by simpa using h4
      clear h4
      go_wp2_with (first
       | (at_len; refine wpList_len_own _ rfl _ 179 rfl 3 4 Tryz.underlying179 _ wA.heap.size j D rfl hM ?_; rw [hsz.out])
       | (go_at_call 35; refine (good_any _).mono ?_; rintro e w3 ⟨rfl, hb3⟩; have hb4 := hbel2.trans (hb3.mono hB2); obtain ⟨c0, c1, g0, g1⟩ := hT2.out.keep (hbx.trans (hb3.mono hB)) hs0))
      have S := set2 (.int .i64 0) (.int .i64 (-1)) c0 c1
      have hO2 := ownsRow_below hO hb3 hB
      go_wp2
      refine bodyPost_ret (v := .tuple #[u8, .agg #[.int .i64 0, .int .i64 (-1)]]) (by simp [results, Tryz.results99, go_sem, S.1, S.2]) rfl ⟨u8, by rw [hres.out, hr.out]; rfl, ?_, below_set2 _ _ hb4 (Nat.le_refl _)⟩
      rw [hres.out, hr.out]
      exact own_less (own_set _ (own_set _ hO2 hs0) hs0) (by omega)
end Go.Proofs.YtkejlnjnoiidnaaGreatDoor
end
