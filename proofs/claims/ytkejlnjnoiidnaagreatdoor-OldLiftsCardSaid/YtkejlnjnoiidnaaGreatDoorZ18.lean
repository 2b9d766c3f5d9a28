/- frame.Read says what unframe says. -/
import Derived.Test.YtkejlnjnoiidnaaGreatDoorZ11
import Derived.Test.YtkejlnjnoiidnaaGreatDoorZ15
import Derived.Test.YtkejlnjnoiidnaaGreatDoorZ17
import Derived.Test.YtkejlnjnoiidnaaGreatDoorZ12
set_option linter.unusedSimpArgs false
set_option linter.unusedVariables false
section
namespace Go.Proofs.YtkejlnjnoiidnaaGreatDoor
open Go.RowKit As
structure O3 (w : World) (O : Nat) (v0 v1 v2 : Value) : Prop where
 c0 : w.cell? ⟨O, 0, none⟩ = some v0
 c1 : w.cell? ⟨O, 1, none⟩ = some v1
 c2 : w.cell? ⟨O, 2, none⟩ = some v2
 f0 : w.frozen? ⟨O, 0, none⟩ = false
 f1 : w.frozen? ⟨O, 1, none⟩ = false
 f2 : w.frozen? ⟨O, 2, none⟩ = false
def put3 (w : World) (O : Nat) (a b c : Value) : World := ((w.setCell ⟨O, 0, none⟩ a).setCell ⟨O, 1, none⟩ b).setCell ⟨O, 2, none⟩ c
section
variable {w w' : World} {O : Nat} {v0 v1 v2 : Value}
theorem O3.below (h : O3 w O v0 v1 v2) (hb : Below w.heap.size w w') : O3 w' O v0 v1 v2 :=
 ⟨(hb.cell (cell_lt h.c0)).trans h.c0, (hb.cell (cell_lt h.c1)).trans h.c1, (hb.cell (cell_lt h.c2)).trans h.c2, (hb.frozen (cell_lt h.c0)).trans h.f0, (hb.frozen (cell_lt h.c1)).trans h.f1, (hb.frozen (cell_lt h.c2)).trans h.f2⟩
theorem O3.new (w : World) (a b c : Value) (t : TypeId) : O3 (w.alloc (.cells #[a, b, c] t)) w.heap.size a b c := by
 refine ⟨?_, ?_, ?_, by simp, by simp, by simp⟩ <;> (rw [World.cell?_alloc_new]; rfl)
theorem O3.put (h : O3 w O v0 v1 v2) (a b c : Value) : O3 (put3 w O a b c) O a b c := by
 unfold put3;refine ⟨?_, ?_, ?_, by simpa using h.f0, by simpa using h.f1, by simpa using h.f2⟩
 ·exact zaw (zaw (World.cell?_setCell_same _ _ _ h.c0) (by omega)) (by omega)
 ·exact zaw (World.cell?_setCell_same _ _ _ (zaw h.c1 (by omega))) (by omega)
 ·exact World.cell?_setCell_same _ _ _ (zaw (zaw h.c2 (by omega)) (by omega))
theorem zay {B : Nat} {a : World} (h : Below B a w) (hO : B ≤ O) (x y z : Value) : Below B a (put3 w O x y z) := by
 unfold put3;exact ((h.setCell (p := ⟨O, 0, none⟩) hO _).setCell (p := ⟨O, 1, none⟩) hO _).setCell (p := ⟨O, 2, none⟩) hO _
end
def REnd (X : BR) (w : World) (e : Ending) (w' : World) : Prop :=
 ∃ (x : zav) (ve : Value), e = .returned (.tuple #[x.v, ve]) ∧ Bat w' x ∧ (x.f, x.h, x.l) = X.1 ∧ (x.n ≤ x.c ∧ x.n' ≤ x.c') ∧ zbo w' ve X.2.1 X.2.2 ∧ Below w.heap.size w w'
theorem zcz {X : BR} {w w' : World} {ve : Value} {e p : Int} (hX : X = (noB, e, p)) (hv : zbo w' ve e p) (hb : Below w.heap.size w w') : REnd X w (.returned (.tuple #[.agg #[nilS, nilS, nilS], ve])) w' := by
 subst hX;exact ⟨zis, ve, rfl, zhy _, rfl, ⟨Nat.le_refl _, Nat.le_refl _⟩, hv, hb⟩
theorem zhd {w : World} {p q : Addr} {u v x : Value} (hq : w.cell? q = some u) (hp : w.cell? p = some v) (hne : u ≠ v) : (w.setCell p x).cell? q = some u := by
 rw [World.cell?_setCell_other _ _ _ _ (by intro h; subst h; rw [hq] at hp; injection hp with hp; exact hne hp)];exact hq
theorem zmt {w : World} {O : Nat} {q : Addr} {u a b c : Value} (hO : O3 w O nilS nilS nilS) (hq : w.cell? q = some u) (hu : u ≠ nilS) : (put3 w O a b c).cell? q = some u := by
 unfold put3;have h1 := zhd (x := a) hq hO.c0 hu;have h2 := zhd (x := b) h1 (zaw (v := a) hO.c1 (i := 0) (by omega)) hu;exact zhd h2 (zaw (v := b) (zaw (v := a) hO.c2 (i := 0) (by omega)) (i := 1) (by omega)) hu
theorem ydp {w : World} {O : Nat} {a b c : Value} : (put3 w O a b c).heap.size = w.heap.size := by unfold put3; simp
theorem zun {w : World} {B O size n : Nat} {A : Option Addr} {xs : List Value} {a b c : Value} (h : Sl w B size A n xs) (hO : O3 w O nilS nilS nilS) (hx : ∀ u ∈ xs, u ≠ nilS) : Sl (put3 w O a b c) B size A n xs :=
 ⟨h.1, fun hn => by
  obtain ⟨b, o, e, hb, hc⟩ := h.2 hn
  exact ⟨b, o, e, hb, fun j u hu => zmt hO (hc j u hu) (hx u (List.mem_of_getElem? hu))⟩⟩
theorem yiv {l : List Ent} : ∀ u ∈ l.flatMap zbv, u ≠ nilS := by
 intro u hu e;obtain ⟨x, _, hx⟩ := List.mem_flatMap.1 hu;subst e;simp [zbv] at hx
theorem yos {l : List Wr} : ∀ u ∈ l.flatMap zbb, u ≠ nilS := by
 intro u hu e;obtain ⟨x, _, hx⟩ := List.mem_flatMap.1 hu;subst e;simp [zbb] at hx
theorem zki {w : World} {O : Nat} {a b c : Value} {x : zav} (h : Bat w x) (hO : O3 w O nilS nilS nilS) : Bat (put3 w O a b c) x := by
 refine ⟨?_, ?_, ?_, h.nf, h.nh, h.nl⟩ <;> rw [ydp]
 ·exact zun h.f hO yiv
 ·exact zun h.h hO yiv
 ·exact zun h.l hO yos
theorem fr_k {k t u : Nat} (h1 : k ≤ 10) (h2 : 4 + k ≤ u) (h3 : u = t + 3) : IntKind.i64.wrap (1 + (k : Int)) = ((1 + k : Nat) : Int) ∧ wrap64 (1 + (k : Int)) = ((1 + k : Nat) : Int) ∧ 1 + k ≤ t ∧ ((1 + k : Nat) : Int) ≤ (t : Int) ∧ (0 : Int) ≤ ((1 + k : Nat) : Int) := by
 have e : (1 : Int) + (k : Int) = ((1 + k : Nat) : Int) := by omega
 rw [e];exact ⟨IntWalk.i64_in _ (by omega), IntWalk.wrap64_in _ (by omega), by omega, by omega, by omega⟩
theorem ybb {t : ByteArray} {a b : Nat} (h : t.size ≤ 1000000) : (t.extract a b).size ≤ 1000000 := by rw [ByteArray.size_extract]; omega
theorem yjj {n : Nat} (h : n = 1) : decide ((n : Int) = 1) = true ∧ ((n : Int) == 1) = true := by subst h; exact ⟨rfl, rfl⟩
theorem yix {n : Nat} (h : n ≠ 1) : decide ((n : Int) = 1) = false ∧ ((n : Int) == 1) = false := ⟨by simp only [decide_eq_false_iff_not]; omega, by rw [beq_eq_false_iff_ne]; omega⟩
theorem zym {n m : Nat} (h : n = m) : decide ((n : Int) = (m : Int)) = true ∧ ((n : Int) != (m : Int)) = false := by subst h; exact ⟨by simp, by simp⟩
theorem zwu {n m : Nat} (h : n ≠ m) : decide ((n : Int) = (m : Int)) = false ∧ ((n : Int) != (m : Int)) = true := ⟨by simp only [decide_eq_false_iff_not]; omega, by rw [bne_iff_ne]; omega⟩
theorem zxa {n : Nat} (h : 8 ≤ n) (h2 : n = 0) : False := by omega
theorem zpj {b : ByteArray × Int × Int} (h : (zcl b).2.1 ≠ 0) : (zcl b).1.size = 0 := by
 obtain ⟨t, e, p⟩ := b;by_cases he : e = 0
 ·subst he; rw [zle] at h; exact absurd rfl h
 ·rw [zmn he]; rfl
theorem zjj {w : World} {O : Nat} {a b c v : Value} {e p : Int} (h : zbo w v e p) (hO : O3 w O nilS nilS nilS) : zbo (put3 w O a b c) v e p := by
 cases h with
 | none => exact .none
 | bare _ he => exact .bare _ he
 | at_ b o _ _ he h0 h1 => exact .at_ b o _ _ he (zmt hO h0 (by intro h; cases h)) (zmt hO h1 (by intro h; cases h))
set_option maxHeartbeats 4000000 in
set_option maxRecDepth 100000 in
theorem yeh (s : ByteArray) (w : World) (hs : s.size ≤ 1000000) (hg : zbh w) :
  Calls Tryz.prog 20 #[.string s] w fun e w' => REnd (zdc s) w e w' := by
 have hO := O3.new w nilS nilS nilS 25;have b0 := zaa w (.cells #[nilS, nilS, nilS] 25);go_enter Tryz.func20, Tryz.ntmps20;go_wp2_with fail;refine (zfq s _ hs).mono ?_;rintro r w1 ⟨rfl, hb1⟩;replace hO := hO.below hb1;have b1 := b0.trans (hb1.mono b0.size);have lO := Nat.le_refl w.heap.size;generalize hOO : w.heap.size = O at hO;obtain ⟨⟨v, e⟩, hy⟩ : ∃ y, fver s = y := ⟨_, rfl⟩;have HY := Lib.hid hy;rw [hy];clear hy b0 hb1;simp only;by_cases he : e = 0
 ·subst he;have h8 := (zgd HY.out).1;rw [zak];by_cases h3 : v = 3
  ·subst h3;have w4 : IntKind.i64.wrap ((s.size : Int) - 4) = ((s.size - 4 : Nat) : Int) := by rw [show ((s.size : Int) - 4) = ((s.size - 4 : Nat) : Int) by omega]; exact IntWalk.i64_in _ (by omega)
   have w5 : wrap64 ((s.size : Int) - 4) = ((s.size - 4 : Nat) : Int) := by rw [show ((s.size : Int) - 4) = ((s.size - 4 : Nat) : Int) by omega]; exact IntWalk.wrap64_in _ (by omega)
   have j1 : (3 : Int) ≤ ((s.size - 4 : Nat) : Int) := by omega
   have j2 : s.size - 4 ≤ s.size := by omega
   have j3 : ((s.size - 4 : Nat) : Int) ≤ (s.size : Int) := by omega
   have j4 : 3 ≤ s.size - 4 := by omega
   have hU3 := znm h8;have hUs := zim h8;have hTs : (s.extract 3 (s.size - 4)).size = s.size - 7 := by rw [ByteArray.size_extract]; omega
   have hb3 := zkt (s := s) (a := 3) (b := s.size - 4) (i := 0) (by omega) (by omega);obtain ⟨U, hU⟩ : ∃ U, U = zjg s := ⟨_, rfl⟩;have HU := Lib.hid hU;rw [← hU] at hU3 hUs;obtain ⟨T, hT⟩ : ∃ T, T = s.extract 3 (s.size - 4) := ⟨_, rfl⟩;rw [← hT] at hTs hb3 hU3;have p0 : 0 < T.size := by omega
   have p1 : 1 ≤ T.size := by omega
   have q0 := zdv T 0 p0;replace hT := hT.symm;have hc1 : T.extract 1 T.size = U.extract 4 U.size := by rw [← hU3]; exact ybq 0 0
   have hb3' : byteOf s 3 = T[0].toNat := by rw [← q0, hb3]
   have hTm : T.size ≤ 1000000 := by omega
   have HTU := Lib.hid (show U.size = T.size + 3 by omega);clear hb3 q0 hU hTs hUs j1 j2 j3 j4;have j1 : (3 : Int) ≤ ((s.size - 4 : Nat) : Int) := by omega
   have j2 : s.size - 4 ≤ s.size := by omega
   have j3 : ((s.size - 4 : Nat) : Int) ≤ (s.size : Int) := by omega
   have j4 : 3 ≤ s.size - 4 := by omega
   by_cases hf : 1 < byteOf s 3
   ·have H := Lib.hid (ycb HY.out hf);have d1 : decide ((1 : Int) < (T[0].toNat : Int)) = true := decide_eq_true (by omega);have d1' : decide (1 < T[0].toNat) = true := decide_eq_true (by omega);clear hf hb3' hU3 hc1;have hZ := hO.put nilS nilS nilS;have bZ := zay b1 (Nat.le_of_eq hOO) nilS nilS nilS;obtain ⟨u0, u1, u2, j0, j1, j2⟩ := hO;go_wp2;unfold put3 at hZ bZ;obtain ⟨z0, z1, z2, _, _, _⟩ := hZ;exact bodyPost_ret (v := .tuple #[.agg #[nilS, nilS, nilS], .iface 27 (.int .i64 3)]) (by simp [results, Tryz.results20, go_sem, z0, z1, z2]) rfl (zcz H.out (.bare 3 (by decide)) bZ)
   ·have d1 : decide ((1 : Int) < (T[0].toNat : Int)) = false := decide_eq_false (by omega);have d1' : decide (1 < T[0].toNat) = false := decide_eq_false (by omega);have hv1 : (T.extract 1 T.size).size ≤ maxLen := by rw [ByteArray.size_extract]; unfold maxLen; omega
    have HF := Lib.hid hf;have HB3 := Lib.hid hb3';have HU3 := Lib.hid hU3;obtain ⟨n, k, ei, ha, hi⟩ := zdz U 4 20000;have hva : vint (T.extract 1 T.size).data.toList 20000 = (n, k, ei) := by rw [hc1]; exact ha
    have HVA := Lib.hid hva;have HA := Lib.hid ha;clear hf hb3' hU3 hc1 ha hva;go_wp2_with fail;refine (zdn _ 20000 w1 hv1 (by decide)).mono ?_;rintro r w2 ⟨rfl, rfl⟩;rw [HVA.out];simp only;rcases hi with ⟨rfl, hn2, hk0, hk1, hk2⟩ | ⟨hei, rfl, rfl⟩
    ·have HX := Lib.hid (ybh HY.out HF.out (by rw [← HU.out]; exact HA.out));rw [zak];clear w4 w5 j1 j2 j3 j4;obtain ⟨wk, wk2, l1, l2, l3⟩ := fr_k hk1 hk2 HTU.out;have hTX : T.extract (1 + k) T.size = U.extract (4 + k) U.size := by rw [← HU3.out]; exact ybq 0 k
     obtain ⟨TX, hTX2⟩ : ∃ x, x = T.extract (1 + k) T.size := ⟨_, rfl⟩;rw [← hTX2] at hTX;have hXT : zdc s = zhr s n TX := by rw [HX.out, hTX, ← HU.out]
     have HXT := Lib.hid hXT;have hTXs : TX.size ≤ 1000000 := by rw [hTX2]; exact ybb hTm
     replace hTX2 := hTX2.symm;clear hXT hTX hn2;by_cases hq : byteOf s 3 = 1
     ·obtain ⟨d2, d2'⟩ := yjj (HB3.out.symm.trans hq);have HQ := Lib.hid hq;clear hq;go_wp2_with fail;refine (ydc TX _ hTXs (hg.below b1)).mono ?_;rintro r w3 ⟨v3, rfl, hv3, hb3⟩;have b3 := b1.trans (hb3.mono b1.size);replace hO := hO.below hb3;have hsl := zug TX;obtain ⟨⟨LT, le, lp⟩, hls⟩ : ∃ y, zex TX = y := ⟨_, rfl⟩;have HLS := Lib.hid hls;rw [hls] at hv3 hsl ⊢;unfold zck at hv3;simp only at hv3 hsl ⊢;clear hls;by_cases hle : le = 0
      ·subst hle;obtain rfl := zjr hv3 rfl;have hXL := Lib.hid (zoo HXT.out HQ.out HLS.out);clear hv3;by_cases hl : LT.size = n
       ·have hX2 := Lib.hid (zqc hXL.out (fun h => h hl));have hl5 : LT.size ≤ 1000000 := Nat.le_trans hsl (by decide);obtain ⟨dl, dl2⟩ := zym hl;clear hl;go_wp2_with fail;refine (zhv LT _ hl5 (hg.below b3)).mono ?_;rintro r w5 ⟨x, ve, rfl, hx, hx2, hcap, hev, hb5⟩;have b5 := b3.trans (hb5.mono b3.size);replace hO := hO.below hb5;obtain ⟨⟨xb, xe, xp⟩, hbr⟩ : ∃ y, zcj LT = y := ⟨_, rfl⟩;have HBR := Lib.hid hbr;have hok := zia LT;rw [hbr] at hx2 hev hok;simp only at hx2 hev hok;clear hbr;have bK := zaa w5 (.cells #[.slice x.A x.n x.c, .slice x.A' x.n' x.c', .slice x.A'' x.n'' x.c''] 25);have kK := BxAt.new w5 x;have b6 := b5.trans (bK.mono b5.size);have hx6 := hx.grow bK;have hev6 := hev.below bK;replace hO := hO.below bK;obtain ⟨k0, k1, k2⟩ := kK;unfold zav.v;by_cases hxe : xe = 0
        ·subst hxe;obtain ⟨hve, hxp⟩ := zbo.zero hev6;subst hve hxp;have hbr0 := hok rfl;obtain ⟨_, hvf, hvh, _, _⟩ := zbq hbr0;have hE : xb.1 = x.f ∧ xb.2.1 = x.h ∧ xb.2.2 = x.l := by rw [← hx2]; exact ⟨rfl, rfl, rfl⟩
         rw [hE.1] at hvf;rw [hE.2.1] at hvh;have ff := zfv hvf;have fh := zfv hvh;have h60 : xb.2.2.length ≤ 60 := (zbq hbr0).2.2.2.1;clear hev hev6 hok hbr0 hvf hvh;go_wp2_with fail;refine (zfu _ x hx6 ff fh hcap.1 hcap.2 (hg.below b6)).mono ?_;rintro r w7 ⟨v7, rfl, hv7, hb7⟩;have b7 := b6.trans (hb7.mono b6.size);have hx7 := hx6.grow hb7;replace hO := hO.below hb7;replace k0 := (hb7.cell (cell_lt k0)).trans k0;replace k1 := (hb7.cell (cell_lt k1)).trans k1;replace k2 := (hb7.cell (cell_lt k2)).trans k2;obtain ⟨⟨ft, fe, fp⟩, hfr⟩ : ∃ y, zcl (zcb x.f x.h x.l) = y := ⟨_, rfl⟩;have HFR := Lib.hid hfr;rw [hfr] at hv7 ⊢;have hFL := zpj (b := zcb x.f x.h x.l);rw [hfr] at hFL;simp only at hFL ⊢;unfold zck at hv7;simp only at hv7;clear hfr;by_cases hfe : fe = 0
         ·subst hfe;obtain rfl := zjr hv7 rfl;by_cases hft : ft = s
          ·subst hft;have H := Lib.hid (yik hX2.out (by rw [HBR.out]; simp) (by rw [HBR.out]; simp only; rw [hE.1, hE.2.1, hE.2.2, HFR.out]; simp));clear hv7 hFL;have hZ := hO.put (.slice x.A x.n x.c) (.slice x.A' x.n' x.c') (.slice x.A'' x.n'' x.c'');have bZ := zay b7 (Nat.le_of_eq hOO) (.slice x.A x.n x.c) (.slice x.A' x.n' x.c') (.slice x.A'' x.n'' x.c'');have hx8 := zki (a := .slice x.A x.n x.c) (b := .slice x.A' x.n' x.c') (c := .slice x.A'' x.n'' x.c'') hx7 hO;obtain ⟨u0, u1, u2, j0, j1, j2⟩ := hO;go_wp2;unfold put3 at hZ bZ hx8;obtain ⟨z0, z1, z2, _, _, _⟩ := hZ;exact bodyPost_ret (v := .tuple #[x.v, .nilIface]) (by simp [results, Tryz.results20, go_sem, z0, z1, z2, zav.v]) rfl ⟨x, .nilIface, rfl, hx8, by rw [H.out, HBR.out]; exact hx2, hcap, by rw [H.out, HBR.out]; exact .none, bZ⟩
          ·have H := Lib.hid (zij hX2.out (by rw [HBR.out]; simp) (by rw [HBR.out]; simp only; rw [hE.1, hE.2.1, hE.2.2, HFR.out]; exact hft));have hne := zdt hft;have hne2 : (ft.toList == s.toList) = false := by simpa using hne
           clear hv7 hft hFL;have hZ := hO.put nilS nilS nilS;have bZ := zay b7 (Nat.le_of_eq hOO) nilS nilS nilS;obtain ⟨u0, u1, u2, j0, j1, j2⟩ := hO;go_wp2;unfold put3 at hZ bZ;obtain ⟨z0, z1, z2, _, _, _⟩ := hZ;exact bodyPost_ret (v := .tuple #[.agg #[nilS, nilS, nilS], .iface 27 (.int .i64 13)]) (by simp [results, Tryz.results20, go_sem, z0, z1, z2]) rfl (zcz H.out (.bare 13 (by decide)) bZ)
         ·have hft : ft ≠ s := fun h => zxa h8 (h ▸ hFL hfe)
          have H := Lib.hid (zij hX2.out (by rw [HBR.out]; simp) (by rw [HBR.out]; simp only; rw [hE.1, hE.2.1, hE.2.2, HFR.out]; exact hft));obtain ⟨ty, u, rfl⟩ := zev hv7 hfe;clear hv7 hfe hft hFL;have hZ := hO.put nilS nilS nilS;have bZ := zay b7 (Nat.le_of_eq hOO) nilS nilS nilS;obtain ⟨u0, u1, u2, j0, j1, j2⟩ := hO;go_wp2;unfold put3 at hZ bZ;obtain ⟨z0, z1, z2, _, _, _⟩ := hZ;exact bodyPost_ret (v := .tuple #[.agg #[nilS, nilS, nilS], .iface 27 (.int .i64 13)]) (by simp [results, Tryz.results20, go_sem, z0, z1, z2]) rfl (zcz H.out (.bare 13 (by decide)) bZ)
        ·have H := Lib.hid (zxt hX2.out (by rw [HBR.out]; exact hxe));rw [HBR.out] at H;obtain ⟨ty, u, rfl⟩ := zev hev6 hxe;clear hok hxe hx2;have HV := Lib.hid (show zbo (put3 (w5.alloc (.cells #[.slice x.A x.n x.c, .slice x.A' x.n' x.c', .slice x.A'' x.n'' x.c''] 25)) O nilS nilS nilS) (.iface ty u) xe xp from zjj hev6 hO);have hZ := hO.put nilS nilS nilS;have bZ := zay b6 (Nat.le_of_eq hOO) nilS nilS nilS;obtain ⟨u0, u1, u2, j0, j1, j2⟩ := hO;go_wp2;unfold put3 at hZ bZ HV;obtain ⟨z0, z1, z2, _, _, _⟩ := hZ;exact bodyPost_ret (v := .tuple #[.agg #[nilS, nilS, nilS], .iface ty u]) (by simp [results, Tryz.results20, go_sem, z0, z1, z2]) rfl (zcz H.out HV.out bZ)
       ·have H := Lib.hid (zxy hXL.out hl);obtain ⟨dl, dl2⟩ := zwu hl;clear hl;have hZ := hO.put nilS nilS nilS;have bZ := zay b3 (Nat.le_of_eq hOO) nilS nilS nilS;obtain ⟨u0, u1, u2, j0, j1, j2⟩ := hO;go_wp2;unfold put3 at hZ bZ;obtain ⟨z0, z1, z2, _, _, _⟩ := hZ;exact bodyPost_ret (v := .tuple #[.agg #[nilS, nilS, nilS], .iface 27 (.int .i64 2)]) (by simp [results, Tryz.results20, go_sem, z0, z1, z2]) rfl (zcz H.out (.bare 2 (by decide)) bZ)
      ·have H := Lib.hid (zyl HXT.out HQ.out HLS.out hle);obtain ⟨ty, u, e9⟩ := zev hv3 hle;subst e9;have HLE := Lib.hid hle;clear hle;go_wp2_with fail;refine (zde hv3 (hg.below b3)).mono ?_;rintro r w4 ⟨rfl, hb4⟩;have b4 := b3.trans (hb4.mono b3.size);replace hO := hO.below hb4;have hZ := hO.put nilS nilS nilS;have bZ := zay b4 (Nat.le_of_eq hOO) nilS nilS nilS;obtain ⟨u0, u1, u2, j0, j1, j2⟩ := hO;go_wp2;unfold put3 at hZ bZ;obtain ⟨z0, z1, z2, _, _, _⟩ := hZ;exact bodyPost_ret (v := .tuple #[.agg #[nilS, nilS, nilS], .iface 27 (.int .i64 le)]) (by simp [results, Tryz.results20, go_sem, z0, z1, z2]) rfl (zcz H.out (.bare le HLE.out) bZ)
     ·obtain ⟨d2, d2'⟩ := yix (fun h => hq (HB3.out.trans h));have hXL := Lib.hid (zwx HXT.out hq);clear hq;by_cases hl : TX.size = n
      ·have hX2 := Lib.hid (zqc hXL.out (fun h => h hl));have hl5 : TX.size ≤ 1000000 := hTXs;obtain ⟨dl, dl2⟩ := zym hl;clear hl;go_wp2_with fail;refine (zhv TX _ hl5 (hg.below b1)).mono ?_;rintro r w5 ⟨x, ve, rfl, hx, hx2, hcap, hev, hb5⟩;have b5 := b1.trans (hb5.mono b1.size);replace hO := hO.below hb5;obtain ⟨⟨xb, xe, xp⟩, hbr⟩ : ∃ y, zcj TX = y := ⟨_, rfl⟩;have HBR := Lib.hid hbr;have hok := zia TX;rw [hbr] at hx2 hev hok;simp only at hx2 hev hok;clear hbr;have bK := zaa w5 (.cells #[.slice x.A x.n x.c, .slice x.A' x.n' x.c', .slice x.A'' x.n'' x.c''] 25);have kK := BxAt.new w5 x;have b6 := b5.trans (bK.mono b5.size);have hx6 := hx.grow bK;have hev6 := hev.below bK;replace hO := hO.below bK;obtain ⟨k0, k1, k2⟩ := kK;unfold zav.v;by_cases hxe : xe = 0
       ·subst hxe;obtain ⟨hve, hxp⟩ := zbo.zero hev6;subst hve hxp;have hbr0 := hok rfl;obtain ⟨_, hvf, hvh, _, _⟩ := zbq hbr0;have hE : xb.1 = x.f ∧ xb.2.1 = x.h ∧ xb.2.2 = x.l := by rw [← hx2]; exact ⟨rfl, rfl, rfl⟩
        rw [hE.1] at hvf;rw [hE.2.1] at hvh;have ff := zfv hvf;have fh := zfv hvh;have h60 : xb.2.2.length ≤ 60 := (zbq hbr0).2.2.2.1;clear hev hev6 hok hbr0 hvf hvh;go_wp2_with fail;refine (zfu _ x hx6 ff fh hcap.1 hcap.2 (hg.below b6)).mono ?_;rintro r w7 ⟨v7, rfl, hv7, hb7⟩;have b7 := b6.trans (hb7.mono b6.size);have hx7 := hx6.grow hb7;replace hO := hO.below hb7;replace k0 := (hb7.cell (cell_lt k0)).trans k0;replace k1 := (hb7.cell (cell_lt k1)).trans k1;replace k2 := (hb7.cell (cell_lt k2)).trans k2;obtain ⟨⟨ft, fe, fp⟩, hfr⟩ : ∃ y, zcl (zcb x.f x.h x.l) = y := ⟨_, rfl⟩;have HFR := Lib.hid hfr;rw [hfr] at hv7 ⊢;have hFL := zpj (b := zcb x.f x.h x.l);rw [hfr] at hFL;simp only at hFL ⊢;unfold zck at hv7;simp only at hv7;clear hfr;by_cases hfe : fe = 0
        ·subst hfe;obtain rfl := zjr hv7 rfl;by_cases hft : ft = s
         ·subst hft;have H := Lib.hid (yik hX2.out (by rw [HBR.out]; simp) (by rw [HBR.out]; simp only; rw [hE.1, hE.2.1, hE.2.2, HFR.out]; simp));clear hv7 hFL;have hZ := hO.put (.slice x.A x.n x.c) (.slice x.A' x.n' x.c') (.slice x.A'' x.n'' x.c'');have bZ := zay b7 (Nat.le_of_eq hOO) (.slice x.A x.n x.c) (.slice x.A' x.n' x.c') (.slice x.A'' x.n'' x.c'');have hx8 := zki (a := .slice x.A x.n x.c) (b := .slice x.A' x.n' x.c') (c := .slice x.A'' x.n'' x.c'') hx7 hO;obtain ⟨u0, u1, u2, j0, j1, j2⟩ := hO;go_wp2;unfold put3 at hZ bZ hx8;obtain ⟨z0, z1, z2, _, _, _⟩ := hZ;exact bodyPost_ret (v := .tuple #[x.v, .nilIface]) (by simp [results, Tryz.results20, go_sem, z0, z1, z2, zav.v]) rfl ⟨x, .nilIface, rfl, hx8, by rw [H.out, HBR.out]; exact hx2, hcap, by rw [H.out, HBR.out]; exact .none, bZ⟩
         ·have H := Lib.hid (zij hX2.out (by rw [HBR.out]; simp) (by rw [HBR.out]; simp only; rw [hE.1, hE.2.1, hE.2.2, HFR.out]; exact hft));have hne := zdt hft;have hne2 : (ft.toList == s.toList) = false := by simpa using hne
          clear hv7 hft hFL;have hZ := hO.put nilS nilS nilS;have bZ := zay b7 (Nat.le_of_eq hOO) nilS nilS nilS;obtain ⟨u0, u1, u2, j0, j1, j2⟩ := hO;go_wp2;unfold put3 at hZ bZ;obtain ⟨z0, z1, z2, _, _, _⟩ := hZ;exact bodyPost_ret (v := .tuple #[.agg #[nilS, nilS, nilS], .iface 27 (.int .i64 13)]) (by simp [results, Tryz.results20, go_sem, z0, z1, z2]) rfl (zcz H.out (.bare 13 (by decide)) bZ)
        ·have hft : ft ≠ s := fun h => zxa h8 (h ▸ hFL hfe)
         have H := Lib.hid (zij hX2.out (by rw [HBR.out]; simp) (by rw [HBR.out]; simp only; rw [hE.1, hE.2.1, hE.2.2, HFR.out]; exact hft));obtain ⟨ty, u, rfl⟩ := zev hv7 hfe;clear hv7 hfe hft hFL;have hZ := hO.put nilS nilS nilS;have bZ := zay b7 (Nat.le_of_eq hOO) nilS nilS nilS;obtain ⟨u0, u1, u2, j0, j1, j2⟩ := hO;go_wp2;unfold put3 at hZ bZ;obtain ⟨z0, z1, z2, _, _, _⟩ := hZ;exact bodyPost_ret (v := .tuple #[.agg #[nilS, nilS, nilS], .iface 27 (.int .i64 13)]) (by simp [results, Tryz.results20, go_sem, z0, z1, z2]) rfl (zcz H.out (.bare 13 (by decide)) bZ)
       ·have H := Lib.hid (zxt hX2.out (by rw [HBR.out]; exact hxe));rw [HBR.out] at H;obtain ⟨ty, u, rfl⟩ := zev hev6 hxe;clear hok hxe hx2;have HV := Lib.hid (show zbo (put3 (w5.alloc (.cells #[.slice x.A x.n x.c, .slice x.A' x.n' x.c', .slice x.A'' x.n'' x.c''] 25)) O nilS nilS nilS) (.iface ty u) xe xp from zjj hev6 hO);have hZ := hO.put nilS nilS nilS;have bZ := zay b6 (Nat.le_of_eq hOO) nilS nilS nilS;obtain ⟨u0, u1, u2, j0, j1, j2⟩ := hO;go_wp2;unfold put3 at hZ bZ HV;obtain ⟨z0, z1, z2, _, _, _⟩ := hZ;exact bodyPost_ret (v := .tuple #[.agg #[nilS, nilS, nilS], .iface ty u]) (by simp [results, Tryz.results20, go_sem, z0, z1, z2]) rfl (zcz H.out HV.out bZ)
      ·have H := Lib.hid (zxy hXL.out hl);obtain ⟨dl, dl2⟩ := zwu hl;clear hl;have hZ := hO.put nilS nilS nilS;have bZ := zay b1 (Nat.le_of_eq hOO) nilS nilS nilS;obtain ⟨u0, u1, u2, j0, j1, j2⟩ := hO;go_wp2;unfold put3 at hZ bZ;obtain ⟨z0, z1, z2, _, _, _⟩ := hZ;exact bodyPost_ret (v := .tuple #[.agg #[nilS, nilS, nilS], .iface 27 (.int .i64 2)]) (by simp [results, Tryz.results20, go_sem, z0, z1, z2]) rfl (zcz H.out (.bare 2 (by decide)) bZ)
    ·have H := Lib.hid (yip HY.out HF.out (by rw [← HU.out]; exact HA.out) hei);have HEI := Lib.hid hei;rw [zau hei];clear hei;have hZ := hO.put nilS nilS nilS;have bZ := zay b1 (Nat.le_of_eq hOO) nilS nilS nilS;obtain ⟨u0, u1, u2, j0, j1, j2⟩ := hO;go_wp2;unfold put3 at hZ bZ;obtain ⟨z0, z1, z2, _, _, _⟩ := hZ;exact bodyPost_ret (v := .tuple #[.agg #[nilS, nilS, nilS], .iface 27 (.int .i64 ei)]) (by simp [results, Tryz.results20, go_sem, z0, z1, z2]) rfl (zcz H.out (.bare ei HEI.out) bZ)
  ·have H := Lib.hid (zxx HY.out h3);have d1 : (v != 3) = true := by rw [bne_iff_ne]; exact h3
   have hZ := hO.put nilS nilS nilS;have bZ := zay b1 (Nat.le_of_eq hOO) nilS nilS nilS;obtain ⟨u0, u1, u2, j0, j1, j2⟩ := hO;clear h3;go_wp2;unfold put3 at hZ bZ;obtain ⟨z0, z1, z2, _, _, _⟩ := hZ;exact bodyPost_ret (v := .tuple #[.agg #[nilS, nilS, nilS], .iface 27 (.int .i64 6)]) (by simp [results, Tryz.results20, go_sem, z0, z1, z2]) rfl (zcz H.out (.bare 6 (by decide)) bZ)
 ·have H := Lib.hid (yjd HY.out he);have HE := Lib.hid he;rw [zau he];have hZ := hO.put nilS nilS nilS;have bZ := zay b1 (Nat.le_of_eq hOO) nilS nilS nilS;obtain ⟨u0, u1, u2, j0, j1, j2⟩ := hO;clear he;go_wp2;unfold put3 at hZ bZ;obtain ⟨z0, z1, z2, _, _, _⟩ := hZ;exact bodyPost_ret (v := .tuple #[.agg #[nilS, nilS, nilS], .iface 27 (.int .i64 e)]) (by simp [results, Tryz.results20, go_sem, z0, z1, z2]) rfl (zcz H.out (.bare e HE.out) bZ)
end Go.Proofs.YtkejlnjnoiidnaaGreatDoor
end

section
namespace Go.Proofs.YtkejlnjnoiidnaaGreatDoor
open Go.RowKit As
structure Tk (w : World) (B : Nat) (r : ByteArray) (e : Int) : Prop where
 c0 : w.cell? ⟨B, 0, none⟩ = some (.string r)
 c1 : w.cell? ⟨B, 1, none⟩ = some (errV e)
 f0 : w.frozen? ⟨B, 0, none⟩ = false
 f1 : w.frozen? ⟨B, 1, none⟩ = false
section
variable {w w' : World} {B : Nat} {r : ByteArray} {e : Int}
theorem Tk.lt (h : Tk w B r e) : B < w.heap.size := cell_lt h.c0
theorem Tk.keep {N : Nat} (h : Tk w B r e) (hb : Below N w w') (hN : B < N) : Tk w' B r e :=
 ⟨(hb.cell (p := ⟨B, 0, none⟩) hN).trans h.c0, (hb.cell (p := ⟨B, 1, none⟩) hN).trans h.c1, (hb.frozen (p := ⟨B, 0, none⟩) hN).trans h.f0, (hb.frozen (p := ⟨B, 1, none⟩) hN).trans h.f1⟩
theorem Tk.below (h : Tk w B r e) (hb : Below w.heap.size w w') : Tk w' B r e := h.keep hb h.lt
theorem Tk.put (h : Tk w B r e) (r' : ByteArray) (e' : Int) : Tk ((w.setCell ⟨B, 0, none⟩ (.string r')).setCell ⟨B, 1, none⟩ (errV e')) B r' e' :=
 ⟨zaw (World.cell?_setCell_same _ _ _ h.c0) (by omega), World.cell?_setCell_same _ _ _ (zaw h.c1 (by omega)), by simpa using h.f0, by simpa using h.f1⟩
theorem Tk.text (h : Tk w B r e) (r' : ByteArray) : Tk (w.setCell ⟨B, 0, none⟩ (.string r')) B r' e :=
 ⟨World.cell?_setCell_same _ _ _ h.c0, zaw h.c1 (by omega), by simpa using h.f0, by simpa using h.f1⟩
theorem Tk.err (h : Tk w B r e) (e' : Int) : Tk (w.setCell ⟨B, 1, none⟩ (errV e')) B r e' :=
 ⟨zaw h.c0 (by omega), World.cell?_setCell_same _ _ _ h.c1, by simpa using h.f0, by simpa using h.f1⟩
theorem Tk.nb (h : Tk w B r e) {C i : Nat} (hn : C ≠ B) (v : Value) : Tk (w.setCell ⟨C, i, none⟩ v) B r e :=
 ⟨zam h.c0 hn, zam h.c1 hn, by simpa using h.f0, by simpa using h.f1⟩
end
abbrev rest (s : ByteArray) (p : Nat) : ByteArray := s.extract p s.size
def TkAt (s : ByteArray) (w : World) (B : Nat) (X : BR) (K : Nat → BR) : Prop :=
 (∃ p, p ≤ s.size ∧ Tk w B (rest s p) 0 ∧ X = K p) ∨ (∃ r e, r.size ≤ s.size ∧ e ≠ 0 ∧ Tk w B r e ∧ X = bad0 e)
def NumEnd (s : ByteArray) (B p : Nat) (most : Int) (w : World) (e : Ending) (w' : World) : Prop :=
 ∃ (n k : Nat) (x : Int), vat s p most = (n, k, x) ∧ (n : Int) ≤ most ∧ p + k ≤ s.size ∧ e = .returned (.int .i64 (n : Int)) ∧ w' = ((w.setCell ⟨B, 0, none⟩ (.string (rest s (p + k)))).setCell ⟨B, 1, none⟩ (errV x))
set_option maxHeartbeats 2000000 in
set_option maxRecDepth 100000 in
theorem ygh (most : Int) (B : Nat) (r : ByteArray) (e : Int) (w : World) (he : e ≠ 0) (h : Tk w B r e) :
  Calls Tryz.prog 59 #[.pointer (some ⟨B, 0, none⟩), .int .i64 most] w fun x w' => x = .returned (.int .i64 0) ∧ w = w' := by
 obtain ⟨c0, c1, f0, f1⟩ := h;rw [zau he] at c1;clear he;go_enter Tryz.func59, Tryz.ntmps59;go_wp2;go_ret;exact ⟨rfl, rfl⟩
theorem zyw {s : ByteArray} {p k : Nat} (h : p + k ≤ s.size) : (rest s p).extract k (rest s p).size = rest s (p + k) ∧ k ≤ (rest s p).size := by
 constructor
 ·rw [ByteArray.extract_extract, ByteArray.size_extract]; congr 1 <;> omega
 ·rw [ByteArray.size_extract]; omega
set_option maxHeartbeats 2000000 in
set_option maxRecDepth 100000 in
theorem yhc (s : ByteArray) (p B : Nat) (most : Int) (w : World) (hs : s.size ≤ 1000000) (hp : p ≤ s.size) (hm : most ≤ 9223372036854775807) (hm0 : 0 ≤ most) (h : Tk w B (rest s p) 0) :
  Calls Tryz.prog 59 #[.pointer (some ⟨B, 0, none⟩), .int .i64 most] w fun x w' => NumEnd s B p most w x w' := by
 obtain ⟨c0, c1, f0, f1⟩ := h;rw [zak] at c1;obtain ⟨n, k, x, ha, hx⟩ := zdz s p most;have hl : (rest s p).size ≤ maxLen := by rw [ByteArray.size_extract]; unfold maxLen; omega
 have HV := Lib.hid (show vint (rest s p).data.toList most = (n, k, x) from ha);have HA := Lib.hid ha;have hpk : p + k ≤ s.size := by rcases hx with h | h <;> omega
 have hn : (n : Int) ≤ most := by rcases hx with h | h <;> omega
 obtain ⟨hcut, hk⟩ := zyw hpk;obtain ⟨R, hR⟩ : ∃ R, R = rest s p := ⟨_, rfl⟩;have i1 : (0 : Int) ≤ (k : Int) := by omega
 have i2 : (k : Int) ≤ (R.size : Int) := by rw [hR]; omega
 rw [← hR] at hcut hk c0 hl HV;have HN := Lib.hid hn;have HPK := Lib.hid hpk;have HR := Lib.hid hR;have HM := Lib.hid hm;clear ha hx hpk hn hR hs hp hm hm0;go_enter Tryz.func59, Tryz.ntmps59;go_wp2_with fail;refine (zdn R most w hl HM.out).mono ?_;rintro r w' ⟨rfl, rfl⟩;rw [HV.out];simp only;by_cases he : x = 0
 ·subst he;rw [zak];go_wp2;go_ret;exact ⟨n, k, 0, HA.out, HN.out, HPK.out, rfl, rfl⟩
 ·have HE := Lib.hid (zau he);rw [zau he];clear he;go_wp2;go_ret;exact ⟨n, k, x, HA.out, HN.out, HPK.out, rfl, by rw [HE.out]⟩
theorem zcp {a b c : World} {r : Option Nat} (h : a.grownBy b r) (k : b.grownBy c r) : a.grownBy c r :=
 ⟨k.os.trans h.os, k.tape.trans h.tape, k.output.trans h.output, Nat.le_trans h.size k.size, fun i hi hn => (k.block i (Nat.lt_of_lt_of_le hi h.size) hn).trans (h.block i hi hn)⟩
theorem grown_of {a b : World} (h : Below a.heap.size a b) (r : Option Nat) : a.grownBy b r := ⟨h.os, h.tape, h.output, h.size, fun i hi _ => h.block i hi⟩
theorem zbp (w : World) (B i : Nat) (v : Value) : w.grownBy (w.setCell ⟨B, i, none⟩ v) (some B) :=
 ⟨rfl, rfl, rfl, by simp, fun k _ hn => Below.heap_setCell _ _ _ _ (fun e => hn (by simp [e]))⟩
theorem zdp {a b : World} {B : Nat} (h : a.grownBy b (some B)) {p : Addr} (hp : p.block < a.heap.size) (hn : p.block ≠ B) : b.cell? p = a.cell? p := World.cell?_of_block (w := a) (h.block p.block hp (fun e => hn (Option.some.inj e)))
theorem zcw {a b : World} {B : Nat} (h : a.grownBy b (some B)) {p : Addr} (hp : p.block < a.heap.size) (hn : p.block ≠ B) : b.frozen? p = a.frozen? p := World.frozen?_of_block (w := a) (h.block p.block hp (fun e => hn (Option.some.inj e)))
section
variable {s : ByteArray} {w w' : World} {B : Nat} {X : BR} {K : Nat → BR}
theorem TkAt.lt (h : TkAt s w B X K) : B < w.heap.size := by rcases h with ⟨_, _, h, _⟩ | ⟨_, _, _, _, h, _⟩ <;> exact h.lt
theorem TkAt.below (h : TkAt s w B X K) (hb : Below w.heap.size w w') : TkAt s w' B X K := by
 rcases h with ⟨p, hp, h, hX⟩ | ⟨r, e, hr, he, h, hX⟩
 ·exact .inl ⟨p, hp, h.below hb, hX⟩
 ·exact .inr ⟨r, e, hr, he, h.below hb, hX⟩
theorem TkAt.nb (h : TkAt s w B X K) {C i : Nat} (hn : C ≠ B) (v : Value) : TkAt s (w.setCell ⟨C, i, none⟩ v) B X K := by
 rcases h with ⟨p, hp, h, hX⟩ | ⟨r, e, hr, he, h, hX⟩
 ·exact .inl ⟨p, hp, h.nb hn v, hX⟩
 ·exact .inr ⟨r, e, hr, he, h.nb hn v, hX⟩
theorem TkAt.is {K' : Nat → BR} (h : TkAt s w B X K) (hK : ∀ p, K p = K' p) : TkAt s w B X K' := by
 rcases h with ⟨p, hp, h, hX⟩ | h
 ·exact .inl ⟨p, hp, h, hX.trans (hK p)⟩
 ·exact .inr h
end
set_option maxHeartbeats 1000000 in
theorem tnum (s : ByteArray) (B : Nat) (most : Int) (w : World) (X : BR) (K : Nat → Nat → BR) (hs : s.size ≤ 1000000) (hm : most ≤ 9223372036854775807) (hm0 : 0 ≤ most) (h : TkAt s w B X (fun p => onum s p most K)) :
  Calls Tryz.prog 59 #[.pointer (some ⟨B, 0, none⟩), .int .i64 most] w fun e w' => ∃ n : Nat, e = .returned (.int .i64 (n : Int)) ∧ (n : Int) ≤ most ∧ w.grownBy w' (some B) ∧ TkAt s w' B X (K n) := by
 rcases h with ⟨p, hp, h, hX⟩ | ⟨r, e, hr, he, h, hX⟩
 ·refine (yhc s p B most w hs hp hm hm0 h).mono ?_;rintro e w' ⟨n, k, x, ha, hn, hpk, rfl, rfl⟩;refine ⟨n, rfl, hn, zcp (zbp w B 0 _) (zbp _ B 1 _), ?_⟩;by_cases hx : x = 0
  ·subst hx;exact .inl ⟨p + k, hpk, h.put _ 0, hX.trans (zfw ha)⟩
  ·exact .inr ⟨_, x, by rw [ByteArray.size_extract]; omega, hx, h.put _ x, hX.trans (zer ha hx)⟩
 ·refine (ygh most B r e w he h).mono ?_;rintro x w' ⟨rfl, rfl⟩;exact ⟨0, rfl, hm0, grown_of (Below.refl _ _) _, .inr ⟨r, e, hr, he, h, hX⟩⟩
end Go.Proofs.YtkejlnjnoiidnaaGreatDoor
end

section
namespace Go.Proofs.YtkejlnjnoiidnaaGreatDoor
open Go.RowKit As
theorem zik {w w' : World} {base B : Nat} {e : TypeId} {size n : Nat} {v : Value} {xs : List Value} (h : w.ownsRow base e size v n xs) (hg : w.grownBy w' (some B)) (hB : B < base) : w'.ownsRow base e size v n xs := by
 refine h.kept hg ?_;cases hv : v.ownBlock with
 | none => exact .inl rfl
 | some k => have := (h.lt k hv).1; exact .inr (fun e => by injection e; omega)
theorem zjv {w w' : World} {base g i : Nat} {e : TypeId} {size n : Nat} {v x : Value} {xs : List Value} (h : w.ownsRow base e size v n xs) (hO : ∀ k, v.ownBlock = some k → k ≠ g) : (w.setCell ⟨g, i, none⟩ x).ownsRow base e size v n xs := by
 refine h.kept (zbp w g i x) ?_;cases hv : v.ownBlock with
 | none => exact .inl rfl
 | some k => exact .inr (fun e => hO k hv (Option.some.inj e))
theorem ztg {a b c : World} {B : Nat} {row : Option Nat} (h : a.grownBy b (some B)) (hg : b.grownBy c row) (hr : ∀ k, row = some k → a.heap.size ≤ k) : a.grownBy c (some B) :=
 ⟨hg.os.trans h.os, hg.tape.trans h.tape, hg.output.trans h.output, Nat.le_trans h.size hg.size, fun i hi hn => (hg.block i (Nat.lt_of_lt_of_le hi h.size) (fun e => by have := hr i e.symm; omega)).trans (h.block i hi hn)⟩
theorem zea {a b : World} {B g i : Nat} (h : a.grownBy b (some B)) (hg : a.heap.size ≤ g) (v : Value) : a.grownBy (b.setCell ⟨g, i, none⟩ v) (some B) := ztg h (zbp b g i v) (fun k e => by injection e with e; omega)
theorem Tk.grown {w w' : World} {B : Nat} {r : ByteArray} {e : Int} {row : Option Nat} (h : Tk w B r e) (hg : w.grownBy w' row) (hn : row ≠ some B) : Tk w' B r e := by
 have hb := hg.block B h.lt (fun e => hn e.symm);exact ⟨(World.cell?_of_block (a := ⟨B, 0, none⟩) hb).trans h.c0, (World.cell?_of_block (a := ⟨B, 1, none⟩) hb).trans h.c1, (World.frozen?_of_block (a := ⟨B, 0, none⟩) hb).trans h.f0, (World.frozen?_of_block (a := ⟨B, 1, none⟩) hb).trans h.f1⟩
theorem TkAt.grown {s : ByteArray} {w w' : World} {B : Nat} {X : BR} {K : Nat → BR} {row : Option Nat} (h : TkAt s w B X K) (hg : w.grownBy w' row) (hn : row ≠ some B) : TkAt s w' B X K := by
 rcases h with ⟨p, hp, h, hX⟩ | ⟨r, e, hr, he, h, hX⟩
 ·exact .inl ⟨p, hp, h.grown hg hn, hX⟩
 ·exact .inr ⟨r, e, hr, he, h.grown hg hn, hX⟩
theorem Two.grown {w w' : World} {g B : Nat} {a b : Int} (h : Two w g a b) (hg : w.grownBy w' (some B)) (hn : g ≠ B) : Two w' g a b :=
 ⟨(zdp hg (p := ⟨g, 0, none⟩) (cell_lt h.c0) hn).trans h.c0, (zdp hg (p := ⟨g, 1, none⟩) (cell_lt h.c1) hn).trans h.c1, (zcw hg (p := ⟨g, 0, none⟩) (cell_lt h.c0) hn).trans h.f0, (zcw hg (p := ⟨g, 1, none⟩) (cell_lt h.c1) hn).trans h.f1⟩
theorem zzo {s : ByteArray} {n k p : Nat} {f : List Ent} {K : List Ent → Nat → BR} (h : k < n) : zhb s (n - k) p f K = onum s p 200 fun r p => onum s p 1099511627776 fun t p => zhb s (n - (k + 1)) p (f ++ [((r : Int), (t : Int))]) K := by
 rw [show n - k = (n - (k + 1)) + 1 by omega];rfl
theorem zvp {f : List Ent} {r t : Nat} (h : ∀ y ∈ f, zbe y) (hr : (r : Int) ≤ 200) (ht : (t : Int) ≤ 1099511627776) : ∀ y ∈ f ++ [((r : Int), (t : Int))], zbe y := by
 intro y hy;rcases List.mem_append.1 hy with hy | hy
 ·exact h y hy
 ·simp only [List.mem_singleton] at hy;subst hy;unfold zbe;simp only;omega
theorem yob {k n : Nat} (h : k < n) (hn : (n : Int) ≤ 16) : k + 1 ≤ 140737488355328 ∧ (k + 1) * 16 ≤ 140737488355328 := by omega
set_option maxHeartbeats 4000000 in
set_option maxRecDepth 100000 in
theorem tvec (s : ByteArray) (B : Nat) (w : World) (X : BR) (K : List Ent → Nat → BR) (hs : s.size ≤ 1000000) (h : TkAt s w B X (fun p => ovec s p K)) :
  Calls Tryz.prog 58 #[.pointer (some ⟨B, 0, none⟩)] w fun e w' => ∃ v f, e = .returned v ∧ w'.ownsRow w.heap.size 79 2 v f.length (entV f) ∧ f.length ≤ 16 ∧ (∀ y ∈ f, zbe y) ∧ w.grownBy w' (some B) ∧ TkAt s w' B X (K f) := by
 obtain ⟨i0, hi, hz0, hz1, hz2⟩ := info_parts zmg;have LB := Lib.hid h.lt;go_enter Tryz.func58, Tryz.ntmps58;go_wp2_with fail;refine (tnum s B 16 w X (fun n p => zhb s n p [] K) hs (by decide) (by decide) h).mono ?_;rintro e w1 ⟨n, rfl, hn, hg1, hT1⟩;have HN := Lib.hid hn;clear hn;go_wp2;go_loopw [3, 4, 7] (fun ov _ kv wr => ∃ (k : Nat) (f : List Ent), k ≤ n ∧ f.length = k ∧ kv = .int .i64 k ∧ wr.ownsRow w.heap.size 79 2 ov f.length (entV f) ∧ Hid (∀ y ∈ f, zbe y) ∧ w.grownBy wr (some B) ∧ TkAt s wr B X (fun p => zhb s (n - k) p f K)) (fun _ _ kv _ => n - (intOf kv).toNat)
 case atStart => exact ⟨0, [], Nat.zero_le _, rfl, rfl, World.ownsRow_nil _ _ _ _, Lib.hid (fun _ h => by cases h), hg1, hT1⟩
 case round =>
  obtain ⟨k, f, hk, hf, rfl, hO, hfit, hg, hT⟩ := hrel;by_cases hlt : k < n
  ·have hT' := hT.is (fun p => zzo (s := s) (p := p) (f := f) (K := K) hlt);have HLT := Lib.hid hlt;obtain ⟨jd1, jd2⟩ := zgv hlt;obtain ⟨jw1, jw2⟩ := zht (j := k) (by have := HN.out; omega);have HK := Lib.hid hk;have HFL := Lib.hid hf;clear hT hlt hk hf;go_wp2_with fail;refine (tnum s B 200 wr X _ hs (by decide) (by decide) hT').mono ?_;rintro e w2 ⟨r, rfl, hr, hg2, hT2⟩;have HR := Lib.hid hr;have hO2 := zik hO hg2 LB.out;have hOlt := Lib.hid (fun k hk => Nat.lt_of_lt_of_le (hO.lt k hk).2 hg2.size);have hg12 := zcp hg hg2;have bA := zaa w2 (.cells #[.int .i64 (r : Int), .int .i64 0] 79);have tA := Two.new w2 (r : Int) 0 79;have hT2A := hT2.below bA;have hO2A := own_below hO2 bA;have hg2A := zcp hg12 (grown_of bA _);have LG := Lib.hid (show w.heap.size ≤ w2.heap.size from hg12.size);have NB := Lib.hid (show w2.heap.size ≠ B from fun e => by have := LB.out; have := LG.out; omega);clear hT' hO hg2 hT2 hO2 hr hg12 bA;go_wp2_with fail;refine (tnum s B 1099511627776 _ X _ hs (by decide) (by decide) hT2A).mono ?_;rintro e w3 ⟨t, rfl, ht, hg3, hT3⟩;have HT := Lib.hid ht;have hO3 := zjv (w' := w3) (g := w2.heap.size) (i := 1) (x := .int .i64 (t : Int)) (zik hO2A hg3 LB.out) (fun k hk => Nat.ne_of_lt (hOlt.out k hk));have tB := tA.grown hg3 NB.out;have tC := tB.set1 (t : Int);have hT4 := hT3.nb (C := w2.heap.size) (i := 1) NB.out (.int .i64 (t : Int));have hg4 := zea (i := 1) (zcp hg2A hg3) LG.out (.int .i64 (t : Int));obtain ⟨b0, b1, bf0, bf1⟩ := tB;obtain ⟨c0, c1, _, _⟩ := tC;generalize w2.heap.size = g at *;clear ht hT2A hO2A hg3 hT3 tA hg2A;have HC := Lib.hid (yob (Nat.lt_of_le_of_lt (Nat.le_refl k) HLT.out) HN.out);have HF1 := Lib.hid (show f.length + 1 ≤ 140737488355328 ∧ (f.length + 1) * 16 ≤ 140737488355328 by rw [HFL.out]; exact HC.out);go_wp2_with (first
    | (at_builtin; refine wpList_append_own _ rfl (.tmp 15) (.tmp 17) 22 rfl w.heap.size 79 i0 (.agg #[.int .i64 0, .int .i64 0]) 2 16 Tryz.underlying22 hi hz0 hz1 hz2 rfl (by decide) u3 f.length (entV f) rfl (own_below hO3 (zaa _ _)) ⟨w3.heap.size, 0, none⟩ 1 1 [.int .i64 (r : Int), .int .i64 (t : Int)] rfl rfl (by have h := znv (w3.setCell ⟨g, 1, none⟩ (.int .i64 (t : Int))) (.int .i64 (r : Int)) (.int .i64 (t : Int)) 79; simpa using h) (by intro u hu; simp at hu; rcases hu with rfl | rfl <;> rfl) (Nat.le_trans HF1.out.1 (by decide)) HF1.out.2 (Nat.le_trans hg4.size (by simp)) ?_; intro v6 w6 hO6 hg6 _))
   have hO7 := zfb (x := ((r : Int), (t : Int))) rfl hO6;have hr : ∀ k, u3.ownBlock = some k → w.heap.size ≤ k := fun k hk => (hO3.lt k hk).1
   have hg7 := ztg (zcp hg4 (grown_of (zaa _ _) _)) hg6 hr;have hT7 := (hT4.below (zaa _ (.cells #[.int .i64 (r : Int), .int .i64 (t : Int)] 79))).grown hg6 (fun e => by have := hr B e; have := LB.out; omega);go_roundw
   case rel => exact ⟨k + 1, f ++ [((r : Int), (t : Int))], HLT.out, by rw [List.length_append, HFL.out]; rfl, by go_num, hO7, Lib.hid (zvp hfit.out HR.out HT.out), hg7, hT7⟩
   case measure => exact zbx HLT.out
  ·obtain rfl : k = n := Nat.le_antisymm hk (Nat.not_lt.1 hlt);obtain ⟨jd1, jd2⟩ := zha (Nat.lt_irrefl k);have hk16 : f.length ≤ 16 := by have := HN.out; omega
   have hT' : TkAt s wr B X (K f) := hT.is (fun p => by rw [Nat.sub_self]; rfl);clear hT hk hlt;go_wp2;go_ret;exact ⟨_, f, rfl, hO, hk16, hfit.out, hg, hT'⟩
end Go.Proofs.YtkejlnjnoiidnaaGreatDoor
end
