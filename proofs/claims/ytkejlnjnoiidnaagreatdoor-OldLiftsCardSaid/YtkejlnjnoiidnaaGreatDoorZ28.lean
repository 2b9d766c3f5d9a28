/- The reference's Any says oany. Printed by gen_lift.py. -/
import Derived.Test.YtkejlnjnoiidnaaGreatDoorZ27
import Derived.Test.YtkejlnjnoiidnaaGreatDoorZ20
import Derived.Test.YtkejlnjnoiidnaaGreatDoorZ1
import Derived.Test.YtkejlnjnoiidnaaGreatDoorZ6
import Derived.Deep.Cut
import Derived.ProofKit
import Derived.OpenShut
import Derived.Deep.Slices
import Derived.Deep.Fields
set_option linter.unusedSimpArgs false
set_option linter.unusedVariables false
section
namespace Go.Proofs.YtkejlnjnoiidnaaGreatDoor
open Go.RowKit As
set_option maxHeartbeats 2000000 in
set_option maxRecDepth 100000 in
theorem ygl (s : ByteArray) (w : World) (hs : s.size ≤ 1000000) :
  Calls Tryz.prog 25 #[.string s] w fun e w' => yae (oany s) w e w' := by
 have hR := RB.new w 25 29;have b0 := (zaa w (.cells #[nilS, nilS, nilS] 25)).alloc (by simp) (.cells #[.int .i64 0, .int .i64 0] 29);obtain ⟨E, hE⟩ : ∃ E, E = w.heap.size + 1 := ⟨_, rfl⟩;have nOE : w.heap.size ≠ E := by omega
 have lE : w.heap.size ≤ E := by omega
 rw [← hE] at hR;go_enter Tryz.func25, Tryz.ntmps25;go_wp2_with fail;rw [← hE];clear hE;generalize (w.alloc (.cells #[nilS, nilS, nilS] 25)).alloc (.cells #[.int .i64 0, .int .i64 0] 29) = W at *;refine (zeb s _ hs).mono ?_;rintro r w1 ⟨rfl, hb1⟩;replace hR := hR.below hb1;have b1 := b0.trans (hb1.mono b0.size);obtain ⟨⟨v, e⟩, hy⟩ : ∃ y, fver s = y := ⟨_, rfl⟩;have HY := Lib.hid hy;rw [hy];clear hy b0 hb1;simp only;by_cases he : e = 0
 ·subst he;by_cases h3 : v = 3
  ·subst h3;have HX := Lib.hid (zpo HY.out);go_wp2_with fail;refine (zta s _ hs).mono ?_;rintro r w5 ⟨x, rfl, hx, hx2, hcap, hb5⟩;rw [← HX.out] at hx2 ⊢;have hR5 := hR.below hb5;have b5 := b1.trans (hb5.mono b1.size);obtain ⟨hEnd, hZ⟩ := ydh hR5 nOE hx hx2 hcap (Nat.le_refl _) lE (cell_lt hR.c0) (cell_lt hR.x) b1 b5;have H1 := hR5.set0 nOE (.slice x.A x.n x.c);have H2 := H1.set1 nOE (.slice x.A' x.n' x.c');have H3 := H2.set2 nOE (.slice x.A'' x.n'' x.c'');obtain ⟨⟨e0, q0⟩, hq⟩ : ∃ y, (oany s).2 = y := ⟨_, rfl⟩;rw [hq] at hEnd hZ ⊢;simp only at hEnd hZ;have q1 := H1.c1;have q2 := H2.c2;have q3 := H3.x;have q4 := zaw (v := .int .i64 e0) H3.y (i := 0) (by decide);have m3 := H3.fx;have m4 := H3.fy;obtain ⟨j0, j1, j2, j3, j4, j5, j6, j7, j8, j9⟩ := hR5;unfold zav.v zba;clear hx hx2 hcap hb5 hR H1 H2 H3 hq;go_wp2;unfold put5 at hEnd hZ;obtain ⟨z0, z1, z2, z3, z4, _, _, _, _, _⟩ := hZ;exact bodyPost_ret (v := .tuple #[x.v, zba (e0, q0)]) (by simp [results, Tryz.results25, go_sem, z0, z1, z2, z3, z4, zav.v, zba]) rfl hEnd
  ·have HX := Lib.hid (zxz HY.out h3);have d3 : (v == 3) = false := beq_eq_false_iff_ne.2 h3;clear h3;go_wp2_with fail;refine (yim s _ hs).mono ?_;rintro r w5 ⟨x, rfl, hx, hx2, hcap, hb5⟩;rw [← HX.out] at hx2 ⊢;have hR5 := hR.below hb5;have b5 := b1.trans (hb5.mono b1.size);obtain ⟨hEnd, hZ⟩ := ydh hR5 nOE hx hx2 hcap (Nat.le_refl _) lE (cell_lt hR.c0) (cell_lt hR.x) b1 b5;have H1 := hR5.set0 nOE (.slice x.A x.n x.c);have H2 := H1.set1 nOE (.slice x.A' x.n' x.c');have H3 := H2.set2 nOE (.slice x.A'' x.n'' x.c'');obtain ⟨⟨e0, q0⟩, hq⟩ : ∃ y, (oany s).2 = y := ⟨_, rfl⟩;rw [hq] at hEnd hZ ⊢;simp only at hEnd hZ;have q1 := H1.c1;have q2 := H2.c2;have q3 := H3.x;have q4 := zaw (v := .int .i64 e0) H3.y (i := 0) (by decide);have m3 := H3.fx;have m4 := H3.fy;obtain ⟨j0, j1, j2, j3, j4, j5, j6, j7, j8, j9⟩ := hR5;unfold zav.v zba;clear hx hx2 hcap hb5 hR H1 H2 H3 hq;go_wp2;unfold put5 at hEnd hZ;obtain ⟨z0, z1, z2, z3, z4, _, _, _, _, _⟩ := hZ;exact bodyPost_ret (v := .tuple #[x.v, zba (e0, q0)]) (by simp [results, Tryz.results25, go_sem, z0, z1, z2, z3, z4, zav.v, zba]) rfl hEnd
 ·have H := Lib.hid (zxe HY.out he);have ne : (e != 0) = true := by rw [bne_iff_ne]; exact he
  clear he;go_wp2_with fail;refine (zbi e _).mono ?_;rintro r w3 ⟨rfl, hb3⟩;have hR3 := hR.below hb3;have H1 := hR3.set0 nOE nilS;have H2 := H1.set1 nOE nilS;have H3 := H2.set2 nOE nilS;have H5 := H3.setF nOE e (-1);have b3 := b1.trans (hb3.mono b1.size);have bZ := zce b3 (Nat.le_refl _) lE nilS nilS nilS e (-1);have p1 := H1.c1;have p2 := H2.c2;have p3 := H3.x;have p4 := zaw (v := .int .i64 e) H3.y (i := 0) (by decide);have m3 := H3.fx;have m4 := H3.fy;obtain ⟨j0, j1, j2, j3, j4, j5, j6, j7, j8, j9⟩ := hR3;clear H1 H2 H3 hR hb3 b3;go_wp2;unfold put5 at bZ;obtain ⟨z0, z1, z2, z3, z4, _, _, _, _, _⟩ := H5;exact bodyPost_ret (v := .tuple #[.agg #[nilS, nilS, nilS], .agg #[.int .i64 e, .int .i64 (-1)]]) (by simp [results, Tryz.results25, go_sem, z0, z1, z2, z3, z4]) rfl (zje H.out bZ)
end Go.Proofs.YtkejlnjnoiidnaaGreatDoor
end

section
namespace Go.Proofs.YtkejlnjnoiidnaaGreatDoor
open Go.RowKit
theorem yls (w : World) (o : Obj) : Below w.heap.size w (w.alloc o) := (Below.refl _ _).alloc (Nat.le_refl _) o
end Go.Proofs.YtkejlnjnoiidnaaGreatDoor
end

section
namespace Go.Proofs.YtkejlnjnoiidnaaGreatDoor
open Go.RowKit
def zgu (a b : zav) : Bool := decide (a.f = b.f) && (decide (a.h = b.h) && decide (a.l = b.l))
theorem ylw (w : World) (o o' : Obj) : Below w.heap.size w ((w.alloc o).alloc o') := (yls w o).alloc (by simp) o'
theorem ydl {a b : zav} (x1 : a.f = b.f) (x2 : a.h = b.h) : zgu a b = decide (a.l = b.l) := by unfold zgu; rw [decide_eq_true x1, decide_eq_true x2]; rfl
theorem yey {a b : zav} (x2 : ¬ a.h = b.h) : zgu a b = false := by unfold zgu; rw [decide_eq_false x2, Bool.false_and, Bool.and_false]
theorem ych {a b : zav} (x1 : ¬ a.f = b.f) : zgu a b = false := by unfold zgu; rw [decide_eq_false x1, Bool.false_and]
theorem ztl (a b : zav) (w : World) (ha : Bat w a) (hb : Bat w b) :
  Calls Tryz.prog 18 #[a.v, b.v] w fun e w' => e = .returned (.bool (zgu a b)) ∧ Below w.heap.size w w' := by
 obtain ⟨A, n, c, A', n', c', A'', n'', c'', f, h, l⟩ := a;obtain ⟨B, m, d, B', m', d', B'', m'', d'', f', h', l'⟩ := b;obtain ⟨a1, a2, a3, a4, a5, a6⟩ := ha;obtain ⟨b1, b2, b3, b4, b5, b6⟩ := hb;simp only [zav.v] at *;have hbel : Below w.heap.size w ((w.alloc (.cells #[.slice A n c, .slice A' n' c', .slice A'' n'' c''] 25)).alloc (.cells #[.slice B m d, .slice B' m' d', .slice B'' m'' d''] 25)) := ylw _ _ _;have c1 := a1.grow hbel;have c2 := a2.grow hbel;have c3 := a3.grow hbel;have e1 := b1.grow hbel;have e2 := b2.grow hbel;have e3 := b3.grow hbel;by_cases x1 : f = f'
 ·by_cases x2 : h = h'
  ·have hs := Lib.hid (ydl (a := ⟨A, n, c, A', n', c', A'', n'', c'', f, h, l⟩) (b := ⟨B, m, d, B', m', d', B'', m'', d'', f', h', l'⟩) x1 x2);go_enter Tryz.func18, Tryz.ntmps18;go_wp2_with fail;refine (zhe _ _ _ _ _ _ _ _ _ c1 e1 a4 b4).mono ?_;rintro e w' ⟨rfl, q, rfl⟩;rw [decide_eq_true x1];go_wp2_with fail;refine (zhe _ _ _ _ _ _ _ _ _ (by exact c2) (by exact e2) a5 b5).mono ?_;rintro e w' ⟨rfl, q', rfl⟩;rw [decide_eq_true x2];go_wp2_with fail;refine (yhm _ _ _ _ _ _ _ _ _ (by exact c3) (by exact e3) a6 b6).mono ?_;rintro e w' ⟨rfl, q'', rfl⟩;go_wp2_with fail;go_ret;exact ⟨retB (by rw [hs.out]), below_drewN hbel _⟩
  ·have hs := Lib.hid (yey (a := ⟨A, n, c, A', n', c', A'', n'', c'', f, h, l⟩) (b := ⟨B, m, d, B', m', d', B'', m'', d'', f', h', l'⟩) x2);go_enter Tryz.func18, Tryz.ntmps18;go_wp2_with fail;refine (zhe _ _ _ _ _ _ _ _ _ c1 e1 a4 b4).mono ?_;rintro e w' ⟨rfl, q, rfl⟩;rw [decide_eq_true x1];go_wp2_with fail;refine (zhe _ _ _ _ _ _ _ _ _ (by exact c2) (by exact e2) a5 b5).mono ?_;rintro e w' ⟨rfl, q', rfl⟩;rw [decide_eq_false x2];go_wp2_with fail;go_ret;exact ⟨retB (by rw [hs.out]), below_drewN hbel _⟩
 ·have hs := Lib.hid (ych (a := ⟨A, n, c, A', n', c', A'', n'', c'', f, h, l⟩) (b := ⟨B, m, d, B', m', d', B'', m'', d'', f', h', l'⟩) x1);go_enter Tryz.func18, Tryz.ntmps18;go_wp2_with fail;refine (zhe _ _ _ _ _ _ _ _ _ c1 e1 a4 b4).mono ?_;rintro e w' ⟨rfl, q, rfl⟩;rw [decide_eq_false x1];go_wp2_with fail;go_ret;exact ⟨retB (by rw [hs.out]), below_drewN hbel _⟩
end Go.Proofs.YtkejlnjnoiidnaaGreatDoor
end

section
namespace Go.Proofs.YtkejlnjnoiidnaaGreatDoor
open Go.ChangeShapes Go.WideShapes Go.ChangeAt Go.RowKit
open Go.ChangeMaps (open_string)
section
variable {H : Type} {enc : TypeId × Value → H} {P : Program} {w : World} {base : Nat} {spare : Nat → Bool} {held : Bool}
end
end Go.Proofs.YtkejlnjnoiidnaaGreatDoor
end

section
namespace Go.Proofs.YtkejlnjnoiidnaaGreatDoor
open Go.RowKit As
theorem zrn {a b : zav} {z : List Ent × List Ent × List Wr} (h1 : (a.f, a.h, a.l) = z) (h2 : (b.f, b.h, b.l) = z) : zgu a b = true := by
 subst h1;injection h2 with e1 h2
 injection h2 with e2 e3
 unfold zgu;rw [decide_eq_true e1.symm, decide_eq_true e2.symm, decide_eq_true e3.symm];rfl
theorem Two.put {w : World} {G : Nat} {a b : Int} (h : Two w G a b) (x y : Int) : Two ((w.setCell ⟨G, 0, none⟩ (.int .i64 x)).setCell ⟨G, 1, none⟩ (.int .i64 y)) G x y :=
 ⟨zaw (World.cell?_setCell_same _ _ _ h.c0) (by omega), World.cell?_setCell_same _ _ _ (zaw h.c1 (by omega)), by simpa using h.f0, by simpa using h.f1⟩
theorem ybe {w0 w : World} {n size N0 N : Nat} {A : Option Addr} {xs : List Value} {G i : Nat} (h0 : Sl w0 N0 size A n xs) (h : Sl w N size A n xs) (hG : N0 ≤ G) (v : Value) : Sl (w.setCell ⟨G, i, none⟩ v) N size A n xs :=
 ⟨h.1, fun hn => by
  obtain ⟨b, o, e, hb, hc⟩ := h.2 hn
  obtain ⟨b', o', e', hb', _⟩ := h0.2 hn
  rw [e] at e'
  injection e' with e'
  injection e' with e1 e2
  exact ⟨b, o, e, hb, fun j u hu => zam (hc j u hu) (by omega)⟩⟩
theorem zra {w0 w : World} {x : zav} {G i : Nat} (h0 : Bat w0 x) (h : Bat w x) (hG : w0.heap.size ≤ G) (v : Value) : Bat (w.setCell ⟨G, i, none⟩ v) x := by
 refine ⟨?_, ?_, ?_, h.nf, h.nh, h.nl⟩ <;> rw [show (w.setCell ⟨G, i, none⟩ v).heap.size = w.heap.size by simp]
 ·exact ybe h0.f h.f hG v
 ·exact ybe h0.h h.h hG v
 ·exact ybe h0.l h.l hG v
set_option maxHeartbeats 4000000 in
set_option maxRecDepth 100000 in
theorem zsl (s : ByteArray) (w : World) (hs : s.size ≤ maxLen) (hg : zbh w) :
  Calls Tryz.prog 7 #[.string s] w fun e w' => e = .returned (.bool true) ∧ Below w.heap.size w w' := by
 unfold maxLen at hs;by_cases hbig : 2000 < s.size
 ·have d0 : decide (2000 < (s.size : Int)) = true := decide_eq_true (by omega);go_enter Tryz.func7, Tryz.ntmps7;go_wp2;go_ret;exact ⟨rfl, Below.refl _ _⟩
 ·have d0 : decide (2000 < (s.size : Int)) = false := decide_eq_false (by omega);have hS : s.size ≤ 1000000 := by omega
  go_enter Tryz.func7, Tryz.ntmps7;go_wp2_with fail;refine (ygl s w hS).mono ?_;rintro e w1 ⟨x, rfl, hx, hx2, _, hb1⟩;have bB := zaa w1 (.cells #[.slice x.A x.n x.c, .slice x.A' x.n' x.c', .slice x.A'' x.n'' x.c''] 25);have kB := BxAt.new w1 x;have bF := zaa (w1.alloc (.cells #[.slice x.A x.n x.c, .slice x.A' x.n' x.c', .slice x.A'' x.n'' x.c''] 25)) (.cells #[.int .i64 (oany s).2.1, .int .i64 (oany s).2.2] 29);have hF := Two.new (w1.alloc (.cells #[.slice x.A x.n x.c, .slice x.A' x.n' x.c', .slice x.A'' x.n'' x.c''] 25)) (oany s).2.1 (oany s).2.2 29;simp only [World.size_alloc] at hF;have b1 := hb1.trans (bB.mono hb1.size);have b2 := b1.trans (bF.mono b1.size);have kB2 := kB.below bF;have hX2 := (hx.grow bB).grow bF;unfold zba;unfold zav.v;go_wp2_with fail;refine (ybx s _ hS (hg.below b2)).mono ?_;rintro e w2 ⟨y, ve, rfl, hy, hy2, _, hev, hb2⟩;have b3 := b2.trans (hb2.mono b2.size);have bY := zaa w2 (.cells #[.slice y.A y.n y.c, .slice y.A' y.n' y.c', .slice y.A'' y.n'' y.c''] 25);have kY := BxAt.new w2 y;have b4 := b3.trans (bY.mono b3.size);have hX4 := (hX2.grow hb2).grow bY;have hY4 := hy.grow bY;have kB4 := (kB2.below hb2).below bY;have F4 := (hF.below hb2).below bY;have E4 := hev.below bY;have HS := Lib.hid (zrn hx2 hy2);obtain ⟨⟨⟨f, h, l⟩, ee, pp⟩, hX⟩ : ∃ X, oany s = X := ⟨_, rfl⟩;have HXX := Lib.hid hX;have HFIT := Lib.hid (fun h0 => zts (s := s) h0);have HX2 := Lib.hid hx2;rw [hX] at F4 E4;simp only at F4 E4;have HX0 := Lib.hid hx;have HY0 := Lib.hid hy;have hsz2 := hb2.size;simp only [World.size_alloc] at hsz2;have hne1 : w2.heap.size + 1 ≠ w1.heap.size + 1 := by omega
  have hne2 : w2.heap.size + 1 ≠ w1.heap.size := by omega
  have hlw : w.heap.size ≤ w2.heap.size + 1 := Nat.le_trans b3.size (Nat.le_succ _);have HG1 := Lib.hid (show w1.heap.size ≤ w2.heap.size + 1 by omega);clear hsz2;clear hx hy hx2 hy2 hF kB kB2 hX2 hev bB bF bY hb1 hb2 b1 b2 b3 hX;have NEF := Lib.hid (show w2.heap.size + 1 ≠ w1.heap.size + 1 from hne1);have NEB := Lib.hid (show w2.heap.size + 1 ≠ w1.heap.size from hne2);have NEY := Lib.hid (show w2.heap.size + 1 ≠ w2.heap.size by omega);have LW := Lib.hid hlw;clear hne1 hne2 hlw;unfold zav.v;have bG := zaa (w2.alloc (.cells #[.slice y.A y.n y.c, .slice y.A' y.n' y.c', .slice y.A'' y.n'' y.c''] 25)) (.cells #[.int .i64 0, .int .i64 0] 29);have hG := Two.new (w2.alloc (.cells #[.slice y.A y.n y.c, .slice y.A' y.n' y.c', .slice y.A'' y.n'' y.c''] 25)) 0 0 29;have F5 := F4.below bG;have bW := (zaa (w2.alloc (.cells #[.slice y.A y.n y.c, .slice y.A' y.n' y.c', .slice y.A'' y.n'' y.c''] 25)) (.cells #[.int .i64 ee, .int .i64 pp] 29)).drew;have hW := (Two.new (w2.alloc (.cells #[.slice y.A y.n y.c, .slice y.A' y.n' y.c', .slice y.A'' y.n'' y.c''] 25)) ee pp 29).below (Below.refl _ _).drew;simp only [World.size_alloc] at hW;have F6 := F4.below bW;have kB5 := kB4.below bW;have kY5 := kY.below bW;have hX5 := hX4.grow bW;have hY5 := hY4.grow bW;have E5 := E4.below bW;have b5 := b4.trans (bW.mono b4.size);obtain ⟨g0, g1, _, _⟩ := F4;obtain ⟨g5, g6, _, _⟩ := F5;obtain ⟨k0, k1, k2, k3⟩ := hG;simp only [World.size_alloc] at k0 k1 k2 k3;go_wp2;go_region;clear g0 g1 g5 g6 k0 k1 k2 k3 bG bW kB4 kY hX4 hY4 E4 b4;generalize ((w2.alloc (.cells #[.slice y.A y.n y.c, .slice y.A' y.n' y.c', .slice y.A'' y.n'' y.c''] 25)).alloc (.cells #[.int .i64 ee, .int .i64 pp] 29)).drew = W5 at *;have F6' := F6;obtain ⟨g0, g1, _, _⟩ := F6';go_wp2_with fail;refine (zcd (ee, pp) _).mono ?_;rintro r w6 ⟨rfl, hb6⟩;have b6 := b5.trans (hb6.mono b5.size);have F7 := F6.below hb6;have G6 := hW.below hb6;have kB6 := kB5.below hb6;have kY6 := kY5.below hb6;have hX6 := hX5.grow hb6;have hY6 := hY5.grow hb6;have E6 := E5.below hb6;clear g0 g1 F6 hW kB5 kY5 hX5 hY5 E5 b5 hb6;by_cases he : ee = 0
  ·subst he;have e1 : (((0, pp) : Int × Int).1 == 0) = true := rfl;rw [e1];have hfit := HFIT.out (by rw [HXX.out]);rw [HXX.out] at hfit;simp only at hfit;have hx2 := HX2.out;rw [HXX.out] at hx2;injection hx2 with e2 hx2
   injection hx2 with e3 e4
   obtain ⟨⟨fs, fe, fp⟩, hfr⟩ : ∃ z, zcl (zcb x.f x.h x.l) = z := ⟨_, rfl⟩;have HFR := Lib.hid hfr;have HL := Lib.hid (show zrt s = (fs, fe, fp) by rw [zxi HXX.out, ← hfr, ← e2, ← e3, ← e4]);have HF := Lib.hid (show (∀ y ∈ x.f, zbe y) ∧ (∀ y ∈ x.h, zbe y) from ⟨by rw [e2]; exact hfit.1, by rw [e3]; exact hfit.2⟩);obtain ⟨k0, k1, k2⟩ := kB6;clear e1 hfit e2 e3 e4 hfr HFIT HX2;go_wp2_with fail;refine (zkn w6 x hX6 HF.out.1 HF.out.2).mono ?_;rintro r w7 ⟨rfl, hb7⟩;rw [HFR.out];simp only;unfold zba;have b7 := b6.trans (hb7.mono b6.size);have F8 := (F7.below hb7).nb (C := w2.heap.size + 1) (i := 0) NEF.out (.int .i64 fe);have F8' := F8.nb (C := w2.heap.size + 1) (i := 1) NEF.out (.int .i64 fp);have G7 := G6.below hb7;have G8 := G7.put fe fp;have kB8 := (((BxAt.mk k0 k1 k2).below hb7).nb (C := w2.heap.size + 1) (i := 0) NEB.out (.int .i64 fe)).nb (C := w2.heap.size + 1) (i := 1) NEB.out (.int .i64 fp);have kY8 := ((kY6.below hb7).nb (C := w2.heap.size + 1) (i := 0) NEY.out (.int .i64 fe)).nb (C := w2.heap.size + 1) (i := 1) NEY.out (.int .i64 fp);have hX8 := zra (i := 1) HX0.out (zra (i := 0) HX0.out (hX6.grow hb7) HG1.out (.int .i64 fe)) HG1.out (.int .i64 fp);have hY8 := zra (i := 1) HY0.out (zra (i := 0) HY0.out (hY6.grow hb7) (Nat.le_succ _) (.int .i64 fe)) (Nat.le_succ _) (.int .i64 fp);have E8 := E6.below hb7;obtain ⟨rfl, rfl⟩ := zbo.zero E8;have b8 := (b7.setCell (p := ⟨w2.heap.size + 1, 0, none⟩) LW.out (.int .i64 fe)).setCell (p := ⟨w2.heap.size + 1, 1, none⟩) LW.out (.int .i64 fp);obtain ⟨g0, g1, g2, g3⟩ := G7;have g4 : (w7.setCell ⟨w2.heap.size + 1, 0, none⟩ (.int .i64 fe)).cell? ⟨w2.heap.size + 1, 1, none⟩ = some (.int .i64 (-1)) := zaw g1 (by omega);clear k0 k1 k2 F7 F8 G6 kY6 hX6 hY6 E6 E8 b6 b7 hb7;go_wp2_with fail;clear g0 g1 g2 g3 g4;generalize (w7.setCell ⟨w2.heap.size + 1, 0, none⟩ (.int .i64 fe)).setCell ⟨w2.heap.size + 1, 1, none⟩ (.int .i64 fp) = W8 at *;refine (zyf s _ hS (hg.below b8)).mono ?_;rintro r w9 ⟨v9, rfl, hv9, hb9⟩;have b9 := b8.trans (hb9.mono b8.size);have F9 := F8'.below hb9;have G9 := G8.below hb9;have kB9 := kB8.below hb9;have kY9 := kY8.below hb9;have hX9 := hX8.grow hb9;have hY9 := hY8.grow hb9;have E9 := (zbo.none (w := W8)).below hb9;rw [HL.out] at hv9 ⊢;simp only at hv9 ⊢;obtain ⟨g0, g1, _, _⟩ := F9;clear hb9;go_wp2_with fail;refine (zhz E9 (hg.below b9) 0 (-1)).mono ?_;rintro r w10 ⟨rfl, hb10⟩;have b10 := b9.trans (hb10.mono b9.size);have hX10 := hX9.grow hb10;have hY10 := hY9.grow hb10;have hv10 := hv9.below hb10;have G10 := G9.below hb10;obtain ⟨p0, p1, p2⟩ := kB9.below hb10;obtain ⟨q0, q1, q2⟩ := kY9.below hb10;rw [decide_eq_true ⟨rfl, rfl⟩];clear hb10 E9 kB9 kY9 hX9 hY9 hv9 G9;go_wp2_with fail;refine (ztl x y w10 hX10 hY10).mono ?_;rintro r w11 ⟨rfl, hb11⟩;rw [HS.out];have b11 := b10.trans (hb11.mono b10.size);have hv11 := hv10.below hb11;obtain ⟨m0, m1, _, _⟩ := G10.below hb11;clear p0 p1 p2 q0 q1 q2 g0 g1;go_wp2_with fail;refine (zhz hv11 (hg.below b11) _ _).mono ?_;rintro r w12 ⟨rfl, hb12⟩;rw [decide_eq_true ⟨rfl, rfl⟩];go_wp2;go_ret;exact ⟨by first | rfl | simp, b11.trans (hb12.mono b11.size)⟩
  ·have e1 : (((ee, pp) : Int × Int).1 == 0) = false := by simpa using he
   rw [e1];have HL := Lib.hid (zsx HXX.out he);clear e1 he HFIT HX2;go_wp2_with fail;refine (zyf s _ hS (hg.below b6)).mono ?_;rintro r w9 ⟨v9, rfl, hv9, hb9⟩;have b9 := b6.trans (hb9.mono b6.size);have F9 := F7.below hb9;have G9 := G6.below hb9;have kB9 := kB6.below hb9;have kY9 := kY6.below hb9;have hX9 := hX6.grow hb9;have hY9 := hY6.grow hb9;have E9 := E6.below hb9;rw [HL.out] at hv9 ⊢;simp only at hv9 ⊢;obtain ⟨g0, g1, _, _⟩ := F9;clear hb9;go_wp2_with fail;refine (zhz E9 (hg.below b9) ee pp).mono ?_;rintro r w10 ⟨rfl, hb10⟩;have b10 := b9.trans (hb10.mono b9.size);have hX10 := hX9.grow hb10;have hY10 := hY9.grow hb10;have hv10 := hv9.below hb10;have G10 := G9.below hb10;obtain ⟨p0, p1, p2⟩ := kB9.below hb10;obtain ⟨q0, q1, q2⟩ := kY9.below hb10;rw [decide_eq_true ⟨rfl, rfl⟩];clear hb10 E9 kB9 kY9 hX9 hY9 hv9 G9;go_wp2_with fail;refine (ztl x y w10 hX10 hY10).mono ?_;rintro r w11 ⟨rfl, hb11⟩;rw [HS.out];have b11 := b10.trans (hb11.mono b10.size);have hv11 := hv10.below hb11;obtain ⟨m0, m1, _, _⟩ := G10.below hb11;clear p0 p1 p2 q0 q1 q2 g0 g1;go_wp2_with fail;refine (zhz hv11 (hg.below b11) _ _).mono ?_;rintro r w12 ⟨rfl, hb12⟩;rw [decide_eq_true ⟨rfl, rfl⟩];go_wp2;go_ret;exact ⟨by first | rfl | simp, b11.trans (hb12.mono b11.size)⟩
end Go.Proofs.YtkejlnjnoiidnaaGreatDoor
end
