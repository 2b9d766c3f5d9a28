/- write.Fill says what wfill says. -/
import Derived.Test.YtkejlnjnoiidnaaGreatDoorZ6
import Derived.Test.YtkejlnjnoiidnaaGreatDoorZ3
import Derived.Test.YtkejlnjnoiidnaaGreatDoorZ4
import Derived.Test.YtkejlnjnoiidnaaGreatDoorZ8
import Derived.Test.YtkejlnjnoiidnaaGreatDoorZ1
import Derived.Maps.Own
import Derived.Maps.OwnOps
import Derived.Maps.OwnSet
import Derived.Maps.Views
import Derived.Test.YtkejlnjnoiidnaaGreatDoorZ10
import Derived.Test.YtkejlnjnoiidnaaGreatDoorZ13
import Derived.Laws.OwnMore
set_option linter.unusedSimpArgs false
set_option linter.unusedVariables false
section
namespace Go.Proofs.YtkejlnjnoiidnaaGreatDoor
open Go.RowKit As
def zdb (r : Wr × Nat × Int) : Value := .tuple #[wrV r.1.1 r.1.2.1 r.1.2.2.1 r.1.2.2.2.1 r.1.2.2.2.2.1 r.1.2.2.2.2.2, .int .i64 (r.2.1 : Int), errV r.2.2]
theorem zar {w : World} {B i j : Nat} {v u : Value} (h : w.cell? ⟨B, j, none⟩ = some u) (hij : i ≠ j) : (w.setCell ⟨B, i, none⟩ v).cell? ⟨B, j, none⟩ = some u := by
 rw [World.cell?_setCell_other _ _ _ _ (by intro h; injection h with _ h2; exact hij (by first | exact h2 | exact h2.symm | injection h2))];exact h
theorem zlc {w : World} {B C i j : Nat} {v u : Value} (h : w.cell? ⟨C, j, none⟩ = some u) (hij : B ≠ C) : (w.setCell ⟨B, i, none⟩ v).cell? ⟨C, j, none⟩ = some u := by
 rw [World.cell?_setCell_other _ _ _ _ (by intro h; injection h with h1 _; exact hij (by first | exact h1 | exact h1.symm))];exact h
theorem WrAt.val {w : World} {B : Nat} {a b c f : Int} {d e : ByteArray} (h : WrAt w B a b c d e f) (t : ByteArray) : WrAt (w.setCell ⟨B, 4, none⟩ (.string t)) B a b c d t f :=
 ⟨zar h.c0 (by omega), zar h.c1 (by omega), zar h.c2 (by omega), zar h.c3 (by omega), World.cell?_setCell_same _ _ _ h.c4, zar h.c5 (by omega)⟩
theorem WrAt.num {w : World} {B : Nat} {a b c f : Int} {d e : ByteArray} (h : WrAt w B a b c d e f) (n : Int) : WrAt (w.setCell ⟨B, 5, none⟩ (.int .i64 n)) B a b c d e n :=
 ⟨zar h.c0 (by omega), zar h.c1 (by omega), zar h.c2 (by omega), zar h.c3 (by omega), zar h.c4 (by omega), World.cell?_setCell_same _ _ _ h.c5⟩
theorem WrAt.other {w : World} {B C i : Nat} {a b c f : Int} {d e : ByteArray} (h : WrAt w B a b c d e f) (hn : C ≠ B) (v : Value) : WrAt (w.setCell ⟨C, i, none⟩ v) B a b c d e f :=
 ⟨zlc h.c0 hn, zlc h.c1 hn, zlc h.c2 hn, zlc h.c3 hn, zlc h.c4 hn, zlc h.c5 hn⟩
def put6 (w : World) (R : Nat) (a b c : Int) (d e : ByteArray) (f : Int) : World :=
 (((((w.setCell ⟨R, 0, none⟩ (.int .i64 a)).setCell ⟨R, 1, none⟩ (.int .i64 b)).setCell ⟨R, 2, none⟩ (.int .i64 c)).setCell ⟨R, 3, none⟩ (.string d)).setCell ⟨R, 4, none⟩ (.string e)).setCell ⟨R, 5, none⟩ (.int .i64 f)
theorem WrAt.put {w : World} {B : Nat} {a b c f a' b' c' f' : Int} {d e d' e' : ByteArray} (h : WrAt w B a b c d e f) : WrAt (put6 w B a' b' c' d' e' f') B a' b' c' d' e' f' := by
 obtain ⟨c0, c1, c2, c3, c4, c5⟩ := h;unfold put6;have k1 := zar (v := .int .i64 a') c1 (i := 0) (by omega);have k2 := zar (v := .int .i64 b') (zar (v := .int .i64 a') c2 (i := 0) (by omega)) (i := 1) (by omega);have k3 := zar (v := .int .i64 c') (zar (v := .int .i64 b') (zar (v := .int .i64 a') c3 (i := 0) (by omega)) (i := 1) (by omega)) (i := 2) (by omega);have k4 := zar (v := .string d') (zar (v := .int .i64 c') (zar (v := .int .i64 b') (zar (v := .int .i64 a') c4 (i := 0) (by omega)) (i := 1) (by omega)) (i := 2) (by omega)) (i := 3) (by omega);have k5 := zar (v := .string e') (zar (v := .string d') (zar (v := .int .i64 c') (zar (v := .int .i64 b') (zar (v := .int .i64 a') c5 (i := 0) (by omega)) (i := 1) (by omega)) (i := 2) (by omega)) (i := 3) (by omega)) (i := 4) (by omega);refine ⟨?_, ?_, ?_, ?_, ?_, World.cell?_setCell_same _ _ _ k5⟩
 ·exact zar (zar (zar (zar (zar (World.cell?_setCell_same _ _ _ c0) (by omega)) (by omega)) (by omega)) (by omega)) (by omega)
 ·exact zar (zar (zar (zar (World.cell?_setCell_same _ _ _ k1) (by omega)) (by omega)) (by omega)) (by omega)
 ·exact zar (zar (zar (World.cell?_setCell_same _ _ _ k2) (by omega)) (by omega)) (by omega)
 ·exact zar (zar (World.cell?_setCell_same _ _ _ k3) (by omega)) (by omega)
 ·exact zar (World.cell?_setCell_same _ _ _ k4) (by omega)
theorem zax {B : Nat} {a w : World} {R : Nat} {a' b' c' f' : Int} {d' e' : ByteArray} (h : Below B a w) (hs : B ≤ R) : Below B a (put6 w R a' b' c' d' e' f') :=
 (((((h.setCell hs _).setCell hs _).setCell hs _).setCell hs _).setCell hs _).setCell hs _
structure zdf (w : World) (B : Nat) : Prop where
 f0 : w.frozen? ⟨B, 0, none⟩ = false
 f1 : w.frozen? ⟨B, 1, none⟩ = false
 f2 : w.frozen? ⟨B, 2, none⟩ = false
 f3 : w.frozen? ⟨B, 3, none⟩ = false
 f4 : w.frozen? ⟨B, 4, none⟩ = false
 f5 : w.frozen? ⟨B, 5, none⟩ = false
theorem zdf.new (w : World) (a b c f : Int) (d e : ByteArray) : zdf (w.alloc (wrO a b c d e f)) w.heap.size := ⟨by simp, by simp, by simp, by simp, by simp, by simp⟩
theorem zdf.below {w w' : World} {B : Nat} (h : zdf w B) (hs : B < w.heap.size) (hb : Below w.heap.size w w') : zdf w' B :=
 ⟨(hb.frozen hs).trans h.f0, (hb.frozen hs).trans h.f1, (hb.frozen hs).trans h.f2, (hb.frozen hs).trans h.f3, (hb.frozen hs).trans h.f4, (hb.frozen hs).trans h.f5⟩
theorem zdf.set {w : World} {B : Nat} (h : zdf w B) (C i : Nat) (v : Value) : zdf (w.setCell ⟨C, i, none⟩ v) B := ⟨by simpa using h.f0, by simpa using h.f1, by simpa using h.f2, by simpa using h.f3, by simpa using h.f4, by simpa using h.f5⟩
-- kinds
set_option maxHeartbeats 2000000 in
set_option maxRecDepth 100000 in
theorem yoy (a b f : Int) (d e s : ByteArray) (w : World) (hs : s.size ≤ maxLen) (hg : zbh w) :
  Calls Tryz.prog 108 #[wrV a b 1 d e f, .string s] w fun r w' => r = .returned (zdb (zcy (a, b, 1, d, e, f) s)) ∧ Below w.heap.size w w' := by
 have hr := Lib.hid (show zcy (a, b, 1, d, e, f) s = if (zaq s).2.2 ≠ 0 then (noWr, 0, (zaq s).2.2) else wend (a, b, 1, d, (zaq s).1, 0) (zaq s).2.1 from rfl);have hW := WrAt.new w a b 1 d ⟨#[]⟩ 0;have b0 := zaa w (wrO a b 1 d ⟨#[]⟩ 0);have hR := WrAt.new (w.alloc (wrO a b 1 d ⟨#[]⟩ 0)) 0 0 0 ⟨#[]⟩ ⟨#[]⟩ 0;have b1 := zaa (w.alloc (wrO a b 1 d ⟨#[]⟩ 0)) (wrO 0 0 0 ⟨#[]⟩ ⟨#[]⟩ 0);have b01 := b0.trans (b1.mono b0.size);have gW := (zdf.new w a b 1 0 d ⟨#[]⟩).below (by simp) b1;have gR := zdf.new (w.alloc (wrO a b 1 d ⟨#[]⟩ 0)) 0 0 0 0 ⟨#[]⟩ ⟨#[]⟩;rw [World.size_alloc] at gR;replace hW := hW.below b1;rw [World.size_alloc] at hR;have hg1 := hg.below b01;clear b0 b1;go_enter Tryz.func108, Tryz.ntmps108;go_wp2_with fail;generalize hWW : (w.alloc (wrO a b 1 d ⟨#[]⟩ 0)).alloc (wrO 0 0 0 ⟨#[]⟩ ⟨#[]⟩ 0) = W at *;have hlt : w.heap.size < W.heap.size := cell_lt hW.c0;have hlt1 : w.heap.size + 1 < W.heap.size := cell_lt hR.c0;clear hWW;refine (zgr s _ hs hg1).mono ?_;rintro r w2 ⟨rfl, hb2⟩;have hW2 := hW.below hb2;have hR2 := hR.below hb2;have gW2 := gW.below hlt hb2;have gR2 := gR.below hlt1 hb2;have b02 := b01.trans (hb2.mono b01.size);have hlt2 : w.heap.size < w2.heap.size := cell_lt hW2.c0;have hlt12 : w.heap.size + 1 < w2.heap.size := cell_lt hR2.c0;clear hW hR gW gR;generalize zaq s = y at *;obtain ⟨t, n, q⟩ := y;simp only at *;have x4 := hW2.c4;have g4 := gW2.f4;have hV := hW2.val t;have hVR := hR2.other (C := w.heap.size) (i := 4) (by omega) (.string t);have bV := b02.setCell (p := ⟨w.heap.size, 4, none⟩) (Nat.le_refl _) (.string t);have gVR := gR2.set w.heap.size 4 (.string t);have sV : (w2.setCell ⟨w.heap.size, 4, none⟩ (.string t)).heap.size = w2.heap.size := by simp
 clear hW2 hR2 gW2 gR2;by_cases hq : q = 0
 ·subst hq;rw [zak];have hr2 := Lib.hid (hr.out.trans (if_neg (by simp)));have HV := hV;obtain ⟨v0, v1, v2, v3, v4, v5⟩ := hV;go_wp2_with fail;refine (zcm (a, b, 1, d, t, 0) _).mono ?_;rintro r w3 ⟨rfl, hb3⟩;have b03 := bV.trans (hb3.mono bV.size);have hVR3 := hVR.below hb3;have gVR3 := gVR.below (by first | omega | (simp; omega)) hb3;by_cases hw : zao (a, b, 1, d, t, 0) = 0
  ·rw [hw, zak];have hr3 := Lib.hid (hr2.out.trans (show wend (a, b, 1, d, t, 0) n = _ from if_neg (by simp [hw])));have hZ := hVR3.put (a' := a) (b' := b) (c' := 1) (d' := d) (e' := t) (f' := 0);obtain ⟨y0, y1, y2, y3, y4, y5⟩ := HV.below hb3;obtain ⟨u0, u1, u2, u3, u4, u5⟩ := hVR3;obtain ⟨j0, j1, j2, j3, j4, j5⟩ := gVR3;clear hw;go_wp2;unfold put6 at hZ;obtain ⟨z0, z1, z2, z3, z4, z5⟩ := hZ;exact bodyPost_ret (v := .tuple #[.agg #[.int .i64 a, .int .i64 b, .int .i64 1, .string d, .string t, .int .i64 0], .int .i64 ((n : Nat) : Int), .nilIface]) (by simp [results, Tryz.results108, go_sem, z0, z1, z2, z3, z4, z5]) rfl ⟨by rw [hr3.out]; rfl, zax b03 (by omega)⟩
  ·rw [zau hw];have hr3 := Lib.hid (hr2.out.trans (show wend (a, b, 1, d, t, 0) n = _ from if_pos hw));have HW := Lib.hid hw;clear hw;have hZ := hVR3.put (a' := 0) (b' := 0) (c' := 0) (d' := ⟨#[]⟩) (e' := ⟨#[]⟩) (f' := 0);obtain ⟨u0, u1, u2, u3, u4, u5⟩ := hVR3;obtain ⟨j0, j1, j2, j3, j4, j5⟩ := gVR3;go_wp2;unfold put6 at hZ;obtain ⟨z0, z1, z2, z3, z4, z5⟩ := hZ;exact bodyPost_ret (v := .tuple #[.agg #[.int .i64 0, .int .i64 0, .int .i64 0, .string ⟨#[]⟩, .string ⟨#[]⟩, .int .i64 0], .int .i64 0, .iface 27 (.int .i64 (zao (a, b, 1, d, t, 0)))]) (by simp [results, Tryz.results108, go_sem, z0, z1, z2, z3, z4, z5]) rfl ⟨by rw [hr3.out]; unfold zdb; rw [zau HW.out]; rfl, zax b03 (by omega)⟩
 ·rw [zau hq];have hr2 := Lib.hid (hr.out.trans (if_pos hq));have HQ := Lib.hid hq;clear hq;have hZ := hVR.put (a' := 0) (b' := 0) (c' := 0) (d' := ⟨#[]⟩) (e' := ⟨#[]⟩) (f' := 0);obtain ⟨u0, u1, u2, u3, u4, u5⟩ := hVR;obtain ⟨j0, j1, j2, j3, j4, j5⟩ := gVR;go_wp2;unfold put6 at hZ;obtain ⟨z0, z1, z2, z3, z4, z5⟩ := hZ;exact bodyPost_ret (v := .tuple #[.agg #[.int .i64 0, .int .i64 0, .int .i64 0, .string ⟨#[]⟩, .string ⟨#[]⟩, .int .i64 0], .int .i64 0, .iface 27 (.int .i64 q)]) (by simp [results, Tryz.results108, go_sem, z0, z1, z2, z3, z4, z5]) rfl ⟨by rw [hr2.out]; unfold zdb; rw [zau HQ.out]; rfl, zax bV (by omega)⟩
set_option maxHeartbeats 2000000 in
set_option maxRecDepth 100000 in
theorem yoz (a b f : Int) (d e s : ByteArray) (w : World) (hs : s.size ≤ maxLen) (hg : zbh w) :
  Calls Tryz.prog 108 #[wrV a b 3 d e f, .string s] w fun r w' => r = .returned (zdb (zcy (a, b, 3, d, e, f) s)) ∧ Below w.heap.size w w' := by
 have hr := Lib.hid (show zcy (a, b, 3, d, e, f) s = if (vget s.data.toList).2.2 ≠ 0 then (noWr, 0, (vget s.data.toList).2.2) else wend (a, b, 3, d, ⟨#[]⟩, zagN (vget s.data.toList).1) (vget s.data.toList).2.1 from rfl);have hx : (vget s.data.toList).1 < 18446744073709551616 := by rcases zdw s.data.toList with h | h | h | h <;> first | exact h.2.1 | (rw [h]; decide)
 have hW := WrAt.new w a b 3 d ⟨#[]⟩ 0;have b0 := zaa w (wrO a b 3 d ⟨#[]⟩ 0);have hR := WrAt.new (w.alloc (wrO a b 3 d ⟨#[]⟩ 0)) 0 0 0 ⟨#[]⟩ ⟨#[]⟩ 0;have b1 := zaa (w.alloc (wrO a b 3 d ⟨#[]⟩ 0)) (wrO 0 0 0 ⟨#[]⟩ ⟨#[]⟩ 0);have b01 := b0.trans (b1.mono b0.size);have gW := (zdf.new w a b 3 0 d ⟨#[]⟩).below (by simp) b1;have gR := zdf.new (w.alloc (wrO a b 3 d ⟨#[]⟩ 0)) 0 0 0 0 ⟨#[]⟩ ⟨#[]⟩;rw [World.size_alloc] at gR;replace hW := hW.below b1;rw [World.size_alloc] at hR;have hg1 := hg.below b01;clear b0 b1;go_enter Tryz.func108, Tryz.ntmps108;go_wp2_with fail;generalize hWW : (w.alloc (wrO a b 3 d ⟨#[]⟩ 0)).alloc (wrO 0 0 0 ⟨#[]⟩ ⟨#[]⟩ 0) = W at *;have hlt : w.heap.size < W.heap.size := cell_lt hW.c0;have hlt1 : w.heap.size + 1 < W.heap.size := cell_lt hR.c0;clear hWW;refine (zhx s _ hs).mono ?_;rintro r w2 ⟨rfl, rfl⟩;generalize vget s.data.toList = y at *;obtain ⟨x, n, q⟩ := y;simp only at *;go_wp2_with fail;refine (Zg.yjv (x : Int) _ (by omega) (by omega)).mono ?_;rintro r w2 ⟨rfl, rfl⟩;rw [Zg.yiz];have x5 := hW.c5;have g5 := gW.f5;have hV := hW.num (zagN x);have hVR := hR.other (C := w.heap.size) (i := 5) (by omega) (.int .i64 (zagN x));have bV := b01.setCell (p := ⟨w.heap.size, 5, none⟩) (Nat.le_refl _) (.int .i64 (zagN x));have gVR := gR.set w.heap.size 5 (.int .i64 (zagN x));have sV : (W.setCell ⟨w.heap.size, 5, none⟩ (.int .i64 (zagN x))).heap.size = W.heap.size := by simp
 clear hW hR gW gR;by_cases hq : q = 0
 ·subst hq;rw [zak];have hr2 := Lib.hid (hr.out.trans (if_neg (by simp)));have HV := hV;obtain ⟨v0, v1, v2, v3, v4, v5⟩ := hV;go_wp2_with fail;refine (zcm (a, b, 3, d, ⟨#[]⟩, (zagN x)) _).mono ?_;rintro r w3 ⟨rfl, hb3⟩;have b03 := bV.trans (hb3.mono bV.size);have hVR3 := hVR.below hb3;have gVR3 := gVR.below (by first | omega | (simp; omega)) hb3;by_cases hw : zao (a, b, 3, d, ⟨#[]⟩, (zagN x)) = 0
  ·rw [hw, zak];have hr3 := Lib.hid (hr2.out.trans (show wend (a, b, 3, d, ⟨#[]⟩, (zagN x)) n = _ from if_neg (by simp [hw])));have hZ := hVR3.put (a' := a) (b' := b) (c' := 3) (d' := d) (e' := ⟨#[]⟩) (f' := (zagN x));obtain ⟨y0, y1, y2, y3, y4, y5⟩ := HV.below hb3;obtain ⟨u0, u1, u2, u3, u4, u5⟩ := hVR3;obtain ⟨j0, j1, j2, j3, j4, j5⟩ := gVR3;clear hw;go_wp2;unfold put6 at hZ;obtain ⟨z0, z1, z2, z3, z4, z5⟩ := hZ;exact bodyPost_ret (v := .tuple #[.agg #[.int .i64 a, .int .i64 b, .int .i64 3, .string d, .string ⟨#[]⟩, .int .i64 (zagN x)], .int .i64 ((n : Nat) : Int), .nilIface]) (by simp [results, Tryz.results108, go_sem, z0, z1, z2, z3, z4, z5]) rfl ⟨by rw [hr3.out]; rfl, zax b03 (by omega)⟩
  ·rw [zau hw];have hr3 := Lib.hid (hr2.out.trans (show wend (a, b, 3, d, ⟨#[]⟩, (zagN x)) n = _ from if_pos hw));have HW := Lib.hid hw;clear hw;have hZ := hVR3.put (a' := 0) (b' := 0) (c' := 0) (d' := ⟨#[]⟩) (e' := ⟨#[]⟩) (f' := 0);obtain ⟨u0, u1, u2, u3, u4, u5⟩ := hVR3;obtain ⟨j0, j1, j2, j3, j4, j5⟩ := gVR3;go_wp2;unfold put6 at hZ;obtain ⟨z0, z1, z2, z3, z4, z5⟩ := hZ;exact bodyPost_ret (v := .tuple #[.agg #[.int .i64 0, .int .i64 0, .int .i64 0, .string ⟨#[]⟩, .string ⟨#[]⟩, .int .i64 0], .int .i64 0, .iface 27 (.int .i64 (zao (a, b, 3, d, ⟨#[]⟩, (zagN x))))]) (by simp [results, Tryz.results108, go_sem, z0, z1, z2, z3, z4, z5]) rfl ⟨by rw [hr3.out]; unfold zdb; rw [zau HW.out]; rfl, zax b03 (by omega)⟩
 ·rw [zau hq];have hr2 := Lib.hid (hr.out.trans (if_pos hq));have HQ := Lib.hid hq;clear hq;have hZ := hVR.put (a' := 0) (b' := 0) (c' := 0) (d' := ⟨#[]⟩) (e' := ⟨#[]⟩) (f' := 0);obtain ⟨u0, u1, u2, u3, u4, u5⟩ := hVR;obtain ⟨j0, j1, j2, j3, j4, j5⟩ := gVR;go_wp2;unfold put6 at hZ;obtain ⟨z0, z1, z2, z3, z4, z5⟩ := hZ;exact bodyPost_ret (v := .tuple #[.agg #[.int .i64 0, .int .i64 0, .int .i64 0, .string ⟨#[]⟩, .string ⟨#[]⟩, .int .i64 0], .int .i64 0, .iface 27 (.int .i64 q)]) (by simp [results, Tryz.results108, go_sem, z0, z1, z2, z3, z4, z5]) rfl ⟨by rw [hr2.out]; unfold zdb; rw [zau HQ.out]; rfl, zax bV (by omega)⟩
set_option maxHeartbeats 2000000 in
set_option maxRecDepth 100000 in
theorem yoq (a b c f : Int) (d e s : ByteArray) (w : World) (hg : zbh w) (h1 : c ≠ 1) (h3 : c ≠ 3) (h4 : c ≠ 4) :
  Calls Tryz.prog 108 #[wrV a b c d e f, .string s] w fun r w' => r = .returned (zdb (zcy (a, b, c, d, e, f) s)) ∧ Below w.heap.size w w' := by
 have hr2 := Lib.hid (show zcy (a, b, c, d, e, f) s = wend (a, b, c, d, ⟨#[]⟩, 0) 0 by unfold zcy; rw [if_neg h1, if_neg h3, if_neg h4]);have e1 : (c == 1) = false := by simpa using h1
 have e3 : (c == 3) = false := by simpa using h3
 have e4 : (c == 4) = false := by simpa using h4
 clear h1 h3 h4;have hW := WrAt.new w a b c d ⟨#[]⟩ 0;have b0 := zaa w (wrO a b c d ⟨#[]⟩ 0);have hR := WrAt.new (w.alloc (wrO a b c d ⟨#[]⟩ 0)) 0 0 0 ⟨#[]⟩ ⟨#[]⟩ 0;have b1 := zaa (w.alloc (wrO a b c d ⟨#[]⟩ 0)) (wrO 0 0 0 ⟨#[]⟩ ⟨#[]⟩ 0);have b01 := b0.trans (b1.mono b0.size);have gW := (zdf.new w a b c 0 d ⟨#[]⟩).below (by simp) b1;have gR := zdf.new (w.alloc (wrO a b c d ⟨#[]⟩ 0)) 0 0 0 0 ⟨#[]⟩ ⟨#[]⟩;rw [World.size_alloc] at gR;replace hW := hW.below b1;rw [World.size_alloc] at hR;have hg1 := hg.below b01;clear b0 b1;go_enter Tryz.func108, Tryz.ntmps108;go_wp2_with fail;generalize hWW : (w.alloc (wrO a b c d ⟨#[]⟩ 0)).alloc (wrO 0 0 0 ⟨#[]⟩ ⟨#[]⟩ 0) = W at *;have hlt : w.heap.size < W.heap.size := cell_lt hW.c0;have hlt1 : w.heap.size + 1 < W.heap.size := cell_lt hR.c0;clear hWW;have hV := hW;have hVR := hR;have gVR := gR;have bV := b01;have HV := hV;refine (zcm (a, b, c, d, ⟨#[]⟩, 0) _).mono ?_;rintro r w3 ⟨rfl, hb3⟩;have b03 := bV.trans (hb3.mono bV.size);have hVR3 := hVR.below hb3;have gVR3 := gVR.below (by first | omega | (simp; omega)) hb3;by_cases hw : zao (a, b, c, d, ⟨#[]⟩, 0) = 0
 ·rw [hw, zak];have hr3 := Lib.hid (hr2.out.trans (show wend (a, b, c, d, ⟨#[]⟩, 0) 0 = _ from if_neg (by simp [hw])));have hZ := hVR3.put (a' := a) (b' := b) (c' := c) (d' := d) (e' := ⟨#[]⟩) (f' := 0);obtain ⟨y0, y1, y2, y3, y4, y5⟩ := HV.below hb3;obtain ⟨u0, u1, u2, u3, u4, u5⟩ := hVR3;obtain ⟨j0, j1, j2, j3, j4, j5⟩ := gVR3;clear hw;go_wp2;unfold put6 at hZ;obtain ⟨z0, z1, z2, z3, z4, z5⟩ := hZ;exact bodyPost_ret (v := .tuple #[.agg #[.int .i64 a, .int .i64 b, .int .i64 c, .string d, .string ⟨#[]⟩, .int .i64 0], .int .i64 ((0 : Nat) : Int), .nilIface]) (by simp [results, Tryz.results108, go_sem, z0, z1, z2, z3, z4, z5]) rfl ⟨by rw [hr3.out]; rfl, zax b03 (by omega)⟩
 ·rw [zau hw];have hr3 := Lib.hid (hr2.out.trans (show wend (a, b, c, d, ⟨#[]⟩, 0) 0 = _ from if_pos hw));have HW := Lib.hid hw;clear hw;have hZ := hVR3.put (a' := 0) (b' := 0) (c' := 0) (d' := ⟨#[]⟩) (e' := ⟨#[]⟩) (f' := 0);obtain ⟨u0, u1, u2, u3, u4, u5⟩ := hVR3;obtain ⟨j0, j1, j2, j3, j4, j5⟩ := gVR3;go_wp2;unfold put6 at hZ;obtain ⟨z0, z1, z2, z3, z4, z5⟩ := hZ;exact bodyPost_ret (v := .tuple #[.agg #[.int .i64 0, .int .i64 0, .int .i64 0, .string ⟨#[]⟩, .string ⟨#[]⟩, .int .i64 0], .int .i64 0, .iface 27 (.int .i64 (zao (a, b, c, d, ⟨#[]⟩, 0)))]) (by simp [results, Tryz.results108, go_sem, z0, z1, z2, z3, z4, z5]) rfl ⟨by rw [hr3.out]; unfold zdb; rw [zau HW.out]; rfl, zax b03 (by omega)⟩
set_option maxHeartbeats 2000000 in
set_option maxRecDepth 100000 in
theorem yop (a b f : Int) (d e s : ByteArray) (w : World) (hs : s.size ≤ maxLen) (hg : zbh w) :
  Calls Tryz.prog 108 #[wrV a b 4 d e f, .string s] w fun r w' => r = .returned (zdb (zcy (a, b, 4, d, e, f) s)) ∧ Below w.heap.size w w' := by
 have hr := Lib.hid (show zcy (a, b, 4, d, e, f) s = if (vint s.data.toList 1000).2.2 ≠ 0 then (noWr, 0, (vint s.data.toList 1000).2.2)
  else if (zaq (s.extract (vint s.data.toList 1000).2.1 s.size)).2.2 ≠ 0 then (noWr, 0, (zaq (s.extract (vint s.data.toList 1000).2.1 s.size)).2.2)
  else wend (a, b, 4, d, (zaq (s.extract (vint s.data.toList 1000).2.1 s.size)).1, ((vint s.data.toList 1000).1 : Int)) ((vint s.data.toList 1000).2.1 + (zaq (s.extract (vint s.data.toList 1000).2.1 s.size)).2.1) from rfl)
 have hx : (vint s.data.toList 1000).2.1 ≤ 10 ∧ (vint s.data.toList 1000).2.1 ≤ s.size := by
  rcases zmy s.data.toList 1000 with h | ⟨e, h, _⟩
  ·exact ⟨h.2.2.2.2.1, by have := h.2.2.2.2.2; simpa using this⟩
  ·rw [h]; exact ⟨Nat.zero_le _, Nat.zero_le _⟩
 have hW := WrAt.new w a b 4 d ⟨#[]⟩ 0;have b0 := zaa w (wrO a b 4 d ⟨#[]⟩ 0);have hR := WrAt.new (w.alloc (wrO a b 4 d ⟨#[]⟩ 0)) 0 0 0 ⟨#[]⟩ ⟨#[]⟩ 0;have b1 := zaa (w.alloc (wrO a b 4 d ⟨#[]⟩ 0)) (wrO 0 0 0 ⟨#[]⟩ ⟨#[]⟩ 0);have b01 := b0.trans (b1.mono b0.size);have gW := (zdf.new w a b 4 0 d ⟨#[]⟩).below (by simp) b1;have gR := zdf.new (w.alloc (wrO a b 4 d ⟨#[]⟩ 0)) 0 0 0 0 ⟨#[]⟩ ⟨#[]⟩;rw [World.size_alloc] at gR;replace hW := hW.below b1;rw [World.size_alloc] at hR;have hg1 := hg.below b01;clear b0 b1;go_enter Tryz.func108, Tryz.ntmps108;go_wp2_with fail;generalize hWW : (w.alloc (wrO a b 4 d ⟨#[]⟩ 0)).alloc (wrO 0 0 0 ⟨#[]⟩ ⟨#[]⟩ 0) = W at *;have hlt : w.heap.size < W.heap.size := cell_lt hW.c0;have hlt1 : w.heap.size + 1 < W.heap.size := cell_lt hR.c0;clear hWW;refine (zdn s 1000 _ hs (by omega)).mono ?_;rintro r w2 ⟨rfl, rfl⟩;generalize vint s.data.toList 1000 = y at *;obtain ⟨x, n, q⟩ := y;simp only at *;obtain ⟨hn1, hn2⟩ := hx;have x5 := hW.c5;have g5 := gW.f5;have hV := hW.num (x : Int);have hVR := hR.other (C := w.heap.size) (i := 5) (by omega) (.int .i64 (x : Int));have bV := b01.setCell (p := ⟨w.heap.size, 5, none⟩) (Nat.le_refl _) (.int .i64 (x : Int));have gVR := gR.set w.heap.size 5 (.int .i64 (x : Int));have gV := gW.set w.heap.size 5 (.int .i64 (x : Int));have bD : Below W.heap.size W (W.setCell ⟨w.heap.size, 5, none⟩ (.int .i64 (x : Int))) ∨ True := .inr trivial;have sV : (W.setCell ⟨w.heap.size, 5, none⟩ (.int .i64 (x : Int))).heap.size = W.heap.size := by simp
 have hgV : zbh (W.setCell ⟨w.heap.size, 5, none⟩ (.int .i64 (x : Int))) := hg.below bV;clear hW hR gW gR bD;by_cases hq : q = 0
 ·subst hq;rw [zak];have hr2' := Lib.hid (hr.out.trans (if_neg (by simp)));clear hr;have hss : (s.extract n s.size).size ≤ maxLen := by simp; omega
  unfold maxLen at hs;go_wp2_with fail;refine (zgr (s.extract n s.size) _ hss hgV).mono ?_;rintro r w2 ⟨rfl, hb2⟩;have hk : (zaq (s.extract n s.size)).2.1 ≤ 2010 := by
   rcases zci (s.extract n s.size) with h | ⟨e, h, _⟩
   ·exact h.2.2.2.1
   ·rw [h]; exact Nat.zero_le _
  have hW2 := hV.below hb2;have hR2 := hVR.below hb2;have gW2 := gV.below (by rw [sV]; exact hlt) hb2;have gR2 := gVR.below (by rw [sV]; exact hlt1) hb2;have b02 := bV.trans (hb2.mono bV.size);have hlt2 : w.heap.size < w2.heap.size := cell_lt hW2.c0;have hlt12 : w.heap.size + 1 < w2.heap.size := cell_lt hR2.c0;clear hV hVR gV gVR bV sV hgV hlt hlt1 x5 g5;generalize zaq (s.extract n s.size) = y at *;obtain ⟨t, k, q2⟩ := y;simp only at *;have x4 := hW2.c4;have g4 := gW2.f4;have hV := hW2.val t;have hVR := hR2.other (C := w.heap.size) (i := 4) (by omega) (.string t);have bV := b02.setCell (p := ⟨w.heap.size, 4, none⟩) (Nat.le_refl _) (.string t);have gVR := gR2.set w.heap.size 4 (.string t);have sV : (w2.setCell ⟨w.heap.size, 4, none⟩ (.string t)).heap.size = w2.heap.size := by simp
  clear hW2 hR2 gW2 gR2;by_cases hq : q2 = 0
  ·subst hq;rw [zak];have hr2 := Lib.hid (hr2'.out.trans (if_neg (by simp)));have HV := hV;obtain ⟨v0, v1, v2, v3, v4, v5⟩ := hV;go_wp2_with fail;refine (zcm (a, b, 4, d, t, (x : Int)) _).mono ?_;rintro r w3 ⟨rfl, hb3⟩;have b03 := bV.trans (hb3.mono bV.size);have hVR3 := hVR.below hb3;have gVR3 := gVR.below (by first | omega | (simp; omega)) hb3;by_cases hw : zao (a, b, 4, d, t, (x : Int)) = 0
   ·rw [hw, zak];have hr3 := Lib.hid (hr2.out.trans (show wend (a, b, 4, d, t, (x : Int)) (n + k) = _ from if_neg (by simp [hw])));have hZ := hVR3.put (a' := a) (b' := b) (c' := 4) (d' := d) (e' := t) (f' := (x : Int));obtain ⟨y0, y1, y2, y3, y4, y5⟩ := HV.below hb3;obtain ⟨u0, u1, u2, u3, u4, u5⟩ := hVR3;obtain ⟨j0, j1, j2, j3, j4, j5⟩ := gVR3;clear hw;go_wp2;unfold put6 at hZ;obtain ⟨z0, z1, z2, z3, z4, z5⟩ := hZ;exact bodyPost_ret (v := .tuple #[.agg #[.int .i64 a, .int .i64 b, .int .i64 4, .string d, .string t, .int .i64 (x : Int)], .int .i64 (((n + k) : Nat) : Int), .nilIface]) (by simp [results, Tryz.results108, go_sem, z0, z1, z2, z3, z4, z5]) rfl ⟨by rw [hr3.out]; rfl, zax b03 (by omega)⟩
   ·rw [zau hw];have hr3 := Lib.hid (hr2.out.trans (show wend (a, b, 4, d, t, (x : Int)) (n + k) = _ from if_pos hw));have HW := Lib.hid hw;clear hw;have hZ := hVR3.put (a' := 0) (b' := 0) (c' := 0) (d' := ⟨#[]⟩) (e' := ⟨#[]⟩) (f' := 0);obtain ⟨u0, u1, u2, u3, u4, u5⟩ := hVR3;obtain ⟨j0, j1, j2, j3, j4, j5⟩ := gVR3;go_wp2;unfold put6 at hZ;obtain ⟨z0, z1, z2, z3, z4, z5⟩ := hZ;exact bodyPost_ret (v := .tuple #[.agg #[.int .i64 0, .int .i64 0, .int .i64 0, .string ⟨#[]⟩, .string ⟨#[]⟩, .int .i64 0], .int .i64 0, .iface 27 (.int .i64 (zao (a, b, 4, d, t, (x : Int))))]) (by simp [results, Tryz.results108, go_sem, z0, z1, z2, z3, z4, z5]) rfl ⟨by rw [hr3.out]; unfold zdb; rw [zau HW.out]; rfl, zax b03 (by omega)⟩
  ·rw [zau hq];have hr2 := Lib.hid (hr2'.out.trans (if_pos hq));have HQ := Lib.hid hq;clear hq;have hZ := hVR.put (a' := 0) (b' := 0) (c' := 0) (d' := ⟨#[]⟩) (e' := ⟨#[]⟩) (f' := 0);obtain ⟨u0, u1, u2, u3, u4, u5⟩ := hVR;obtain ⟨j0, j1, j2, j3, j4, j5⟩ := gVR;go_wp2;unfold put6 at hZ;obtain ⟨z0, z1, z2, z3, z4, z5⟩ := hZ;exact bodyPost_ret (v := .tuple #[.agg #[.int .i64 0, .int .i64 0, .int .i64 0, .string ⟨#[]⟩, .string ⟨#[]⟩, .int .i64 0], .int .i64 0, .iface 27 (.int .i64 q2)]) (by simp [results, Tryz.results108, go_sem, z0, z1, z2, z3, z4, z5]) rfl ⟨by rw [hr2.out]; unfold zdb; rw [zau HQ.out]; rfl, zax bV (by omega)⟩
 ·rw [zau hq];have hr2 := Lib.hid (hr.out.trans (if_pos hq));have HQ := Lib.hid hq;clear hq;have hZ := hVR.put (a' := 0) (b' := 0) (c' := 0) (d' := ⟨#[]⟩) (e' := ⟨#[]⟩) (f' := 0);obtain ⟨u0, u1, u2, u3, u4, u5⟩ := hVR;obtain ⟨j0, j1, j2, j3, j4, j5⟩ := gVR;go_wp2;unfold put6 at hZ;obtain ⟨z0, z1, z2, z3, z4, z5⟩ := hZ;exact bodyPost_ret (v := .tuple #[.agg #[.int .i64 0, .int .i64 0, .int .i64 0, .string ⟨#[]⟩, .string ⟨#[]⟩, .int .i64 0], .int .i64 0, .iface 27 (.int .i64 q)]) (by simp [results, Tryz.results108, go_sem, z0, z1, z2, z3, z4, z5]) rfl ⟨by rw [hr2.out]; unfold zdb; rw [zau HQ.out]; rfl, zax bV (by omega)⟩
theorem zrb (x : Wr) (s : ByteArray) (w : World) (hs : s.size ≤ maxLen) (hg : zbh w) :
  Calls Tryz.prog 108 #[wrV x.1 x.2.1 x.2.2.1 x.2.2.2.1 x.2.2.2.2.1 x.2.2.2.2.2, .string s] w fun r w' => r = .returned (zdb (zcy x s)) ∧ Below w.heap.size w w' := by
 obtain ⟨a, b, c, d, e, f⟩ := x;by_cases h1 : c = 1
 ·subst h1; exact yoy a b f d e s w hs hg
 ·by_cases h3 : c = 3
  ·subst h3; exact yoz a b f d e s w hs hg
  ·by_cases h4 : c = 4
   ·subst h4; exact yop a b f d e s w hs hg
   ·exact yoq a b c f d e s w hg h1 h3 h4
end Go.Proofs.YtkejlnjnoiidnaaGreatDoor
end

section
namespace Go.Proofs.YtkejlnjnoiidnaaGreatDoor
open Go.RowKit Go.Maps
theorem zek {P : Program} (w : World) {ops : Array Oper} {rest : List Oper} {o : Oper} {a : Act} {Q : Exit → Act → World → Prop}
  (hg : o.guard = none) (m x : Operand) (t : TypeId) (hop : o.op = Op.lookup t m x false)
  (k e : TypeId) (K : Keyed P k) (ht : P.underlying t = some (.map k e)) (he : P.underlying e = some .bool) (hz : (zeroValue e).run P w = .ok (.bool false) w) (b n : Nat) (D : DataW Unit)
  (hm : a.eval m = .map (some b)) (hown : w.ownsMap P k (plainElem P e) b n D) (key : Value) (kl : Lit) (hx : a.eval x = key) (hkey : keyOf P k key = some kl)
  (c : Bool) (hat : D.atKey kl (.lit (.bool false)) = .lit (.bool c)) (hK : wpList P ops Q rest (a.put o.dst (.bool c)) w) :
  wpList P ops Q (o :: rest) a w := by
 refine wpList_plain hg fun K' hK' => ?_
 obtain ⟨v, ps, hrun, hv⟩ := hown.lookup K ht hz (plainElem_bool he false) hkey;rw [hat] at hv;have hvc : v = .bool c := by
  unfold plainElem at hv;rw [he] at hv;cases v <;> simp at hv
  rw [hv.1]
 subst hvc;unfold Oper.wp;simp [execOp, hop, hm, hx, hrun, Result.andThen];exact hK' _ _ hK
theorem zzc {s t : ByteArray} (h : ¬ s = t) : Lit.string s.data.toList ≠ Lit.string t.data.toList := by
 intro e;apply h;injection e with e
 obtain ⟨⟨a⟩⟩ := s;obtain ⟨⟨b⟩⟩ := t;simp at e;rw [e]
def zmu (D : DataW Unit) (T : List ByteArray) : Prop := ∀ s : ByteArray, D.atKey (.string s.data.toList) (.lit (.bool false)) = .lit (.bool (decide (s ∈ T)))
theorem zmu.nil : zmu (.map []) [] := fun _ => rfl
theorem zmu.put {D : DataW Unit} {T : List ByteArray} {s : ByteArray} (h : zmu D T) (hD : IsMap D) : zmu (D.put (.string s.data.toList) (.lit (.bool true))) (T ++ [s]) := by
 intro x;by_cases hx : x = s
 ·subst hx;rw [atKey_put_same hD (by simp [WideAt.IsKeyLit])];simp
 ·rw [atKey_put_other (zzc hx), h x];simp [hx]
def Upto (D : DataW Unit) (m : Nat) : Prop := Maps.size D = m ∧ (∀ n : Int, Maps.has D (.int .i64 n) = decide (0 ≤ n ∧ n < (m : Int))) ∧ Maps.Tidy D
theorem Upto.nil : Upto (.map []) 0 := ⟨rfl, fun n => (show false = decide (0 ≤ n ∧ n < ((0 : Nat) : Int)) from (decide_eq_false (by omega)).symm), ⟨[], rfl, by simp⟩⟩
theorem Upto.old {D : DataW Unit} {m : Nat} {n : Int} (h : Upto D m) (h0 : 0 ≤ n) (h1 : n < (m : Int)) : Upto (D.put (.int .i64 n) (.lit (.bool true))) m := by
 obtain ⟨a, b, c⟩ := h;refine ⟨?_, fun x => ?_, c.put (by simp [WideAt.IsKeyLit]) _⟩
 ·rw [size_put c, b n, decide_eq_true ⟨h0, h1⟩, if_pos rfl, a]
 ·by_cases hx : x = n
  ·subst hx;rw [has_put_same c.isMap (by simp [WideAt.IsKeyLit]), decide_eq_true ⟨h0, h1⟩]
  ·rw [has_put_other (by intro e; injection e with _ e; exact hx e), b x]
theorem Upto.new {D : DataW Unit} {m : Nat} (h : Upto D m) : Upto (D.put (.int .i64 (m : Int)) (.lit (.bool true))) (m + 1) := by
 obtain ⟨a, b, c⟩ := h;refine ⟨?_, fun x => ?_, c.put (by simp [WideAt.IsKeyLit]) _⟩
 ·rw [size_put c, b (m : Int), decide_eq_false (by omega), if_neg (by simp), a]
 ·by_cases hx : x = (m : Int)
  ·subst hx;rw [has_put_same c.isMap (by simp [WideAt.IsKeyLit]), decide_eq_true (by omega)]
  ·rw [has_put_other (by intro e; injection e with _ e; exact hx e), b x, decide_eq_decide];omega
end Go.Proofs.YtkejlnjnoiidnaaGreatDoor
end

section
namespace Go.Proofs.YtkejlnjnoiidnaaGreatDoor
open Go.RowKit As Go.Maps
theorem zye (w : World) : (zeroValue 4).run Tryz.prog w = .ok (.bool false) w := by kernel_rfl
theorem zqi : Keyed Tryz.prog 9 := string_keyed Tryz.underlying9
theorem zmz {P : Program} {w : World} {base : Nat} {e : TypeId} {size n : Nat} {v : Value} {xs : List Value} {k : TypeId} {R : Value → Option (DataW Unit × List MemPlace)} {b m : Nat} {D : DataW Unit}
  (h : w.ownsRow base e size v n xs) (hm : w.ownsMap P k R b m D) : some b ≠ v.ownBlock := by
 obtain ⟨es, clock, hb, _⟩ := hm;rcases h.2 with ⟨rfl, _⟩ | ⟨g, cap, cur, rfl, _, hh, _⟩
 ·simp [Value.ownBlock]
 ·intro e0;have : b = g := by simpa [Value.ownBlock] using e0
  subst this;rw [hb] at hh;injection hh with hh
  cases hh
set_option maxHeartbeats 2000000 in
set_option maxRecDepth 100000 in
theorem ybi (n c n' c' : Nat) (A A' : Option Addr) (T : List ByteArray) (l : List Int) (w : World) (h : Strs w A n T) (h' : Ints w A' n' l) (hn : n ≤ 1000) (hn' : n' ≤ 1000) (hsz : ∀ s ∈ T, s.size ≤ maxLen) (hli : ∀ x ∈ l, -9223372036854775808 ≤ x ∧ x ≤ 9223372036854775807) :
  Calls Tryz.prog 109 #[.slice A n c, .slice A' n' c'] w fun e w' => ∃ v x, e = .returned (.tuple #[v, x]) ∧ w'.ownsRow w.heap.size 9 1 v (zgn T l).1.length ((zgn T l).1.map Value.string) ∧ zbo w' x (zgn T l).2.1 (zgn T l).2.2 ∧ Below w.heap.size w w' := by
 have hmm := @run_makeMap Tryz.prog;obtain ⟨i0, hi, hz0, hz1, hz2⟩ := info_parts zfy;have hT := Lib.hid (zlf Value.string h);have hL := Lib.hid (zlf (Value.int .i64) h');go_enter Tryz.func109, Tryz.ntmps109;go_wp2;go_loopw [7, 8, 16] (fun _ _ i wr => ∃ k : Nat, k ≤ n ∧ i = .int .i64 k ∧ KT T k ∧ (∃ D : DataW Unit, wr.ownsMap Tryz.prog 9 (plainElem Tryz.prog 4) w.heap.size k D ∧ zmu D (T.take k)) ∧ Below w.heap.size w wr) (fun _ _ i _ => n - (intOf i).toNat)
 case atStart => exact ⟨0, by omega, rfl, KT.zero T, ⟨_, World.ownsMap_made _ _ _ _, zmu.nil⟩, zaa _ _⟩
 case round =>
  obtain ⟨k, hk, rfl, hkt, ⟨D, hM, hD⟩, hbel⟩ := hrel;have HK := Lib.hid hkt;clear hkt;have hB := hbel.size;by_cases hlt : k < n
  ·obtain ⟨b, o, s, rfl, hb, hx, hc⟩ := zfj Value.string h hT.out hlt;have hc' := (hbel.cell (p := ⟨b, o + k, none⟩) hb).trans hc;clear hc;have hs : s.size ≤ maxLen := hsz s (List.mem_of_getElem? hx);have hkn : (k : Int) < (n : Int) := by omega
   have hat := hD s;have htk := Lib.hid (show T.take (k + 1) = T.take k ++ [s] by
    obtain ⟨h1, h2⟩ := List.getElem?_eq_some_iff.1 hx;rw [List.take_succ_eq_append_getElem h1, h2])
   have hX := Lib.hid hx;clear hx;have HD := Lib.hid hD;clear hD;by_cases hm : s ∈ T.take k
   ·have hres := Lib.hid (znp (a := l) (HK.out.hit hX.out hm));rw [decide_eq_true hm] at hat;have HAT := Lib.hid hat;clear hat;go_wp2_with (first
     | (at_lookup; refine zek _ rfl _ _ 182 rfl 9 4 zqi Tryz.underlying182 Tryz.underlying4 (zye _) w.heap.size k D rfl hM _ _ rfl (WideMaps.keyOf_string_mk Tryz.underlying9 hs) true HAT.out ?_))
    go_ret2;refine ⟨_, _, rfl, ?_, ?_, hbel.alloc hB _⟩
    ·rw [hres.out]; exact World.ownsRow_nil _ _ _ _
    ·rw [hres.out]; exact zft _ _ 9 k (by omega) rfl
   ·have hnext := Lib.hid (HK.out.succ hX.out hm);rw [decide_eq_false hm] at hat;have HAT := Lib.hid hat;clear hat;go_wp2_with (first
     | (at_lookup; refine zek _ rfl _ _ 182 rfl 9 4 zqi Tryz.underlying182 Tryz.underlying4 (zye _) w.heap.size k D rfl hM _ _ rfl (WideMaps.keyOf_string_mk Tryz.underlying9 hs) false HAT.out ?_)
     | (at_mapUpdate; refine wpList_mapUpdate_own _ rfl _ _ _ 182 rfl 9 4 zqi Tryz.underlying182 _ w.heap.size k D rfl hM (by unfold maxLen; omega) _ _ _ rfl rfl (WideMaps.keyOf_string_mk Tryz.underlying9 hs) _ [] (plainElem_bool Tryz.underlying4 true) ?_; intro w1 hM1 hg1; have hb1 := hbel.grown hg1 hB (fun j hj => by cases hj; exact Nat.le_refl _)))
    go_roundw
    case rel => exact ⟨k + 1, by omega, by go_num, hnext.out, ⟨_, hM1, by rw [htk.out]; exact HD.out.put hM.isMap⟩, hb1⟩
    case measure => simp [intOf]; omega
  ·obtain rfl : k = n := by omega
   have honce := HK.out.all (by rw [hT.out]; exact Nat.le_refl _);have hres := Lib.hid (zop (a := l) honce);clear honce hlt hM hD;go_wp2;go_loopw [9, 10, 11, 12, 33] (fun v m _ _ i wx => ∃ (k next : Nat) (out : List ByteArray), k ≤ n' ∧ i = .int .i64 k ∧ m = .int .i64 next ∧ KA T l k next out ∧ wx.ownsRow w.heap.size 9 1 v out.length (out.map Value.string) ∧ Below w.heap.size w wx) (fun _ _ _ _ i _ => n' - (intOf i).toNat)
   case atStart => exact ⟨0, 0, [], by omega, rfl, rfl, KA.zero T l, World.ownsRow_nil _ _ _ _, hbel⟩
   case round =>
    clear hbel hB;obtain ⟨j, next, out, hj, rfl, rfl, hka, hO, hbel⟩ := hrel;have hB := hbel.size;have hol := hka.len;have hnx := hka.le;have hnx' := hka.le';have hTl := hT.out;rw [hTl] at hnx;have HKA := Lib.hid hka;have HTL := Lib.hid hTl;clear hka hTl;by_cases hlt : j < n'
    ·obtain ⟨b, o, x, rfl, hb, hx, hc⟩ := zfj (Value.int .i64) h' hL.out hlt;have hc' := (hbel.cell (p := ⟨b, o + j, none⟩) hb).trans hc;clear hc;have hxi := hli x (List.mem_of_getElem? hx);have hX := Lib.hid hx;clear hx;by_cases h1 : x < 0 ∨ (k : Int) ≤ x
     ·have hr := Lib.hid (HKA.out.range hX.out (by rw [HTL.out]; exact h1));have hq : decide (x < 0) = true ∨ (decide (x < 0) = false ∧ decide ((k : Int) ≤ x) = true) := by
       simp only [decide_eq_true_eq, decide_eq_false_iff_not]; omega
      clear h1;rcases hq with d0 | ⟨d0, d1⟩
      all_goals
       go_wp2;go_ret2;refine ⟨_, _, rfl, ?_, ?_, hbel.alloc hB _⟩
       ·rw [hres.out, hr.out]; exact World.ownsRow_nil _ _ _ _
       ·rw [hres.out, hr.out]; exact zft _ _ 2 j (by omega) rfl
     ·have d0 : decide (x < 0) = false := by simp; omega
      have d1 : decide ((k : Int) ≤ x) = false := by simp; omega
      have H1 := Lib.hid h1;by_cases h2 : (next : Int) < x
      ·have hr := Lib.hid (HKA.out.false hX.out (by rw [HTL.out]; exact h1) h2);have d2 : decide ((next : Int) < x) = true := by simpa using h2
       clear h1 h2;go_wp2;go_ret2;refine ⟨_, _, rfl, ?_, ?_, hbel.alloc hB _⟩
       ·rw [hres.out, hr.out]; exact World.ownsRow_nil _ _ _ _
       ·rw [hres.out, hr.out]; exact zft _ _ 13 j (by omega) rfl
      ·have d2 : decide ((next : Int) < x) = false := by simpa using h2
       obtain ⟨y, rfl⟩ := Int.eq_ofNat_of_zero_le (show 0 ≤ x by omega);have hyk : y < k := by omega
       have d1' : decide (k ≤ y) = false := by simpa using hyk
       have d2' : decide (next < y) = false := by simp; omega
       obtain ⟨b2, o2, s2, rfl, hb2, hx2, hc2⟩ := zfj Value.string h hT.out hyk;have hc3 := (hbel.cell (p := ⟨b2, o2 + y, none⟩) hb2).trans hc2;have hg2 := Lib.hid (show T.getD (y : Int).toNat (strOf []) = s2 by rw [Int.toNat_natCast]; simp [List.getD, hx2]);have hX2 := Lib.hid hx2;clear hc2 hx2;by_cases h3 : y = next
       ·have hnew := HKA.out.new hX.out (by rw [HTL.out]; exact h1) (by rw [h3]);rw [hg2.out] at hnew;have HNEW := Lib.hid hnew;have d3 : ((y : Int) == (next : Int)) = true := by rw [h3]; simp
        clear h1 h2 hnew;subst h3;go_wp2_with (first
         | (at_builtin; refine wpList_append_own _ rfl (.tmp 65) (.tmp 70) 116 rfl w.heap.size 9 i0 (.string ⟨#[]⟩) 1 16 Tryz.underlying116 hi hz0 hz1 hz2 rfl (by decide) u9 out.length (out.map Value.string) rfl (hO.alloc _) ⟨wr.heap.size, 0, none⟩ 1 1 [.string s2] rfl rfl (zby _ _ _) (by intro u hu; simp at hu; subst hu; rfl) (by unfold maxLen; omega) (by omega) (by simp; omega) ?_; intro v1 w2 hO2 hg3 _; have hb3 := zaj (hbel.alloc hB _) hg3 (by simp; omega) (hO.alloc _); have hO3 := zfi rfl hO2))
        go_roundw
        case rel => exact ⟨j + 1, y + 1, _, by omega, by go_num, by go_num, HNEW.out, hO3, hb3⟩
        case measure => simp [intOf]; omega
       ·have hold := HKA.out.old hX.out (by rw [HTL.out]; exact h1) (show (y : Int) < (next : Int) by omega);rw [hg2.out] at hold;have HOLD := Lib.hid hold;have d3 : ((y : Int) == (next : Int)) = false := by rw [beq_eq_false_iff_ne]; omega
        clear h1 h2 hold;go_wp2_with (first
         | (at_builtin; refine wpList_append_own _ rfl (.tmp 65) (.tmp 70) 116 rfl w.heap.size 9 i0 (.string ⟨#[]⟩) 1 16 Tryz.underlying116 hi hz0 hz1 hz2 rfl (by decide) u9 out.length (out.map Value.string) rfl (hO.alloc _) ⟨wr.heap.size, 0, none⟩ 1 1 [.string s2] rfl rfl (zby _ _ _) (by intro u hu; simp at hu; subst hu; rfl) (by unfold maxLen; omega) (by omega) (by simp; omega) ?_; intro v1 w2 hO2 hg3 _; have hb3 := zaj (hbel.alloc hB _) hg3 (by simp; omega) (hO.alloc _); have hO3 := zfi rfl hO2))
        go_roundw
        case rel => exact ⟨j + 1, next, _, by omega, by go_num, rfl, HOLD.out, hO3, hb3⟩
        case measure => simp [intOf]; omega
    ·obtain rfl : j = n' := by omega
     by_cases h4 : next < k
     ·have hr := Lib.hid (HKA.out.less (by rw [hL.out]; exact Nat.le_refl _) (by rw [HTL.out]; exact h4));have d4 : decide (next < k) = true := by simpa using h4
      clear h4;go_wp2;go_ret2;refine ⟨_, _, rfl, ?_, ?_, hbel⟩
      ·rw [hres.out, hr.out]; exact World.ownsRow_nil _ _ _ _
      ·rw [hres.out, hr.out]; exact .bare 8 (by omega)
     ·have hr := Lib.hid (HKA.out.done (by rw [hL.out]; exact Nat.le_refl _) (by rw [HTL.out]; exact h4));have d4 : decide (next < k) = false := by simpa using h4
      clear h4;go_wp2;go_ret2;refine ⟨_, _, rfl, ?_, ?_, hbel⟩
      ·rw [hres.out, hr.out]; exact hO
      ·rw [hres.out, hr.out]; exact .none
end Go.Proofs.YtkejlnjnoiidnaaGreatDoor
end

section
namespace Go.Proofs.YtkejlnjnoiidnaaGreatDoor
open Go.RowKit As
def wrsV (l : List Wr) : List Value := l.flatMap zbb
def zkw (l : List Int) : List Value := l.map fun x => Value.int .i64 x
structure BS (w0 : World) (O E R B : Nat) : Prop where
 o : O < B
 e : E < B
 r : R < B
 oe : O ≠ E
 ro : R ≠ O
 re : R ≠ E
 lo : w0.heap.size ≤ O
 le : w0.heap.size ≤ E
 lr : w0.heap.size ≤ R
structure BL (w0 : World) (O E R B : Nat) (s : ByteArray) (p : Nat) (v0 v1 v2 tv av : Value) (f h : List Ent) (ws : List Wr) (T : List ByteArray) (a : List Int) (w : World) : Prop where
 sc : Sc w R s p
 bt : BT w O E v0 v1 v2 .nilIface
 f : w.ownsRow B 79 2 v0 f.length (entV f)
 h : w.ownsRow B 79 2 v1 h.length (entV h)
 t : w.ownsRow B 9 1 tv T.length (T.map Value.string)
 ws : w.ownsRow B 53 6 v2 ws.length (wrsV ws)
 a : w.ownsRow B 3 1 av a.length (zkw a)
 bel : Below w0.heap.size w0 w
 sz : B ≤ w.heap.size
section
variable {w0 w w' : World} {O E R B p : Nat} {s : ByteArray} {v0 v1 v2 tv av v : Value} {f h : List Ent} {ws : List Wr} {T : List ByteArray} {a : List Int}
theorem BS.lb (S : BS w0 O E R B) : w0.heap.size ≤ B := Nat.le_trans S.lo (Nat.le_of_lt S.o)
theorem BL.below (H : BL w0 O E R B s p v0 v1 v2 tv av f h ws T a w) (hb : Below w.heap.size w w') : BL w0 O E R B s p v0 v1 v2 tv av f h ws T a w' :=
 ⟨H.sc.below hb, H.bt.below hb, own_below H.f hb, own_below H.h hb, own_below H.t hb, own_below H.ws hb, own_below H.a hb, H.bel.trans (hb.mono H.bel.size), Nat.le_trans H.sz hb.size⟩
theorem BL.setR (H : BL w0 O E R B s p v0 v1 v2 tv av f h ws T a w) (S : BS w0 O E R B) (n : Nat) : BL w0 O E R B s n v0 v1 v2 tv av f h ws T a (w.setCell ⟨R, 1, none⟩ (.int .i64 (n : Int))) :=
 ⟨H.sc.step n, H.bt.other S.ro S.re _, zab _ H.f S.r, zab _ H.h S.r, zab _ H.t S.r, zab _ H.ws S.r, zab _ H.a S.r, H.bel.setCell (p := ⟨R, 1, none⟩) S.lr _, by simpa using H.sz⟩
theorem BL.step (H : BL w0 O E R B s p v0 v1 v2 tv av f h ws T a w) (S : BS w0 O E R B) (q n : Nat) : BL w0 O E R B s n v0 v1 v2 tv av f h ws T a ((w.drewN q).setCell ⟨R, 1, none⟩ (.int .i64 (n : Int))) :=
 (H.below (below_drewN (Below.refl _ _) q)).setR S n
theorem BL.yjo (H : BL w0 O E R B s p v0 v1 v2 tv av f h ws T a w) (S : BS w0 O E R B) (hg : w.grownBy w' tv.ownBlock) {T' : List ByteArray} (ht : w'.ownsRow B 9 1 v T'.length (T'.map Value.string)) : BL w0 O E R B s p v0 v1 v2 v av f h ws T' a w' :=
 have bb := zaj (Below.refl B w) hg H.sz H.t
 ⟨H.sc.keep bb S.r, H.bt.keep bb S.o S.e, H.f.kept hg (own_ne H.f H.t (by decide)), H.h.kept hg (own_ne H.h H.t (by decide)), ht, H.ws.kept hg (own_ne H.ws H.t (by decide)), H.a.kept hg (own_ne H.a H.t (by decide)), H.bel.trans (bb.mono S.lb), Nat.le_trans H.sz bb.size⟩
theorem BL.zup (H : BL w0 O E R B s p v0 v1 v2 tv av f h ws T a w) (S : BS w0 O E R B) (hg : w.grownBy w' av.ownBlock) {a' : List Int} (ht : w'.ownsRow B 3 1 v a'.length (zkw a')) : BL w0 O E R B s p v0 v1 v2 tv v f h ws T a' w' :=
 have bb := zaj (Below.refl B w) hg H.sz H.a
 ⟨H.sc.keep bb S.r, H.bt.keep bb S.o S.e, H.f.kept hg (own_ne H.f H.a (by decide)), H.h.kept hg (own_ne H.h H.a (by decide)), H.t.kept hg (own_ne H.t H.a (by decide)), H.ws.kept hg (own_ne H.ws H.a (by decide)), ht, H.bel.trans (bb.mono S.lb), Nat.le_trans H.sz bb.size⟩
theorem BL.yab (H : BL w0 O E R B s p v0 v1 v2 tv av f h ws T a w) (S : BS w0 O E R B) (hg : w.grownBy w' v2.ownBlock) {ws' : List Wr} (ht : w'.ownsRow B 53 6 v ws'.length (wrsV ws')) : BL w0 O E R B s p v0 v1 v tv av f h ws' T a (w'.setCell ⟨O, 2, none⟩ v) :=
 have bb := zaj (Below.refl B w) hg H.sz H.ws
 ⟨by have k := H.sc.keep bb S.r; exact ⟨zam k.c0 (Ne.symm S.ro), zam k.c1 (Ne.symm S.ro), by simpa using k.f1⟩, (H.bt.keep bb S.o S.e).set2 S.oe _, zab _ (H.f.kept hg (own_ne H.f H.ws (by decide))) S.o, zab _ (H.h.kept hg (own_ne H.h H.ws (by decide))) S.o, zab _ (H.t.kept hg (own_ne H.t H.ws (by decide))) S.o, zab _ ht S.o, zab _ (H.a.kept hg (own_ne H.a H.ws (by decide))) S.o, (H.bel.trans (bb.mono S.lb)).setCell (p := ⟨O, 2, none⟩) S.lo _, by simpa using Nat.le_trans H.sz bb.size⟩
theorem BL.vecs {f' h' : List Ent} {u0 u1 : Value} (H : BL w0 O E R B s p u0 u1 v2 tv av f' h' ws T a w) (S : BS w0 O E R B) (hf : w.ownsRow B 79 2 v0 f.length (entV f)) (hh : w.ownsRow B 79 2 v1 h.length (entV h)) : BL w0 O E R B s p v0 v1 v2 tv av f h ws T a ((w.setCell ⟨O, 0, none⟩ v0).setCell ⟨O, 1, none⟩ v1) :=
 ⟨⟨zam (zam H.sc.c0 (Ne.symm S.ro)) (Ne.symm S.ro), zam (zam H.sc.c1 (Ne.symm S.ro)) (Ne.symm S.ro), by simpa using H.sc.f1⟩, (H.bt.set0 S.oe _).set1 S.oe _, zab _ (zab _ hf S.o) S.o, zab _ (zab _ hh S.o) S.o, zab _ (zab _ H.t S.o) S.o, zab _ (zab _ H.ws S.o) S.o, zab _ (zab _ H.a S.o) S.o, (H.bel.setCell (p := ⟨O, 0, none⟩) S.lo _).setCell (p := ⟨O, 1, none⟩) S.lo _, by simpa using H.sz⟩
theorem zju {w : World} {base : Nat} {E : TypeId} {v : Value} {l : List Wr} {x : Wr} {n : Nat} (hn : l.length = n) (h : w.ownsRow base E 6 v (n + 1) (wrsV l ++ zbb x)) : w.ownsRow base E 6 v (l ++ [x]).length (wrsV (l ++ [x])) := by
 subst hn;simpa [wrsV, List.flatMap_append] using h
theorem zpt {w : World} {base : Nat} {E : TypeId} {v : Value} {l : List Int} {x : Int} {n : Nat} (hn : l.length = n) (h : w.ownsRow base E 1 v (n + 1) (zkw l ++ [Value.int .i64 x])) : w.ownsRow base E 1 v (l ++ [x]).length (zkw (l ++ [x])) := by
 subst hn;simpa [zkw] using h
end
structure BLG (w0 : World) (O E R B g : Nat) (x : Wr) (s : ByteArray) (p : Nat) (v0 v1 v2 tv av : Value) (f h : List Ent) (ws : List Wr) (T : List ByteArray) (a : List Int) (w : World) : Prop where
 b : BL w0 O E R B s p v0 v1 v2 tv av f h ws T a w
 k : w.ownsRow B 53 6 (.slice (some ⟨g, 0, none⟩) 1 1) 1 (zbb x)
 off : v2.ownBlock = none ∨ v2.ownBlock ≠ some g
section
variable {w0 w w' : World} {O E R B g p : Nat} {x : Wr} {s : ByteArray} {v0 v1 v2 tv av v : Value} {f h : List Ent} {ws : List Wr} {T : List ByteArray} {a : List Int}
theorem BLG.ge (H : BLG w0 O E R B g x s p v0 v1 v2 tv av f h ws T a w) : B ≤ g := (H.k.lt g rfl).1
theorem BLG.lt (H : BLG w0 O E R B g x s p v0 v1 v2 tv av f h ws T a w) : g < w.heap.size := (H.k.lt g rfl).2
theorem BL.newG (H : BL w0 O E R B s p v0 v1 v2 tv av f h ws T a w) (x : Wr) : BLG w0 O E R B w.heap.size x s p v0 v1 v2 tv av f h ws T a (w.alloc (wrO x.1 x.2.1 x.2.2.1 x.2.2.2.1 x.2.2.2.2.1 x.2.2.2.2.2)) :=
 ⟨H.below (zaa w _), World.ownsRow_lit w _ 1 H.sz (by unfold maxLen; omega) rfl, by
  rcases hv : v2.ownBlock with _ | k
  ·exact .inl rfl
  ·have := (H.ws.lt k hv).2
   exact .inr (by simp; omega)⟩
theorem BLG.below (H : BLG w0 O E R B g x s p v0 v1 v2 tv av f h ws T a w) (hb : Below w.heap.size w w') : BLG w0 O E R B g x s p v0 v1 v2 tv av f h ws T a w' := ⟨H.b.below hb, own_below H.k hb, H.off⟩
theorem BLG.setR (H : BLG w0 O E R B g x s p v0 v1 v2 tv av f h ws T a w) (S : BS w0 O E R B) (n : Nat) : BLG w0 O E R B g x s n v0 v1 v2 tv av f h ws T a (w.setCell ⟨R, 1, none⟩ (.int .i64 (n : Int))) := ⟨H.b.setR S n, zab _ H.k S.r, H.off⟩
theorem BLG.step (H : BLG w0 O E R B g x s p v0 v1 v2 tv av f h ws T a w) (S : BS w0 O E R B) (q n : Nat) : BLG w0 O E R B g x s n v0 v1 v2 tv av f h ws T a ((w.drewN q).setCell ⟨R, 1, none⟩ (.int .i64 (n : Int))) :=
 (H.below (below_drewN (Below.refl _ _) q)).setR S n
theorem BLG.zup (H : BLG w0 O E R B g x s p v0 v1 v2 tv av f h ws T a w) (S : BS w0 O E R B) (hg : w.grownBy w' av.ownBlock) {a' : List Int} (ht : w'.ownsRow B 3 1 v a'.length (zkw a')) : BLG w0 O E R B g x s p v0 v1 v2 tv v f h ws T a' w' :=
 ⟨H.b.zup S hg ht, H.k.kept hg (own_ne H.k H.b.a (by decide)), H.off⟩
theorem BLG.setG (H : BLG w0 O E R B g x s p v0 v1 v2 tv av f h ws T a w) (S : BS w0 O E R B) {y : Wr} (j : Nat) (u : Value) (hy : zbb y = (zbb x).set j u) : BLG w0 O E R B g y s p v0 v1 v2 tv av f h ws T a (w.setCell ⟨g, j, none⟩ u) := by
 obtain ⟨h1, h2⟩ := H.k.stored j u;rw [← hy] at h1;have hge := H.ge;have bb : Below B w (w.setCell ⟨g, j, none⟩ u) := (Below.refl B w).setCell (p := ⟨g, j, none⟩) hge _;exact ⟨⟨H.b.sc.keep bb S.r, H.b.bt.keep bb S.o S.e, H.b.f.kept h2 (own_ne H.b.f H.k (by decide)), H.b.h.kept h2 (own_ne H.b.h H.k (by decide)), H.b.t.kept h2 (own_ne H.b.t H.k (by decide)), H.b.ws.kept h2 H.off, H.b.a.kept h2 (own_ne H.b.a H.k (by decide)), H.b.bel.trans (bb.mono S.lb), by simpa using H.b.sz⟩, h1, H.off⟩
theorem BLG.cell (H : BLG w0 O E R B g x s p v0 v1 v2 tv av f h ws T a w) (j : Nat) (hj : j < 6) : w.cell? ⟨g, j, none⟩ = (zbb x)[j]? := H.k.cellAt j (by omega)
theorem BLG.froz (H : BLG w0 O E R B g x s p v0 v1 v2 tv av f h ws T a w) (j : Nat) : w.frozen? ⟨g, j, none⟩ = false := H.k.frozenAt j
theorem BLG.at_ (H : BLG w0 O E R B g x s p v0 v1 v2 tv av f h ws T a w) : WrAt w g x.1 x.2.1 x.2.2.1 x.2.2.2.1 x.2.2.2.2.1 x.2.2.2.2.2 :=
 ⟨H.cell 0 (by omega), H.cell 1 (by omega), H.cell 2 (by omega), H.cell 3 (by omega), H.cell 4 (by omega), H.cell 5 (by omega)⟩
theorem BLG.free (H : BLG w0 O E R B g x s p v0 v1 v2 tv av f h ws T a w) : zdf w g := ⟨H.froz 0, H.froz 1, H.froz 2, H.froz 3, H.froz 4, H.froz 5⟩
end
end Go.Proofs.YtkejlnjnoiidnaaGreatDoor
end
