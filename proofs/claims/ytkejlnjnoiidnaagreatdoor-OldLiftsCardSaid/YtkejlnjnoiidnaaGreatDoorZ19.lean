/- A taker's write. Printed by gen_twrite.py. -/
import Derived.Test.YtkejlnjnoiidnaaGreatDoorZ18
import Derived.Test.YtkejlnjnoiidnaaGreatDoorZ14
import Derived.Test.YtkejlnjnoiidnaaGreatDoorZ6
set_option linter.unusedSimpArgs false
set_option linter.unusedVariables false
section
namespace Go.Proofs.YtkejlnjnoiidnaaGreatDoor
open Go.RowKit As
theorem zdm {a b : World} {B R : Nat} (h : a.grownBy b (some B)) (hR : a.heap.size ≤ R) (x y z : Int) (d e : ByteArray) (f : Int) : a.grownBy (put6 b R x y z d e f) (some B) := by
 unfold put6;exact zea (zea (zea (zea (zea (zea h hR _) hR _) hR _) hR _) hR _) hR _
theorem zhq {s : ByteArray} {w : World} {B R : Nat} {X : BR} {K : Nat → BR} (h : TkAt s w B X K) (hn : R ≠ B) (x y z : Int) (d e : ByteArray) (f : Int) : TkAt s (put6 w R x y z d e f) B X K := by
 unfold put6;exact (((((h.nb hn _).nb hn _).nb hn _).nb hn _).nb hn _).nb hn _
theorem WrAt.grown {w w' : World} {R B : Nat} {a b c f : Int} {d e : ByteArray} (h : WrAt w R a b c d e f) (hg : w.grownBy w' (some B)) (hn : R ≠ B) : WrAt w' R a b c d e f :=
 ⟨(zdp hg (p := ⟨R, 0, none⟩) (cell_lt h.c0) hn).trans h.c0, (zdp hg (p := ⟨R, 1, none⟩) (cell_lt h.c1) hn).trans h.c1, (zdp hg (p := ⟨R, 2, none⟩) (cell_lt h.c2) hn).trans h.c2, (zdp hg (p := ⟨R, 3, none⟩) (cell_lt h.c3) hn).trans h.c3, (zdp hg (p := ⟨R, 4, none⟩) (cell_lt h.c4) hn).trans h.c4, (zdp hg (p := ⟨R, 5, none⟩) (cell_lt h.c5) hn).trans h.c5⟩
theorem zdf.grown {w w' : World} {R B : Nat} (h : zdf w R) (hs : R < w.heap.size) (hg : w.grownBy w' (some B)) (hn : R ≠ B) : zdf w' R :=
 ⟨(zcw hg (p := ⟨R, 0, none⟩) hs hn).trans h.f0, (zcw hg (p := ⟨R, 1, none⟩) hs hn).trans h.f1, (zcw hg (p := ⟨R, 2, none⟩) hs hn).trans h.f2, (zcw hg (p := ⟨R, 3, none⟩) hs hn).trans h.f3, (zcw hg (p := ⟨R, 4, none⟩) hs hn).trans h.f4, (zcw hg (p := ⟨R, 5, none⟩) hs hn).trans h.f5⟩
theorem Tk.noHandle {w : World} {B : Nat} {r : ByteArray} {e : Int} (h : Tk w B r e) (hg : zbh w) : 0 ≠ B := by
 intro e;have h0 := h.c0;rw [← e] at h0;unfold zbh at hg;rw [hg] at h0;cases h0
theorem TkAt.noHandle {s : ByteArray} {w : World} {B : Nat} {X : BR} {K : Nat → BR} (h : TkAt s w B X K) (hg : zbh w) : 0 ≠ B := by rcases h with ⟨_, _, h, _⟩ | ⟨_, _, _, _, h, _⟩ <;> exact h.noHandle hg
theorem zcc {w w' : World} {B : Nat} (hg : zbh w) (hn : 0 ≠ B) (hw : w.grownBy w' (some B)) : zbh w' := by
 unfold zbh;rw [zdp hw (p := ⟨0, 0, none⟩) (cell_lt hg) hn];exact hg
theorem WrAt.s0 {w : World} {B : Nat} {a b c f : Int} {d e : ByteArray} (h : WrAt w B a b c d e f) (x : Int) : WrAt (w.setCell ⟨B, 0, none⟩ (.int .i64 x)) B x b c d e f :=
 ⟨World.cell?_setCell_same _ _ _ h.c0, zar h.c1 (by omega), zar h.c2 (by omega), zar h.c3 (by omega), zar h.c4 (by omega), zar h.c5 (by omega)⟩
theorem WrAt.s1 {w : World} {B : Nat} {a b c f : Int} {d e : ByteArray} (h : WrAt w B a b c d e f) (x : Int) : WrAt (w.setCell ⟨B, 1, none⟩ (.int .i64 x)) B a x c d e f :=
 ⟨zar h.c0 (by omega), World.cell?_setCell_same _ _ _ h.c1, zar h.c2 (by omega), zar h.c3 (by omega), zar h.c4 (by omega), zar h.c5 (by omega)⟩
theorem WrAt.s3 {w : World} {B : Nat} {a b c f : Int} {d e : ByteArray} (h : WrAt w B a b c d e f) (x : ByteArray) : WrAt (w.setCell ⟨B, 3, none⟩ (.string x)) B a b c x e f :=
 ⟨zar h.c0 (by omega), zar h.c1 (by omega), zar h.c2 (by omega), World.cell?_setCell_same _ _ _ h.c3, zar h.c4 (by omega), zar h.c5 (by omega)⟩
structure TW (w0 : World) (B R g : Nat) (y : Wr) (w : World) : Prop where
 k : WrAt w g y.1 y.2.1 y.2.2.1 y.2.2.2.1 y.2.2.2.2.1 y.2.2.2.2.2
 kf : zdf w g
 r : WrAt w R 0 0 0 ⟨#[]⟩ ⟨#[]⟩ 0
 rf : zdf w R
 h : zbh w
 gw : w0.grownBy w (some B)
structure TN (w0 : World) (B R g : Nat) : Prop where
 gB : g ≠ B
 RB : R ≠ B
 gR : g ≠ R
 hB : 0 ≠ B
 hg : 0 ≠ g
 lg : w0.heap.size ≤ g
 lR : w0.heap.size ≤ R
section
variable {w0 w w' : World} {B R g : Nat} {y : Wr}
theorem TW.grown (h : TW w0 B R g y w) (n : TN w0 B R g) (hg : w.grownBy w' (some B)) : TW w0 B R g y w' :=
 ⟨h.k.grown hg n.gB, h.kf.grown (cell_lt h.k.c0) hg n.gB, h.r.grown hg n.RB, h.rf.grown (cell_lt h.r.c0) hg n.RB, zcc h.h n.hB hg, zcp h.gw hg⟩
theorem TW.set (h : TW w0 B R g y w) (n : TN w0 B R g) (i : Nat) (v : Value) : TW w0 B R g y (w.setCell ⟨B, i, none⟩ v) := h.grown n (zbp w B i v)
theorem TW.box (h : TW w0 B R g y w) (n : TN w0 B R g) (i : Nat) (v : Value) {y' : Wr} (hk : WrAt (w.setCell ⟨g, i, none⟩ v) g y'.1 y'.2.1 y'.2.2.1 y'.2.2.2.1 y'.2.2.2.2.1 y'.2.2.2.2.2) : TW w0 B R g y' (w.setCell ⟨g, i, none⟩ v) :=
 ⟨hk, h.kf.set _ _ _, h.r.other n.gR v, h.rf.set _ _ _, zcc h.h n.hg (zbp w g i v), zea h.gw n.lg v⟩
end
theorem ykc {n : Nat} (h : n < 1 ∨ 4 < n) : (decide ((n : Int) < 1) = true ∧ decide (n < 1) = true) ∨ (decide ((n : Int) < 1) = false ∧ decide (n < 1) = false ∧ decide (4 < (n : Int)) = true ∧ decide (4 < n) = true) := by
 rcases Nat.lt_or_ge n 1 with h1 | h1
 ·exact .inl ⟨by simp only [decide_eq_true_eq]; omega, by simpa using h1⟩
 ·exact .inr ⟨by simp only [decide_eq_false_iff_not]; omega, by simp only [decide_eq_false_iff_not]; omega, by simp only [decide_eq_true_eq]; omega, by simp only [decide_eq_true_eq]; omega⟩
theorem yjx {n : Nat} (h : ¬ (n < 1 ∨ 4 < n)) : decide ((n : Int) < 1) = false ∧ decide (n < 1) = false ∧ decide (4 < (n : Int)) = false ∧ decide (4 < n) = false :=
 ⟨by simp only [decide_eq_false_iff_not]; omega, by simp only [decide_eq_false_iff_not]; omega, by simp only [decide_eq_false_iff_not]; omega, by simp only [decide_eq_false_iff_not]; omega⟩
theorem zeg {s : ByteArray} {p : Nat} : (rest s p).size = s.size - p := by rw [ByteArray.size_extract]; omega
theorem yec {s : ByteArray} {p : Nat} (h : p < s.size) : byteOf (rest s p) 0 = byteOf s p := zkt (s := s) (a := p) (b := s.size) (i := 0) (Nat.le_refl _) (by omega)
theorem yjb {w : World} {B C : Nat} {r : ByteArray} {e : Int} (h : Tk w B r e) (hn : C ≠ B) (x y z : Int) (d f : ByteArray) (n : Int) : Tk (put6 w C x y z d f n) B r e := by
 unfold put6;exact (((((h.nb hn _).nb hn _).nb hn _).nb hn _).nb hn _).nb hn _
theorem TW.put {w0 w : World} {B R g : Nat} {y : Wr} (h : TW w0 B R g y w) (n : TN w0 B R g) (y' : Wr) : TW w0 B R g y' (put6 w g y'.1 y'.2.1 y'.2.2.1 y'.2.2.2.1 y'.2.2.2.2.1 y'.2.2.2.2.2) := by
 refine ⟨h.k.put, ?_, ?_, ?_, ?_, zdm h.gw n.lg _ _ _ _ _ _⟩ <;> unfold put6
 ·exact (((((h.kf.set _ _ _).set _ _ _).set _ _ _).set _ _ _).set _ _ _).set _ _ _
 ·exact (((((h.r.other n.gR _).other n.gR _).other n.gR _).other n.gR _).other n.gR _).other n.gR _
 ·exact (((((h.rf.set _ _ _).set _ _ _).set _ _ _).set _ _ _).set _ _ _).set _ _ _
 ·exact zcc (zcc (zcc (zcc (zcc (zcc h.h n.hg (zbp _ _ _ _)) n.hg (zbp _ _ _ _)) n.hg (zbp _ _ _ _)) n.hg (zbp _ _ _ _)) n.hg (zbp _ _ _ _)) n.hg (zbp _ _ _ _)
def twV (B : Nat) (T0 T1 KD : Int) (b RS3 : ByteArray) (y : Wr) (nf : Nat) (ef : Int) (g : Unit) : Nat → Value
 | 0 => .pointer (some ⟨B, 0, none⟩)
 | 1 => wrV T0 T1 KD b ⟨#[]⟩ 0
 | 2 => .pointer (some ⟨B, 0, none⟩)
 | 3 => .pointer (some ⟨B, 0, none⟩)
 | 4 => .pointer (some ⟨B, 0, none⟩)
 | 5 => .string RS3
 | 6 => zdb (y, nf, ef)
 | 7 => zdb (y, nf, ef)
 | 8 => wrV y.1 y.2.1 y.2.2.1 y.2.2.2.1 y.2.2.2.2.1 y.2.2.2.2.2
 | 9 => .int .i64 (nf : Int)
 | 10 => errV ef
 | 12 => .int .i64 (nf : Int)
 | 13 => .pointer (some ⟨B, 0, none⟩)
 | 14 => .pointer (some ⟨B, 1, none⟩)
 | _ => undef
def yoc (s : ByteArray) (B : Nat) (X : BR) (K : Wr → Nat → BR) (w : World) (e : Ending) (w' : World) : Prop := ∃ y : Wr, e = .returned (wrV y.1 y.2.1 y.2.2.1 y.2.2.2.1 y.2.2.2.2.1 y.2.2.2.2.2) ∧ w.grownBy w' (some B) ∧ TkAt s w' B X (K y)
set_option maxHeartbeats 8000000 in
set_option maxRecDepth 100000 in
theorem ylb (s : ByteArray) (B : Nat) (w : World) (X : BR) (K : Wr → Nat → BR) (hs : s.size ≤ 1000000) (hH : zbh w) (h : TkAt s w B X (fun p => zfg s p K)) :
  Calls Tryz.prog 60 #[.pointer (some ⟨B, 0, none⟩)] w fun e w' => yoc s B X K w e w' := by
 have hRW := WrAt.new w 0 0 0 ⟨#[]⟩ ⟨#[]⟩ 0;have hRF := zdf.new w 0 0 0 0 ⟨#[]⟩ ⟨#[]⟩;have bR := zaa w (wrO 0 0 0 ⟨#[]⟩ ⟨#[]⟩ 0);have gR := grown_of bR (some B);have hH1 := hH.below bR;have nr : w.heap.size ≠ B := fun e => Nat.lt_irrefl B (e ▸ h.lt)
 have ls : w.heap.size < (w.alloc (wrO 0 0 0 ⟨#[]⟩ ⟨#[]⟩ 0)).heap.size := by simp
 have HS := Lib.hid hs;have HNB := Lib.hid (h.noHandle hH);replace h := h.below bR;clear bR hs;go_enter Tryz.func60, Tryz.ntmps60;iterate 9 go_step
 generalize w.alloc (wrO 0 0 0 ⟨#[]⟩ ⟨#[]⟩ 0) = W1 at *;generalize hRR : w.heap.size = R at hRW hRF nr ls ⊢;have LR := Lib.hid (Nat.le_of_eq hRR);have NR := Lib.hid nr;have LS := Lib.hid ls;clear nr ls hRR;rcases h with ⟨p, hp, hT, hX⟩ | ⟨r, e, hr, he, hT, hX⟩
 ·have HX := Lib.hid hX;clear hX;have hT1 := hT;obtain ⟨RS, hRS⟩ : ∃ R, R = rest s p := ⟨_, rfl⟩;rw [← hRS] at hT1;obtain ⟨c0, c1, f0, f1⟩ := hT1;rw [zak] at c1;have hsz : RS.size = s.size - p := by rw [hRS]; exact zeg
  rw [← hRS] at hT;by_cases hend : s.size ≤ p
  ·have d0 : RS.toList.isEmpty = true := by rw [zcf]; simp only [decide_eq_true_eq]; omega
   have hTK : TkAt s (W1.setCell ⟨B, 1, none⟩ (errV 7)) B X (K noWr) := .inr ⟨RS, 7, by omega, by decide, hT.err 7, HX.out.trans (zow hend)⟩;have g7 := zcp gR (zbp W1 B 1 (errV 7));replace hRW := hRW.other (C := B) (i := 1) (Ne.symm NR.out) (errV 7);replace hRF := hRF.set B 1 (errV 7);rw [show errV 7 = .iface 27 (.int .i64 7) from rfl] at hTK g7 hRW hRF;clear hsz hend hp hT hRS;have hZ := hRW.put (a' := 0) (b' := 0) (c' := 0) (d' := ⟨#[]⟩) (e' := ⟨#[]⟩) (f' := 0);have gZ := zdm g7 LR.out (0) (0) (0) (⟨#[]⟩) (⟨#[]⟩) (0);have tZ := zhq hTK NR.out (0) (0) (0) (⟨#[]⟩) (⟨#[]⟩) (0);obtain ⟨u0, u1, u2, u3, u4, u5⟩ := hRW;obtain ⟨m0, m1, m2, m3, m4, m5⟩ := hRF;go_wp2;unfold put6 at hZ gZ tZ;obtain ⟨z0, z1, z2, z3, z4, z5⟩ := hZ;exact bodyPost_ret (v := wrV (0) (0) (0) (⟨#[]⟩) (⟨#[]⟩) (0)) (by simp [results, Tryz.results60, go_sem, z0, z1, z2, z3, z4, z5]) rfl ⟨(0, 0, 0, ⟨#[]⟩, ⟨#[]⟩, 0), rfl, gZ, tZ⟩
  ·have d0 : RS.toList.isEmpty = false := by rw [zcf]; simp only [decide_eq_false_iff_not]; omega
   have i0 : 0 < RS.size := by omega
   have i1 : 1 ≤ RS.size := by omega
   have q0 : RS[0].toNat = byteOf s p := by rw [← zdv RS 0 i0, hRS, yec (by omega)]
   have hcut : RS.extract 1 RS.size = rest s (p + 1) := by rw [hRS]; exact (zyw (by omega)).1
   obtain ⟨kd, hkd⟩ : ∃ k, k = byteOf s p := ⟨_, rfl⟩;rw [← hkd] at q0;have wk : IntKind.i64.wrap (kd : Int) = (kd : Int) := by rw [hkd]; exact IntWalk.i64_in _ (by have := zhn s p; omega)
   have HKD := Lib.hid hkd;have HE := Lib.hid hend;have hG := WrAt.new W1 0 0 (kd : Int) ⟨#[]⟩ ⟨#[]⟩ 0;have hGF := zdf.new W1 0 0 (kd : Int) 0 ⟨#[]⟩ ⟨#[]⟩;have bG := zaa W1 (wrO 0 0 (kd : Int) ⟨#[]⟩ ⟨#[]⟩ 0);have hT2 := hT.below bG;have g2 := zcp gR (grown_of bG (some B));have hH2 := hH1.below bG;have LB1 := hT.lt;have GF := Lib.hid (show W1.heap.size ≠ B ∧ R ≠ W1.heap.size ∧ w.heap.size ≤ W1.heap.size from ⟨fun e => Nat.lt_irrefl B (e ▸ LB1), Nat.ne_of_lt LS.out, gR.size⟩);replace hRW := hRW.below bG;replace hRF := hRF.below LS.out bG;have e0 := (bG.cell (cell_lt c0)).trans c0;have e1 := (bG.cell (cell_lt c1)).trans c1;have ef0 := (bG.frozen (cell_lt c0)).trans f0;have ef1 := (bG.frozen (cell_lt c1)).trans f1;have PE := Lib.hid (show p + 1 ≤ s.size by omega);have hT2' := hRS ▸ hT2;have HSZ := Lib.hid (show RS.size ≤ s.size by omega);clear hend hkd hsz LB1 hRS;by_cases hkind : kd < 1 ∨ 4 < kd
   ·have hTK : TkAt s ((W1.alloc (wrO 0 0 (kd : Int) ⟨#[]⟩ ⟨#[]⟩ 0)).setCell ⟨B, 1, none⟩ (errV 1)) B X (K noWr) := .inr ⟨RS, 1, HSZ.out, by decide, hT2.err 1, HX.out.trans (zlz HE.out (HKD.out ▸ hkind))⟩;have g7 := zcp g2 (zbp _ B 1 (errV 1));replace hRW := hRW.other (C := B) (i := 1) (Ne.symm NR.out) (errV 1);replace hRF := hRF.set B 1 (errV 1);rw [show errV 1 = .iface 27 (.int .i64 1) from rfl] at hTK g7 hRW hRF;obtain ⟨k0, k1, k2, k3, k4, k5⟩ := hG;rcases ykc hkind with ⟨r1, r2⟩ | ⟨r1, r2, r3, r4⟩
    ·clear hkind hp hT hT2;have hZ := hRW.put (a' := 0) (b' := 0) (c' := 0) (d' := ⟨#[]⟩) (e' := ⟨#[]⟩) (f' := 0);have gZ := zdm g7 LR.out (0) (0) (0) (⟨#[]⟩) (⟨#[]⟩) (0);have tZ := zhq hTK NR.out (0) (0) (0) (⟨#[]⟩) (⟨#[]⟩) (0);obtain ⟨u0, u1, u2, u3, u4, u5⟩ := hRW;obtain ⟨m0, m1, m2, m3, m4, m5⟩ := hRF;go_wp2;unfold put6 at hZ gZ tZ;obtain ⟨z0, z1, z2, z3, z4, z5⟩ := hZ;exact bodyPost_ret (v := wrV (0) (0) (0) (⟨#[]⟩) (⟨#[]⟩) (0)) (by simp [results, Tryz.results60, go_sem, z0, z1, z2, z3, z4, z5]) rfl ⟨(0, 0, 0, ⟨#[]⟩, ⟨#[]⟩, 0), rfl, gZ, tZ⟩
    ·clear hkind hp hT hT2;have hZ := hRW.put (a' := 0) (b' := 0) (c' := 0) (d' := ⟨#[]⟩) (e' := ⟨#[]⟩) (f' := 0);have gZ := zdm g7 LR.out (0) (0) (0) (⟨#[]⟩) (⟨#[]⟩) (0);have tZ := zhq hTK NR.out (0) (0) (0) (⟨#[]⟩) (⟨#[]⟩) (0);obtain ⟨u0, u1, u2, u3, u4, u5⟩ := hRW;obtain ⟨m0, m1, m2, m3, m4, m5⟩ := hRF;go_wp2;unfold put6 at hZ gZ tZ;obtain ⟨z0, z1, z2, z3, z4, z5⟩ := hZ;exact bodyPost_ret (v := wrV (0) (0) (0) (⟨#[]⟩) (⟨#[]⟩) (0)) (by simp [results, Tryz.results60, go_sem, z0, z1, z2, z3, z4, z5]) rfl ⟨(0, 0, 0, ⟨#[]⟩, ⟨#[]⟩, 0), rfl, gZ, tZ⟩
   ·obtain ⟨r1, r2, r3, r4⟩ := yjx hkind;have hT10 : TkAt s ((W1.alloc (wrO 0 0 (kd : Int) ⟨#[]⟩ ⟨#[]⟩ 0)).setCell ⟨B, 0, none⟩ (.string (rest s (p + 1)))) B X (fun q => onum s q 1099511627776 fun t q => onum s q 200 fun r q => okey s q t r kd K) :=
     .inl ⟨p + 1, PE.out, hT2.text _, HX.out.trans ((ztq HE.out (HKD.out ▸ hkind)).trans (by rw [← HKD.out]))⟩
    have hG0 := hG.other (C := B) (i := 0) (Ne.symm GF.out.1) (.string (rest s (p + 1)));have g10 := 0;have TWN := Lib.hid (show TN w B R W1.heap.size from ⟨GF.out.1, NR.out, Ne.symm GF.out.2.1, HNB.out, Nat.ne_of_lt (cell_lt hH1), GF.out.2.2, LR.out⟩);have tw := (show TW w B R W1.heap.size (0, 0, (kd : Int), ⟨#[]⟩, ⟨#[]⟩, 0) _ from ⟨hG, hGF, hRW, hRF, hH2, g2⟩).set TWN.out 0 (.string (rest s (p + 1)));clear hkind hp hT hT2 hT2' hG hGF hRW hRF hH1 hH2 g2 g10 gR;obtain ⟨k0, k1, k2, k3, k4, k5⟩ := hG0;go_wp2_with fail;generalize W1.heap.size = g at *;refine (tnum s B 1099511627776 _ X _ HS.out (by decide) (by decide) hT10).mono ?_;rintro e W4 ⟨t, rfl, ht, g4, hT4⟩;replace tw := tw.grown TWN.out g4;obtain ⟨k0, k1, k2, k3, k4, k5⟩ := tw.k;obtain ⟨m0, m1, m2, m3, m4, m5⟩ := tw.kf;have hT4' := hT4.nb (C := g) (i := 0) TWN.out.gB (.int .i64 (t : Int));replace tw := tw.box TWN.out 0 (.int .i64 (t : Int)) (y' := ((t : Int), 0, (kd : Int), ⟨#[]⟩, ⟨#[]⟩, 0)) (tw.k.s0 (t : Int));clear hT10 g4 hT4 ht;go_wp2_with fail;refine (tnum s B 200 _ X _ HS.out (by decide) (by decide) hT4').mono ?_;rintro e W5 ⟨r, rfl, hr, g5, hT5⟩;replace tw := tw.grown TWN.out g5;clear k0 k1 k2 k3 k4 k5 m0 m1 m2 m3 m4 m5;obtain ⟨k0, k1, k2, k3, k4, k5⟩ := tw.k;obtain ⟨m0, m1, m2, m3, m4, m5⟩ := tw.kf;replace hT5 := hT5.nb (C := g) (i := 1) TWN.out.gB (.int .i64 (r : Int));replace tw := tw.box TWN.out 1 (.int .i64 (r : Int)) (y' := ((t : Int), (r : Int), (kd : Int), ⟨#[]⟩, ⟨#[]⟩, 0)) (tw.k.s1 (r : Int));clear hT4' g5 hr;rcases hT5 with ⟨p2, hp2, hT, hX2⟩ | ⟨r2, e2, hr2, he2, hT, hX2⟩
    ·have HX2 := Lib.hid hX2;have hT6 := hT;obtain ⟨RS2, hRS2⟩ : ∃ R, R = rest s p2 := ⟨_, rfl⟩;rw [← hRS2] at hT6;obtain ⟨c0, c1, f0, f1⟩ := hT6;rw [zak] at c1;have hl2 : RS2.size ≤ maxLen := by rw [hRS2, zeg]; exact Nat.le_trans (Nat.sub_le _ _) (Nat.le_trans HS.out (by unfold maxLen; decide))
     have HR2 := Lib.hid hRS2;have HL2 := Lib.hid hl2;clear hX2 hRS2 hl2;obtain ⟨⟨b, n, e⟩, hu⟩ : ∃ y, zaq RS2 = y := ⟨_, rfl⟩;have HU := Lib.hid hu;clear hu;go_wp2_with fail;refine (zgr RS2 _ HL2.out tw.h).mono ?_;rintro q W6 ⟨rfl, hb6⟩;rw [HU.out];simp only;have tw6 := tw.grown TWN.out (grown_of hb6 _);have hT6 := hT.below hb6;rw [← HR2.out] at hT6;have hTa := hT6.nb (C := g) (i := 3) TWN.out.gB (.string b);obtain ⟨k0, k1, k2, k3, k4, k5⟩ := tw6.k;obtain ⟨m0, m1, m2, m3, m4, m5⟩ := tw6.kf;obtain ⟨a0, a1, af0, af1⟩ := hTa;rw [zak] at a1;have tw7 := tw6.box TWN.out 3 (.string b) (y' := ((t : Int), (r : Int), (kd : Int), b, ⟨#[]⟩, 0)) (tw6.k.s3 b);clear tw hT c0 c1 f0 f1 tw6;by_cases he : e = 0
     ·subst he;have hnu : n ≤ RS2.size := by
       rcases zci RS2 with h | ⟨e', h, h2⟩
       ·rw [HU.out] at h; exact h.2.2.1
       ·rw [HU.out] at h; injection h with _ h; injection h with _ h; omega
      have hpn : p2 + n ≤ s.size := by have := HR2.out; have h2 := zeg (s := s) (p := p2); rw [← this] at h2; omega
      have hcut2 : RS2.extract n RS2.size = rest s (p2 + n) := by rw [HR2.out]; exact (zyw hpn).1
      obtain ⟨RS3, hRS3⟩ : ∃ R, R = rest s (p2 + n) := ⟨_, rfl⟩;rw [← hRS3] at hcut2;have HL3 := Lib.hid (show RS3.size ≤ maxLen by rw [hRS3, zeg]; exact Nat.le_trans (Nat.sub_le _ _) (Nat.le_trans HS.out (by unfold maxLen; decide)));obtain ⟨⟨y, nf, ef⟩, hfl⟩ : ∃ z, zcy ((t : Int), (r : Int), (kd : Int), b, ⟨#[]⟩, 0) RS3 = z := ⟨_, rfl⟩;have HFL := Lib.hid hfl;have hfar : nf ≤ RS3.size := by have := zkj ((t : Int), (r : Int), (kd : Int), b, ⟨#[]⟩, 0) RS3; rw [hfl] at this; exact this
      have hpf : p2 + n + nf ≤ s.size := by have h2 := zeg (s := s) (p := p2 + n); rw [← hRS3] at h2; omega
      have hcut3 : RS3.extract nf RS3.size = rest s (p2 + n + nf) := by rw [hRS3]; exact (zyw hpf).1
      have HUR := Lib.hid (show zaq (rest s p2) = (b, n, 0) by rw [← HR2.out]; exact HU.out);have HFR := Lib.hid (show zcy ((t : Int), (r : Int), (kd : Int), b, ⟨#[]⟩, 0) (rest s (p2 + n)) = (y, nf, ef) by rw [← hRS3]; exact hfl);have PF := Lib.hid hpf;have v1 : (n : Int) ≤ (RS2.size : Int) := Int.ofNat_le.2 hnu;have v2 : (0 : Int) ≤ (n : Int) := Int.natCast_nonneg n;have v3 : (nf : Int) ≤ (RS3.size : Int) := Int.ofNat_le.2 hfar;have v4 : (0 : Int) ≤ (nf : Int) := Int.natCast_nonneg nf;have hTb := (hT6.nb (C := g) (i := 3) TWN.out.gB (.string b)).err 0;have hTc := hTb.text RS3;have tw8 := (tw7.set TWN.out 1 (errV 0)).set TWN.out 0 (.string RS3);obtain ⟨b0, b1, bf0, bf1⟩ := hTb;have hTc2 := hTc;obtain ⟨d0, d1, df0, df1⟩ := hTc2;rw [zak] at tw8;have hTc3 : Tk (((W6.setCell ⟨g, 3, none⟩ (.string b)).setCell ⟨B, 1, none⟩ .nilIface).setCell ⟨B, 0, none⟩ (.string RS3)) B RS3 0 := hTc;clear hTc;have hTc := hTc3;clear hTc3;rw [zak] at b0 b1 bf0 bf1 d0 d1 df0 df1 ⊢;clear hpf hpn hfl hRS3 tw7;by_cases hef : ef = 0
      ·subst hef;go_wp2_with fail;refine Flow.zan (by kernel_rfl) (by kernel_rfl) (by kernel_rfl) 114 rfl (by kernel_rfl) (twV B (t : Int) (r : Int) (kd : Int) b RS3 y nf 0) (fun _ L wz => TW w B R g (cond (L 11) y ((t : Int), (r : Int), (kd : Int), b, ⟨#[]⟩, 0)) wz ∧ Tk wz B RS3 (cond (L 15) 0 0)) (fun _ _ => False) (()) (⟨tw8.grown TWN.out (grown_of (Below.refl _ _).drew _), hTc.below (Below.refl _ _).drew⟩) ⟨?_, ?_, ?_, ?_, ?_, ?_, ?_, ?_, ?_, ?_, ?_, ?_, ?_, ?_, ?_, ?_, trivial⟩ ?_ ?_
       ·intro gz L wz K ρ hc0 hf0 hF hO hU hcl hi hd hC hK;have e0 : ρ (.tmp 0) = .pointer (some ⟨B, 0, none⟩) := hO 0 (by kernel_rfl);simp [go_sem, hc0, hf0, e0];exact hK gz wz hC (fun _ _ => rfl)
       ·intro gz L wz K ρ hc0 hf0 hF hO hU hcl hi hd hC hK;have e3 : ρ (.tmp 3) = .pointer (some ⟨g, 0, none⟩) := hO 3 (by kernel_rfl);have h11 : L 11 = false := by cases h : L 11 with | false => rfl | true => (have := hcl 11 1 (by kernel_rfl) h; rw [hi] at this; cases this)
        have hk := hC.1.k;rw [h11] at hk;obtain ⟨x0, x1, x2, x3, x4, x5⟩ := hk;simp only [cond] at x0 x1 x2 x3 x4 x5;simp [go_sem, hc0, hf0, e3, x0, x1, x2, x3, x4, x5];exact hK () wz hC (fun _ _ => rfl)
       ·intro gz L wz K ρ hc0 hf0 hF hO hU hcl hi hd hC hK;have e0 : ρ (.tmp 0) = .pointer (some ⟨B, 0, none⟩) := hO 0 (by kernel_rfl);simp [go_sem, hc0, hf0, e0];exact hK gz wz hC (fun _ _ => rfl)
       ·intro gz L wz K ρ hc0 hf0 hF hO hU hcl hi hd hC hK;have d2 : L 2 = true := hd ⟨2, .data⟩ (by simp) rfl;have e94 : ρ (.tmp 94) = .pointer (some ⟨B, 0, none⟩) := hF 94 2 (by kernel_rfl) d2;simp [go_sem, hc0, hf0, e94];exact hK gz wz hC (fun _ _ => rfl)
       ·intro gz L wz K ρ hc0 hf0 hF hO hU hcl hi hd hC hK;have d3 : L 3 = true := hd ⟨3, .data⟩ (by simp) rfl;have e95 : ρ (.tmp 95) = .pointer (some ⟨B, 0, none⟩) := hF 95 3 (by kernel_rfl) d3;simp [go_sem, hc0, hf0, e95];exact hK gz wz hC (fun _ _ => rfl)
       ·intro gz L wz K ρ hc0 hf0 hF hO hU hcl hi hd hC hK;have d4 : L 4 = true := hd ⟨4, .data⟩ (by simp) rfl;have e96 : ρ (.tmp 96) = .pointer (some ⟨B, 0, none⟩) := hF 96 4 (by kernel_rfl) d4;have cc := hC.2.c0;simp [go_sem, hc0, hf0, e96, cc];exact hK gz wz hC (fun _ _ => rfl)
       ·intro gz L wz K ρ hc0 hf0 hF hO hU hcl hi hd hC hK;have d1 : L 1 = true := hd ⟨1, .data⟩ (by simp) rfl;have e93 : ρ (.tmp 93) = wrV (t : Int) (r : Int) (kd : Int) b ⟨#[]⟩ 0 := hF 93 1 (by kernel_rfl) d1;have d5 : L 5 = true := hd ⟨5, .data⟩ (by simp) rfl;have e97 : ρ (.tmp 97) = .string RS3 := hF 97 5 (by kernel_rfl) d5;simp [go_sem, hc0, hf0, e93, e97];refine (zrb ((t : Int), (r : Int), (kd : Int), b, ⟨#[]⟩, 0) RS3 wz HL3.out hC.1.h).mono ?_;rintro q wn ⟨rfl, hbn⟩;rw [HFL.out];exact ⟨_, rfl, hK () wn ⟨hC.1.grown TWN.out (grown_of hbn _), hC.2.below hbn⟩ (by intro j hj; unfold twV; split <;> first | rfl | (rw [hi] at hj; cases hj) | (have hz := hcl _ 6 (by kernel_rfl) hj; rw [hi] at hz; cases hz))⟩
       ·intro gz L wz K ρ hc0 hf0 hF hO hU hcl hi hd hC hK;have d6 : L 6 = true := hd ⟨6, .data⟩ (by simp) rfl;have e98 : ρ (.tmp 98) = zdb (y, nf, 0) := hF 98 6 (by kernel_rfl) d6;simp [go_sem, hc0, hf0, e98];exact hK gz wz hC (fun _ _ => rfl)
       ·intro gz L wz K ρ hc0 hf0 hF hO hU hcl hi hd hC hK;have d7 : L 7 = true := hd ⟨7, .data⟩ (by simp) rfl;have e91 : ρ (.tmp 91) = zdb (y, nf, 0) := hF 91 7 (by kernel_rfl) d7;simp [go_sem, hc0, hf0, e91, zdb];exact hK gz wz hC (fun _ _ => rfl)
       ·intro gz L wz K ρ hc0 hf0 hF hO hU hcl hi hd hC hK;have d7 : L 7 = true := hd ⟨7, .data⟩ (by simp) rfl;have e91 : ρ (.tmp 91) = zdb (y, nf, 0) := hF 91 7 (by kernel_rfl) d7;simp [go_sem, hc0, hf0, e91, zdb];exact hK gz wz hC (fun _ _ => rfl)
       ·intro gz L wz K ρ hc0 hf0 hF hO hU hcl hi hd hC hK;have d7 : L 7 = true := hd ⟨7, .data⟩ (by simp) rfl;have e91 : ρ (.tmp 91) = zdb (y, nf, 0) := hF 91 7 (by kernel_rfl) d7;simp [go_sem, hc0, hf0, e91, zdb];exact hK gz wz hC (fun _ _ => rfl)
       ·intro gz L wz K ρ hc0 hf0 hF hO hU hcl hi hd hC hK;have e3 : ρ (.tmp 3) = .pointer (some ⟨g, 0, none⟩) := hO 3 (by kernel_rfl);have d8 : L 8 = true := hd ⟨8, .data⟩ (by simp) rfl;have e99 : ρ (.tmp 99) = wrV y.1 y.2.1 y.2.2.1 y.2.2.2.1 y.2.2.2.2.1 y.2.2.2.2.2 := hF 99 8 (by kernel_rfl) d8;rw [hi] at hC;have hk := hC.1.k;simp only [cond] at hk;obtain ⟨u0, u1, u2, u3, u4, u5⟩ := hk;obtain ⟨m0, m1, m2, m3, m4, m5⟩ := hC.1.kf;simp [go_sem, hc0, hf0, e3, e99, u0, u1, u2, u3, u4, u5, m0, m1, m2, m3, m4, m5];exact hK () _ ⟨hC.1.put TWN.out y, yjb hC.2 TWN.out.gB _ _ _ _ _ _⟩ (fun _ _ => rfl)
       ·intro gz L wz K ρ hc0 hf0 hF hO hU hcl hi hd hC hK;have d9 : L 9 = true := hd ⟨9, .data⟩ (by simp) rfl;have e100 : ρ (.tmp 100) = .int .i64 (nf : Int) := hF 100 9 (by kernel_rfl) d9;simp [go_sem, hc0, hf0, e100];exact hK gz wz hC (fun _ _ => rfl)
       ·intro gz L wz K ρ hc0 hf0 hF hO hU hcl hi hd hC hK;have d0 : L 0 = true := hd ⟨0, .data⟩ (by simp) rfl;have e92 : ρ (.tmp 92) = .pointer (some ⟨B, 0, none⟩) := hF 92 0 (by kernel_rfl) d0;simp [go_sem, hc0, hf0, e92];exact hK gz wz hC (fun _ _ => rfl)
       ·intro gz L wz K ρ hc0 hf0 hF hO hU hcl hi hd hC hK;have d13 : L 13 = true := hd ⟨13, .data⟩ (by simp) rfl;have e102 : ρ (.tmp 102) = .pointer (some ⟨B, 0, none⟩) := hF 102 13 (by kernel_rfl) d13;simp [go_sem, hc0, hf0, e102];exact hK gz wz hC (fun _ _ => rfl)
       ·intro gz L wz K ρ hc0 hf0 hF hO hU hcl hi hd hC hK;have d14 : L 14 = true := hd ⟨14, .data⟩ (by simp) rfl;have e103 : ρ (.tmp 103) = .pointer (some ⟨B, 1, none⟩) := hF 103 14 (by kernel_rfl) d14;have d10 : L 10 = true := hd ⟨10, .data⟩ (by simp) rfl;have e101 : ρ (.tmp 101) = errV 0 := hF 101 10 (by kernel_rfl) d10;rw [hi] at hC;have a1 := hC.2.c1;have a2 := hC.2.f1;simp only [cond] at a1;rw [zak] at a1;have e99 : ρ (.tmp 101) = .nilIface := e101;clear e101;simp [go_sem, hc0, hf0, e103, e99, a1, a2];have hz := hK () _ ⟨hC.1.set TWN.out 1 (errV 0), hC.2.err 0⟩ (fun _ _ => rfl);rw [zak] at hz;exact hz
       ·intro gz L ch wz h; exact h.elim
       ·intro gz L wz hL hC;rw [hL 11 (by decide), hL 15 (by decide)] at hC;obtain ⟨tw9, hT9⟩ := hC;simp only [cond] at tw9 hT9;have hTd := hT9.text (rest s (p2 + n + nf));have tw10 := tw9.set TWN.out 0 (.string (rest s (p2 + n + nf)));have hTK : TkAt s _ B X (K y) := .inl ⟨p2 + n + nf, PF.out, hTd, HX2.out.trans ((zvx HUR.out).trans (zxo HFR.out))⟩;obtain ⟨a0, a1, af0, af1⟩ := hT9;obtain ⟨n0, n1, n2, n3, n4, n5⟩ := tw10.k;have hRW := tw10.r;have hRF := tw10.rf;have gw := tw10.gw;simp only [Flow.zbs, twV];clear tw9 tw10 hTd hTc hT6 tw8;have hZ := hRW.put (a' := y.1) (b' := y.2.1) (c' := y.2.2.1) (d' := y.2.2.2.1) (e' := y.2.2.2.2.1) (f' := y.2.2.2.2.2);have gZ := zdm gw LR.out (y.1) (y.2.1) (y.2.2.1) (y.2.2.2.1) (y.2.2.2.2.1) (y.2.2.2.2.2);have tZ := zhq hTK NR.out (y.1) (y.2.1) (y.2.2.1) (y.2.2.2.1) (y.2.2.2.2.1) (y.2.2.2.2.2);obtain ⟨u0, u1, u2, u3, u4, u5⟩ := hRW;obtain ⟨m0, m1, m2, m3, m4, m5⟩ := hRF;go_wp2;unfold put6 at hZ gZ tZ;obtain ⟨z0, z1, z2, z3, z4, z5⟩ := hZ;exact bodyPost_ret (v := wrV (y.1) (y.2.1) (y.2.2.1) (y.2.2.2.1) (y.2.2.2.2.1) (y.2.2.2.2.2)) (by simp [results, Tryz.results60, go_sem, z0, z1, z2, z3, z4, z5]) rfl ⟨(y.1, y.2.1, y.2.2.1, y.2.2.2.1, y.2.2.2.2.1, y.2.2.2.2.2), rfl, gZ, tZ⟩
      ·have HEF := Lib.hid hef;clear hef;go_wp2_with fail;refine Flow.zan (by kernel_rfl) (by kernel_rfl) (by kernel_rfl) 114 rfl (by kernel_rfl) (twV B (t : Int) (r : Int) (kd : Int) b RS3 y nf ef) (fun _ L wz => TW w B R g (cond (L 11) y ((t : Int), (r : Int), (kd : Int), b, ⟨#[]⟩, 0)) wz ∧ Tk wz B RS3 (cond (L 15) ef 0)) (fun _ _ => False) (()) (⟨tw8.grown TWN.out (grown_of (Below.refl _ _).drew _), hTc.below (Below.refl _ _).drew⟩) ⟨?_, ?_, ?_, ?_, ?_, ?_, ?_, ?_, ?_, ?_, ?_, ?_, ?_, ?_, ?_, ?_, trivial⟩ ?_ ?_
       ·intro gz L wz K ρ hc0 hf0 hF hO hU hcl hi hd hC hK;have e0 : ρ (.tmp 0) = .pointer (some ⟨B, 0, none⟩) := hO 0 (by kernel_rfl);simp [go_sem, hc0, hf0, e0];exact hK gz wz hC (fun _ _ => rfl)
       ·intro gz L wz K ρ hc0 hf0 hF hO hU hcl hi hd hC hK;have e3 : ρ (.tmp 3) = .pointer (some ⟨g, 0, none⟩) := hO 3 (by kernel_rfl);have h11 : L 11 = false := by cases h : L 11 with | false => rfl | true => (have := hcl 11 1 (by kernel_rfl) h; rw [hi] at this; cases this)
        have hk := hC.1.k;rw [h11] at hk;obtain ⟨x0, x1, x2, x3, x4, x5⟩ := hk;simp only [cond] at x0 x1 x2 x3 x4 x5;simp [go_sem, hc0, hf0, e3, x0, x1, x2, x3, x4, x5];exact hK () wz hC (fun _ _ => rfl)
       ·intro gz L wz K ρ hc0 hf0 hF hO hU hcl hi hd hC hK;have e0 : ρ (.tmp 0) = .pointer (some ⟨B, 0, none⟩) := hO 0 (by kernel_rfl);simp [go_sem, hc0, hf0, e0];exact hK gz wz hC (fun _ _ => rfl)
       ·intro gz L wz K ρ hc0 hf0 hF hO hU hcl hi hd hC hK;have d2 : L 2 = true := hd ⟨2, .data⟩ (by simp) rfl;have e94 : ρ (.tmp 94) = .pointer (some ⟨B, 0, none⟩) := hF 94 2 (by kernel_rfl) d2;simp [go_sem, hc0, hf0, e94];exact hK gz wz hC (fun _ _ => rfl)
       ·intro gz L wz K ρ hc0 hf0 hF hO hU hcl hi hd hC hK;have d3 : L 3 = true := hd ⟨3, .data⟩ (by simp) rfl;have e95 : ρ (.tmp 95) = .pointer (some ⟨B, 0, none⟩) := hF 95 3 (by kernel_rfl) d3;simp [go_sem, hc0, hf0, e95];exact hK gz wz hC (fun _ _ => rfl)
       ·intro gz L wz K ρ hc0 hf0 hF hO hU hcl hi hd hC hK;have d4 : L 4 = true := hd ⟨4, .data⟩ (by simp) rfl;have e96 : ρ (.tmp 96) = .pointer (some ⟨B, 0, none⟩) := hF 96 4 (by kernel_rfl) d4;have cc := hC.2.c0;simp [go_sem, hc0, hf0, e96, cc];exact hK gz wz hC (fun _ _ => rfl)
       ·intro gz L wz K ρ hc0 hf0 hF hO hU hcl hi hd hC hK;have d1 : L 1 = true := hd ⟨1, .data⟩ (by simp) rfl;have e93 : ρ (.tmp 93) = wrV (t : Int) (r : Int) (kd : Int) b ⟨#[]⟩ 0 := hF 93 1 (by kernel_rfl) d1;have d5 : L 5 = true := hd ⟨5, .data⟩ (by simp) rfl;have e97 : ρ (.tmp 97) = .string RS3 := hF 97 5 (by kernel_rfl) d5;simp [go_sem, hc0, hf0, e93, e97];refine (zrb ((t : Int), (r : Int), (kd : Int), b, ⟨#[]⟩, 0) RS3 wz HL3.out hC.1.h).mono ?_;rintro q wn ⟨rfl, hbn⟩;rw [HFL.out];exact ⟨_, rfl, hK () wn ⟨hC.1.grown TWN.out (grown_of hbn _), hC.2.below hbn⟩ (by intro j hj; unfold twV; split <;> first | rfl | (rw [hi] at hj; cases hj) | (have hz := hcl _ 6 (by kernel_rfl) hj; rw [hi] at hz; cases hz))⟩
       ·intro gz L wz K ρ hc0 hf0 hF hO hU hcl hi hd hC hK;have d6 : L 6 = true := hd ⟨6, .data⟩ (by simp) rfl;have e98 : ρ (.tmp 98) = zdb (y, nf, ef) := hF 98 6 (by kernel_rfl) d6;simp [go_sem, hc0, hf0, e98];exact hK gz wz hC (fun _ _ => rfl)
       ·intro gz L wz K ρ hc0 hf0 hF hO hU hcl hi hd hC hK;have d7 : L 7 = true := hd ⟨7, .data⟩ (by simp) rfl;have e91 : ρ (.tmp 91) = zdb (y, nf, ef) := hF 91 7 (by kernel_rfl) d7;simp [go_sem, hc0, hf0, e91, zdb];exact hK gz wz hC (fun _ _ => rfl)
       ·intro gz L wz K ρ hc0 hf0 hF hO hU hcl hi hd hC hK;have d7 : L 7 = true := hd ⟨7, .data⟩ (by simp) rfl;have e91 : ρ (.tmp 91) = zdb (y, nf, ef) := hF 91 7 (by kernel_rfl) d7;simp [go_sem, hc0, hf0, e91, zdb];exact hK gz wz hC (fun _ _ => rfl)
       ·intro gz L wz K ρ hc0 hf0 hF hO hU hcl hi hd hC hK;have d7 : L 7 = true := hd ⟨7, .data⟩ (by simp) rfl;have e91 : ρ (.tmp 91) = zdb (y, nf, ef) := hF 91 7 (by kernel_rfl) d7;simp [go_sem, hc0, hf0, e91, zdb];exact hK gz wz hC (fun _ _ => rfl)
       ·intro gz L wz K ρ hc0 hf0 hF hO hU hcl hi hd hC hK;have e3 : ρ (.tmp 3) = .pointer (some ⟨g, 0, none⟩) := hO 3 (by kernel_rfl);have d8 : L 8 = true := hd ⟨8, .data⟩ (by simp) rfl;have e99 : ρ (.tmp 99) = wrV y.1 y.2.1 y.2.2.1 y.2.2.2.1 y.2.2.2.2.1 y.2.2.2.2.2 := hF 99 8 (by kernel_rfl) d8;rw [hi] at hC;have hk := hC.1.k;simp only [cond] at hk;obtain ⟨u0, u1, u2, u3, u4, u5⟩ := hk;obtain ⟨m0, m1, m2, m3, m4, m5⟩ := hC.1.kf;simp [go_sem, hc0, hf0, e3, e99, u0, u1, u2, u3, u4, u5, m0, m1, m2, m3, m4, m5];exact hK () _ ⟨hC.1.put TWN.out y, yjb hC.2 TWN.out.gB _ _ _ _ _ _⟩ (fun _ _ => rfl)
       ·intro gz L wz K ρ hc0 hf0 hF hO hU hcl hi hd hC hK;have d9 : L 9 = true := hd ⟨9, .data⟩ (by simp) rfl;have e100 : ρ (.tmp 100) = .int .i64 (nf : Int) := hF 100 9 (by kernel_rfl) d9;simp [go_sem, hc0, hf0, e100];exact hK gz wz hC (fun _ _ => rfl)
       ·intro gz L wz K ρ hc0 hf0 hF hO hU hcl hi hd hC hK;have d0 : L 0 = true := hd ⟨0, .data⟩ (by simp) rfl;have e92 : ρ (.tmp 92) = .pointer (some ⟨B, 0, none⟩) := hF 92 0 (by kernel_rfl) d0;simp [go_sem, hc0, hf0, e92];exact hK gz wz hC (fun _ _ => rfl)
       ·intro gz L wz K ρ hc0 hf0 hF hO hU hcl hi hd hC hK;have d13 : L 13 = true := hd ⟨13, .data⟩ (by simp) rfl;have e102 : ρ (.tmp 102) = .pointer (some ⟨B, 0, none⟩) := hF 102 13 (by kernel_rfl) d13;simp [go_sem, hc0, hf0, e102];exact hK gz wz hC (fun _ _ => rfl)
       ·intro gz L wz K ρ hc0 hf0 hF hO hU hcl hi hd hC hK;have d14 : L 14 = true := hd ⟨14, .data⟩ (by simp) rfl;have e103 : ρ (.tmp 103) = .pointer (some ⟨B, 1, none⟩) := hF 103 14 (by kernel_rfl) d14;have d10 : L 10 = true := hd ⟨10, .data⟩ (by simp) rfl;have e101 : ρ (.tmp 101) = errV ef := hF 101 10 (by kernel_rfl) d10;rw [hi] at hC;have a1 := hC.2.c1;have a2 := hC.2.f1;simp only [cond] at a1;rw [zak] at a1;have e99 : ρ (.tmp 101) = .iface 27 (.int .i64 ef) := by rw [e101, zau HEF.out]
        clear e101;simp [go_sem, hc0, hf0, e103, e99, a1, a2];have hz := hK () _ ⟨hC.1.set TWN.out 1 (errV ef), hC.2.err ef⟩ (fun _ _ => rfl);rw [zau HEF.out] at hz;exact hz
       ·intro gz L ch wz h; exact h.elim
       ·intro gz L wz hL hC;rw [hL 11 (by decide), hL 15 (by decide)] at hC;obtain ⟨tw9, hT9⟩ := hC;simp only [cond] at tw9 hT9;have hTd := hT9.text (rest s (p2 + n + nf));have tw10 := tw9.set TWN.out 0 (.string (rest s (p2 + n + nf)));have hTK : TkAt s _ B X (K y) := .inr ⟨_, ef, by rw [zeg]; exact Nat.sub_le _ _, HEF.out, hTd, HX2.out.trans ((zvx HUR.out).trans (zue HFR.out HEF.out))⟩;obtain ⟨a0, a1, af0, af1⟩ := hT9;obtain ⟨n0, n1, n2, n3, n4, n5⟩ := tw10.k;have hRW := tw10.r;have hRF := tw10.rf;have gw := tw10.gw;simp only [Flow.zbs, twV];clear tw9 tw10 hTd hTc hT6 tw8;have hZ := hRW.put (a' := y.1) (b' := y.2.1) (c' := y.2.2.1) (d' := y.2.2.2.1) (e' := y.2.2.2.2.1) (f' := y.2.2.2.2.2);have gZ := zdm gw LR.out (y.1) (y.2.1) (y.2.2.1) (y.2.2.2.1) (y.2.2.2.2.1) (y.2.2.2.2.2);have tZ := zhq hTK NR.out (y.1) (y.2.1) (y.2.2.1) (y.2.2.2.1) (y.2.2.2.2.1) (y.2.2.2.2.2);obtain ⟨u0, u1, u2, u3, u4, u5⟩ := hRW;obtain ⟨m0, m1, m2, m3, m4, m5⟩ := hRF;go_wp2;unfold put6 at hZ gZ tZ;obtain ⟨z0, z1, z2, z3, z4, z5⟩ := hZ;exact bodyPost_ret (v := wrV (y.1) (y.2.1) (y.2.2.1) (y.2.2.2.1) (y.2.2.2.2.1) (y.2.2.2.2.2)) (by simp [results, Tryz.results60, go_sem, z0, z1, z2, z3, z4, z5]) rfl ⟨(y.1, y.2.1, y.2.2.1, y.2.2.2.1, y.2.2.2.2.1, y.2.2.2.2.2), rfl, gZ, tZ⟩
     ·have hn0 : b = strOf [] ∧ n = 0 := by
       rcases zci RS2 with h | ⟨e', h, _⟩
       ·rw [HU.out] at h; exact absurd h.1 he
       ·rw [HU.out] at h; injection h with h1 h2; injection h2 with h2 _; exact ⟨h1, h2⟩
      obtain ⟨rfl, rfl⟩ := hn0;have hz : RS2.extract 0 RS2.size = RS2 := ByteArray.extract_zero_size;have hTb := (hT6.nb (C := g) (i := 3) TWN.out.gB (.string (strOf []))).err e;have hTc := hTb.text RS2;have tw8 := (tw7.set TWN.out 1 (errV e)).set TWN.out 0 (.string RS2);have hTK : TkAt s _ B X (K noWr) := .inr ⟨RS2, e, by rw [HR2.out, zeg]; exact Nat.sub_le _ _, he, hTc, HX2.out.trans (zwm (show zaq (rest s p2) = (strOf [], 0, e) by rw [← HR2.out]; exact HU.out) he)⟩;have hRW := tw8.r;have hRF := tw8.rf;have gw := tw8.gw;obtain ⟨b0, b1, bf0, bf1⟩ := hTb;obtain ⟨d0, d1, df0, df1⟩ := hTc;rw [zau he] at hTK hRW hRF gw b0 b1 bf0 bf1 d0 d1 df0 df1 ⊢;have i0 : (0 : Int) ≤ ((0 : Nat) : Int) := by decide
      clear he tw7 tw8 hT6;have hZ := hRW.put (a' := 0) (b' := 0) (c' := 0) (d' := ⟨#[]⟩) (e' := ⟨#[]⟩) (f' := 0);have gZ := zdm gw LR.out (0) (0) (0) (⟨#[]⟩) (⟨#[]⟩) (0);have tZ := zhq hTK NR.out (0) (0) (0) (⟨#[]⟩) (⟨#[]⟩) (0);obtain ⟨u0, u1, u2, u3, u4, u5⟩ := hRW;obtain ⟨m0, m1, m2, m3, m4, m5⟩ := hRF;go_wp2;unfold put6 at hZ gZ tZ;obtain ⟨z0, z1, z2, z3, z4, z5⟩ := hZ;exact bodyPost_ret (v := wrV (0) (0) (0) (⟨#[]⟩) (⟨#[]⟩) (0)) (by simp [results, Tryz.results60, go_sem, z0, z1, z2, z3, z4, z5]) rfl ⟨(0, 0, 0, ⟨#[]⟩, ⟨#[]⟩, 0), rfl, gZ, tZ⟩
    ·have HE2 := Lib.hid he2;have hTK : TkAt s _ B X (K noWr) := .inr ⟨r2, e2, hr2, he2, hT, hX2⟩;obtain ⟨c0, c1, f0, f1⟩ := hT;rw [zau he2] at c1;have hRW := tw.r;have hRF := tw.rf;have gw := tw.gw;clear he2 hX2 tw;have hZ := hRW.put (a' := 0) (b' := 0) (c' := 0) (d' := ⟨#[]⟩) (e' := ⟨#[]⟩) (f' := 0);have gZ := zdm gw LR.out (0) (0) (0) (⟨#[]⟩) (⟨#[]⟩) (0);have tZ := zhq hTK NR.out (0) (0) (0) (⟨#[]⟩) (⟨#[]⟩) (0);obtain ⟨u0, u1, u2, u3, u4, u5⟩ := hRW;obtain ⟨m0, m1, m2, m3, m4, m5⟩ := hRF;go_wp2;unfold put6 at hZ gZ tZ;obtain ⟨z0, z1, z2, z3, z4, z5⟩ := hZ;exact bodyPost_ret (v := wrV (0) (0) (0) (⟨#[]⟩) (⟨#[]⟩) (0)) (by simp [results, Tryz.results60, go_sem, z0, z1, z2, z3, z4, z5]) rfl ⟨(0, 0, 0, ⟨#[]⟩, ⟨#[]⟩, 0), rfl, gZ, tZ⟩
 ·have hTK : TkAt s _ B X (K noWr) := .inr ⟨r, e, hr, he, hT, hX⟩;obtain ⟨c0, c1, f0, f1⟩ := hT;rw [zau he] at c1;clear he;have hZ := hRW.put (a' := 0) (b' := 0) (c' := 0) (d' := ⟨#[]⟩) (e' := ⟨#[]⟩) (f' := 0);have gZ := zdm gR LR.out (0) (0) (0) (⟨#[]⟩) (⟨#[]⟩) (0);have tZ := zhq hTK NR.out (0) (0) (0) (⟨#[]⟩) (⟨#[]⟩) (0);obtain ⟨u0, u1, u2, u3, u4, u5⟩ := hRW;obtain ⟨m0, m1, m2, m3, m4, m5⟩ := hRF;go_wp2;unfold put6 at hZ gZ tZ;obtain ⟨z0, z1, z2, z3, z4, z5⟩ := hZ;exact bodyPost_ret (v := wrV (0) (0) (0) (⟨#[]⟩) (⟨#[]⟩) (0)) (by simp [results, Tryz.results60, go_sem, z0, z1, z2, z3, z4, z5]) rfl ⟨(0, 0, 0, ⟨#[]⟩, ⟨#[]⟩, 0), rfl, gZ, tZ⟩
end Go.Proofs.YtkejlnjnoiidnaaGreatDoor
end

section
namespace Go.Proofs.YtkejlnjnoiidnaaGreatDoor
open Go.RowKit As
structure OS (w0 : World) (B Q O N1 N2 : Nat) : Prop where
 lB : w0.heap.size ≤ B
 lQ : w0.heap.size ≤ Q
 lO : w0.heap.size ≤ O
 QB : Q ≠ B
 QO : Q ≠ O
 OB : O ≠ B
 B1 : B < N1
 B2 : B < N2
 O1 : O < N1
 O2 : O < N2
 Q2 : Q < N2
 hB : 0 ≠ B
 hQ : 0 ≠ Q
 n1 : w0.heap.size ≤ N1
 n2 : w0.heap.size ≤ N2
 hl : (0 : Nat) < w0.heap.size
structure OL (w0 : World) (B Q O N1 N2 : Nat) (v0 v1 v2 : Value) (f h : List Ent) (ws : List Wr) (w : World) : Prop where
 bx : O3 w Q v0 v1 v2
 o : O3 w O nilS nilS nilS
 f : w.ownsRow N1 79 2 v0 f.length (entV f)
 h : w.ownsRow N2 79 2 v1 h.length (entV h)
 ws : w.ownsRow N2 53 6 v2 ws.length (wrsV ws)
 off : ∀ k, v0.ownBlock = some k → k ≠ Q
 hd : zbh w
 bel : Below w0.heap.size w0 w
 sz : N2 ≤ w.heap.size
section
variable {w0 w w' : World} {B Q O N1 N2 : Nat} {v0 v1 v2 v : Value} {f h : List Ent} {ws ws' : List Wr}
theorem O3.grown {a b c : Value} {row : Option Nat} (H : O3 w O a b c) (hg : w.grownBy w' row) (hn : row ≠ some O) : O3 w' O a b c := by
 have hb := hg.block O (cell_lt H.c0) (fun e => hn e.symm);exact ⟨(World.cell?_of_block (a := ⟨O, 0, none⟩) hb).trans H.c0, (World.cell?_of_block (a := ⟨O, 1, none⟩) hb).trans H.c1, (World.cell?_of_block (a := ⟨O, 2, none⟩) hb).trans H.c2, (World.frozen?_of_block (a := ⟨O, 0, none⟩) hb).trans H.f0, (World.frozen?_of_block (a := ⟨O, 1, none⟩) hb).trans H.f1, (World.frozen?_of_block (a := ⟨O, 2, none⟩) hb).trans H.f2⟩
theorem O3.nb {a b c : Value} (H : O3 w O a b c) {C i : Nat} (hn : C ≠ O) (x : Value) : O3 (w.setCell ⟨C, i, none⟩ x) O a b c :=
 ⟨zam H.c0 hn, zam H.c1 hn, zam H.c2 hn, by simpa using H.f0, by simpa using H.f1, by simpa using H.f2⟩
theorem O3.s1 {a b c : Value} (H : O3 w O a b c) (x : Value) : O3 (w.setCell ⟨O, 1, none⟩ x) O a x c :=
 ⟨zaw H.c0 (by omega), World.cell?_setCell_same _ _ _ H.c1, zaw H.c2 (by omega), by simpa using H.f0, by simpa using H.f1, by simpa using H.f2⟩
theorem O3.s2 {a b c : Value} (H : O3 w O a b c) (x : Value) : O3 (w.setCell ⟨O, 2, none⟩ x) O a b x :=
 ⟨zaw H.c0 (by omega), zaw H.c1 (by omega), World.cell?_setCell_same _ _ _ H.c2, by simpa using H.f0, by simpa using H.f1, by simpa using H.f2⟩
theorem OL.grown (H : OL w0 B Q O N1 N2 v0 v1 v2 f h ws w) (S : OS w0 B Q O N1 N2) (hg : w.grownBy w' (some B)) : OL w0 B Q O N1 N2 v0 v1 v2 f h ws w' :=
  ⟨H.bx.grown hg (fun e => S.QB (Option.some.inj e).symm), H.o.grown hg (fun e => S.OB (Option.some.inj e).symm), zik H.f hg S.B1, zik H.h hg S.B2, zik H.ws hg S.B2, H.off, zcc H.hd S.hB hg,
   H.bel.trans ((Below.refl w0.heap.size w).grown hg H.bel.size (fun k e => by injection e with e; have := S.lB; omega)), Nat.le_trans H.sz hg.size⟩
theorem OL.below (H : OL w0 B Q O N1 N2 v0 v1 v2 f h ws w) (S : OS w0 B Q O N1 N2) (hb : Below w.heap.size w w') : OL w0 B Q O N1 N2 v0 v1 v2 f h ws w' := H.grown S (grown_of hb _)
theorem OL.yab (H : OL w0 B Q O N1 N2 v0 v1 v2 f h ws w) (S : OS w0 B Q O N1 N2) (hg : w.grownBy w' v2.ownBlock) (ht : w'.ownsRow N2 53 6 v ws'.length (wrsV ws')) : OL w0 B Q O N1 N2 v0 v1 v f h ws' (w'.setCell ⟨Q, 2, none⟩ v) := by
 have hr : ∀ k, v2.ownBlock = some k → N2 ≤ k := fun k e => (H.ws.lt k e).1
 have q1 : v2.ownBlock ≠ some Q := fun e => by have := hr Q e; have := S.Q2; omega
 have q2 : v2.ownBlock ≠ some O := fun e => by have := hr O e; have := S.O2; omega
 have bx := (H.bx.grown hg q1).s2 v;have bb : Below w0.heap.size w w' := (Below.refl w0.heap.size w).grown hg H.bel.size (fun k e => Nat.le_trans S.n2 (hr k e));refine ⟨bx, (H.o.grown hg q2).nb S.QO v, zjv (w' := w) (H.f.kept hg (own_ne H.f H.ws (by decide))) H.off, zab _ (H.h.kept hg (own_ne H.h H.ws (by decide))) S.Q2, zab _ ht S.Q2, H.off, ?_, (H.bel.trans bb).setCell (p := ⟨Q, 2, none⟩) S.lQ v, by simpa using Nat.le_trans H.sz hg.size⟩;have hd : zbh w' := by
  unfold zbh;have hlt := cell_lt H.hd;have hne : some (0 : Nat) ≠ v2.ownBlock := fun e => Nat.lt_irrefl _ (Nat.lt_of_lt_of_le (Nat.lt_of_lt_of_le S.hl S.n2) (hr _ e.symm))
  rw [World.cell?_of_block (w := w) (a := ⟨0, 0, none⟩) (hg.block _ hlt hne)];exact H.hd
 exact zcc hd S.hQ (zbp w' Q 2 v)
end
structure OX (w0 : World) (B Q O N1 N2 : Nat) (v0 v1 v2 : Value) (f h : List Ent) (ws : List Wr) (T : ByteArray) (X : BR) (K : Wr → Nat → BR) (gz : Wr × Nat × Value) (l3 l4 l5 l7 : Bool) (w : World) : Prop where
 pre : l5 = false → OL w0 B Q O N1 N2 v0 v1 v2 f h ws w
 tk0 : l3 = false → TkAt T w B X (fun p => zfg T p K)
 tk1 : l3 = true → TkAt T w B X (K gz.1)
 tmp : l4 = true → l5 = false → WrAt w gz.2.1 gz.1.1 gz.1.2.1 gz.1.2.2.1 gz.1.2.2.2.1 gz.1.2.2.2.2.1 gz.1.2.2.2.2.2
 mid : l5 = true → l7 = false → O3 w Q v0 v1 v2 ∧ (∃ A n c, gz.2.2 = .slice A n c) ∧ OL w0 B Q O N1 N2 v0 v1 gz.2.2 f h (ws ++ [gz.1]) (w.setCell ⟨Q, 2, none⟩ gz.2.2)
 fin : l7 = true → OL w0 B Q O N1 N2 v0 v1 gz.2.2 f h (ws ++ [gz.1]) w
 o4 : l4 = true → l3 = true
 o5 : l5 = true → l4 = true
 o7 : l7 = true → l5 = true
section
variable {w0 w w' : World} {B Q O N1 N2 : Nat} {v0 v1 v2 v : Value} {f h : List Ent} {ws : List Wr} {T : ByteArray} {X : BR} {K : Wr → Nat → BR} {gz : Wr × Nat × Value} {y : Wr}
theorem OX.new (H : OL w0 B Q O N1 N2 v0 v1 v2 f h ws w) (t : TkAt T w B X (fun p => zfg T p K)) (gz : Wr × Nat × Value) : OX w0 B Q O N1 N2 v0 v1 v2 f h ws T X K gz false false false false w :=
 ⟨fun _ => H, fun _ => t, (fun h => by cases h), (fun h => by cases h), (fun h => by cases h), (fun h => by cases h), (fun h => by cases h), (fun h => by cases h), (fun h => by cases h)⟩
theorem OX.read (H : OX w0 B Q O N1 N2 v0 v1 v2 f h ws T X K gz false false false false w) (S : OS w0 B Q O N1 N2) (hg : w.grownBy w' (some B)) (ht : TkAt T w' B X (K y)) : OX w0 B Q O N1 N2 v0 v1 v2 f h ws T X K (y, gz.2) true false false false w' :=
 ⟨fun _ => (H.pre rfl).grown S hg, (fun h => by cases h), fun _ => ht, (fun h => by cases h), (fun h => by cases h), (fun h => by cases h), (fun h => by cases h), (fun h => by cases h), (fun h => by cases h)⟩
theorem OX.build (H : OX w0 B Q O N1 N2 v0 v1 v2 f h ws T X K gz true false false false w) (S : OS w0 B Q O N1 N2) : OX w0 B Q O N1 N2 v0 v1 v2 f h ws T X K (gz.1, w.heap.size, gz.2.2) true true false false (w.alloc (wrO gz.1.1 gz.1.2.1 gz.1.2.2.1 gz.1.2.2.2.1 gz.1.2.2.2.2.1 gz.1.2.2.2.2.2)) :=
 ⟨fun _ => (H.pre rfl).below S (zaa w _), (fun h => by cases h), fun _ => (H.tk1 rfl).below (zaa w _), fun _ _ => WrAt.new w _ _ _ _ _ _, (fun h => by cases h), (fun h => by cases h), fun _ => rfl, (fun h => by cases h), (fun h => by cases h)⟩
theorem OX.append (H : OX w0 B Q O N1 N2 v0 v1 v2 f h ws T X K gz true true false false w) (S : OS w0 B Q O N1 N2) (hg : w.grownBy w' v2.ownBlock) (ht : w'.ownsRow N2 53 6 v (ws ++ [gz.1]).length (wrsV (ws ++ [gz.1]))) : OX w0 B Q O N1 N2 v0 v1 v2 f h ws T X K (gz.1, gz.2.1, v) true true true false w' := by
 have hr : ∀ k, v2.ownBlock = some k → N2 ≤ k := fun k e => ((H.pre rfl).ws.lt k e).1
 have q1 : v2.ownBlock ≠ some Q := fun e => by have := hr Q e; have := S.Q2; omega
 have q2 : v2.ownBlock ≠ some B := fun e => by have := hr B e; have := S.B2; omega
 obtain ⟨A, c, hv⟩ := zah ht;exact ⟨(fun h => by cases h), (fun h => by cases h), fun _ => (H.tk1 rfl).grown hg q2, (fun _ h => by cases h), fun _ _ => ⟨(H.pre rfl).bx.grown hg q1, ⟨A, _, c, hv⟩, (H.pre rfl).yab S hg ht⟩, (fun h => by cases h), fun _ => rfl, fun _ => rfl, (fun h => by cases h)⟩
theorem OX.store (H : OX w0 B Q O N1 N2 v0 v1 v2 f h ws T X K gz true true true false w) (S : OS w0 B Q O N1 N2) : OX w0 B Q O N1 N2 v0 v1 v2 f h ws T X K gz true true true true (w.setCell ⟨Q, 2, none⟩ gz.2.2) :=
 ⟨(fun h => by cases h), (fun h => by cases h), fun _ => (H.tk1 rfl).nb S.QB _, (fun _ h => by cases h), (fun _ h => by cases h), fun _ => (H.mid rfl rfl).2.2, fun _ => rfl, fun _ => rfl, fun _ => rfl⟩
theorem OX.flags {l4 l5 l7 : Bool} (H : OX w0 B Q O N1 N2 v0 v1 v2 f h ws T X K gz false l4 l5 l7 w) : l4 = false ∧ l5 = false ∧ l7 = false := by
 have h4 : l4 = false := by cases l4 with | false => rfl | true => exact absurd (H.o4 rfl) (by decide)
 subst h4;have h5 : l5 = false := by cases l5 with | false => rfl | true => exact absurd (H.o5 rfl) (by decide)
 subst h5;exact ⟨rfl, rfl, by cases l7 with | false => rfl | true => exact absurd (H.o7 rfl) (by decide)⟩
theorem OX.ynv {l3 l5 l7 : Bool} (H : OX w0 B Q O N1 N2 v0 v1 v2 f h ws T X K gz l3 false l5 l7 w) : l5 = false ∧ l7 = false := by
 have h5 : l5 = false := by cases l5 with | false => rfl | true => exact absurd (H.o5 rfl) (by decide)
 subst h5;exact ⟨rfl, by cases l7 with | false => rfl | true => exact absurd (H.o7 rfl) (by decide)⟩
theorem OX.ymq {l3 l4 l7 : Bool} (H : OX w0 B Q O N1 N2 v0 v1 v2 f h ws T X K gz l3 l4 false l7 w) : l7 = false := by cases l7 with | false => rfl | true => exact absurd (H.o7 rfl) (by decide)
theorem yhr {g : Nat} (H : WrAt w g y.1 y.2.1 y.2.2.1 y.2.2.2.1 y.2.2.2.2.1 y.2.2.2.2.2) : ∀ j u, (zbb y)[j]? = some u → w.cell? ((⟨g, 0, none⟩ : Addr).add j) = some u := by
 intro j u hu;have e : (⟨g, 0, none⟩ : Addr).add j = ⟨g, j, none⟩ := by unfold Addr.add; split <;> simp_all
 rw [e];obtain ⟨c0, c1, c2, c3, c4, c5⟩ := H;rcases j with _ | _ | _ | _ | _ | _ | j
 ·rw [c0]; exact hu
 ·rw [c1]; exact hu
 ·rw [c2]; exact hu
 ·rw [c3]; exact hu
 ·rw [c4]; exact hu
 ·rw [c5]; exact hu
 ·simp [zbb] at hu
theorem yna : ∀ u ∈ zbb y, u.oneCell' = true := by intro u hu; simp [zbb] at hu; rcases hu with rfl | rfl | rfl | rfl | rfl | rfl <;> rfl
theorem OX.drew {l3 l4 l5 l7 : Bool} (H : OX w0 B Q O N1 N2 v0 v1 v2 f h ws T X K gz false false false false w) (S : OS w0 B Q O N1 N2) : OX w0 B Q O N1 N2 v0 v1 v2 f h ws T X K gz false false false false w.drew := .new ((H.pre rfl).below S (Below.refl _ _).drew) ((H.tk0 rfl).below (Below.refl _ _).drew) gz
end
end Go.Proofs.YtkejlnjnoiidnaaGreatDoor
end
