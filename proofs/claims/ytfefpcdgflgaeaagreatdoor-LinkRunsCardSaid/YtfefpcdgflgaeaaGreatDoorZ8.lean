/- chunk.Read says what unchunk says. Printed by gen_cread.py out of cread.src. -/
import Derived.Test.YtfefpcdgflgaeaaGreatDoorZ6
import Derived.Test.YtfefpcdgflgaeaaGreatDoorZ3
section
namespace Go.Proofs.YtfefpcdgflgaeaaGreatDoor
set_option linter.unusedSimpArgs false
set_option linter.unusedVariables false
open Go.RowKit As
theorem ck_ne {w : World} {B i j : Nat} {v u : Value} (h : w.cell? ⟨B, j, none⟩ = some u) (hij : i ≠ j) : (w.setCell ⟨B, i, none⟩ v).cell? ⟨B, j, none⟩ = some u := by
 rw [World.cell?_setCell_other _ _ _ _ (by intro h; injection h with _ h2; exact hij (by first | exact h2 | exact h2.symm | injection h2))]
 exact h
theorem ck_nb {w : World} {B C i j : Nat} {v u : Value} (h : w.cell? ⟨C, j, none⟩ = some u) (hij : B ≠ C) : (w.setCell ⟨B, i, none⟩ v).cell? ⟨C, j, none⟩ = some u := by
 rw [World.cell?_setCell_other _ _ _ _ (by intro h; injection h with h1 _; exact hij (by first | exact h1 | exact h1.symm))]
 exact h
/-- A piece in cells that may be written. -/
structure Ck (w : World) (B : Nat) (m t a : Int) (d : ByteArray) : Prop where
 c0 : w.cell? ⟨B, 0, none⟩ = some (.int .u32 m)
 c1 : w.cell? ⟨B, 1, none⟩ = some (.int .i64 t)
 c2 : w.cell? ⟨B, 2, none⟩ = some (.int .i64 a)
 c3 : w.cell? ⟨B, 3, none⟩ = some (.string d)
 f0 : w.frozen? ⟨B, 0, none⟩ = false
 f1 : w.frozen? ⟨B, 1, none⟩ = false
 f2 : w.frozen? ⟨B, 2, none⟩ = false
 f3 : w.frozen? ⟨B, 3, none⟩ = false
theorem Ck.lt {w : World} {B : Nat} {m t a : Int} {d : ByteArray} (h : Ck w B m t a d) : B < w.heap.size := cell_lt h.c0
theorem Ck.new (w : World) (m t a : Int) (d : ByteArray) : Ck (w.alloc (ckO m t a d)) w.heap.size m t a d := by
 refine ⟨?_, ?_, ?_, ?_, by simp, by simp, by simp, by simp⟩ <;> (rw [World.cell?_alloc_new]; rfl)
theorem Ck.below {w w' : World} {B : Nat} {m t a : Int} {d : ByteArray} (h : Ck w B m t a d) (hb : Below w.heap.size w w') : Ck w' B m t a d :=
 ⟨(hb.cell (cell_lt h.c0)).trans h.c0, (hb.cell (cell_lt h.c1)).trans h.c1, (hb.cell (cell_lt h.c2)).trans h.c2, (hb.cell (cell_lt h.c3)).trans h.c3, (hb.frozen (cell_lt h.c0)).trans h.f0, (hb.frozen (cell_lt h.c1)).trans h.f1, (hb.frozen (cell_lt h.c2)).trans h.f2, (hb.frozen (cell_lt h.c3)).trans h.f3⟩
theorem Ck.other {w : World} {B C i : Nat} {m t a : Int} {d : ByteArray} (h : Ck w B m t a d) (hn : C ≠ B) (v : Value) : Ck (w.setCell ⟨C, i, none⟩ v) B m t a d :=
 ⟨ck_nb h.c0 hn, ck_nb h.c1 hn, ck_nb h.c2 hn, ck_nb h.c3 hn, by simpa using h.f0, by simpa using h.f1, by simpa using h.f2, by simpa using h.f3⟩
theorem Ck.drew {w : World} {B : Nat} {m t a : Int} {d : ByteArray} (h : Ck w B m t a d) : Ck w.drew B m t a d := ⟨h.c0, h.c1, h.c2, h.c3, h.f0, h.f1, h.f2, h.f3⟩
theorem Ck.nam {w : World} {B : Nat} {m t a : Int} {d : ByteArray} (h : Ck w B m t a d) (x : Int) : Ck (w.setCell ⟨B, 0, none⟩ (.int .u32 x)) B x t a d :=
 ⟨World.cell?_setCell_same _ _ _ h.c0, ck_ne h.c1 (by omega), ck_ne h.c2 (by omega), ck_ne h.c3 (by omega), by simpa using h.f0, by simpa using h.f1, by simpa using h.f2, by simpa using h.f3⟩
theorem Ck.tot {w : World} {B : Nat} {m t a : Int} {d : ByteArray} (h : Ck w B m t a d) (x : Int) : Ck (w.setCell ⟨B, 1, none⟩ (.int .i64 x)) B m x a d :=
 ⟨ck_ne h.c0 (by omega), World.cell?_setCell_same _ _ _ h.c1, ck_ne h.c2 (by omega), ck_ne h.c3 (by omega), by simpa using h.f0, by simpa using h.f1, by simpa using h.f2, by simpa using h.f3⟩
theorem Ck.place {w : World} {B : Nat} {m t a : Int} {d : ByteArray} (h : Ck w B m t a d) (x : Int) : Ck (w.setCell ⟨B, 2, none⟩ (.int .i64 x)) B m t x d :=
 ⟨ck_ne h.c0 (by omega), ck_ne h.c1 (by omega), World.cell?_setCell_same _ _ _ h.c2, ck_ne h.c3 (by omega), by simpa using h.f0, by simpa using h.f1, by simpa using h.f2, by simpa using h.f3⟩
theorem Ck.dat {w : World} {B : Nat} {m t a : Int} {d : ByteArray} (h : Ck w B m t a d) (x : ByteArray) : Ck (w.setCell ⟨B, 3, none⟩ (.string x)) B m t a x :=
 ⟨ck_ne h.c0 (by omega), ck_ne h.c1 (by omega), ck_ne h.c2 (by omega), World.cell?_setCell_same _ _ _ h.c3, by simpa using h.f0, by simpa using h.f1, by simpa using h.f2, by simpa using h.f3⟩
/-- Four cells, written. -/
def put4 (w : World) (R : Nat) (m t a : Int) (d : ByteArray) : World :=
 (((w.setCell ⟨R, 0, none⟩ (.int .u32 m)).setCell ⟨R, 1, none⟩ (.int .i64 t)).setCell ⟨R, 2, none⟩ (.int .i64 a)).setCell ⟨R, 3, none⟩ (.string d)
theorem Ck.put {w : World} {B : Nat} {m t a m' t' a' : Int} {d d' : ByteArray} (h : Ck w B m t a d) : Ck (put4 w B m' t' a' d') B m' t' a' d' := (((h.nam m').tot t').place a').dat d'
theorem below_put4 {B : Nat} {a w : World} {R : Nat} {m' t' a' : Int} {d' : ByteArray} (h : Below B a w) (hs : B ≤ R) : Below B a (put4 w R m' t' a' d') :=
 (((h.setCell hs _).setCell hs _).setCell hs _).setCell hs _
def ckVal (x : Chk) : Value := ckV x.1 x.2.1 x.2.2.1 x.2.2.2
theorem ext2 (t : ByteArray) (p k : Nat) : (t.extract p t.size).extract k (t.extract p t.size).size = t.extract (p + k) t.size := by
 rw [ByteArray.extract_extract, ByteArray.size_extract]; congr 1; omega
theorem name_or' {a b c d : Nat} (ha : a < 256) (hb : b < 256) (hc : c < 256) (hd : d < 256) :
  bits BinOp.or IntKind.u32 (bits BinOp.or IntKind.u32 (bits BinOp.or IntKind.u32 (a : Int) ((b : Int) * 256)) ((c : Int) * 65536)) ((d : Int) * 16777216) = ((a + 256 * (b + 256 * (c + 256 * d)) : Nat) : Int) := by
 rw [show (b : Int) * 256 = ((b * 256 : Nat) : Int) by omega, show (c : Int) * 65536 = ((c * 65536 : Nat) : Int) by omega, show (d : Int) * 16777216 = ((d * 16777216 : Nat) : Int) by omega]
 exact name_or ha hb hc hd
theorem u32_nat {n : Nat} (h : n < 4294967296) : IntKind.u32.wrap (n : Int) = (n : Int) := by rw [IntKind.wrap_u32]; omega
theorem u32_mul {n k : Nat} (h : n * k < 4294967296) : IntKind.u32.wrap ((n : Int) * (k : Int)) = (n : Int) * (k : Int) := by
 have : (n : Int) * (k : Int) = ((n * k : Nat) : Int) := by simp
 rw [this]; exact u32_nat h
/-- The region that makes the piece: its variable is there (l19), it is filled (l20). -/
structure DI (w0 : World) (NM g : Nat) (l19 l20 : Bool) (w : World) : Prop where
 bel : Below w0.heap.size w0 w
 no : l20 = false → l19 = true → w0.heap.size ≤ g ∧ Ck w g 0 0 0 ⟨#[]⟩
 yes : l20 = true → w0.heap.size ≤ g ∧ Ck w g NM 0 0 ⟨#[]⟩
 ord : l20 = true → l19 = true
theorem DI.make {w0 w : World} {NM g : Nat} {l19 l20 : Bool} (h : DI w0 NM g l19 l20 w) (h0 : l19 = false) : DI w0 NM w.heap.size true l20 (w.alloc (ckO 0 0 0 ⟨#[]⟩)) := by
 rcases l20 with _ | _
 ·exact ⟨h.bel.alloc h.bel.size _, fun _ _ => ⟨h.bel.size, Ck.new w 0 0 0 ⟨#[]⟩⟩, fun h => (by cases h), fun h => (by cases h)⟩
 ·rw [h.ord rfl] at h0; cases h0
theorem DI.fill {w0 w : World} {NM g : Nat} (h : DI w0 NM g true false w) : DI w0 NM g true true (put4 w g NM 0 0 ⟨#[]⟩) :=
 ⟨below_put4 h.bel (h.no rfl rfl).1, fun h => (by cases h), fun _ => ⟨(h.no rfl rfl).1, (h.no rfl rfl).2.put⟩, fun _ => rfl⟩
def crV (t : ByteArray) (B1 B2 B3 B4 NM g : Nat) : Nat → Value
 | 0 => .string t
 | 1 => .int .u8 (B1 : Int)
 | 2 => .int .u32 (B1 : Int)
 | 3 => .string t
 | 4 => .int .u8 (B2 : Int)
 | 5 => .int .u32 (B2 : Int)
 | 6 => .int .u32 ((B2 : Int) * 256)
 | 7 => .int .u32 (bits BinOp.or IntKind.u32 (B1 : Int) ((B2 : Int) * 256))
 | 8 => .string t
 | 9 => .int .u8 (B3 : Int)
 | 10 => .int .u32 (B3 : Int)
 | 11 => .int .u32 ((B3 : Int) * 65536)
 | 12 => .int .u32 (bits BinOp.or IntKind.u32 (bits BinOp.or IntKind.u32 (B1 : Int) ((B2 : Int) * 256)) ((B3 : Int) * 65536))
 | 13 => .string t
 | 14 => .int .u8 (B4 : Int)
 | 15 => .int .u32 (B4 : Int)
 | 16 => .int .u32 ((B4 : Int) * 16777216)
 | 17 => .int .u32 (NM : Int)
 | 18 => .agg #[.int .u32 (NM : Int), .int .i64 0, .int .i64 0, .string ⟨#[]⟩]
 | 19 => .pointer (some ⟨g, 0, none⟩)
 | _ => undef
/-- Both numbers, one behind the other. -/
def RdRel (t : ByteArray) (NM : Nat) (w : World) (g : Nat) (tv iv : Value) (wr : World) : Prop :=
 Below w.heap.size w wr ∧ Ck wr w.heap.size 0 0 0 ⟨#[]⟩ ∧ (
  (iv = .int .i64 0 ∧ tv = .string (t.extract 5 t.size) ∧ Ck wr g NM 0 0 ⟨#[]⟩) ∨
  (iv = .int .i64 1 ∧ ∃ n k : Nat, vat t 5 4096 = (n, k, 0) ∧ 5 + k ≤ t.size ∧ tv = .string (t.extract (5 + k) t.size) ∧ Ck wr g NM n 0 ⟨#[]⟩) ∨
  (iv = .int .i64 2 ∧ ∃ n k m j : Nat, vat t 5 4096 = (n, k, 0) ∧ vat t (5 + k) 4096 = (m, j, 0) ∧ 5 + k + j ≤ t.size ∧ tv = .string (t.extract (5 + k + j) t.size) ∧ Ck wr g NM n m ⟨#[]⟩))
theorem ix0 (a b : Value) (w : World) : (Instr.index 122 (.agg #[a, b]) (.int .i64 0)).run Tryz.prog w = .ok a w := by kernel_rfl
theorem ix1 (a b : Value) (w : World) : (Instr.index 122 (.agg #[a, b]) (.int .i64 1)).run Tryz.prog w = .ok b w := by kernel_rfl
set_option maxHeartbeats 4000000 in
set_option maxRecDepth 100000 in
theorem cread_any (s : ByteArray) (w : World) (hs : s.size ≤ 1000000) :
  Calls Tryz.prog 34 #[.string s] w fun r w' => r = .returned (.tuple #[ckVal (unchunk s).1, errV (unchunk s).2]) ∧ Below w.heap.size w w' := by
 have hR := Ck.new w 0 0 0 ⟨#[]⟩
 have b0 := below1 w (ckO 0 0 0 ⟨#[]⟩)
 have hz0 := Lib.hid (show unchunk s = if (openOf s).2 ≠ 0 then (chk0, (openOf s).2) else uncut (openOf s).1 from rfl)
 have hsay := open_says s
 go_enter Tryz.func34, Tryz.ntmps34
 go_wp2_with fail
 generalize hWW : w.alloc (ckO 0 0 0 ⟨#[]⟩) = W at *
 clear hWW
 refine (open_any s _ hs).mono ?_
 rintro r w1 ⟨rfl, hb1⟩
 replace hR := hR.below hb1
 have b1 := b0.trans (hb1.mono b0.size)
 have lt1 := hR.lt
 clear b0 hb1
 generalize openOf s = y at *
 obtain ⟨t, e⟩ := y
 simp only at *
 by_cases he : e = 0
 ·subst he
  rw [errV_zero]
  have hr := Lib.hid (hz0.out.trans (if_neg (by simp)))
  clear hz0
  have hts : t.size ≤ 1000000 := by
   rcases hsay with h | h | h
   ·omega
   ·injection h with _ h; omega
   ·injection h with _ h; omega
  clear hsay
  by_cases h0 : t.size = 0 ∨ byteAt t 0 ≠ 67
  ·have hr2 := Lib.hid (hr.out.trans (uncut_name h0))
   by_cases hn : t.size = 0
   ·have d0 : t.toList.isEmpty = true := by rw [str_empty']; simpa using hn
    clear h0 hn hr
    have hZ := hR.put (m' := 0) (t' := 0) (a' := 0) (d' := ⟨#[]⟩)
    obtain ⟨u0, u1, u2, u3, j0, j1, j2, j3⟩ := hR
    go_wp2
    unfold put4 at hZ
    obtain ⟨z0, z1, z2, z3, _, _, _, _⟩ := hZ
    exact bodyPost_ret (v := .tuple #[.agg #[.int .u32 0, .int .i64 0, .int .i64 0, .string ⟨#[]⟩], .iface 34 (.int .i64 5)]) (by simp [results, Tryz.results34, go_sem, z0, z1, z2, z3]) rfl ⟨by rw [hr2.out]; rfl, below_put4 b1 (Nat.le_refl _)⟩
   ·have d0 : t.toList.isEmpty = false := by rw [str_empty']; simpa using hn
    have hp : 0 < t.size := by omega
    have d1 : ((t[0].toNat : Int) != 67) = true := by
     rw [bne_iff_ne]
     have := byteAt_eq t 0 hp
     omega
    clear h0 hn hr
    have hZ := hR.put (m' := 0) (t' := 0) (a' := 0) (d' := ⟨#[]⟩)
    obtain ⟨u0, u1, u2, u3, j0, j1, j2, j3⟩ := hR
    go_wp2
    unfold put4 at hZ
    obtain ⟨z0, z1, z2, z3, _, _, _, _⟩ := hZ
    exact bodyPost_ret (v := .tuple #[.agg #[.int .u32 0, .int .i64 0, .int .i64 0, .string ⟨#[]⟩], .iface 34 (.int .i64 5)]) (by simp [results, Tryz.results34, go_sem, z0, z1, z2, z3]) rfl ⟨by rw [hr2.out]; rfl, below_put4 b1 (Nat.le_refl _)⟩
  ·have hp : 0 < t.size := by omega
   have d0 : t.toList.isEmpty = false := by rw [str_empty']; simp only [decide_eq_false_iff_not]; omega
   have d1 : ((t[0].toNat : Int) != 67) = false := by
    rw [bne_eq_false_iff_eq]
    have := byteAt_eq t 0 hp
    omega
   by_cases h5 : t.size < 5
   ·have hr2 := Lib.hid (hr.out.trans (uncut_short h0 h5))
    have e5 : decide (t.size < 5) = true := by simpa using h5
    have e5' : decide ((t.size : Int) < 5) = true := by simp only [decide_eq_true_eq]; omega
    clear h0 hr h5
    have hZ := hR.put (m' := 0) (t' := 0) (a' := 0) (d' := ⟨#[]⟩)
    obtain ⟨u0, u1, u2, u3, j0, j1, j2, j3⟩ := hR
    go_wp2
    unfold put4 at hZ
    obtain ⟨z0, z1, z2, z3, _, _, _, _⟩ := hZ
    exact bodyPost_ret (v := .tuple #[.agg #[.int .u32 0, .int .i64 0, .int .i64 0, .string ⟨#[]⟩], .iface 34 (.int .i64 7)]) (by simp [results, Tryz.results34, go_sem, z0, z1, z2, z3]) rfl ⟨by rw [hr2.out]; rfl, below_put4 b1 (Nat.le_refl _)⟩
   ·have e5 : decide (t.size < 5) = false := by simpa using h5
    have e5' : decide ((t.size : Int) < 5) = false := by simp only [decide_eq_false_iff_not]; omega
    have H0 := Lib.hid h0
    have H5 := Lib.hid h5
    have p1 : 1 < t.size := by omega
    have p2 : 2 < t.size := by omega
    have p3 : 3 < t.size := by omega
    have p4 : 4 < t.size := by omega
    have p5 : 5 ≤ t.size := by omega
    have hN := name_or' (byteAt_lt t 1) (byteAt_lt t 2) (byteAt_lt t 3) (byteAt_lt t 4)
    have q1 := byteAt_eq t 1 p1
    have q2 := byteAt_eq t 2 p2
    have q3 := byteAt_eq t 3 p3
    have q4 := byteAt_eq t 4 p4
    have y1 := byteAt_lt t 1
    have y2 := byteAt_lt t 2
    have y3 := byteAt_lt t 3
    have y4 := byteAt_lt t 4
    have hnm := Lib.hid (show nameOf t = byteAt t 1 + 256 * (byteAt t 2 + 256 * (byteAt t 3 + 256 * byteAt t 4)) from rfl)
    obtain ⟨NM, hNM⟩ : ∃ x, x = nameOf t := ⟨_, rfl⟩
    rw [← hnm.out, ← hNM] at hN
    have HNM := Lib.hid hNM
    clear hNM hnm
    clear h0 h5
    generalize byteAt t 1 = B1 at *
    generalize byteAt t 2 = B2 at *
    generalize byteAt t 3 = B3 at *
    generalize byteAt t 4 = B4 at *
    have i1 : (1 : Int) < (t.size : Int) := by omega
    have i2 : (2 : Int) < (t.size : Int) := by omega
    have i3 : (3 : Int) < (t.size : Int) := by omega
    have i4 : (4 : Int) < (t.size : Int) := by omega
    have q1' : ((t[1].toNat : Nat) : Int) = (B1 : Int) := by rw [← q1]
    have q2' : ((t[2].toNat : Nat) : Int) = (B2 : Int) := by rw [← q2]
    have q3' : ((t[3].toNat : Nat) : Int) = (B3 : Int) := by rw [← q3]
    have q4' : ((t[4].toNat : Nat) : Int) = (B4 : Int) := by rw [← q4]
    have v1 := u32_nat (n := B1) (by omega)
    have v2 := u32_nat (n := B2) (by omega)
    have v3 := u32_nat (n := B3) (by omega)
    have v4 := u32_nat (n := B4) (by omega)
    have m2 : IntKind.u32.wrap ((B2 : Int) * 256) = (B2 : Int) * 256 := u32_mul (n := B2) (k := 256) (by omega)
    have m3 : IntKind.u32.wrap ((B3 : Int) * 65536) = (B3 : Int) * 65536 := u32_mul (n := B3) (k := 65536) (by omega)
    have m4 : IntKind.u32.wrap ((B4 : Int) * 16777216) = (B4 : Int) * 16777216 := u32_mul (n := B4) (k := 16777216) (by omega)
    clear q1 q2 q3 q4 y1 y2 y3 y4
    go_wp2_with fail
    refine Flow.wp_region_flow' (by kernel_rfl) (by kernel_rfl) (by kernel_rfl) 92 rfl (by kernel_rfl) (crV t B1 B2 B3 B4 NM) (fun g L wz => DI w1 NM g (L 19) (L 20) wz) 0 ⟨(Below.refl _ _).drew, fun _ h => (by cases h), fun h => (by cases h), fun h => (by cases h)⟩ ⟨?_, ?_, ?_, ?_, ?_, ?_, ?_, ?_, ?_, ?_, ?_, ?_, ?_, ?_, ?_, ?_, ?_, ?_, ?_, ?_, ?_, trivial⟩ ?_
    ·intro g L wz K ρ hc0 hf0 hF hO hi hd hC hK
     have e4 : ρ (.tmp 4) = .string t := hO 4 (by kernel_rfl)
     simp [go_sem, Flow.yl_value, Flow.yl_skip, Flow.yl_enter, hc0, hf0, e4]
     exact hK g wz hC (fun _ _ => rfl)
    ·intro g L wz K ρ hc0 hf0 hF hO hi hd hC hK
     have d0 : L 0 = true := hd ⟨0, .data⟩ (by simp) rfl
     have e39 : ρ (.tmp 39) = .string t := hF 39 0 (by kernel_rfl) d0
     simp [go_sem, Flow.yl_value, Flow.yl_skip, Flow.yl_enter, hc0, hf0, e39, i1, p1, q1']
     exact hK g wz hC (fun _ _ => rfl)
    ·intro g L wz K ρ hc0 hf0 hF hO hi hd hC hK
     have d1 : L 1 = true := hd ⟨1, .data⟩ (by simp) rfl
     have e40 : ρ (.tmp 40) = .int .u8 (B1 : Int) := hF 40 1 (by kernel_rfl) d1
     simp [go_sem, Flow.yl_value, Flow.yl_skip, Flow.yl_enter, hc0, hf0, e40, v1]
     exact hK g wz hC (fun _ _ => rfl)
    ·intro g L wz K ρ hc0 hf0 hF hO hi hd hC hK
     have e4 : ρ (.tmp 4) = .string t := hO 4 (by kernel_rfl)
     simp [go_sem, Flow.yl_value, Flow.yl_skip, Flow.yl_enter, hc0, hf0, e4]
     exact hK g wz hC (fun _ _ => rfl)
    ·intro g L wz K ρ hc0 hf0 hF hO hi hd hC hK
     have d3 : L 3 = true := hd ⟨3, .data⟩ (by simp) rfl
     have e42 : ρ (.tmp 42) = .string t := hF 42 3 (by kernel_rfl) d3
     simp [go_sem, Flow.yl_value, Flow.yl_skip, Flow.yl_enter, hc0, hf0, e42, i2, p2, q2']
     exact hK g wz hC (fun _ _ => rfl)
    ·intro g L wz K ρ hc0 hf0 hF hO hi hd hC hK
     have d4 : L 4 = true := hd ⟨4, .data⟩ (by simp) rfl
     have e43 : ρ (.tmp 43) = .int .u8 (B2 : Int) := hF 43 4 (by kernel_rfl) d4
     simp [go_sem, Flow.yl_value, Flow.yl_skip, Flow.yl_enter, hc0, hf0, e43, v2]
     exact hK g wz hC (fun _ _ => rfl)
    ·intro g L wz K ρ hc0 hf0 hF hO hi hd hC hK
     have d5 : L 5 = true := hd ⟨5, .data⟩ (by simp) rfl
     have e44 : ρ (.tmp 44) = .int .u32 (B2 : Int) := hF 44 5 (by kernel_rfl) d5
     simp [go_sem, Flow.yl_value, Flow.yl_skip, Flow.yl_enter, hc0, hf0, e44, m2]
     exact hK g wz hC (fun _ _ => rfl)
    ·intro g L wz K ρ hc0 hf0 hF hO hi hd hC hK
     have d2 : L 2 = true := hd ⟨2, .data⟩ (by simp) rfl
     have e41 : ρ (.tmp 41) = .int .u32 (B1 : Int) := hF 41 2 (by kernel_rfl) d2
     have d6 : L 6 = true := hd ⟨6, .data⟩ (by simp) rfl
     have e45 : ρ (.tmp 45) = .int .u32 ((B2 : Int) * 256) := hF 45 6 (by kernel_rfl) d6
     simp [go_sem, Flow.yl_value, Flow.yl_skip, Flow.yl_enter, hc0, hf0, e41, e45]
     exact hK g wz hC (fun _ _ => rfl)
    ·intro g L wz K ρ hc0 hf0 hF hO hi hd hC hK
     have e4 : ρ (.tmp 4) = .string t := hO 4 (by kernel_rfl)
     simp [go_sem, Flow.yl_value, Flow.yl_skip, Flow.yl_enter, hc0, hf0, e4]
     exact hK g wz hC (fun _ _ => rfl)
    ·intro g L wz K ρ hc0 hf0 hF hO hi hd hC hK
     have d8 : L 8 = true := hd ⟨8, .data⟩ (by simp) rfl
     have e47 : ρ (.tmp 47) = .string t := hF 47 8 (by kernel_rfl) d8
     simp [go_sem, Flow.yl_value, Flow.yl_skip, Flow.yl_enter, hc0, hf0, e47, i3, p3, q3']
     exact hK g wz hC (fun _ _ => rfl)
    ·intro g L wz K ρ hc0 hf0 hF hO hi hd hC hK
     have d9 : L 9 = true := hd ⟨9, .data⟩ (by simp) rfl
     have e48 : ρ (.tmp 48) = .int .u8 (B3 : Int) := hF 48 9 (by kernel_rfl) d9
     simp [go_sem, Flow.yl_value, Flow.yl_skip, Flow.yl_enter, hc0, hf0, e48, v3]
     exact hK g wz hC (fun _ _ => rfl)
    ·intro g L wz K ρ hc0 hf0 hF hO hi hd hC hK
     have d10 : L 10 = true := hd ⟨10, .data⟩ (by simp) rfl
     have e49 : ρ (.tmp 49) = .int .u32 (B3 : Int) := hF 49 10 (by kernel_rfl) d10
     simp [go_sem, Flow.yl_value, Flow.yl_skip, Flow.yl_enter, hc0, hf0, e49, m3]
     exact hK g wz hC (fun _ _ => rfl)
    ·intro g L wz K ρ hc0 hf0 hF hO hi hd hC hK
     have d7 : L 7 = true := hd ⟨7, .data⟩ (by simp) rfl
     have e46 : ρ (.tmp 46) = .int .u32 (bits BinOp.or IntKind.u32 (B1 : Int) ((B2 : Int) * 256)) := hF 46 7 (by kernel_rfl) d7
     have d11 : L 11 = true := hd ⟨11, .data⟩ (by simp) rfl
     have e50 : ρ (.tmp 50) = .int .u32 ((B3 : Int) * 65536) := hF 50 11 (by kernel_rfl) d11
     simp [go_sem, Flow.yl_value, Flow.yl_skip, Flow.yl_enter, hc0, hf0, e46, e50]
     exact hK g wz hC (fun _ _ => rfl)
    ·intro g L wz K ρ hc0 hf0 hF hO hi hd hC hK
     have e4 : ρ (.tmp 4) = .string t := hO 4 (by kernel_rfl)
     simp [go_sem, Flow.yl_value, Flow.yl_skip, Flow.yl_enter, hc0, hf0, e4]
     exact hK g wz hC (fun _ _ => rfl)
    ·intro g L wz K ρ hc0 hf0 hF hO hi hd hC hK
     have d13 : L 13 = true := hd ⟨13, .data⟩ (by simp) rfl
     have e52 : ρ (.tmp 52) = .string t := hF 52 13 (by kernel_rfl) d13
     simp [go_sem, Flow.yl_value, Flow.yl_skip, Flow.yl_enter, hc0, hf0, e52, i4, p4, q4']
     exact hK g wz hC (fun _ _ => rfl)
    ·intro g L wz K ρ hc0 hf0 hF hO hi hd hC hK
     have d14 : L 14 = true := hd ⟨14, .data⟩ (by simp) rfl
     have e53 : ρ (.tmp 53) = .int .u8 (B4 : Int) := hF 53 14 (by kernel_rfl) d14
     simp [go_sem, Flow.yl_value, Flow.yl_skip, Flow.yl_enter, hc0, hf0, e53, v4]
     exact hK g wz hC (fun _ _ => rfl)
    ·intro g L wz K ρ hc0 hf0 hF hO hi hd hC hK
     have d15 : L 15 = true := hd ⟨15, .data⟩ (by simp) rfl
     have e54 : ρ (.tmp 54) = .int .u32 (B4 : Int) := hF 54 15 (by kernel_rfl) d15
     simp [go_sem, Flow.yl_value, Flow.yl_skip, Flow.yl_enter, hc0, hf0, e54, m4]
     exact hK g wz hC (fun _ _ => rfl)
    ·intro g L wz K ρ hc0 hf0 hF hO hi hd hC hK
     have d12 : L 12 = true := hd ⟨12, .data⟩ (by simp) rfl
     have e51 : ρ (.tmp 51) = .int .u32 (bits BinOp.or IntKind.u32 (bits BinOp.or IntKind.u32 (B1 : Int) ((B2 : Int) * 256)) ((B3 : Int) * 65536)) := hF 51 12 (by kernel_rfl) d12
     have d16 : L 16 = true := hd ⟨16, .data⟩ (by simp) rfl
     have e55 : ρ (.tmp 55) = .int .u32 ((B4 : Int) * 16777216) := hF 55 16 (by kernel_rfl) d16
     simp [go_sem, Flow.yl_value, Flow.yl_skip, Flow.yl_enter, hc0, hf0, e51, e55, hN]
     exact hK g wz hC (fun _ _ => rfl)
    ·intro g L wz K ρ hc0 hf0 hF hO hi hd hC hK
     have d17 : L 17 = true := hd ⟨17, .data⟩ (by simp) rfl
     have e56 : ρ (.tmp 56) = .int .u32 (NM : Int) := hF 56 17 (by kernel_rfl) d17
     simp [go_sem, Flow.yl_value, Flow.yl_skip, Flow.yl_enter, hc0, hf0, e56]
     exact hK g wz hC (fun _ _ => rfl)
    ·intro g L wz K ρ hc0 hf0 hF hO hi hd hC hK
     simp [go_sem, Flow.yl_value, Flow.yl_skip, Flow.yl_enter, hc0, hf0]
     refine hK wz.heap.size _ (hC.make hi) ?_
     intro j hj; unfold crV; split <;> first | rfl | (rw [hi] at hj; cases hj)
    ·intro g L wz K ρ hc0 hf0 hF hO hi hd hC hK
     have d19 : L 19 = true := hd ⟨19, .data⟩ (by simp) rfl
     have e6 : ρ (.tmp 6) = .pointer (some ⟨g, 0, none⟩) := hF 6 19 (by kernel_rfl) d19
     have d18 : L 18 = true := hd ⟨18, .data⟩ (by simp) rfl
     have e57 : ρ (.tmp 57) = .agg #[.int .u32 (NM : Int), .int .i64 0, .int .i64 0, .string ⟨#[]⟩] := hF 57 18 (by kernel_rfl) d18
     rw [d19, hi] at hC
     have hC0 := (hC.no rfl rfl).2
     obtain ⟨u0, u1, u2, u3, j0, j1, j2, j3⟩ := hC0
     simp [go_sem, Flow.yl_value, Flow.yl_skip, Flow.yl_enter, hc0, hf0, e6, e57, u0, u1, u2, u3, j0, j1, j2, j3]
     refine hK g _ ?_ (fun _ _ => rfl)
     show DI w1 NM g (L 19) true _
     rw [d19]
     exact hC.fill
    ·intro g L wz hL hC
     obtain ⟨hg, hCk⟩ := hC.yes (hL 20 (by decide))
     have hbF := hC.bel
     have hRz := hR.below hbF
     have bz := b1.trans (hbF.mono b1.size)
     have hgR : w.heap.size ≠ g := by omega
     have hgL : w.heap.size < g := by omega
     clear hC hR hbF hg hL
     simp only [Flow.putAll, crV]
     go_wp2
     go_loopw [4, 8, 9, 10, 11, 63] (fun tv _ _ _ _ iv wr => RdRel t NM w g tv iv wr) (fun _ _ _ _ _ iv _ => 2 - (intOf iv).toNat)
     case atStart => exact ⟨bz, hRz, .inl ⟨rfl, rfl, hCk⟩⟩
     case round =>
      obtain ⟨hbel, hRr, hcase⟩ := hrel
      have hi0 := ix0
      have hi1 := ix1
      clear bz hRz hCk
      rcases hcase with ⟨rfl, rfl, hC⟩ | ⟨rfl, n, k, ha, hk, rfl, hC⟩ | ⟨rfl, n, k, m, j, ha, hb, hk, rfl, hC⟩
      ·obtain ⟨n, k, e, ha, hx⟩ := vat_of t 5 4096
       have lR : (t.extract 5 t.size).size = t.size - 5 := by rw [ByteArray.size_extract]; omega
       have hl : (t.extract 5 t.size).size ≤ maxLen := by unfold maxLen; omega
       have hv := Lib.hid (show vint (t.extract 5 t.size).data.toList 4096 = (n, k, e) from ha)
       have hx2 := Lib.hid (show (t.extract 5 t.size).extract k (t.size - 5) = t.extract (5 + k) t.size by rw [← ext2, lR])
       have HA := Lib.hid ha
       clear ha
       generalize t.extract 5 t.size = R at *
       go_wp2_with fail
       refine (vint_any R 4096 _ hl (by omega)).mono ?_
       rintro r w' ⟨rfl, rfl⟩
       rw [hv.out]
       simp only
       rcases hx with ⟨rfl, x1, x2, x3, x4⟩ | ⟨he, rfl, rfl⟩
       ·rw [errV_zero]
        have hCn := hC.tot (n : Int)
        have hRn := hRr.other (C := g) (i := 1) (Ne.symm hgR) (.int .i64 (n : Int))
        have bn := hbel.setCell (p := ⟨g, 1, none⟩) (Nat.le_of_lt hgL) (.int .i64 (n : Int))
        obtain ⟨u0, u1, u2, u3, j0, j1, j2, j3⟩ := hC
        have k0 : (0 : Int) ≤ (k : Int) := by omega
        have k1 : (k : Int) ≤ (R.size : Int) := by omega
        go_wp2
        go_region
        all_goals
         go_wp2
         go_roundw
        case rel => exact ⟨bn.drew, hRn.drew, .inr (.inl ⟨rfl, n, k, HA.out, by omega, by rw [hx2.out], hCn.drew⟩)⟩
        case measure => simp [intOf]
       ·have hr2 := Lib.hid (hr.out.trans (uncut_one H0.out H5.out HA.out he))
        have HE := Lib.hid he
        rw [errV_of he]
        clear he
        have hZ := hRr.put (m' := 0) (t' := 0) (a' := 0) (d' := ⟨#[]⟩)
        obtain ⟨u0, u1, u2, u3, j0, j1, j2, j3⟩ := hRr
        go_wp2
        unfold put4 at hZ
        obtain ⟨z0, z1, z2, z3, _, _, _, _⟩ := hZ
        exact bodyPost_ret (v := .tuple #[.agg #[.int .u32 0, .int .i64 0, .int .i64 0, .string ⟨#[]⟩], .iface 34 (.int .i64 e)]) (by simp [results, Tryz.results34, go_sem, z0, z1, z2, z3]) rfl ⟨by rw [hr2.out, errV_of HE.out]; rfl, below_put4 hbel (Nat.le_refl _)⟩
      ·obtain ⟨m, j, e, hb, hx⟩ := vat_of t (5 + k) 4096
       have lR : (t.extract (5 + k) t.size).size = t.size - (5 + k) := by rw [ByteArray.size_extract]; omega
       have hl : (t.extract (5 + k) t.size).size ≤ maxLen := by unfold maxLen; omega
       have hv := Lib.hid (show vint (t.extract (5 + k) t.size).data.toList 4096 = (m, j, e) from hb)
       have hx2 := Lib.hid (show (t.extract (5 + k) t.size).extract j (t.size - (5 + k)) = t.extract (5 + k + j) t.size by rw [← lR]; exact ext2 t (5 + k) j)
       have HA := Lib.hid ha
       have HB := Lib.hid hb
       clear ha hb
       generalize t.extract (5 + k) t.size = R at *
       go_wp2_with fail
       refine (vint_any R 4096 _ hl (by omega)).mono ?_
       rintro r w' ⟨rfl, rfl⟩
       rw [hv.out]
       simp only
       rcases hx with ⟨rfl, x1, x2, x3, x4⟩ | ⟨he, rfl, rfl⟩
       ·rw [errV_zero]
        have hCn := hC.place (m : Int)
        have hRn := hRr.other (C := g) (i := 2) (Ne.symm hgR) (.int .i64 (m : Int))
        have bn := hbel.setCell (p := ⟨g, 2, none⟩) (Nat.le_of_lt hgL) (.int .i64 (m : Int))
        obtain ⟨u0, u1, u2, u3, j0, j1, j2, j3⟩ := hC
        have k0 : (0 : Int) ≤ (j : Int) := by omega
        have k1 : (j : Int) ≤ (R.size : Int) := by omega
        go_wp2
        go_region
        all_goals
         go_wp2
         go_roundw
        case rel => exact ⟨bn.drew, hRn.drew, .inr (.inr ⟨rfl, n, k, m, j, HA.out, HB.out, by omega, by rw [hx2.out], hCn.drew⟩)⟩
        case measure => simp [intOf]
       ·have hr2 := Lib.hid (hr.out.trans (uncut_two H0.out H5.out HA.out HB.out he))
        have HE := Lib.hid he
        rw [errV_of he]
        clear he
        have hZ := hRr.put (m' := 0) (t' := 0) (a' := 0) (d' := ⟨#[]⟩)
        obtain ⟨u0, u1, u2, u3, j0, j1, j2, j3⟩ := hRr
        go_wp2
        unfold put4 at hZ
        obtain ⟨z0, z1, z2, z3, _, _, _, _⟩ := hZ
        exact bodyPost_ret (v := .tuple #[.agg #[.int .u32 0, .int .i64 0, .int .i64 0, .string ⟨#[]⟩], .iface 34 (.int .i64 e)]) (by simp [results, Tryz.results34, go_sem, z0, z1, z2, z3]) rfl ⟨by rw [hr2.out, errV_of HE.out]; rfl, below_put4 hbel (Nat.le_refl _)⟩
      ·have lD : (t.extract (5 + k + j) t.size).size = t.size - (5 + k + j) := by rw [ByteArray.size_extract]; omega
       have HA := Lib.hid ha
       have HB := Lib.hid hb
       clear ha hb
       obtain ⟨D, hD⟩ : ∃ D, D = t.extract (5 + k + j) t.size := ⟨_, rfl⟩
       rw [← hD] at lD ⊢
       have HD := Lib.hid hD
       clear hD
       have hCd := hC.dat D
       have hRd := hRr.other (C := g) (i := 3) (Ne.symm hgR) (.string D)
       have bd := hbel.setCell (p := ⟨g, 3, none⟩) (Nat.le_of_lt hgL) (.string D)
       obtain ⟨u0, u1, u2, u3, j0, j1, j2, j3⟩ := hC
       have HCd := hCd
       obtain ⟨y0, y1, y2, y3, _, _, _, _⟩ := hCd
       go_wp2_with fail
       refine (ckright_any (NM : Int) (n : Int) (m : Int) D _).mono ?_
       rintro r w' ⟨rfl, hb'⟩
       rw [lD]
       have hRe := hRd.below hb'
       have hCe := HCd.below hb'
       have be := bd.trans (hb'.mono bd.size)
       by_cases hz : chkRight (n : Int) (m : Int) (t.size - (5 + k + j)) = 0
       ·have hr2 := Lib.hid (hr.out.trans (uncut_good H0.out H5.out HA.out HB.out hz))
        rw [hz, errV_zero]
        clear hz
        have hZ := hRe.put (m' := (NM : Int)) (t' := (n : Int)) (a' := (m : Int)) (d' := D)
        obtain ⟨x0, x1, x2, x3, i0, i1, i2, i3⟩ := hRe
        obtain ⟨v0, v1, v2, v3, _, _, _, _⟩ := hCe
        go_wp2
        unfold put4 at hZ
        obtain ⟨z0, z1, z2, z3, _, _, _, _⟩ := hZ
        exact bodyPost_ret (v := .tuple #[.agg #[.int .u32 (NM : Int), .int .i64 (n : Int), .int .i64 (m : Int), .string D], .nilIface]) (by simp [results, Tryz.results34, go_sem, z0, z1, z2, z3]) rfl ⟨by rw [hr2.out, HD.out, HNM.out]; rfl, below_put4 be (Nat.le_refl _)⟩
       ·have hr2 := Lib.hid (hr.out.trans (uncut_bad H0.out H5.out HA.out HB.out hz))
        have HE := Lib.hid hz
        rw [errV_of hz]
        clear hz
        have hZ := hRe.put (m' := 0) (t' := 0) (a' := 0) (d' := ⟨#[]⟩)
        obtain ⟨x0, x1, x2, x3, i0, i1, i2, i3⟩ := hRe
        go_wp2
        unfold put4 at hZ
        obtain ⟨z0, z1, z2, z3, _, _, _, _⟩ := hZ
        exact bodyPost_ret (v := .tuple #[.agg #[.int .u32 0, .int .i64 0, .int .i64 0, .string ⟨#[]⟩], .iface 34 (.int .i64 (chkRight (n : Int) (m : Int) (t.size - (5 + k + j))))]) (by simp [results, Tryz.results34, go_sem, z0, z1, z2, z3]) rfl ⟨by rw [hr2.out, errV_of HE.out]; rfl, below_put4 be (Nat.le_refl _)⟩

 ·rw [errV_of he]
  have hr2 := Lib.hid (hz0.out.trans (if_pos he))
  have HQ := Lib.hid he
  clear he hz0 hsay
  have hZ := hR.put (m' := 0) (t' := 0) (a' := 0) (d' := ⟨#[]⟩)
  obtain ⟨u0, u1, u2, u3, j0, j1, j2, j3⟩ := hR
  go_wp2
  unfold put4 at hZ
  obtain ⟨z0, z1, z2, z3, _, _, _, _⟩ := hZ
  exact bodyPost_ret (v := .tuple #[.agg #[.int .u32 0, .int .i64 0, .int .i64 0, .string ⟨#[]⟩], .iface 34 (.int .i64 e)]) (by simp [results, Tryz.results34, go_sem, z0, z1, z2, z3]) rfl ⟨by rw [hr2.out]; rw [errV_of HQ.out]; rfl, below_put4 b1 (Nat.le_refl _)⟩
end Go.Proofs.YtfefpcdgflgaeaaGreatDoor
end
