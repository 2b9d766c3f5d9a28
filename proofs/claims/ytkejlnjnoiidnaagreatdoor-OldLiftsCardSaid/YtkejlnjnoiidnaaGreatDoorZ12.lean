/- What is thrown and caught in the reference; a scanner's next number. -/
import Derived.Test.YtkejlnjnoiidnaaGreatDoorZ2
import Derived.Test.YtkejlnjnoiidnaaGreatDoorZ10
import Derived.Test.YtkejlnjnoiidnaaGreatDoorZ3
import Derived.Deep.QuietTactic
import Derived.Deep.RegionWith
import Derived.BigQuiet
import Derived.Defers
import Derived.Recover
import Derived.Laws.Pointers
import Derived.Test.YtkejlnjnoiidnaaGreatDoorZ9
import Derived.Test.YtkejlnjnoiidnaaGreatDoorZ6
import Derived.Deep.RegionHeld3
set_option linter.unusedSimpArgs false
set_option linter.unusedVariables false
section
namespace Go.Proofs.YtkejlnjnoiidnaaGreatDoor
open Go.RowKit As
abbrev zvv (e p : Int) : Value := .iface 138 (.agg #[.int .i64 e, .int .i64 p])
abbrev zgw (e p : Int) : List PanicEntry := [{ v := zvv e p, recovered := false }]
set_option maxRecDepth 100000 in
theorem zbc (e p : Int) (w : World) : Calls Tryz.prog 53 #[.int .i64 e, .int .i64 p] w fun r w' => r = .panicked (zgw e p) ∧ w = w' := by
 go_enter Tryz.func53, Tryz.ntmps53;go_wp2;exact ⟨rfl, rfl, rfl⟩
theorem yfz (v : Value) (w : World) : (Instr.typeAssert (.iface 138 v) 20 138 true).run Tryz.prog w = .ok (.tuple #[v, .bool true]) w := by kernel_rfl
set_option maxHeartbeats 1000000 in
set_option maxRecDepth 100000 in
theorem zie (F : Nat) (x y e p : Int) (older : List PanicEntry) (w : World) (h0 : w.cell? ⟨F, 0, none⟩ = some (.int .i64 x)) (h1 : w.cell? ⟨F, 1, none⟩ = some (.int .i64 y)) (f0 : w.frozen? ⟨F, 0, none⟩ = false) (f1 : w.frozen? ⟨F, 1, none⟩ = false) :
  CallsD Tryz.prog 51 #[.pointer (some ⟨F, 0, none⟩)] (.panicking ({ v := zvv e p, recovered := false } :: older)) w fun r u' w' =>
   r = .returned (.tuple #[]) ∧ u' = .panicking ({ v := zvv e p, recovered := true } :: older) ∧ w' = ((w.alloc (.cells #[.int .i64 e, .int .i64 p] 138)).setCell ⟨F, 0, none⟩ (.int .i64 e)).setCell ⟨F, 1, none⟩ (.int .i64 p) := by
 have hta := yfz (.agg #[.int .i64 e, .int .i64 p]);refine callsD_of_wpS Tryz.func51 rfl fun c₀ cs hu => ?_
 apply wpS_seq;apply wpS_region;simp [wpOpsS, go_sem, recoverD, hu, Tryz.ntmps51, Exit.thenS];apply wpS_seq;apply wpS_region;simp [wpOpsS, go_sem, Exit.thenS];refine wpS_cond (t := true) (by simp [Act.eval, Array.replicate]) ?_;simp only [if_true];apply wpS_seq;apply wpS_region;simp [wpOpsS, go_sem, Exit.thenS, hta];apply wpS_seq;apply wpS_seq;apply wpS_region;simp [wpOpsS, go_sem, Exit.thenS];refine wpS_cond (t := false) (by simp [Act.eval, Array.replicate]) ?_;simp only [Bool.false_eq_true, if_false];refine wpS_of_wp (wp_skip ?_);simp only [Exit.thenS];apply wpS_region;have hb := zaa w (.cells #[.int .i64 e, .int .i64 p] 138);have k0 := (hb.cell (cell_lt h0)).trans h0;have k1 := (hb.cell (cell_lt h1)).trans h1;have g0 := (hb.frozen (p := ⟨F, 0, none⟩) (cell_lt h0)).trans f0;have g1 := (hb.frozen (p := ⟨F, 1, none⟩) (cell_lt h1)).trans f1;simp [wpOpsS, go_sem, k0, k1, g0, g1, bodyPostS, results, Tryz.results51]
set_option maxHeartbeats 1000000 in
set_option maxRecDepth 100000 in
theorem zgj (F : Nat) (w : World) :
  CallsD Tryz.prog 51 #[.pointer (some ⟨F, 0, none⟩)] .returning w fun r u' w' => r = .returned (.tuple #[]) ∧ u' = .returning ∧ w' = w := by
 refine callsD_of_wpS Tryz.func51 rfl fun c₀ cs hu => ?_
 apply wpS_seq;apply wpS_region;simp [wpOpsS, go_sem, recoverD, hu, Tryz.ntmps51, Exit.thenS];apply wpS_seq;apply wpS_region;simp [wpOpsS, go_sem, Exit.thenS];refine wpS_cond (t := false) (by simp [Act.eval, Array.replicate]) ?_;simp only [Bool.false_eq_true, if_false];refine wpS_of_wp (wp_skip ?_);cases c₀
 simp_all [bodyPostS, results, Tryz.results51]
structure Sc (w : World) (B : Nat) (s : ByteArray) (p : Nat) : Prop where
 c0 : w.cell? ⟨B, 0, none⟩ = some (.string s)
 c1 : w.cell? ⟨B, 1, none⟩ = some (.int .i64 (p : Int))
 f1 : w.frozen? ⟨B, 1, none⟩ = false
theorem Sc.drewN {w : World} {B p : Nat} {s : ByteArray} (h : Sc w B s p) (q : Nat) : Sc (w.drewN q) B s p := ⟨h.c0, h.c1, h.f1⟩
theorem Sc.below {w w' : World} {B p : Nat} {s : ByteArray} (h : Sc w B s p) (hb : Below w.heap.size w w') : Sc w' B s p :=
 ⟨(hb.cell (cell_lt h.c0)).trans h.c0, (hb.cell (cell_lt h.c1)).trans h.c1, (hb.frozen (cell_lt h.c1)).trans h.f1⟩
theorem Sc.step {w : World} {B p : Nat} {s : ByteArray} (h : Sc w B s p) (n : Nat) : Sc (w.setCell ⟨B, 1, none⟩ (.int .i64 (n : Int))) B s n := by
 refine ⟨?_, World.cell?_setCell_same _ _ _ h.c1, by simpa using h.f1⟩;rw [World.cell?_setCell_other _ _ _ _ (by simp)];exact h.c0
theorem Sc.lt {w : World} {B p : Nat} {s : ByteArray} (h : Sc w B s p) : B < w.heap.size := cell_lt h.c0
theorem Sc.keep {w w' : World} {B N p : Nat} {s : ByteArray} (h : Sc w B s p) (hb : Below N w w') (hN : B < N) : Sc w' B s p :=
 ⟨(hb.cell (p := ⟨B, 0, none⟩) hN).trans h.c0, (hb.cell (p := ⟨B, 1, none⟩) hN).trans h.c1, (hb.frozen (p := ⟨B, 1, none⟩) hN).trans h.f1⟩
set_option maxHeartbeats 1000000 in
set_option maxRecDepth 100000 in
theorem next_any (s : ByteArray) (p B : Nat) (most : Int) (w : World) (hs : s.size ≤ 1000000) (hp : p ≤ s.size) (hm : most ≤ 9223372036854775807) (h : Sc w B s p) :
  Calls Tryz.prog 52 #[.pointer (some ⟨B, 0, none⟩), .int .i64 most] w fun r w' => ∃ (q n k : Nat) (e : Int), vat s p most = (n, k, e) ∧
   (e = 0 ∧ (n : Int) ≤ most ∧ 0 < k ∧ k ≤ 10 ∧ p + k ≤ s.size ∧ r = .returned (.int .i64 (n : Int)) ∧ w' = (w.drewN q).setCell ⟨B, 1, none⟩ (.int .i64 ((p + k : Nat) : Int)) ∨
   e ≠ 0 ∧ r = .panicked (zgw e p) ∧ w' = w.drewN q) := by
 obtain ⟨c0, c1, f1⟩ := h;obtain ⟨n, k, e, ha, hx⟩ := zdz s p most;have hl : (s.extract p s.size).size ≤ maxLen := by rw [ByteArray.size_extract]; unfold maxLen; omega
 have hv := Lib.hid (show vint (s.extract p s.size).data.toList most = (n, k, e) from ha);have HA := Lib.hid ha;have i1 : (0 : Int) ≤ (p : Int) := by omega
 have i2 : (p : Int) ≤ (s.size : Int) := by omega
 clear ha;go_enter Tryz.func52, Tryz.ntmps52;go_wp2_with fail;go_quiet ((go_at_call_of 64 (Value.int IntKind.i64 most); exact Calls.quiet_of_same ((zjt _ most _ hl hm).mono fun _ _ ⟨a, b⟩ => ⟨by rw [a, hv.out], b.symm⟩)))
 simp only;rcases hx with ⟨rfl, x1, x2, x3, x4⟩ | ⟨he, rfl, rfl⟩
 ·have w1 : IntKind.i64.wrap ((p : Int) + (k : Int)) = ((p + k : Nat) : Int) := IntWalk.i64_in _ (by omega);go_wp2;go_ret;refine ⟨nq, n, k, 0, HA.out, .inl ⟨rfl, x1, x2, x3, x4, rfl, by rw [show ((p : Int) + (k : Int)) = ((p + k : Nat) : Int) by omega]⟩⟩
 ·have hne : (e != 0) = true := by rw [bne_iff_ne]; exact he
  have HE := Lib.hid he;clear he;go_wp2_with fail;refine (zbc e p _).mono ?_;rintro r w' ⟨rfl, rfl⟩;go_wp2;exact ⟨rfl, nq, 0, 0, e, HA.out, .inr ⟨HE.out, rfl, rfl⟩⟩
end Go.Proofs.YtkejlnjnoiidnaaGreatDoor
end

section
namespace Go.Proofs.YtkejlnjnoiidnaaGreatDoor
open Go.RowKit As
theorem yfp {r g : Nat} {z : Int} (hz : z = (r : Int) - 1) (hr : r ≤ 10000) (hg : (g : Int) ≤ 200) :
    ∃ (R : Nat) (y : Int), y = (R : Int) - 1 ∧ (r ≤ R ∧ R ≤ r + 201) ∧ (r : Int) + (g : Int) + (if decide (r < 1) then 0 else 1) = (R : Int) ∧
      (decide (0 ≤ z) = true ∧ IntKind.i64.wrap ((g : Int) + 1) = (g : Int) + 1 ∧ IntKind.i64.wrap (z + ((g : Int) + 1)) = y ∨
       decide (0 ≤ z) = false ∧ IntKind.i64.wrap (z + (g : Int)) = y) := by
  by_cases h : r < 1
  · refine ⟨r + g, z + (g : Int), by omega, ⟨by omega, by omega⟩, by rw [if_pos (by simpa using h)]; omega, .inr ⟨by simp only [decide_eq_false_iff_not]; omega, IntWalk.i64_in _ (by omega)⟩⟩
  · refine ⟨r + g + 1, z + ((g : Int) + 1), by omega, ⟨by omega, by omega⟩, by rw [if_neg (by simpa using h)]; omega, .inl ⟨by simp only [decide_eq_true_eq]; omega, IntWalk.i64_in _ (by omega), IntWalk.i64_in _ (by omega)⟩⟩
theorem ycc {c : Nat} {y : Int} (hy : y = (c : Int) - 1) (hc : c ≤ 1000) : IntKind.i64.wrap (y - 1) = y - 1 ∧ (decide (0 ≤ y) = decide (1 ≤ c)) := by
 refine ⟨IntWalk.i64_in _ (by omega), ?_⟩;by_cases h : 1 ≤ c
 ·rw [decide_eq_true (show 0 ≤ y by omega), decide_eq_true h]
 ·rw [decide_eq_false (show ¬ 0 ≤ y by omega), decide_eq_false h]
theorem ycw {r : Nat} {z : Int} (hz : z = (r : Int) - 1) (hr : r ≤ 10000) : IntKind.i64.wrap (z + 1) = (r : Int) := by
 rw [show z + 1 = (r : Int) by omega]; exact IntWalk.i64_in _ (by omega)
theorem zsu {r R c m : Nat} (h : r ≤ 220 * (16 - (c + 1))) (hc : c + 1 ≤ 16) (hR : R ≤ r + 201) (hm : (m : Int) ≤ 16) : R + (m + 1) ≤ 220 * (16 - c) := by omega
theorem zuy {r c : Nat} (h : r ≤ 220 * (16 - c)) : r ≤ 10000 := by omega
def zme (l : List Ent) : Prop := ∀ x ∈ l, zbe x
theorem zme.nil : zme [] := fun _ h => by cases h
theorem zme.snoc {l : List Ent} {r t : Nat} (h : zme l) (hr : r ≤ 10000) (ht : (t : Int) ≤ 1099511627776) : zme (l ++ [((r : Int), (t : Int))]) := by
 intro x hx;rcases List.mem_append.1 hx with hx | hx
 ·exact h x hx
 ·rw [List.mem_singleton.1 hx];exact ⟨⟨by simp only; omega, by simp only; omega⟩, ⟨by simp only; omega, by simp only; omega⟩⟩
theorem own_below {w w' : World} {base : Nat} {e : TypeId} {size n : Nat} {v : Value} {xs : List Value} (h : w.ownsRow base e size v n xs) (hb : Below w.heap.size w w') : w'.ownsRow base e size v n xs := by
 refine h.kept (row := none) ⟨hb.os, hb.tape, hb.output, hb.size, fun i hi _ => hb.block i hi⟩ ?_;cases v.ownBlock with
 | none => exact .inl rfl
 | some k => exact .inr (by simp)
set_option maxHeartbeats 2000000 in
set_option maxRecDepth 100000 in
def ynw (s : ByteArray) (B : Nat) (w : World) (e : Ending) (w' : World) : Prop :=
 ((zbj s).2.2 = 0 ∧ ∃ v, e = .returned v ∧ w'.ownsRow w.heap.size 79 2 v (zbj s).1.length (entV (zbj s).1) ∧ Sc w' B s (zbj s).2.1 ∧ Below B w w') ∨
 ((zbj s).2.2 ≠ 0 ∧ ∃ q, e = .panicked (zgw (zbj s).2.2 q) ∧ Below B w w')
set_option maxHeartbeats 4000000 in
set_option maxRecDepth 100000 in
theorem zvi (s : ByteArray) (B : Nat) (w : World) (hs : s.size ≤ 1000000) (h : Sc w B s 0) :
  Calls Tryz.prog 133 #[.pointer (some ⟨B, 0, none⟩)] w fun e w' => ynw s B w e w' := by
 obtain ⟨i0, hi, hz0, hz1, hz2⟩ := info_parts zmg;have hBl := h.lt;have HS := h;obtain ⟨c0, c1, f1⟩ := h;obtain ⟨X, hX⟩ : ∃ X, X = zir s := ⟨_, rfl⟩;have HX := Lib.hid hX.symm;clear hX;go_enter Tryz.func133, Tryz.ntmps133;go_wp2_with fail;refine (next_any s 0 B 16 _ hs (by omega) (by omega) HS).mono ?_;rintro r w1 ⟨q1, c, k, e, ha, hx⟩;rcases hx with ⟨rfl, x1, x2, x3, x4, rfl, rfl⟩ | ⟨he, rfl, rfl⟩
 ·have HV := Lib.hid (HX.out.symm.trans (zwj ha));have hc16 : c ≤ 16 := by omega
  have hk : k ≤ s.size := by omega
  have HS1 := (HS.drewN q1).step (0 + k);have b1 := (below_drewN (Below.refl B w) q1).setCell (p := ⟨B, 1, none⟩) (Nat.le_refl _) (.int .i64 ((0 + k : Nat) : Int));clear ha x1 x2 x3 x4 c0 c1 f1 HS;rw [Nat.zero_add] at HS1 b1 ⊢;go_wp2;go_loopw [4, 5, 6, 7, 8] (fun ov rv iv _ _ wr => ∃ (c r p : Nat) (acc : List Ent) (z : Int), iv = .int .i64 c ∧ rv = .int .i64 z ∧ Hid (z = (r : Int) - 1) ∧ c ≤ 16 ∧ r ≤ 220 * (16 - c) ∧ p ≤ s.size ∧ Hid (X = zfc s c (decide (r < 1)) (r : Int) p acc) ∧ (acc.length ≤ r ∧ Hid (zme acc)) ∧ wr.ownsRow w.heap.size 79 2 ov acc.length (entV acc) ∧ Sc wr B s p ∧ Below B w wr) (fun _ _ iv _ _ _ => (intOf iv).toNat)
  case atStart => exact ⟨c, 0, k, [], -1, rfl, rfl, Lib.hid (by omega), hc16, by omega, hk, HV, ⟨Nat.le_refl _, Lib.hid zme.nil⟩, World.ownsRow_nil _ _ _ _, HS1, b1⟩
  case round =>
   obtain ⟨c, r, p, acc, z, rfl, rfl, HZ, hc, hr, hp, HR, ⟨hacc, HF⟩, hT, hsc, hbel⟩ := hrel;clear HS1 b1 HV;have hB := hbel.size;by_cases h0 : 1 ≤ c
   ·obtain ⟨c', hc'⟩ : ∃ c', c = c' + 1 := ⟨c - 1, by omega⟩;have hcc : c' + 1 ≤ 16 := by omega
    have hrr := zuy hr;have HR' := Lib.hid (show X = zfc s (c' + 1) (decide (r < 1)) (r : Int) p acc by rw [← hc']; exact HR.out);have hr' : r ≤ 220 * (16 - (c' + 1)) := by omega
    have d0 : decide ((0 : Int) < (c : Int)) = true := decide_eq_true (by omega);have d0' : decide (0 < c) = true := decide_eq_true (by omega);have dw : IntKind.i64.wrap ((c : Int) - 1) = (c' : Int) := by rw [hc', show ((c' + 1 : Nat) : Int) - 1 = (c' : Int) by omega]; exact IntWalk.i64_in _ (by omega)
    have HC := Lib.hid hc';clear hc' HR hc h0 hr;go_wp2_with fail;refine (next_any s p B 200 _ hs hp (by omega) hsc).mono ?_;rintro e1 w2 ⟨q2, g, k1, e, ha, hx⟩;rcases hx with ⟨rfl, x1, x2, x3, x4, rfl, rfl⟩ | ⟨he, rfl, rfl⟩
    ·have HA := Lib.hid ha;have hs2 := (hsc.drewN q2).step (p + k1);have b2 := (below_drewN hbel q2).setCell (p := ⟨B, 1, none⟩) (Nat.le_refl _) (.int .i64 ((p + k1 : Nat) : Int));have T2 : ((wr.drewN q2).setCell ⟨B, 1, none⟩ (.int .i64 ((p + k1 : Nat) : Int))).ownsRow w.heap.size 79 2 u4 acc.length (entV acc) := zab (.int .i64 ((p + k1 : Nat) : Int)) (show (wr.drewN q2).ownsRow w.heap.size 79 2 u4 acc.length (entV acc) from hT) hBl;clear ha hsc hbel hT;obtain ⟨R, y, hy, ⟨hR0, hRr⟩, hif, htests⟩ := yfp HZ.out hrr x1;have HY := Lib.hid hy;have HIF := Lib.hid hif;clear hy hif;generalize (wr.drewN q2).setCell ⟨B, 1, none⟩ (.int .i64 ((p + k1 : Nat) : Int)) = W2 at *;rcases htests with ⟨t0, t1, t2⟩ | ⟨t0, t2⟩
     all_goals
      go_wp2_with fail;refine (next_any s (p + k1) B 16 _ hs x4 (by omega) hs2).mono ?_;rintro e1 w3 ⟨q3, m, j, e, hb, hx⟩;rcases hx with ⟨rfl, y1, y2, y3, y4, rfl, rfl⟩ | ⟨he, rfl, rfl⟩
      ·obtain ⟨x, hx, hbad, hgo⟩ := zwv HR'.out HA.out hb;rw [HIF.out] at hx;have HXX := Lib.hid hx;have HBD := Lib.hid hbad;have HGO := Lib.hid hgo;have hs3 := (hs2.drewN q3).step (p + k1 + j);have b3 := (below_drewN b2 q3).setCell (p := ⟨B, 1, none⟩) (Nat.le_refl _) (.int .i64 ((p + k1 + j : Nat) : Int));have T3 : ((W2.drewN q3).setCell ⟨B, 1, none⟩ (.int .i64 ((p + k1 + j : Nat) : Int))).ownsRow w.heap.size 79 2 u4 acc.length (entV acc) := zab (.int .i64 ((p + k1 + j : Nat) : Int)) (show (W2.drewN q3).ownsRow w.heap.size 79 2 u4 acc.length (entV acc) from T2) hBl;have hRm := zsu hr' hcc hRr y1;have hm16 : m ≤ 16 := by omega
       clear hx hbad hgo hs2 b2 T2 hb HR' HA HIF;generalize (W2.drewN q3).setCell ⟨B, 1, none⟩ (.int .i64 ((p + k1 + j : Nat) : Int)) = W3 at *;have hma : acc.length ≤ R := Nat.le_trans hacc hR0;go_wp2;go_loopw [4, 5, 8] (fun ov rv kv wx => ∃ (c2 R2 p2 : Nat) (acc2 : List Ent) (z2 y2 : Int), kv = .int .i64 y2 ∧ Hid (y2 = (c2 : Int) - 1) ∧ rv = .int .i64 z2 ∧ Hid (z2 = (R2 : Int) - 1) ∧ c2 ≤ m + 1 ∧ R2 + c2 = R + (m + 1) ∧ p2 ≤ s.size ∧ Hid (x = zdu s c2 (R2 : Int) p2 acc2) ∧ (acc2.length ≤ R2 ∧ Hid (zme acc2)) ∧ wx.ownsRow w.heap.size 79 2 ov acc2.length (entV acc2) ∧ Sc wx B s p2 ∧ Below B w wx) (fun _ _ kv _ => (intOf kv + 1).toNat)
       case atStart => exact ⟨m + 1, R, p + k1 + j, acc, y, (m : Int), rfl, Lib.hid (by omega), rfl, HY, Nat.le_refl _, rfl, y4, HXX, ⟨hma, HF⟩, T3, hs3, b3⟩
       case round =>
        obtain ⟨c2, R2, p2, acc2, z2, y2, rfl, HY2, rfl, HZ2, hc2, hRc, hp2, HT, ⟨hacc2, HF2⟩, hT2, hsc2, hb2⟩ := hrel;have hB2 := hb2.size;obtain ⟨dw2, dd2⟩ := ycc HY2.out (by omega);have hR2 : R2 ≤ 10000 := by omega
        have hin := ycw HZ2.out hR2;by_cases h1 : 1 ≤ c2
        ·rw [decide_eq_true h1] at dd2;obtain ⟨c3, hc3⟩ : ∃ c3, c2 = c3 + 1 := ⟨c2 - 1, by omega⟩;have HT' := Lib.hid (show x = zdu s (c3 + 1) (R2 : Int) p2 acc2 by rw [← hc3]; exact HT.out);have hc3m : c3 ≤ m + 1 := by omega
         have hRc3 : (R2 + 1) + c3 = R + (m + 1) := by omega
         have hyy : y2 - 1 = (c3 : Int) - 1 := by rw [HY2.out, hc3]; omega
         have hmeas : (y2 - 1 + 1).toNat < (y2 + 1).toNat := by have := HY2.out; omega
         have HYY := Lib.hid hyy;have HM := Lib.hid hmeas;clear hc3 HT hc2 h1 hyy hmeas;go_wp2_with fail;refine (next_any s p2 B 1099511627776 _ hs hp2 (by omega) hsc2).mono ?_;rintro e1 w4 ⟨q4, tm, k4, e, ht, hx⟩;rcases hx with ⟨rfl, vt, _, _, v4, rfl, rfl⟩ | ⟨he, rfl, rfl⟩
         ·have HN := Lib.hid (zlh HT'.out ht);have hs4 := (hsc2.drewN q4).step (p2 + k4);have b4 := (below_drewN hb2 q4).setCell (p := ⟨B, 1, none⟩) (Nat.le_refl _) (.int .i64 ((p2 + k4 : Nat) : Int));have T4 : ((wr.drewN q4).setCell ⟨B, 1, none⟩ (.int .i64 ((p2 + k4 : Nat) : Int))).ownsRow w.heap.size 79 2 u4 acc2.length (entV acc2) := zab (.int .i64 ((p2 + k4 : Nat) : Int)) (show (wr.drewN q4).ownsRow w.heap.size 79 2 u4 acc2.length (entV acc2) from hT2) hBl;have hB4 : w.heap.size ≤ ((wr.drewN q4).setCell ⟨B, 1, none⟩ (.int .i64 ((p2 + k4 : Nat) : Int))).heap.size := by simpa using hB2
          clear ht hsc2 hb2 hT2 HT';generalize (wr.drewN q4).setCell ⟨B, 1, none⟩ (.int .i64 ((p2 + k4 : Nat) : Int)) = W4 at *;have hlen : acc2.length ≤ 10000 := Nat.le_trans hacc2 hR2;have hr3 := Lib.hid (show ((R2 : Nat) : Int) = ((R2 + 1 : Nat) : Int) - 1 by omega);have hB5 : B ≤ W4.heap.size := Nat.le_trans (Nat.le_of_lt hBl) hB4;clear hin dd2;go_wp2_with (first
           | (at_builtin; refine wpList_append_own _ rfl (.tmp 37) (.tmp 42) 22 rfl w.heap.size 79 i0 (.agg #[.int .i64 0, .int .i64 0]) 2 16 Tryz.underlying22 hi hz0 hz1 hz2 rfl (by decide) u4 acc2.length (entV acc2) rfl (T4.alloc _) ⟨W4.heap.size, 0, none⟩ 1 1 [.int .i64 (R2 : Int), .int .i64 (tm : Int)] rfl rfl (znv _ _ _ _) (by intro u hu; simp at hu; rcases hu with rfl | rfl <;> rfl) (by unfold maxLen; omega) (by omega) (by simp; omega) ?_; intro v1 w6 hT6 hg6 _; have bb := zaj (Below.refl (B + 1) _) hg6 (by simp; omega) (zei (T4.alloc _) hBl); have hT7 := zfb (x := ((R2 : Int), (tm : Int))) rfl hT6))
          have hs6 := (hs4.below (zaa W4 (.cells #[.int .i64 (R2 : Int), .int .i64 (tm : Int)] 79))).keep bb (Nat.lt_succ_self B);have b6 := (b4.alloc hB5 (.cells #[.int .i64 (R2 : Int), .int .i64 (tm : Int)] 79)).trans (bb.mono (Nat.le_succ B));go_roundw
          case rel => exact ⟨c3, R2 + 1, p2 + k4, acc2 ++ [((R2 : Int), (tm : Int))], (R2 : Int), y2 - 1, by go_num, HYY, rfl, hr3, hc3m, hRc3, v4, HN, ⟨by rw [List.length_append]; exact Nat.succ_le_succ hacc2, Lib.hid (HF2.out.snoc hR2 vt)⟩, hT7, hs6, b6⟩
          case measure => exact HM.out
         ·have HXB := Lib.hid (zmd HT'.out ht he);have HV := Lib.hid (zey HX.out (show X = ([], 0, e, 0) by have h5 := HBD.out (by rw [HXB.out]; exact he); rw [HXB.out] at h5; exact h5) he);have HE := Lib.hid he;clear he ht;go_wp2;exact ⟨rfl, .inr ⟨by rw [HV.out]; exact HE.out, _, by rw [HV.out], below_drewN hb2 q4⟩⟩
        ·rw [decide_eq_false h1] at dd2;have hc20 : c2 = 0 := by omega
         have HE0 := Lib.hid (show x = (acc2, p2, 0, (R2 : Int)) by rw [HT.out, hc20]; rfl);have hR2' : R2 = R + (m + 1) := by omega
         have hdec : decide (R2 < 1) = false := decide_eq_false (by omega);have HR2 := Lib.hid (show X = zfc s c' (decide (R2 < 1)) (R2 : Int) p2 acc2 by
          have h5 := HGO.out (by rw [HE0.out]);rw [HE0.out] at h5;rw [hdec]; exact h5)
         have hb220 : R2 ≤ 220 * (16 - c') := by omega
         have hcm : c' < c := by have := HC.out; omega
         have hc16' : c' ≤ 16 := by omega
         clear hc20 hR2' hdec h1 hRc hc2;go_wp2;go_roundw
         case rel => exact ⟨c', R2, p2, acc2, z2, by go_num, rfl, HZ2, hc16', hb220, hp2, HR2, ⟨hacc2, HF2⟩, hT2, hsc2, hb2⟩
         case measure => simp [intOf]; exact hcm
      ·have HV := Lib.hid (zey HX.out (zpa HR'.out HA.out hb he) he);have HE := Lib.hid he;clear he hb;go_wp2;exact ⟨rfl, .inr ⟨by rw [HV.out]; exact HE.out, _, by rw [HV.out], below_drewN b2 q3⟩⟩
    ·have HV := Lib.hid (zey HX.out (zph HR'.out ha he) he);have HE := Lib.hid he;clear he ha;go_wp2;exact ⟨rfl, .inr ⟨by rw [HV.out]; exact HE.out, _, by rw [HV.out], below_drewN hbel q2⟩⟩
   ·have hc0 : c = 0 := by omega
    have HE0 := Lib.hid (show X = (acc, p, 0, (r : Int)) by rw [HR.out, hc0]; rfl);have d0 : decide ((0 : Int) < (c : Int)) = false := decide_eq_false (by omega);have d0' : decide (0 < c) = false := decide_eq_false (by omega);have hlen : acc.length ≤ maxLen := by have := zuy hr; unfold maxLen; omega
    obtain ⟨A9, c9, rfl⟩ := zah hT;have hE : Ents wr wr.heap.size A9 acc.length acc := ⟨Sl.zbf hT, HF.out⟩;clear hc0 h0 hr hc HR;go_wp2_with fail;refine (zeo wr acc.length c9 A9 acc hE hlen).mono ?_;rintro r1 w1 ⟨rfl, hb1⟩;unfold zba;go_wp2_with fail;have hk1 := zaa w1 (.cells #[.int .i64 (zaf acc).1, .int .i64 (zaf acc).2] 29);have T1 := Two.new w1 (zaf acc).1 (zaf acc).2 29;refine (zcd (zaf acc) _).mono ?_;rintro r2 w2 ⟨rfl, hb2⟩;obtain ⟨g0, g1, _, _⟩ := T1.below hb2;have bb := (hb1.trans (hk1.mono hb1.size)).trans (hb2.mono (hb1.trans (hk1.mono hb1.size)).size);have bw := hbel.trans (bb.mono (Nat.le_trans (Nat.le_of_lt hBl) hbel.size));by_cases h1 : (zaf acc).1 = 0
    ·have HV := Lib.hid (zpc HX.out HE0.out h1);have e1 : ((zaf acc).1 == 0) = true := by simpa using h1
     rw [e1];have hTb := own_below hT bb;have hsb := hsc.below bb;clear e1 g0 g1 h1;go_wp2;go_ret;exact .inl ⟨by rw [HV.out], _, rfl, by rw [HV.out]; exact hTb, by rw [HV.out]; exact hsb, bw⟩
    ·have HV := Lib.hid (zma HX.out HE0.out h1);have e1 : ((zaf acc).1 == 0) = false := by simpa using h1
     rw [e1];have HE := Lib.hid h1;clear e1 h1;go_wp2_with fail;refine (zbc _ _ _).mono ?_;rintro r w3 ⟨rfl, rfl⟩;go_wp2;exact ⟨rfl, .inr ⟨by rw [HV.out]; exact HE.out, _, by rw [HV.out], bw⟩⟩
 ·have HV := Lib.hid (zey HX.out (HX.out.symm.trans (zsp ha he)) he);have HE := Lib.hid he;clear he ha;go_wp2;exact ⟨rfl, .inr ⟨by rw [HV.out]; exact HE.out, _, by rw [HV.out], below_drewN (Below.refl B w) q1⟩⟩
theorem yia (F O N : Nat) (y : Int) (w : World) (h0 : w.cell? ⟨F, 0, none⟩ = some (.int .i64 0)) (h1 : w.cell? ⟨F, 1, none⟩ = some (.int .i64 y)) :
  CallsD Tryz.prog 132 #[.pointer (some ⟨F, 0, none⟩), .pointer (some ⟨O, 0, none⟩), .pointer (some ⟨N, 0, none⟩)] .returning w fun e u' w' => u' = .returning ∧ (e = .returned (.tuple #[]) ∧ Below w.heap.size w w') := by
 go_enter_d Tryz.func132, Tryz.ntmps132;go_wp2_with fail;refine (zcd (0, y) _).mono ?_;rintro r w2 ⟨rfl, hb2⟩;have e1 : (((0, y) : Int × Int).1 == 0) = true := rfl;rw [e1];go_wp2;go_end0;exact ⟨rfl, hb2⟩
structure Res (w : World) (O N F : Nat) (v : Value) (n x y : Int) : Prop where
 o : w.cell? ⟨O, 0, none⟩ = some v
 fo : w.frozen? ⟨O, 0, none⟩ = false
 n : w.cell? ⟨N, 0, none⟩ = some (.int .i64 n)
 fn : w.frozen? ⟨N, 0, none⟩ = false
 x : w.cell? ⟨F, 0, none⟩ = some (.int .i64 x)
 y : w.cell? ⟨F, 1, none⟩ = some (.int .i64 y)
 fx : w.frozen? ⟨F, 0, none⟩ = false
 fy : w.frozen? ⟨F, 1, none⟩ = false
theorem Res.keep {w w' : World} {O N F B : Nat} {v : Value} {n x y : Int} (h : Res w O N F v n x y) (hb : Below B w w') (h1 : O < B) (h2 : N < B) (h3 : F < B) : Res w' O N F v n x y :=
 ⟨(hb.cell (p := ⟨O, 0, none⟩) h1).trans h.o, (hb.frozen (p := ⟨O, 0, none⟩) h1).trans h.fo, (hb.cell (p := ⟨N, 0, none⟩) h2).trans h.n, (hb.frozen (p := ⟨N, 0, none⟩) h2).trans h.fn, (hb.cell (p := ⟨F, 0, none⟩) h3).trans h.x, (hb.cell (p := ⟨F, 1, none⟩) h3).trans h.y, (hb.frozen (p := ⟨F, 0, none⟩) h3).trans h.fx, (hb.frozen (p := ⟨F, 1, none⟩) h3).trans h.fy⟩
theorem Res.below {w w' : World} {O N F : Nat} {v : Value} {n x y : Int} (h : Res w O N F v n x y) (hb : Below w.heap.size w w') : Res w' O N F v n x y := h.keep hb (cell_lt h.o) (cell_lt h.n) (cell_lt h.x)
theorem zaw {w : World} {B i j : Nat} {v u : Value} (h : w.cell? ⟨B, j, none⟩ = some u) (hij : i ≠ j) : (w.setCell ⟨B, i, none⟩ v).cell? ⟨B, j, none⟩ = some u := by
 rw [World.cell?_setCell_other _ _ _ _ (by intro h; injection h with _ h2; exact hij (by first | exact h2 | exact h2.symm | injection h2))];exact h
theorem zam {w : World} {B C i j : Nat} {v u : Value} (h : w.cell? ⟨C, j, none⟩ = some u) (hij : B ≠ C) : (w.setCell ⟨B, i, none⟩ v).cell? ⟨C, j, none⟩ = some u := by
 rw [World.cell?_setCell_other _ _ _ _ (by intro h; injection h with h1 _; exact hij (by first | exact h1 | exact h1.symm))];exact h
theorem Res.setF {w : World} {O N F : Nat} {v : Value} {n x y : Int} (h : Res w O N F v n x y) (h1 : F ≠ O) (h2 : F ≠ N) (x' y' : Int) : Res ((w.setCell ⟨F, 0, none⟩ (.int .i64 x')).setCell ⟨F, 1, none⟩ (.int .i64 y')) O N F v n x' y' :=
 ⟨zam (zam h.o h1) h1, by simpa using h.fo, zam (zam h.n h2) h2, by simpa using h.fn, zaw (World.cell?_setCell_same _ _ _ h.x) (by omega), World.cell?_setCell_same _ _ _ (zaw h.y (by omega)), by simpa using h.fx, by simpa using h.fy⟩
theorem Res.setO {w : World} {O N F : Nat} {v : Value} {n x y : Int} (h : Res w O N F v n x y) (h1 : O ≠ N) (h2 : O ≠ F) (v' : Value) : Res (w.setCell ⟨O, 0, none⟩ v') O N F v' n x y :=
 ⟨World.cell?_setCell_same _ _ _ h.o, by simpa using h.fo, zam h.n h1, by simpa using h.fn, zam h.x h2, zam h.y h2, by simpa using h.fx, by simpa using h.fy⟩
theorem Res.setN {w : World} {O N F : Nat} {v : Value} {n x y : Int} (h : Res w O N F v n x y) (h1 : N ≠ O) (h2 : N ≠ F) (n' : Int) : Res (w.setCell ⟨N, 0, none⟩ (.int .i64 n')) O N F v n' x y :=
 ⟨zam h.o h1, by simpa using h.fo, World.cell?_setCell_same _ _ _ h.n, by simpa using h.fn, zam h.x h2, zam h.y h2, by simpa using h.fx, by simpa using h.fy⟩
theorem Res.new (w : World) (t1 t2 t3 : TypeId) : Res (((w.alloc (.cells #[.slice none 0 0] t1)).alloc (.cells #[.int .i64 0] t2)).alloc (.cells #[.int .i64 0, .int .i64 0] t3)) w.heap.size (w.heap.size + 1) (w.heap.size + 1 + 1) (.slice none 0 0) 0 0 0 := by
 have b1 := zaa (w.alloc (.cells #[.slice none 0 0] t1)) (.cells #[.int .i64 0] t2);have b2 := zaa ((w.alloc (.cells #[.slice none 0 0] t1)).alloc (.cells #[.int .i64 0] t2)) (.cells #[.int .i64 0, .int .i64 0] t3);have l1 : (w.alloc (.cells #[.slice none 0 0] t1)).heap.size = w.heap.size + 1 := by simp
 have l2 : ((w.alloc (.cells #[.slice none 0 0] t1)).alloc (.cells #[.int .i64 0] t2)).heap.size = w.heap.size + 1 + 1 := by simp
 have o1 : (w.alloc (.cells #[.slice none 0 0] t1)).cell? ⟨w.heap.size, 0, none⟩ = some (.slice none 0 0) := by rw [World.cell?_alloc_new]; rfl
 have n1 : ((w.alloc (.cells #[.slice none 0 0] t1)).alloc (.cells #[.int .i64 0] t2)).cell? ⟨w.heap.size + 1, 0, none⟩ = some (.int .i64 0) := by rw [← l1, World.cell?_alloc_new]; rfl
 have o2 := (b1.cell (cell_lt o1)).trans o1;have T := Two.new ((w.alloc (.cells #[.slice none 0 0] t1)).alloc (.cells #[.int .i64 0] t2)) 0 0 t3;rw [l2] at T;refine ⟨(b2.cell (cell_lt o2)).trans o2, ?_, (b2.cell (cell_lt n1)).trans n1, ?_, T.c0, T.c1, T.f0, T.f1⟩
 ·rw [b2.frozen (p := ⟨w.heap.size, 0, none⟩) (cell_lt o2), b1.frozen (p := ⟨w.heap.size, 0, none⟩) (cell_lt o1)]; simp
 ·rw [b2.frozen (p := ⟨w.heap.size + 1, 0, none⟩) (cell_lt n1), ← l1]; simp
theorem yma (F O N : Nat) (v : Value) (n x y : Int) (w : World) (h : Res w O N F v n x y) (hx : x ≠ 0) (h1 : O ≠ N) (h2 : O ≠ F) (h3 : N ≠ F) :
  CallsD Tryz.prog 132 #[.pointer (some ⟨F, 0, none⟩), .pointer (some ⟨O, 0, none⟩), .pointer (some ⟨N, 0, none⟩)] .returning w fun e u' w' => u' = .returning ∧ (e = .returned (.tuple #[]) ∧ Res w' O N F (.slice none 0 0) 0 x (-1) ∧ ∀ B, B ≤ O → B ≤ N → B ≤ F → Below B w w') := by
 have HR := h;obtain ⟨r0, r1, r2, r3, r4, r5, r6, r7⟩ := h;have e1 : (((x, y) : Int × Int).1 == 0) = false := by simpa using hx
 go_enter_d Tryz.func132, Tryz.ntmps132;go_wp2_with fail;refine (zcd (x, y) _).mono ?_;rintro r w2 ⟨rfl, hb2⟩;rw [e1];have HR2 := HR.below hb2;obtain ⟨k0, k1, k2, k3, k4, k5, k6, k7⟩ := HR2;clear r0 r1 r2 r3 r4 r5 r6 r7;go_wp2_with fail;refine (zbi x _).mono ?_;rintro r w3 ⟨rfl, hb3⟩;have HR3 := (HR.below hb2).below hb3;have HZ := ((HR3.setO h1 h2 (.slice none 0 0)).setN (Ne.symm h1) h3 0).setF (Ne.symm h2) (Ne.symm h3) x (-1);have hb := hb2.trans (hb3.mono hb2.size);have lO := cell_lt HR.o;obtain ⟨j0, j1, j2, j3, j4, j5, j6, j7⟩ := HR3;clear k0 k1 k2 k3 k4 k5 k6 k7;go_wp2;go_end0;exact ⟨rfl, HZ, fun B q1 q2 q3 => ((((hb.mono (by omega)).setCell (p := ⟨O, 0, none⟩) q1 _).setCell (p := ⟨N, 0, none⟩) q2 _).setCell (p := ⟨F, 0, none⟩) q3 _).setCell (p := ⟨F, 1, none⟩) q3 _⟩
set_option maxHeartbeats 4000000 in
set_option maxRecDepth 100000 in
theorem zps (s : ByteArray) (w : World) (hs : s.size ≤ 1000000) :
  Calls Tryz.prog 98 #[.string s] w fun e w' => ∃ v, e = .returned (.tuple #[v, .int .i64 ((zbj s).2.1 : Int), zba ((zbj s).2.2, -1)]) ∧ w'.ownsRow w.heap.size 79 2 v (zbj s).1.length (entV (zbj s).1) ∧ Below w.heap.size w w' := by
 have hmf : ∀ (fn : Fn) (first cap : Array Value) (w : World), (Instr.makeFunc fn first cap).run Tryz.prog w = .ok (.func fn first cap) w := fun _ _ _ _ => rfl
 have hR := Res.new w 22 3 29;have b0 := ((zaa w (.cells #[.slice none 0 0] 22)).alloc (by simp) (.cells #[.int .i64 0] 3)).alloc (by simp; omega) (.cells #[.int .i64 0, .int .i64 0] 29);go_enter_defers Tryz.func98, Tryz.ntmps98;go_wp2_with fail;generalize ((w.alloc (.cells #[.slice none 0 0] 22)).alloc (.cells #[.int .i64 0] 3)).alloc (.cells #[.int .i64 0, .int .i64 0] 29) = W at *;obtain ⟨N, hN⟩ : ∃ N, N = w.heap.size + 1 := ⟨_, rfl⟩;obtain ⟨F, hF⟩ : ∃ F, F = w.heap.size + 1 + 1 := ⟨_, rfl⟩;rw [← hF, ← hN] at hR;rw [← hF, ← hN];have n1 : w.heap.size ≠ N := by omega
 have n2 : w.heap.size ≠ F := by omega
 have n3 : N ≠ F := by omega
 have l2 : w.heap.size ≤ N := by omega
 have l3 : w.heap.size ≤ F := by omega
 clear hN hF;refine (zdy _).mono ?_;rintro r w1 ⟨rfl, hb1⟩;have b1 := b0.trans (hb1.mono b0.size);have hR1 := hR.below hb1;have hR2 := hR1.setF (Ne.symm n2) (Ne.symm n3) 0 (-1);have b2 := (b1.setCell (p := ⟨F, 0, none⟩) l3 (.int .i64 0)).setCell (p := ⟨F, 1, none⟩) l3 (.int .i64 (-1));obtain ⟨r0, r1, r2, r3, r4, r5, r6, r7⟩ := hR1;clear hR b0 hb1 b1;go_wp2_with fail;have hsz : ((w1.setCell ⟨F, 0, none⟩ (.int .i64 0)).setCell ⟨F, 1, none⟩ (.int .i64 (-1))).heap.size = w1.heap.size := by simp
 have qO := cell_lt r0;have qN := cell_lt r2;have qF := cell_lt r4;simp only at qO qN qF;clear r0 r1 r2 r3 r4 r5 r6 r7;generalize (w1.setCell ⟨F, 0, none⟩ (.int .i64 0)).setCell ⟨F, 1, none⟩ (.int .i64 (-1)) = V at *;rw [← hsz] at qO qN qF ⊢;have hRS := hR2.below (zaa V (.cells #[.string s, .int .i64 0] 74));have b3 := b2.alloc b2.size (.cells #[.string s, .int .i64 0] 74);have hSc : Sc (V.alloc (.cells #[.string s, .int .i64 0] 74)) V.heap.size s 0 := ⟨by rw [World.cell?_alloc_new]; rfl, by rw [World.cell?_alloc_new]; rfl, by simp⟩;generalize hB : V.heap.size = B at *;have hW3 : (V.alloc (.cells #[.string s, .int .i64 0] 74)).heap.size = B + 1 := by simp [hB]
 generalize V.alloc (.cells #[.string s, .int .i64 0] 74) = W3 at *;clear hB hsz hR2 b2;refine (zvi s B W3 hs hSc).mono ?_;rintro e w4 h4;rcases h4 with ⟨he, v, rfl, hT, hsc, hb4⟩ | ⟨he, q, rfl, hb4⟩
 ·have hR4 := hRS.keep hb4 qO qN qF;have b4 := b3.trans (hb4.mono (by omega));have HE := Lib.hid he;clear he;obtain ⟨A9, c9, rfl⟩ := zah hT;have hZ := (((hR4.setO n1 n2 (.slice A9 (zbj s).1.length c9)).setO n1 n2 (.slice A9 (zbj s).1.length c9)).setN (Ne.symm n1) n3 ((zbj s).2.1 : Int)).setF (Ne.symm n2) (Ne.symm n3) 0 (-1);have hO := zab (.int .i64 (-1)) (j := 1) (zab (.int .i64 0) (j := 0) (zab (.int .i64 ((zbj s).2.1 : Int)) (j := 0) (zab (.slice A9 (zbj s).1.length c9) (j := 0) (zab (.slice A9 (zbj s).1.length c9) (j := 0) hT (show w.heap.size < W3.heap.size by omega)) (show w.heap.size < W3.heap.size by omega)) (show N < W3.heap.size by omega)) (show F < W3.heap.size by omega)) (show F < W3.heap.size by omega);have bZ := ((((b4.setCell (p := ⟨w.heap.size, 0, none⟩) (Nat.le_refl _) (.slice A9 (zbj s).1.length c9)).setCell (p := ⟨w.heap.size, 0, none⟩) (Nat.le_refl _) (.slice A9 (zbj s).1.length c9)).setCell (p := ⟨N, 0, none⟩) l2 (.int .i64 ((zbj s).2.1 : Int))).setCell (p := ⟨F, 0, none⟩) l3 (.int .i64 0)).setCell (p := ⟨F, 1, none⟩) l3 (.int .i64 (-1));obtain ⟨r0, r1, r2, r3, r4, r5, r6, r7⟩ := hR4;obtain ⟨s0, s1, _⟩ := hsc;have s1' := zam (i := 0) (v := .slice A9 (zbj s).1.length c9) s1 (show w.heap.size ≠ B by omega);go_wp2;go_region;go_wp2;generalize ((((w4.setCell ⟨w.heap.size, 0, none⟩ (.slice A9 (zbj s).1.length c9)).setCell ⟨w.heap.size, 0, none⟩ (.slice A9 (zbj s).1.length c9)).setCell ⟨N, 0, none⟩ (.int .i64 ((zbj s).2.1 : Int))).setCell ⟨F, 0, none⟩ (.int .i64 0)).setCell ⟨F, 1, none⟩ (.int .i64 (-1)) = W5 at *;refine leaves_cons (f := 51) (args := #[.pointer (some ⟨F, 0, none⟩)]) (by simp) (by simp [go_sem]) ?_;refine (zgj F _).mono ?_;rintro e u' w' ⟨rfl, rfl, rfl⟩;show Leaves _ _ _ _ _ .returning _;refine leaves_cons (f := 132) (args := #[.pointer (some ⟨F, 0, none⟩), .pointer (some ⟨w.heap.size, 0, none⟩), .pointer (some ⟨N, 0, none⟩)]) (by simp) (by simp [go_sem]) ?_;refine (yia F w.heap.size N (-1) W5.drew hZ.x hZ.y).mono ?_;rintro e u' w' ⟨rfl, rfl, hb⟩;have hZ' := Res.below (w := W5.drew) ⟨hZ.o, hZ.fo, hZ.n, hZ.fn, hZ.x, hZ.y, hZ.fx, hZ.fy⟩ hb;have hO' := own_below (w := W5.drew) hO hb;have bF := bZ.drew.trans (hb.mono bZ.size);obtain ⟨z0, _, z2, _, z4, z5, _, _⟩ := hZ';show Leaves _ _ _ _ [] .returning _;refine ⟨.tuple #[.slice A9 (zbj s).1.length c9, .int .i64 ((zbj s).2.1 : Int), .agg #[.int .i64 0, .int .i64 (-1)]], by simp [results, Tryz.results98, go_sem, z0, z2, z4, z5], .slice A9 (zbj s).1.length c9, by rw [HE.out]; rfl, zei hO' (by omega), bF⟩
 ·have hR4 := hRS.keep hb4 qO qN qF;have b4 := b3.trans (hb4.mono (by omega));obtain ⟨v1, v2⟩ := yaa he;have HE := Lib.hid he;have V1 := Lib.hid v1;have V2 := Lib.hid v2;clear he v1 v2;have HR := hR4;obtain ⟨r0, r1, r2, r3, r4, r5, r6, r7⟩ := hR4;go_wp2;refine leaves_cons (f := 51) (args := #[.pointer (some ⟨F, 0, none⟩)]) (by simp) (by simp [go_sem]) ?_;refine (zie F 0 (-1) (zbj s).2.2 q [] _ r4 r5 r6 r7).mono ?_;rintro e u' w' ⟨rfl, rfl, rfl⟩;show Leaves _ _ _ _ _ .returning _;have hZ := (HR.below (zaa w4 (.cells #[.int .i64 (zbj s).2.2, .int .i64 q] 138))).setF (Ne.symm n2) (Ne.symm n3) (zbj s).2.2 q;have bZ := ((b4.alloc b4.size (.cells #[.int .i64 (zbj s).2.2, .int .i64 q] 138)).setCell (p := ⟨F, 0, none⟩) l3 (.int .i64 (zbj s).2.2)).setCell (p := ⟨F, 1, none⟩) l3 (.int .i64 q);refine leaves_cons (f := 132) (args := #[.pointer (some ⟨F, 0, none⟩), .pointer (some ⟨w.heap.size, 0, none⟩), .pointer (some ⟨N, 0, none⟩)]) (by simp) (by simp [go_sem]) ?_;refine (yma F w.heap.size N _ _ _ _ _ hZ HE.out n1 n2 n3).mono ?_;rintro e u' w' ⟨rfl, rfl, hZ', hb⟩;have bF := bZ.trans (hb w.heap.size (Nat.le_refl _) l2 l3);obtain ⟨z0, _, z2, _, z4, z5, _, _⟩ := hZ';show Leaves _ _ _ _ [] .returning _;refine ⟨.tuple #[.slice none 0 0, .int .i64 0, .agg #[.int .i64 (zbj s).2.2, .int .i64 (-1)]], by simp [results, Tryz.results98, go_sem, z0, z2, z4, z5], .slice none 0 0, by rw [V2.out]; rfl, by rw [V1.out]; exact World.ownsRow_nil _ _ _ _, bF⟩
end Go.Proofs.YtkejlnjnoiidnaaGreatDoor
end

section
namespace Go.Proofs.YtkejlnjnoiidnaaGreatDoor
open Go.RowKit As
theorem Ents.tail {w : World} {B c : Nat} {A : Option Addr} {x : Ent} {l : List Ent} (h : Ents w B A (x :: l).length (x :: l)) (hc : (x :: l).length ≤ c) : Ents w B (if c = 1 then A else A.map (·.add (1 * 2))) l.length l := by
 refine ⟨⟨zlt zbv 2 zes l, fun hn => ?_⟩, fun y hy => h.2 y (List.mem_cons_of_mem _ hy)⟩;simp only [List.length_cons] at hc;rw [if_neg (by omega)];obtain ⟨b, o, rfl, hb, hx⟩ := h.1.2 (by simp);refine ⟨b, o + 2, by simp [Addr.add], hb, fun j u hu => ?_⟩;have := hx (j + 2) u (by simp only [List.flatMap_cons]; rw [List.getElem?_append_right (by simp [zbv])]; simpa [zbv] using hu);rw [show o + 2 + j = o + (j + 2) by omega];exact this
theorem Ents.head {w : World} {B : Nat} {A : Option Addr} {r t : Int} {l : List Ent} (h : Ents w B A ((r, t) :: l).length ((r, t) :: l)) :
  ∃ b o, A = some ⟨b, o, none⟩ ∧ b < B ∧ w.cell? ⟨b, o, none⟩ = some (.int .i64 r) ∧ w.cell? ⟨b, o + 1, none⟩ = some (.int .i64 t) := by
 obtain ⟨b, o, r', t', e, hb, hx, _, c0, c1⟩ := h.at_ (k := 0) (by simp);simp at hx;obtain ⟨rfl, rfl⟩ := hx;exact ⟨b, o, e, hb, by simpa using c0, by simpa using c1⟩
end Go.Proofs.YtkejlnjnoiidnaaGreatDoor
end

section
namespace Go.Proofs.YtkejlnjnoiidnaaGreatDoor
open Go.RowKit As
theorem jx0 (a b : Value) (w : World) : (Instr.index 204 (.agg #[a, b]) (.int .i64 0)).run Tryz.prog w = .ok a w := by kernel_rfl
theorem jx1 (a b : Value) (w : World) : (Instr.index 204 (.agg #[a, b]) (.int .i64 1)).run Tryz.prog w = .ok b w := by kernel_rfl
def ynb (s : ByteArray) (p : Nat) (w : World) (g : Nat) (pv iv : Value) (wx : World) : Prop :=
 Below w.heap.size w wx ∧ (
  (iv = .int .i64 0 ∧ pv = .int .i64 (p : Int) ∧ Two wx g 0 0) ∨
  (iv = .int .i64 1 ∧ ∃ n k : Nat, vat s p 200 = (n, k, 0) ∧ (n : Int) ≤ 200 ∧ p + k ≤ s.size ∧ pv = .int .i64 ((p + k : Nat) : Int) ∧ Two wx g n 0) ∨
  (iv = .int .i64 2 ∧ ∃ n k m j : Nat, vat s p 200 = (n, k, 0) ∧ (n : Int) ≤ 200 ∧ vat s (p + k) 16 = (m, j, 0) ∧ (m : Int) ≤ 16 ∧ p + k + j ≤ s.size ∧ pv = .int .i64 ((p + k + j : Nat) : Int) ∧ Two wx g n m))
theorem Two.set0 {w : World} {g : Nat} {a b : Int} (h : Two w g a b) (x : Int) : Two (w.setCell ⟨g, 0, none⟩ (.int .i64 x)) g x b :=
 ⟨World.cell?_setCell_same _ _ _ h.c0, zaw h.c1 (by omega), by simpa using h.f0, by simpa using h.f1⟩
theorem Two.set1 {w : World} {g : Nat} {a b : Int} (h : Two w g a b) (x : Int) : Two (w.setCell ⟨g, 1, none⟩ (.int .i64 x)) g a x :=
 ⟨zaw h.c0 (by omega), World.cell?_setCell_same _ _ _ h.c1, by simpa using h.f0, by simpa using h.f1⟩
theorem yha {r g i : Nat} (hr : r ≤ 10000) (hg : (g : Int) ≤ 200) (hi : decide (r < 1) = decide (i = 0)) :
    ∃ R : Nat, (r ≤ R ∧ R ≤ r + 201) ∧ (r : Int) + (g : Int) + (if decide (r < 1) then 0 else 1) = (R : Int) ∧ IntKind.i64.wrap ((r : Int) + (g : Int)) = (r : Int) + (g : Int) ∧
      (decide ((0 : Int) < (i : Int)) = true ∧ decide (0 < i) = true ∧ IntKind.i64.wrap ((r : Int) + (g : Int) + 1) = (R : Int) ∨
       decide ((0 : Int) < (i : Int)) = false ∧ decide (0 < i) = false ∧ (r : Int) + (g : Int) = (R : Int)) := by
  have w0 : IntKind.i64.wrap ((r : Int) + (g : Int)) = (r : Int) + (g : Int) := IntWalk.i64_in _ (by omega);by_cases h : i = 0
  · rw [decide_eq_true h] at hi;refine ⟨r + g, ⟨by omega, by omega⟩, by rw [hi, if_pos rfl]; omega, w0, .inr ⟨by simp only [decide_eq_false_iff_not]; omega, by simp only [decide_eq_false_iff_not]; omega, by omega⟩⟩
  · rw [decide_eq_false h] at hi;refine ⟨r + g + 1, ⟨by omega, by omega⟩, by rw [hi, if_neg (by simp)]; omega, w0, .inl ⟨by simp only [decide_eq_true_eq]; omega, by simp only [decide_eq_true_eq]; omega, ?_⟩⟩;rw [show (r : Int) + (g : Int) + 1 = ((r + g + 1 : Nat) : Int) by omega];exact IntWalk.i64_in _ (by omega)
set_option maxHeartbeats 4000000 in
set_option maxRecDepth 100000 in
theorem zvn (s : ByteArray) (w : World) (hs : s.size ≤ 1000000) (hg : zbh w) :
  Calls Tryz.prog 134 #[.string s] w fun e w' => ∃ v, e = .returned (.tuple #[v, .int .i64 ((zbj s).2.1 : Int), errV (zbj s).2.2]) ∧ w'.ownsRow w.heap.size 79 2 v (zbj s).1.length (entV (zbj s).1) ∧ Below w.heap.size w w' := by
 obtain ⟨i0, hi, hz0, hz1, hz2⟩ := info_parts zmg;obtain ⟨X, hX⟩ : ∃ X, X = zir s := ⟨_, rfl⟩;have HX := Lib.hid hX.symm;clear hX;obtain ⟨c, k, e, ha, hx⟩ := zdz s 0 16;have hsm : s.size ≤ maxLen := by unfold maxLen; omega
 have hv0 := Lib.hid (show vint s.data.toList 16 = (c, k, e) by rw [← ha]; unfold vat; rw [show s.extract 0 s.size = s from ByteArray.extract_zero_size]);go_enter Tryz.func134, Tryz.ntmps134;go_wp2_with fail;refine (zdn s 16 _ hsm (by omega)).mono ?_;rintro r w' ⟨rfl, rfl⟩;rw [hv0.out];simp only;rcases hx with ⟨rfl, x1, x2, x3, x4⟩ | ⟨he, rfl, rfl⟩
 ·have HV := Lib.hid (HX.out.symm.trans (zwj ha));rw [zak];have hc16 : c ≤ 16 := by omega
  have hk : k ≤ s.size := by omega
  clear ha x1 x2 x3 x4;go_wp2;go_loopw [6, 8, 9, 31] (fun pv ov rv iv wr => ∃ (d c' r p : Nat) (acc : List Ent), iv = .int .i64 d ∧ rv = .int .i64 r ∧ pv = .int .i64 p ∧ d + c' = c ∧ Hid (decide (r < 1) = decide (d = 0)) ∧ r ≤ 220 * (16 - c') ∧ p ≤ s.size ∧ Hid (X = zfc s c' (decide (r < 1)) (r : Int) p acc) ∧ (acc.length ≤ r ∧ Hid (zme acc)) ∧ wr.ownsRow w.heap.size 79 2 ov acc.length (entV acc) ∧ Below w.heap.size w wr) (fun _ _ _ iv _ => c - (intOf iv).toNat)
  case atStart => exact ⟨0, c, 0, k, [], rfl, rfl, rfl, by omega, Lib.hid rfl, by omega, hk, HV, ⟨Nat.le_refl _, Lib.hid zme.nil⟩, World.ownsRow_nil _ _ _ _, Below.refl _ _⟩
  case round =>
   obtain ⟨d, c', r, p, acc, rfl, rfl, rfl, hdc, HD, hr, hp, HR, ⟨hacc, HF⟩, hT, hbel⟩ := hrel;clear HV;have hB := hbel.size;have hrr := zuy hr;by_cases h0 : 1 ≤ c'
   ·obtain ⟨c2, hc2⟩ : ∃ c2, c' = c2 + 1 := ⟨c' - 1, by omega⟩;have HR' := Lib.hid (show X = zfc s (c2 + 1) (decide (r < 1)) (r : Int) p acc by rw [← hc2]; exact HR.out);have hr' : r ≤ 220 * (16 - (c2 + 1)) := by omega
    have hcc : c2 + 1 ≤ 16 := by omega
    have hdc' : d < c := by omega
    have hdc2 : (d + 1) + c2 = c := by omega
    have t0 : decide ((d : Int) < (c : Int)) = true := decide_eq_true (by omega);have t0' : decide (d < c) = true := decide_eq_true (by omega);have dw : IntKind.i64.wrap ((d : Int) + 1) = ((d + 1 : Nat) : Int) := IntWalk.i64_in _ (by omega);clear hc2 HR h0 hr hdc;have hTw := Two.new wr 0 0 204;have bA := zaa wr (.cells #[.int .i64 0, .int .i64 0] 204);go_wp2;generalize hG : wr.heap.size = g at *;have hgB : w.heap.size ≤ g := hB;have hi0 := jx0;have hi1 := jx1;go_loopw [6, 35] (fun pv iv wx => ynb s p wr g pv iv wx) (fun _ iv _ => 2 - (intOf iv).toNat)
    case atStart => exact ⟨by rw [hG]; exact bA, .inl ⟨rfl, rfl, hTw⟩⟩
    case round =>
     obtain ⟨hbx, hcase⟩ := hrel;clear bA hTw;have bW := hbel.trans (hbx.mono (by rw [hG]; exact hgB));rcases hcase with ⟨rfl, rfl, hC⟩ | ⟨rfl, n, k, ha, hn, hk, rfl, hC⟩ | ⟨rfl, n, k, m, j, ha, hn, hb, hm, hk, rfl, hC⟩
     ·obtain ⟨n, k, e, ha, hx⟩ := zdz s p 200;have hl : (s.extract p s.size).size ≤ maxLen := by rw [ByteArray.size_extract]; unfold maxLen; omega
      have hv := Lib.hid (show vint (s.extract p s.size).data.toList 200 = (n, k, e) from ha);have q1 : (0 : Int) ≤ (p : Int) := by omega
      have q2 : (p : Int) ≤ (s.size : Int) := by omega
      have HA := Lib.hid ha;clear ha;go_wp2_with fail;refine (zdn (s.extract p s.size) 200 _ hl (by omega)).mono ?_;rintro r w' ⟨rfl, rfl⟩;rw [hv.out];simp only;rcases hx with ⟨rfl, x1, x2, x3, x4⟩ | ⟨he, rfl, rfl⟩
      ·rw [zak];have w1 : IntKind.i64.wrap ((p : Int) + (k : Int)) = ((p + k : Nat) : Int) := IntWalk.i64_in _ (by omega);have hCn := hC.set0 (n : Int);have bn := hbx.setCell (p := ⟨g, 0, none⟩) (by rw [hG]; exact Nat.le_refl _) (.int .i64 (n : Int));obtain ⟨k0, k1, f0, f1⟩ := hC;go_wp2;go_roundw
       case rel => exact ⟨bn, .inr (.inl ⟨rfl, n, k, HA.out, x1, x4, by go_num, hCn⟩)⟩
       case measure => simp [intOf]
      ·have HV := Lib.hid (zey HX.out (zph HR'.out HA.out he) he);have HE := Lib.hid he;rw [zau he];clear he;go_wp2;go_ret3;refine ⟨_, by rw [HV.out, zau HE.out]; rfl, ?_, bW⟩;rw [HV.out]; exact World.ownsRow_nil _ _ _ _
     ·obtain ⟨m, j, e, hb, hx⟩ := zdz s (p + k) 16;have hl : (s.extract (p + k) s.size).size ≤ maxLen := by rw [ByteArray.size_extract]; unfold maxLen; omega
      have hv := Lib.hid (show vint (s.extract (p + k) s.size).data.toList 16 = (m, j, e) from hb);have q1 : (0 : Int) ≤ ((p + k : Nat) : Int) := by omega
      have q2 : ((p + k : Nat) : Int) ≤ (s.size : Int) := by omega
      have HA := Lib.hid ha;have HB := Lib.hid hb;clear ha hb;obtain ⟨P, hP⟩ : ∃ P, P = p + k := ⟨_, rfl⟩;rw [← hP] at hl hv q1 q2 HB hx hk ⊢;have HP := Lib.hid hP;clear hP;go_wp2_with fail;refine (zdn (s.extract P s.size) 16 _ hl (by omega)).mono ?_;rintro r w' ⟨rfl, rfl⟩;rw [hv.out];simp only;rcases hx with ⟨rfl, x1, x2, x3, x4⟩ | ⟨he, rfl, rfl⟩
      ·rw [zak];have w1 : IntKind.i64.wrap ((P : Int) + (j : Int)) = ((P + j : Nat) : Int) := IntWalk.i64_in _ (by omega);have hCn := hC.set1 (m : Int);have bn := hbx.setCell (p := ⟨g, 1, none⟩) (by rw [hG]; exact Nat.le_refl _) (.int .i64 (m : Int));obtain ⟨k0, k1, f0, f1⟩ := hC;go_wp2;go_roundw
       case rel => exact ⟨bn, .inr (.inr ⟨rfl, n, k, m, j, HA.out, hn, by rw [← HP.out]; exact HB.out, x1, by rw [← HP.out]; exact x4, by rw [← HP.out]; go_num, hCn⟩)⟩
       case measure => simp [intOf]
      ·have HV := Lib.hid (zey HX.out (zpa HR'.out HA.out (show vat s (p + k) 16 = (0, 0, e) by rw [← HP.out]; exact HB.out) he) he);have HE := Lib.hid he;rw [zau he];clear he;go_wp2;go_ret3;refine ⟨_, by rw [HV.out, zau HE.out]; rfl, ?_, bW⟩;rw [HV.out]; exact World.ownsRow_nil _ _ _ _
     ·obtain ⟨x, hx, hbad, hgo⟩ := zwv HR'.out ha hb;obtain ⟨R, ⟨R0, R1⟩, hif, ww, ht⟩ := yha hrr hn HD.out;rw [hif] at hx;have HXX := Lib.hid hx;have HBD := Lib.hid hbad;have HGO := Lib.hid hgo;have hT2 := own_below hT hbx;have hRm := zsu hr' hcc R1 hm;have hm16 : m ≤ 16 := by omega
      have hma : acc.length ≤ R := Nat.le_trans hacc R0;have wm : IntKind.i64.wrap ((m : Int) + 1) = ((m + 1 : Nat) : Int) := IntWalk.i64_in _ (by omega);obtain ⟨k0, k1, f0, f1⟩ := hC;clear hx hbad hgo ha hb hif hbx hbel hT HR' hn hm hi0 hi1;obtain ⟨P, hP⟩ : ∃ P, P = p + k + j := ⟨_, rfl⟩;rw [← hP] at hk HXX ⊢;clear hP;obtain ⟨M, hM⟩ : ∃ M, M = m + 1 := ⟨_, rfl⟩;rw [← hM] at wm HXX hRm;have hM17 : M ≤ 17 := by omega
      have hM1 : 1 ≤ M := by omega
      clear hM;rcases ht with ⟨t1, t1', t2⟩ | ⟨t1, t1', t2⟩
      all_goals
       go_wp2;go_loopw [6, 8, 9, 69] (fun pv ov rv iv wy => ∃ (e2 c3 R2 p2 : Nat) (acc2 : List Ent), iv = .int .i64 e2 ∧ rv = .int .i64 R2 ∧ pv = .int .i64 p2 ∧ e2 + c3 = M ∧ R2 + c3 = R + M ∧ p2 ≤ s.size ∧ Hid (x = zdu s c3 (R2 : Int) p2 acc2) ∧ (acc2.length ≤ R2 ∧ Hid (zme acc2)) ∧ wy.ownsRow w.heap.size 79 2 ov acc2.length (entV acc2) ∧ Below w.heap.size w wy) (fun _ _ _ iv _ => M - (intOf iv).toNat)
       case atStart => exact ⟨0, M, R, P, acc, rfl, rfl, rfl, by omega, rfl, hk, HXX, ⟨hma, HF⟩, hT2, bW⟩
       case round =>
        obtain ⟨e2, c3, R2, p2, acc2, rfl, rfl, rfl, hec, hRc, hp2, HT, ⟨hacc2, HF2⟩, hT3, hb3⟩ := hrel;clear hT2 bW t1 t1' t2 ww k0 k1 f0 f1;have hB3 := hb3.size;have hR2 : R2 ≤ 10000 := by omega
        by_cases h1 : 1 ≤ c3
        ·obtain ⟨c4, hc4⟩ : ∃ c4, c3 = c4 + 1 := ⟨c3 - 1, by omega⟩;have HT' := Lib.hid (show x = zdu s (c4 + 1) (R2 : Int) p2 acc2 by rw [← hc4]; exact HT.out);have hec' : e2 < M := by omega
         have hec4 : (e2 + 1) + c4 = M := by omega
         have hRc4 : (R2 + 1) + c4 = R + M := by omega
         have u0 : decide ((e2 : Int) < (M : Int)) = true := decide_eq_true (by omega);have u0' : decide (e2 < M) = true := decide_eq_true (by omega);have uw : IntKind.i64.wrap ((e2 : Int) + 1) = ((e2 + 1 : Nat) : Int) := IntWalk.i64_in _ (by omega);have ur : IntKind.i64.wrap ((R2 : Int) + 1) = ((R2 + 1 : Nat) : Int) := IntWalk.i64_in _ (by omega);obtain ⟨tm, k4, e, ht, hx⟩ := zdz s p2 1099511627776;have hl : (s.extract p2 s.size).size ≤ maxLen := by rw [ByteArray.size_extract]; unfold maxLen; omega
         have hv := Lib.hid (show vint (s.extract p2 s.size).data.toList 1099511627776 = (tm, k4, e) from ht);have q1 : (0 : Int) ≤ (p2 : Int) := by omega
         have q2 : (p2 : Int) ≤ (s.size : Int) := by omega
         have HTT := Lib.hid ht;clear ht hc4 HT h1 hec hRc;go_wp2_with fail;refine (zdn (s.extract p2 s.size) 1099511627776 _ hl (by omega)).mono ?_;rintro r w' ⟨rfl, rfl⟩;rw [hv.out];simp only;rcases hx with ⟨rfl, x1, x2, x3, x4⟩ | ⟨he, rfl, rfl⟩
         ·rw [zak];have HN := Lib.hid (zlh HT'.out HTT.out);have up : IntKind.i64.wrap ((p2 : Int) + (k4 : Int)) = ((p2 + k4 : Nat) : Int) := IntWalk.i64_in _ (by omega);have hlen : acc2.length ≤ 10000 := Nat.le_trans hacc2 hR2;go_wp2_with (first
           | (at_builtin; refine wpList_append_own _ rfl (.tmp 82) (.tmp 86) 22 rfl w.heap.size 79 i0 (.agg #[.int .i64 0, .int .i64 0]) 2 16 Tryz.underlying22 hi hz0 hz1 hz2 rfl (by decide) u8 acc2.length (entV acc2) rfl (hT3.alloc _) ⟨wr.heap.size, 0, none⟩ 1 1 [.int .i64 (R2 : Int), .int .i64 (tm : Int)] rfl rfl (znv _ _ _ _) (by intro u hu; simp at hu; rcases hu with rfl | rfl <;> rfl) (by unfold maxLen; omega) (by omega) (by simp; omega) ?_; intro v1 w6 hT6 hg6 _; have b6 := zaj (hb3.alloc hB3 _) hg6 (by simp; omega) (hT3.alloc _); have hT7 := zfb (x := ((R2 : Int), (tm : Int))) rfl hT6))
          go_roundw
          case rel => exact ⟨e2 + 1, c4, R2 + 1, p2 + k4, acc2 ++ [((R2 : Int), (tm : Int))], by go_num, by go_num, by go_num, hec4, hRc4, x4, HN, ⟨by rw [List.length_append]; exact Nat.succ_le_succ hacc2, Lib.hid (HF2.out.snoc hR2 x1)⟩, hT7, b6⟩
          case measure => simp [intOf]; omega
         ·have HXB := Lib.hid (zmd HT'.out HTT.out he);have HV := Lib.hid (zey HX.out (show X = ([], 0, e, 0) by have h5 := HBD.out (by rw [HXB.out]; exact he); rw [HXB.out] at h5; exact h5) he);have HE := Lib.hid he;rw [zau he];clear he;go_wp2;go_ret3;refine ⟨_, by rw [HV.out, zau HE.out]; rfl, ?_, hb3⟩;rw [HV.out]; exact World.ownsRow_nil _ _ _ _
        ·have hc30 : c3 = 0 := by omega
         have HE0 := Lib.hid (show x = (acc2, p2, 0, (R2 : Int)) by rw [HT.out, hc30]; rfl);have hdec : decide (R2 < 1) = false := decide_eq_false (by omega);have HR2 := Lib.hid (show X = zfc s c2 (decide (R2 < 1)) (R2 : Int) p2 acc2 by
          have h5 := HGO.out (by rw [HE0.out]);rw [HE0.out] at h5;rw [hdec]; exact h5)
         have hb220 : R2 ≤ 220 * (16 - c2) := by omega
         have u0 : decide ((e2 : Int) < (M : Int)) = false := decide_eq_false (by omega);have u0' : decide (e2 < M) = false := decide_eq_false (by omega);have HD2 := Lib.hid (show decide (R2 < 1) = decide (d + 1 = 0) by rw [hdec, decide_eq_false]; omega);clear hc30 hdec h1 hRc hec;go_wp2;go_roundw
         case rel => exact ⟨d + 1, c2, R2, p2, acc2, by go_num, rfl, rfl, hdc2, HD2, hb220, hp2, HR2, ⟨hacc2, HF2⟩, hT3, hb3⟩
         case measure => simp [intOf]; omega
   ·have hc0 : c' = 0 := by omega
    have HE0 := Lib.hid (show X = (acc, p, 0, (r : Int)) by rw [HR.out, hc0]; rfl);have t0 : decide ((d : Int) < (c : Int)) = false := decide_eq_false (by omega);have t0' : decide (d < c) = false := decide_eq_false (by omega);have hlen : acc.length ≤ maxLen := by unfold maxLen; omega
    obtain ⟨A9, c9, rfl⟩ := zah hT;have hE : Ents wr wr.heap.size A9 acc.length acc := ⟨Sl.zbf hT, HF.out⟩;have hg1 := hg.below hbel;clear hc0 h0 hr HR hdc;go_wp2_with fail;refine (zcn wr acc.length c9 A9 acc hE hlen).mono ?_;rintro e w1 ⟨v1, rfl, hv1, hb1⟩;have hb01 := hbel.trans (hb1.mono hB);have hT1 := own_below hT hb1;by_cases h1 : (zaf acc).1 = 0
    ·have HV := Lib.hid (zpc HX.out HE0.out h1);obtain rfl := zhk hv1 h1;clear hv1 h1;go_wp2;go_ret3;refine ⟨_, by rw [HV.out]; rfl, ?_, hb01⟩;rw [HV.out]; exact hT1
    ·have HV := Lib.hid (zma HX.out HE0.out h1);obtain ⟨ty, u, rfl⟩ := zgo hv1 h1;have HE := Lib.hid h1;have HVV := Lib.hid hv1;clear h1 hv1;go_wp2_with fail;refine (zde HVV.out (hg.below hb01)).mono ?_;rintro e w2 ⟨rfl, hb2⟩;go_wp2;go_ret3;refine ⟨_, by rw [HV.out, zau HE.out]; rfl, ?_, hb01.trans (hb2.mono hb01.size)⟩;rw [HV.out]; exact World.ownsRow_nil _ _ _ _
 ·have HV := Lib.hid (zey HX.out (HX.out.symm.trans (zsp ha he)) he);have HE := Lib.hid he;rw [zau he];clear he ha;go_wp2;go_ret3;refine ⟨_, by rw [HV.out, zau HE.out]; rfl, ?_, Below.refl _ _⟩;rw [HV.out]; exact World.ownsRow_nil _ _ _ _
end Go.Proofs.YtkejlnjnoiidnaaGreatDoor
end

section
namespace Go.Proofs.YtkejlnjnoiidnaaGreatDoor.Flow
open Go
section
variable {P : Program} {ops : Array Oper} {Q : Exit → Act → World → Prop} {md : Region.Mode}
def YlP (P : Program) (Z : List PanicEntry → World → Prop) (K : Value → World → Prop) : Result Next → Prop
 | .ok (.value v) w => K v w
 | .ok .skip w => K undef w
 | .ok (.enter f args) w => Calls P f args w fun e w' => (∃ v, e = .returned v ∧ K v w') ∨ ∃ ch, e = .panicked ch ∧ Z ch w'
 | .halt (.panic v) w => Z [{ v, recovered := false }] w
 | _ => False
variable {Z : List PanicEntry → World → Prop}
theorem yck {K : Value → World → Prop} {v : Value} {w : World} : YlP P Z K (.ok (.value v) w) = K v w := rfl
theorem yhq {K : Value → World → Prop} {w : World} : YlP P Z K (.ok .skip w) = K undef w := rfl
theorem ydy {K : Value → World → Prop} {f : FuncId} {args : Array Value} {w : World} : YlP P Z K (.ok (.enter f args) w) = Calls P f args w fun e w' => (∃ v, e = .returned v ∧ K v w') ∨ ∃ ch, e = .panicked ch ∧ Z ch w' := rfl
theorem ycr {K : Value → World → Prop} {v : Value} {w : World} : YlP P Z K (.halt (.panic v) w) = Z [{ v, recovered := false }] w := rfl
theorem YlP.upon {K : Value → World → Prop} {r : Result Next} (h : YlP P Z K r) {o : Oper} {a : Act} {K' : Act → World → Prop} (hK : ∀ v w, K v w → K' (a.put o.dst v) w) (hZ : ∀ ch w, Z ch w → Q (.panic ch) a w) : o.upon P a K' Q r := by
 cases r with
 | ok n w =>
  cases n with
  | value v => exact hK _ _ h
  | skip => exact hK _ _ h
  | enter f args =>
   refine Calls.mono h fun e w' he => ?_
   rcases he with ⟨v, rfl, h⟩ | ⟨ch, rfl, h⟩
   ·exact hK _ _ h
   ·exact hZ _ _ h
  | _ => exact absurd h (fun h => h)
 | halt x w =>
  cases x with
  | panic v => exact hZ _ _ h
  | _ => exact absurd h (fun h => h)
def yod {G : Type} (P : Program) (ops : Array Oper) (a0 : Act) (v : G → Nat → Value) (C : G → (Nat → Bool) → World → Prop) (Z : List PanicEntry → World → Prop) (i : Nat) (o : Oper) : Prop :=
 ∀ (g : G) (L : Nat → Bool) (w : World) (K : Value → World → Prop) (ρ : Operand → Value),
  (∀ x, ρ (.const x) = x) → (∀ f, ρ (.func f) = .func (.func f) #[] #[]) → (∀ t j, who ops t = some j → L j = true → ρ (.tmp t) = v g j) → (∀ t, who ops t = none → ρ (.tmp t) = a0.eval (.tmp t)) →
  L i = false → (∀ e ∈ o.after, Region.binds .any e = true → L e.on = true) → C g L w →
  (∀ g' w', C g' (fun j => j == i || L j) w' → (∀ j, L j = true → v g' j = v g j) → K (v g' i) w') → YlP P Z K ((execOp ρ o).run P w)
theorem zhm {G : Type} {id : Nat} {l : List Oper} {a0 : Act} {w0 : World} (hm : P.follows .mixedOrders = true) (hlex : lexB l.toArray = true) (hok : okB l.toArray = true) (n : Nat) (hn : a0.tmps.size = n) (hfit : fitB l.toArray n = true)
  (v : G → Nat → Value) (C : G → (Nat → Bool) → World → Prop) (Z : List PanicEntry → World → Prop) (g0 : G) (h0 : C g0 (fun _ => false) w0.drew)
  (hstep : Steps (yod P l.toArray a0 v C Z) 0 l) (hthrow : ∀ g L ch w, Z ch w → Q (.panic ch) (frame l.toArray a0 (v g) L) w)
  (hdone : ∀ g L w, (∀ i, i < l.length → L i = true) → C g L w → Q .normal (zbs (v g) 0 l a0) w) :
  (Code.region id l.toArray true).wp P Q a0 w0 := by
 refine wp_region_any hm ?_;refine zkg (fun L a w => ∃ g, a = frame l.toArray a0 (v g) (fun i => L.getD i false) ∧ C g (fun i => L.getD i false) w) ?_ ?_ _ _ _ _ (by simp) ?_ ?_
 ·rintro L a w i o hs ⟨g, rfl, hC⟩ ho hi hd;have hst := hstep.at_ (i := i) (o := o) (by simpa using ho);rw [Nat.zero_add] at hst;have hin : i < L.size := by rw [hs]; exact (Array.getElem?_eq_some_iff.1 ho).1
  have hi' : L.getD i false = false := by rw [getD_in hin false true]; exact hi
  have hfun : (fun j => (L.setIfInBounds i true).getD j false) = fun j => j == i || L.getD j false := by
   funext j;by_cases hj : j = i
   ·subst hj;simp [Array.getD, hin]
   ·have hb : (j == i) = false := by simpa using hj
    rw [hb, Bool.false_or];simp only [Array.getD_eq_getD_getElem?, Array.getElem?_setIfInBounds];rw [if_neg (fun e => hj e.symm)]
  unfold wpOp;rw [ho];simp only;rw [if_pos (by simp [Region.wanted, (zss hlex ho).1])];refine .inl (YlP.upon (hst g _ w (fun u w' => ∃ g', u = v g' i ∧ C g' (fun j => j == i || L.getD j false) w' ∧ ∀ j, L.getD j false = true → v g' j = v g j) _ (fun _ => rfl) (fun _ => rfl) (fun t j h1 h2 => zkd h1 (by rw [hn]; exact zxd hfit h1) h2) (fun t h1 => zjs h1) hi' hd hC (fun g' w' h1 h2 => ⟨g', rfl, h1, h2⟩)) ?_ (fun ch w' hz => hthrow g _ ch w' hz));rintro u w' ⟨g', rfl, hC', hv⟩;refine ⟨g', ?_, ?_⟩
  ·rw [hfun]; exact zho hok ho hv
  ·rw [hfun]; exact hC'
 ·rintro L a w hs ⟨g, rfl, hC⟩ hr;have hall := zhc hlex hs hr;rw [zhl hall, zil hok];exact hdone g _ w (fun i hi => hall i (by simpa using hi)) hC
 ·refine ⟨g0, ?_, ?_⟩
  ·have : (fun i => (Array.replicate l.toArray.size false).getD i false) = fun _ => false := by
    funext i;simp [Array.getD]
   rw [this, zga]
  ·have : (fun i => (Array.replicate l.toArray.size false).getD i false) = fun _ => false := by
    funext i;simp [Array.getD]
   rw [this];exact h0
 ·unfold left;simp only [Array.toList_replicate];exact Nat.le_trans List.countP_le_length (by simp)
end
attribute [simp] Flow.ydy Flow.ycr Flow.yhq Flow.yck
end Go.Proofs.YtkejlnjnoiidnaaGreatDoor.Flow
end
