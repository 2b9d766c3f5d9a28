/- WriteRight of the reference says what wright says. Printed by gen_write2.py. -/
import Derived.Test.YtkejlnjnoiidnaaGreatDoorZ6
import Derived.Test.YtkejlnjnoiidnaaGreatDoorZ2
import Derived.Test.YtkejlnjnoiidnaaGreatDoorShelfItoa
import Derived.Test.YtkejlnjnoiidnaaGreatDoorZ5
import Derived.WalkKit
import Derived.WalkLawsBesides
import Derived.WalkSpells
import Derived.ProofKit
import Derived.OpenShut
import Derived.Laws.DeepNot64
import Derived.Test.YtkejlnjnoiidnaaGreatDoorZ4
import Derived.Test.YtkejlnjnoiidnaaGreatDoorZ3
import Derived.Test.YtkejlnjnoiidnaaGreatDoorZ7
import Derived.KernelRfl
import Derived.OwnWalk
import Derived.Maps.AppendAt
import Derived.Deep.DeepCutAuto
import Derived.Deep.Cut
import Derived.Deep.CutBlock
import Derived.Test.YtkejlnjnoiidnaaGreatDoorZ1
set_option linter.unusedSimpArgs false
set_option linter.unusedVariables false
section
namespace Go.Proofs.YtkejlnjnoiidnaaGreatDoor
open Go.RowKit As
theorem ymv (w : World) : Calls Tryz.prog 120 #[.int .i64 1] w fun e w' => e = .returned (.string ⟨#[49]⟩) ∧ w = w' :=
 (Tryz.strconv_Itoa_small 1 (by omega) w).mono fun _ _ h => ⟨by rw [h.1, show Lib.decDigits 1 = [49] by first | decide | kernel_rfl], h.2.symm⟩
theorem has1 (w : World) : Calls Tryz.prog 119 #[.string ⟨#[50, 51]⟩, .string ⟨#[49]⟩] w fun e w' => e = .returned (.bool false) ∧ w = w' :=
 (Tryz.strings_Contains_one ⟨#[50, 51]⟩ 49 w).mono fun _ _ h => ⟨by rw [h.1]; exact retB (by decide), h.2.symm⟩
theorem yoo (w : World) : Calls Tryz.prog 120 #[.int .i64 2] w fun e w' => e = .returned (.string ⟨#[50]⟩) ∧ w = w' :=
 (Tryz.strconv_Itoa_small 2 (by omega) w).mono fun _ _ h => ⟨by rw [h.1, show Lib.decDigits 2 = [50] by first | decide | kernel_rfl], h.2.symm⟩
theorem has2 (w : World) : Calls Tryz.prog 119 #[.string ⟨#[50, 51]⟩, .string ⟨#[50]⟩] w fun e w' => e = .returned (.bool true) ∧ w = w' :=
 (Tryz.strings_Contains_one ⟨#[50, 51]⟩ 50 w).mono fun _ _ h => ⟨by rw [h.1]; exact retB (by decide), h.2.symm⟩
theorem yon (w : World) : Calls Tryz.prog 120 #[.int .i64 3] w fun e w' => e = .returned (.string ⟨#[51]⟩) ∧ w = w' :=
 (Tryz.strconv_Itoa_small 3 (by omega) w).mono fun _ _ h => ⟨by rw [h.1, show Lib.decDigits 3 = [51] by first | decide | kernel_rfl], h.2.symm⟩
theorem has3 (w : World) : Calls Tryz.prog 119 #[.string ⟨#[50, 51]⟩, .string ⟨#[51]⟩] w fun e w' => e = .returned (.bool true) ∧ w = w' :=
 (Tryz.strings_Contains_one ⟨#[50, 51]⟩ 51 w).mono fun _ _ h => ⟨by rw [h.1]; exact retB (by decide), h.2.symm⟩
theorem yki (w : World) : Calls Tryz.prog 120 #[.int .i64 4] w fun e w' => e = .returned (.string ⟨#[52]⟩) ∧ w = w' :=
 (Tryz.strconv_Itoa_small 4 (by omega) w).mono fun _ _ h => ⟨by rw [h.1, show Lib.decDigits 4 = [52] by first | decide | kernel_rfl], h.2.symm⟩
theorem has4 (w : World) : Calls Tryz.prog 119 #[.string ⟨#[50, 51]⟩, .string ⟨#[52]⟩] w fun e w' => e = .returned (.bool false) ∧ w = w' :=
 (Tryz.strings_Contains_one ⟨#[50, 51]⟩ 52 w).mono fun _ _ h => ⟨by rw [h.1]; exact retB (by decide), h.2.symm⟩
set_option maxHeartbeats 2000000 in
set_option maxRecDepth 100000 in
theorem yfu (a b f : Int) (d e : ByteArray) (w : World) : Calls Tryz.prog 72 #[wrV a b (1) d e f] w fun r w' => r = .returned (.int .i64 (zao (a, b, 1, d, e, f))) ∧ Below w.heap.size w w' := by
 rw [zdx];have hW := WrAt.new w a b (1) d e f;cases hidv : zdd (a, b) with
 | false =>
  have hid := Lib.hid hidv;clear hidv;have hr := Lib.hid (show zac 1 false d.size e.size f = 2 by unfold zac; rw [if_neg (by omega), if_pos rfl]);have B0 := Lib.hid (show inB 1 1 4 = true by decide);go_enter Tryz.func72, Tryz.ntmps72;go_wp2_with fail;refine (zad B0 _).mono ?_;rintro r w0 ⟨rfl, rfl⟩;go_wp2_with fail;refine (zal a b _).mono ?_;rintro r w1 ⟨rfl, hb1⟩;rw [hid.out];obtain ⟨c0, c1, c2, c3, c4, c5⟩ := hW.below hb1;have hbl : Below w.heap.size w w1 := (zaa w _).trans (hb1.mono (by simp));go_wp2;go_ret;exact ⟨by rw [hr.out]; rfl, hbl⟩
 | true =>
  have hid := Lib.hid hidv;clear hidv;by_cases h1 : 40 < d.size
  ·have hr := Lib.hid (show zac 1 true d.size e.size f = 4 by unfold zac; rw [if_neg (by omega), if_neg (by simp), if_pos (by omega)]);have s0 : decide (40 < d.size) = true := decide_eq_true (by omega);have t0 : decide (40 < (d.size : Int)) = true := decide_eq_true (by omega);clear h1;have B0 := Lib.hid (show inB 1 1 4 = true by decide);go_enter Tryz.func72, Tryz.ntmps72;go_wp2_with fail;refine (zad B0 _).mono ?_;rintro r w0 ⟨rfl, rfl⟩;go_wp2_with fail;refine (zal a b _).mono ?_;rintro r w1 ⟨rfl, hb1⟩;rw [hid.out];obtain ⟨c0, c1, c2, c3, c4, c5⟩ := hW.below hb1;have hbl : Below w.heap.size w w1 := (zaa w _).trans (hb1.mono (by simp));go_wp2;go_ret;exact ⟨by rw [hr.out]; rfl, hbl⟩
  ·by_cases h2 : 300 < e.size
   ·have hr := Lib.hid (show zac 1 true d.size e.size f = 4 by unfold zac; rw [if_neg (by omega), if_neg (by simp), if_pos (by omega)]);have s0 : decide (40 < d.size) = false := decide_eq_false (by omega);have t0 : decide (40 < (d.size : Int)) = false := decide_eq_false (by omega);have s1 : decide (300 < e.size) = true := decide_eq_true (by omega);have t1 : decide (300 < (e.size : Int)) = true := decide_eq_true (by omega);clear h1 h2;have B0 := Lib.hid (show inB 1 1 4 = true by decide);go_enter Tryz.func72, Tryz.ntmps72;go_wp2_with fail;refine (zad B0 _).mono ?_;rintro r w0 ⟨rfl, rfl⟩;go_wp2_with fail;refine (zal a b _).mono ?_;rintro r w1 ⟨rfl, hb1⟩;rw [hid.out];obtain ⟨c0, c1, c2, c3, c4, c5⟩ := hW.below hb1;have hbl : Below w.heap.size w w1 := (zaa w _).trans (hb1.mono (by simp));go_wp2;go_ret;exact ⟨by rw [hr.out]; rfl, hbl⟩
   ·have hz := zcf e;have s0 : decide (40 < d.size) = false := decide_eq_false (by omega);have t0 : decide (40 < (d.size : Int)) = false := decide_eq_false (by omega);have s1 : decide (300 < e.size) = false := decide_eq_false (by omega);have t1 : decide (300 < (e.size : Int)) = false := decide_eq_false (by omega);have HZ := Lib.hid hz;clear hz;by_cases h3 : e.size = 0
    ·by_cases h4 : f = 0
     ·skip;have hr := Lib.hid (show zac 1 true d.size e.size f = 0 by unfold zac; rw [if_neg (by omega), if_neg (by simp), if_neg (by omega), if_neg (by omega), if_neg (by omega)]);have q0 : e.toList.isEmpty = true := by rw [HZ.out]; simp only [decide_eq_true_eq, decide_eq_false_iff_not]; omega
      have q1 : (f != 0) = false := by simp only [bne_iff_ne, bne_eq_false_iff_eq, ne_eq]; omega
      clear h1 h2 h3 h4;have B0 := Lib.hid (show inB 1 1 4 = true by decide);go_enter Tryz.func72, Tryz.ntmps72;go_wp2_with fail;refine (zad B0 _).mono ?_;rintro r w0 ⟨rfl, rfl⟩;go_wp2_with fail;refine (zal a b _).mono ?_;rintro r w1 ⟨rfl, hb1⟩;rw [hid.out];obtain ⟨c0, c1, c2, c3, c4, c5⟩ := hW.below hb1;have hbl : Below w.heap.size w w1 := (zaa w _).trans (hb1.mono (by simp));go_wp2;go_ret;exact ⟨by rw [hr.out]; rfl, hbl⟩
     ·skip;have hr := Lib.hid (show zac 1 true d.size e.size f = 3 by unfold zac; rw [if_neg (by omega), if_neg (by simp), if_neg (by omega), if_pos (by omega)]);have q0 : e.toList.isEmpty = true := by rw [HZ.out]; simp only [decide_eq_true_eq, decide_eq_false_iff_not]; omega
      have q1 : (f != 0) = true := by simp only [bne_iff_ne, bne_eq_false_iff_eq, ne_eq]; omega
      clear h1 h2 h3 h4;have B0 := Lib.hid (show inB 1 1 4 = true by decide);go_enter Tryz.func72, Tryz.ntmps72;go_wp2_with fail;refine (zad B0 _).mono ?_;rintro r w0 ⟨rfl, rfl⟩;go_wp2_with fail;refine (zal a b _).mono ?_;rintro r w1 ⟨rfl, hb1⟩;rw [hid.out];obtain ⟨c0, c1, c2, c3, c4, c5⟩ := hW.below hb1;have hbl : Below w.heap.size w w1 := (zaa w _).trans (hb1.mono (by simp));go_wp2;go_ret;exact ⟨by rw [hr.out]; rfl, hbl⟩
    ·by_cases h4 : f = 0
     ·skip;have hr := Lib.hid (show zac 1 true d.size e.size f = 0 by unfold zac; rw [if_neg (by omega), if_neg (by simp), if_neg (by omega), if_neg (by omega), if_neg (by omega)]);have q0 : e.toList.isEmpty = false := by rw [HZ.out]; simp only [decide_eq_true_eq, decide_eq_false_iff_not]; omega
      have q1 : (f != 0) = false := by simp only [bne_iff_ne, bne_eq_false_iff_eq, ne_eq]; omega
      clear h1 h2 h3 h4;have B0 := Lib.hid (show inB 1 1 4 = true by decide);go_enter Tryz.func72, Tryz.ntmps72;go_wp2_with fail;refine (zad B0 _).mono ?_;rintro r w0 ⟨rfl, rfl⟩;go_wp2_with fail;refine (zal a b _).mono ?_;rintro r w1 ⟨rfl, hb1⟩;rw [hid.out];obtain ⟨c0, c1, c2, c3, c4, c5⟩ := hW.below hb1;have hbl : Below w.heap.size w w1 := (zaa w _).trans (hb1.mono (by simp));go_wp2_with fail;refine (ymv _).mono ?_;rintro r w0 ⟨rfl, rfl⟩;go_wp2_with fail;refine (has1 _).mono ?_;rintro r w0 ⟨rfl, rfl⟩;go_wp2;go_ret;exact ⟨by rw [hr.out]; rfl, hbl⟩
     ·skip;have hr := Lib.hid (show zac 1 true d.size e.size f = 3 by unfold zac; rw [if_neg (by omega), if_neg (by simp), if_neg (by omega), if_pos (by omega)]);have q0 : e.toList.isEmpty = false := by rw [HZ.out]; simp only [decide_eq_true_eq, decide_eq_false_iff_not]; omega
      have q1 : (f != 0) = true := by simp only [bne_iff_ne, bne_eq_false_iff_eq, ne_eq]; omega
      clear h1 h2 h3 h4;have B0 := Lib.hid (show inB 1 1 4 = true by decide);go_enter Tryz.func72, Tryz.ntmps72;go_wp2_with fail;refine (zad B0 _).mono ?_;rintro r w0 ⟨rfl, rfl⟩;go_wp2_with fail;refine (zal a b _).mono ?_;rintro r w1 ⟨rfl, hb1⟩;rw [hid.out];obtain ⟨c0, c1, c2, c3, c4, c5⟩ := hW.below hb1;have hbl : Below w.heap.size w w1 := (zaa w _).trans (hb1.mono (by simp));go_wp2_with fail;refine (ymv _).mono ?_;rintro r w0 ⟨rfl, rfl⟩;go_wp2_with fail;refine (has1 _).mono ?_;rintro r w0 ⟨rfl, rfl⟩;go_wp2;go_ret;exact ⟨by rw [hr.out]; rfl, hbl⟩
set_option maxHeartbeats 2000000 in
set_option maxRecDepth 100000 in
theorem yht (a b f : Int) (d e : ByteArray) (w : World) : Calls Tryz.prog 72 #[wrV a b (2) d e f] w fun r w' => r = .returned (.int .i64 (zao (a, b, 2, d, e, f))) ∧ Below w.heap.size w w' := by
 rw [zdx];have hW := WrAt.new w a b (2) d e f;cases hidv : zdd (a, b) with
 | false =>
  have hid := Lib.hid hidv;clear hidv;have hr := Lib.hid (show zac 2 false d.size e.size f = 2 by unfold zac; rw [if_neg (by omega), if_pos rfl]);have B0 := Lib.hid (show inB 2 1 4 = true by decide);go_enter Tryz.func72, Tryz.ntmps72;go_wp2_with fail;refine (zad B0 _).mono ?_;rintro r w0 ⟨rfl, rfl⟩;go_wp2_with fail;refine (zal a b _).mono ?_;rintro r w1 ⟨rfl, hb1⟩;rw [hid.out];obtain ⟨c0, c1, c2, c3, c4, c5⟩ := hW.below hb1;have hbl : Below w.heap.size w w1 := (zaa w _).trans (hb1.mono (by simp));go_wp2;go_ret;exact ⟨by rw [hr.out]; rfl, hbl⟩
 | true =>
  have hid := Lib.hid hidv;clear hidv;by_cases h1 : 40 < d.size
  ·have hr := Lib.hid (show zac 2 true d.size e.size f = 4 by unfold zac; rw [if_neg (by omega), if_neg (by simp), if_pos (by omega)]);have s0 : decide (40 < d.size) = true := decide_eq_true (by omega);have t0 : decide (40 < (d.size : Int)) = true := decide_eq_true (by omega);clear h1;have B0 := Lib.hid (show inB 2 1 4 = true by decide);go_enter Tryz.func72, Tryz.ntmps72;go_wp2_with fail;refine (zad B0 _).mono ?_;rintro r w0 ⟨rfl, rfl⟩;go_wp2_with fail;refine (zal a b _).mono ?_;rintro r w1 ⟨rfl, hb1⟩;rw [hid.out];obtain ⟨c0, c1, c2, c3, c4, c5⟩ := hW.below hb1;have hbl : Below w.heap.size w w1 := (zaa w _).trans (hb1.mono (by simp));go_wp2;go_ret;exact ⟨by rw [hr.out]; rfl, hbl⟩
  ·by_cases h2 : 300 < e.size
   ·have hr := Lib.hid (show zac 2 true d.size e.size f = 4 by unfold zac; rw [if_neg (by omega), if_neg (by simp), if_pos (by omega)]);have s0 : decide (40 < d.size) = false := decide_eq_false (by omega);have t0 : decide (40 < (d.size : Int)) = false := decide_eq_false (by omega);have s1 : decide (300 < e.size) = true := decide_eq_true (by omega);have t1 : decide (300 < (e.size : Int)) = true := decide_eq_true (by omega);clear h1 h2;have B0 := Lib.hid (show inB 2 1 4 = true by decide);go_enter Tryz.func72, Tryz.ntmps72;go_wp2_with fail;refine (zad B0 _).mono ?_;rintro r w0 ⟨rfl, rfl⟩;go_wp2_with fail;refine (zal a b _).mono ?_;rintro r w1 ⟨rfl, hb1⟩;rw [hid.out];obtain ⟨c0, c1, c2, c3, c4, c5⟩ := hW.below hb1;have hbl : Below w.heap.size w w1 := (zaa w _).trans (hb1.mono (by simp));go_wp2;go_ret;exact ⟨by rw [hr.out]; rfl, hbl⟩
   ·have hz := zcf e;have s0 : decide (40 < d.size) = false := decide_eq_false (by omega);have t0 : decide (40 < (d.size : Int)) = false := decide_eq_false (by omega);have s1 : decide (300 < e.size) = false := decide_eq_false (by omega);have t1 : decide (300 < (e.size : Int)) = false := decide_eq_false (by omega);have HZ := Lib.hid hz;clear hz;by_cases h3 : e.size = 0
    ·by_cases h4 : f = 0
     ·skip;have hr := Lib.hid (show zac 2 true d.size e.size f = 0 by unfold zac; rw [if_neg (by omega), if_neg (by simp), if_neg (by omega), if_neg (by omega), if_neg (by omega)]);have q0 : e.toList.isEmpty = true := by rw [HZ.out]; simp only [decide_eq_true_eq, decide_eq_false_iff_not]; omega
      have q1 : (f != 0) = false := by simp only [bne_iff_ne, bne_eq_false_iff_eq, ne_eq]; omega
      clear h1 h2 h3 h4;have B0 := Lib.hid (show inB 2 1 4 = true by decide);go_enter Tryz.func72, Tryz.ntmps72;go_wp2_with fail;refine (zad B0 _).mono ?_;rintro r w0 ⟨rfl, rfl⟩;go_wp2_with fail;refine (zal a b _).mono ?_;rintro r w1 ⟨rfl, hb1⟩;rw [hid.out];obtain ⟨c0, c1, c2, c3, c4, c5⟩ := hW.below hb1;have hbl : Below w.heap.size w w1 := (zaa w _).trans (hb1.mono (by simp));go_wp2;go_ret;exact ⟨by rw [hr.out]; rfl, hbl⟩
     ·skip;have hr := Lib.hid (show zac 2 true d.size e.size f = 3 by unfold zac; rw [if_neg (by omega), if_neg (by simp), if_neg (by omega), if_pos (by omega)]);have q0 : e.toList.isEmpty = true := by rw [HZ.out]; simp only [decide_eq_true_eq, decide_eq_false_iff_not]; omega
      have q1 : (f != 0) = true := by simp only [bne_iff_ne, bne_eq_false_iff_eq, ne_eq]; omega
      clear h1 h2 h3 h4;have B0 := Lib.hid (show inB 2 1 4 = true by decide);go_enter Tryz.func72, Tryz.ntmps72;go_wp2_with fail;refine (zad B0 _).mono ?_;rintro r w0 ⟨rfl, rfl⟩;go_wp2_with fail;refine (zal a b _).mono ?_;rintro r w1 ⟨rfl, hb1⟩;rw [hid.out];obtain ⟨c0, c1, c2, c3, c4, c5⟩ := hW.below hb1;have hbl : Below w.heap.size w w1 := (zaa w _).trans (hb1.mono (by simp));go_wp2;go_ret;exact ⟨by rw [hr.out]; rfl, hbl⟩
    ·skip;have hr := Lib.hid (show zac 2 true d.size e.size f = 3 by unfold zac; rw [if_neg (by omega), if_neg (by simp), if_neg (by omega), if_pos (by omega)]);have q0 : e.toList.isEmpty = false := by rw [HZ.out]; simp only [decide_eq_true_eq, decide_eq_false_iff_not]; omega
     clear h1 h2 h3;have B0 := Lib.hid (show inB 2 1 4 = true by decide);go_enter Tryz.func72, Tryz.ntmps72;go_wp2_with fail;refine (zad B0 _).mono ?_;rintro r w0 ⟨rfl, rfl⟩;go_wp2_with fail;refine (zal a b _).mono ?_;rintro r w1 ⟨rfl, hb1⟩;rw [hid.out];obtain ⟨c0, c1, c2, c3, c4, c5⟩ := hW.below hb1;have hbl : Below w.heap.size w w1 := (zaa w _).trans (hb1.mono (by simp));go_wp2_with fail;refine (yoo _).mono ?_;rintro r w0 ⟨rfl, rfl⟩;go_wp2_with fail;refine (has2 _).mono ?_;rintro r w0 ⟨rfl, rfl⟩;go_wp2;go_ret;exact ⟨by rw [hr.out]; rfl, hbl⟩
set_option maxHeartbeats 2000000 in
set_option maxRecDepth 100000 in
theorem yft (a b f : Int) (d e : ByteArray) (w : World) : Calls Tryz.prog 72 #[wrV a b (3) d e f] w fun r w' => r = .returned (.int .i64 (zao (a, b, 3, d, e, f))) ∧ Below w.heap.size w w' := by
 rw [zdx];have hW := WrAt.new w a b (3) d e f;cases hidv : zdd (a, b) with
 | false =>
  have hid := Lib.hid hidv;clear hidv;have hr := Lib.hid (show zac 3 false d.size e.size f = 2 by unfold zac; rw [if_neg (by omega), if_pos rfl]);have B0 := Lib.hid (show inB 3 1 4 = true by decide);go_enter Tryz.func72, Tryz.ntmps72;go_wp2_with fail;refine (zad B0 _).mono ?_;rintro r w0 ⟨rfl, rfl⟩;go_wp2_with fail;refine (zal a b _).mono ?_;rintro r w1 ⟨rfl, hb1⟩;rw [hid.out];obtain ⟨c0, c1, c2, c3, c4, c5⟩ := hW.below hb1;have hbl : Below w.heap.size w w1 := (zaa w _).trans (hb1.mono (by simp));go_wp2;go_ret;exact ⟨by rw [hr.out]; rfl, hbl⟩
 | true =>
  have hid := Lib.hid hidv;clear hidv;by_cases h1 : 40 < d.size
  ·have hr := Lib.hid (show zac 3 true d.size e.size f = 4 by unfold zac; rw [if_neg (by omega), if_neg (by simp), if_pos (by omega)]);have s0 : decide (40 < d.size) = true := decide_eq_true (by omega);have t0 : decide (40 < (d.size : Int)) = true := decide_eq_true (by omega);clear h1;have B0 := Lib.hid (show inB 3 1 4 = true by decide);go_enter Tryz.func72, Tryz.ntmps72;go_wp2_with fail;refine (zad B0 _).mono ?_;rintro r w0 ⟨rfl, rfl⟩;go_wp2_with fail;refine (zal a b _).mono ?_;rintro r w1 ⟨rfl, hb1⟩;rw [hid.out];obtain ⟨c0, c1, c2, c3, c4, c5⟩ := hW.below hb1;have hbl : Below w.heap.size w w1 := (zaa w _).trans (hb1.mono (by simp));go_wp2;go_ret;exact ⟨by rw [hr.out]; rfl, hbl⟩
  ·by_cases h2 : 300 < e.size
   ·have hr := Lib.hid (show zac 3 true d.size e.size f = 4 by unfold zac; rw [if_neg (by omega), if_neg (by simp), if_pos (by omega)]);have s0 : decide (40 < d.size) = false := decide_eq_false (by omega);have t0 : decide (40 < (d.size : Int)) = false := decide_eq_false (by omega);have s1 : decide (300 < e.size) = true := decide_eq_true (by omega);have t1 : decide (300 < (e.size : Int)) = true := decide_eq_true (by omega);clear h1 h2;have B0 := Lib.hid (show inB 3 1 4 = true by decide);go_enter Tryz.func72, Tryz.ntmps72;go_wp2_with fail;refine (zad B0 _).mono ?_;rintro r w0 ⟨rfl, rfl⟩;go_wp2_with fail;refine (zal a b _).mono ?_;rintro r w1 ⟨rfl, hb1⟩;rw [hid.out];obtain ⟨c0, c1, c2, c3, c4, c5⟩ := hW.below hb1;have hbl : Below w.heap.size w w1 := (zaa w _).trans (hb1.mono (by simp));go_wp2;go_ret;exact ⟨by rw [hr.out]; rfl, hbl⟩
   ·have hz := zcf e;have s0 : decide (40 < d.size) = false := decide_eq_false (by omega);have t0 : decide (40 < (d.size : Int)) = false := decide_eq_false (by omega);have s1 : decide (300 < e.size) = false := decide_eq_false (by omega);have t1 : decide (300 < (e.size : Int)) = false := decide_eq_false (by omega);have HZ := Lib.hid hz;clear hz;by_cases h3 : e.size = 0
    ·by_cases h4 : f = 0
     ·skip;have hr := Lib.hid (show zac 3 true d.size e.size f = 0 by unfold zac; rw [if_neg (by omega), if_neg (by simp), if_neg (by omega), if_neg (by omega), if_neg (by omega)]);have q0 : e.toList.isEmpty = true := by rw [HZ.out]; simp only [decide_eq_true_eq, decide_eq_false_iff_not]; omega
      have q1 : (f != 0) = false := by simp only [bne_iff_ne, bne_eq_false_iff_eq, ne_eq]; omega
      have q2 := Lib.hid (show inB f (-1125899906842624) 1125899906842624 = true by unfold inB; rw [decide_eq_true]; omega);clear h1 h2 h3 h4;have B0 := Lib.hid (show inB 3 1 4 = true by decide);go_enter Tryz.func72, Tryz.ntmps72;go_wp2_with fail;refine (zad B0 _).mono ?_;rintro r w0 ⟨rfl, rfl⟩;go_wp2_with fail;refine (zal a b _).mono ?_;rintro r w1 ⟨rfl, hb1⟩;rw [hid.out];obtain ⟨c0, c1, c2, c3, c4, c5⟩ := hW.below hb1;have hbl : Below w.heap.size w w1 := (zaa w _).trans (hb1.mono (by simp));go_wp2_with fail;refine (zad q2 _).mono ?_;rintro r w0 ⟨rfl, rfl⟩;go_wp2;go_ret;exact ⟨by rw [hr.out]; rfl, hbl⟩
     ·by_cases h5 : (-1125899906842624 ≤ f ∧ f ≤ 1125899906842624)
      ·skip;have hr := Lib.hid (show zac 3 true d.size e.size f = 0 by unfold zac; rw [if_neg (by omega), if_neg (by simp), if_neg (by omega), if_neg (by omega), if_neg (by omega)]);have q0 : e.toList.isEmpty = true := by rw [HZ.out]; simp only [decide_eq_true_eq, decide_eq_false_iff_not]; omega
       have q1 : (f != 0) = true := by simp only [bne_iff_ne, bne_eq_false_iff_eq, ne_eq]; omega
       have q2 := Lib.hid (show inB f (-1125899906842624) 1125899906842624 = true by unfold inB; rw [decide_eq_true]; omega);clear h1 h2 h3 h4 h5;have B0 := Lib.hid (show inB 3 1 4 = true by decide);go_enter Tryz.func72, Tryz.ntmps72;go_wp2_with fail;refine (zad B0 _).mono ?_;rintro r w0 ⟨rfl, rfl⟩;go_wp2_with fail;refine (zal a b _).mono ?_;rintro r w1 ⟨rfl, hb1⟩;rw [hid.out];obtain ⟨c0, c1, c2, c3, c4, c5⟩ := hW.below hb1;have hbl : Below w.heap.size w w1 := (zaa w _).trans (hb1.mono (by simp));go_wp2_with fail;refine (zad q2 _).mono ?_;rintro r w0 ⟨rfl, rfl⟩;go_wp2;go_ret;exact ⟨by rw [hr.out]; rfl, hbl⟩
      ·skip;have hr := Lib.hid (show zac 3 true d.size e.size f = 2 by unfold zac; rw [if_neg (by omega), if_neg (by simp), if_neg (by omega), if_neg (by omega), if_pos (by omega)]);have q0 : e.toList.isEmpty = true := by rw [HZ.out]; simp only [decide_eq_true_eq, decide_eq_false_iff_not]; omega
       have q1 : (f != 0) = true := by simp only [bne_iff_ne, bne_eq_false_iff_eq, ne_eq]; omega
       have q2 := Lib.hid (show inB f (-1125899906842624) 1125899906842624 = false by unfold inB; rw [decide_eq_false]; omega);clear h1 h2 h3 h4 h5;have B0 := Lib.hid (show inB 3 1 4 = true by decide);go_enter Tryz.func72, Tryz.ntmps72;go_wp2_with fail;refine (zad B0 _).mono ?_;rintro r w0 ⟨rfl, rfl⟩;go_wp2_with fail;refine (zal a b _).mono ?_;rintro r w1 ⟨rfl, hb1⟩;rw [hid.out];obtain ⟨c0, c1, c2, c3, c4, c5⟩ := hW.below hb1;have hbl : Below w.heap.size w w1 := (zaa w _).trans (hb1.mono (by simp));go_wp2_with fail;refine (zad q2 _).mono ?_;rintro r w0 ⟨rfl, rfl⟩;go_wp2;go_ret;exact ⟨by rw [hr.out]; rfl, hbl⟩
    ·skip;have hr := Lib.hid (show zac 3 true d.size e.size f = 3 by unfold zac; rw [if_neg (by omega), if_neg (by simp), if_neg (by omega), if_pos (by omega)]);have q0 : e.toList.isEmpty = false := by rw [HZ.out]; simp only [decide_eq_true_eq, decide_eq_false_iff_not]; omega
     clear h1 h2 h3;have B0 := Lib.hid (show inB 3 1 4 = true by decide);go_enter Tryz.func72, Tryz.ntmps72;go_wp2_with fail;refine (zad B0 _).mono ?_;rintro r w0 ⟨rfl, rfl⟩;go_wp2_with fail;refine (zal a b _).mono ?_;rintro r w1 ⟨rfl, hb1⟩;rw [hid.out];obtain ⟨c0, c1, c2, c3, c4, c5⟩ := hW.below hb1;have hbl : Below w.heap.size w w1 := (zaa w _).trans (hb1.mono (by simp));go_wp2_with fail;refine (yon _).mono ?_;rintro r w0 ⟨rfl, rfl⟩;go_wp2_with fail;refine (has3 _).mono ?_;rintro r w0 ⟨rfl, rfl⟩;go_wp2;go_ret;exact ⟨by rw [hr.out]; rfl, hbl⟩
set_option maxHeartbeats 2000000 in
set_option maxRecDepth 100000 in
theorem yhl (a b f : Int) (d e : ByteArray) (w : World) : Calls Tryz.prog 72 #[wrV a b (4) d e f] w fun r w' => r = .returned (.int .i64 (zao (a, b, 4, d, e, f))) ∧ Below w.heap.size w w' := by
 rw [zdx];have hW := WrAt.new w a b (4) d e f;cases hidv : zdd (a, b) with
 | false =>
  have hid := Lib.hid hidv;clear hidv;have hr := Lib.hid (show zac 4 false d.size e.size f = 2 by unfold zac; rw [if_neg (by omega), if_pos rfl]);have B0 := Lib.hid (show inB 4 1 4 = true by decide);go_enter Tryz.func72, Tryz.ntmps72;go_wp2_with fail;refine (zad B0 _).mono ?_;rintro r w0 ⟨rfl, rfl⟩;go_wp2_with fail;refine (zal a b _).mono ?_;rintro r w1 ⟨rfl, hb1⟩;rw [hid.out];obtain ⟨c0, c1, c2, c3, c4, c5⟩ := hW.below hb1;have hbl : Below w.heap.size w w1 := (zaa w _).trans (hb1.mono (by simp));go_wp2;go_ret;exact ⟨by rw [hr.out]; rfl, hbl⟩
 | true =>
  have hid := Lib.hid hidv;clear hidv;by_cases h1 : 40 < d.size
  ·have hr := Lib.hid (show zac 4 true d.size e.size f = 4 by unfold zac; rw [if_neg (by omega), if_neg (by simp), if_pos (by omega)]);have s0 : decide (40 < d.size) = true := decide_eq_true (by omega);have t0 : decide (40 < (d.size : Int)) = true := decide_eq_true (by omega);clear h1;have B0 := Lib.hid (show inB 4 1 4 = true by decide);go_enter Tryz.func72, Tryz.ntmps72;go_wp2_with fail;refine (zad B0 _).mono ?_;rintro r w0 ⟨rfl, rfl⟩;go_wp2_with fail;refine (zal a b _).mono ?_;rintro r w1 ⟨rfl, hb1⟩;rw [hid.out];obtain ⟨c0, c1, c2, c3, c4, c5⟩ := hW.below hb1;have hbl : Below w.heap.size w w1 := (zaa w _).trans (hb1.mono (by simp));go_wp2;go_ret;exact ⟨by rw [hr.out]; rfl, hbl⟩
  ·by_cases h2 : 300 < e.size
   ·have hr := Lib.hid (show zac 4 true d.size e.size f = 4 by unfold zac; rw [if_neg (by omega), if_neg (by simp), if_pos (by omega)]);have s0 : decide (40 < d.size) = false := decide_eq_false (by omega);have t0 : decide (40 < (d.size : Int)) = false := decide_eq_false (by omega);have s1 : decide (300 < e.size) = true := decide_eq_true (by omega);have t1 : decide (300 < (e.size : Int)) = true := decide_eq_true (by omega);clear h1 h2;have B0 := Lib.hid (show inB 4 1 4 = true by decide);go_enter Tryz.func72, Tryz.ntmps72;go_wp2_with fail;refine (zad B0 _).mono ?_;rintro r w0 ⟨rfl, rfl⟩;go_wp2_with fail;refine (zal a b _).mono ?_;rintro r w1 ⟨rfl, hb1⟩;rw [hid.out];obtain ⟨c0, c1, c2, c3, c4, c5⟩ := hW.below hb1;have hbl : Below w.heap.size w w1 := (zaa w _).trans (hb1.mono (by simp));go_wp2;go_ret;exact ⟨by rw [hr.out]; rfl, hbl⟩
   ·have hz := zcf e;have s0 : decide (40 < d.size) = false := decide_eq_false (by omega);have t0 : decide (40 < (d.size : Int)) = false := decide_eq_false (by omega);have s1 : decide (300 < e.size) = false := decide_eq_false (by omega);have t1 : decide (300 < (e.size : Int)) = false := decide_eq_false (by omega);have HZ := Lib.hid hz;clear hz;by_cases h3 : e.size = 0
    ·by_cases h4 : f = 0
     ·skip;have hr := Lib.hid (show zac 4 true d.size e.size f = 0 by unfold zac; rw [if_neg (by omega), if_neg (by simp), if_neg (by omega), if_neg (by omega), if_neg (by omega)]);have q0 : e.toList.isEmpty = true := by rw [HZ.out]; simp only [decide_eq_true_eq, decide_eq_false_iff_not]; omega
      have q1 : (f != 0) = false := by simp only [bne_iff_ne, bne_eq_false_iff_eq, ne_eq]; omega
      have q2 := Lib.hid (show inB f (0) 1000 = true by unfold inB; rw [decide_eq_true]; omega);clear h1 h2 h3 h4;have B0 := Lib.hid (show inB 4 1 4 = true by decide);go_enter Tryz.func72, Tryz.ntmps72;go_wp2_with fail;refine (zad B0 _).mono ?_;rintro r w0 ⟨rfl, rfl⟩;go_wp2_with fail;refine (zal a b _).mono ?_;rintro r w1 ⟨rfl, hb1⟩;rw [hid.out];obtain ⟨c0, c1, c2, c3, c4, c5⟩ := hW.below hb1;have hbl : Below w.heap.size w w1 := (zaa w _).trans (hb1.mono (by simp));go_wp2_with fail;refine (zad q2 _).mono ?_;rintro r w0 ⟨rfl, rfl⟩;go_wp2;go_ret;exact ⟨by rw [hr.out]; rfl, hbl⟩
     ·by_cases h5 : (0 ≤ f ∧ f ≤ 1000)
      ·skip;have hr := Lib.hid (show zac 4 true d.size e.size f = 0 by unfold zac; rw [if_neg (by omega), if_neg (by simp), if_neg (by omega), if_neg (by omega), if_neg (by omega)]);have q0 : e.toList.isEmpty = true := by rw [HZ.out]; simp only [decide_eq_true_eq, decide_eq_false_iff_not]; omega
       have q1 : (f != 0) = true := by simp only [bne_iff_ne, bne_eq_false_iff_eq, ne_eq]; omega
       have q2 := Lib.hid (show inB f (0) 1000 = true by unfold inB; rw [decide_eq_true]; omega);clear h1 h2 h3 h4 h5;have B0 := Lib.hid (show inB 4 1 4 = true by decide);go_enter Tryz.func72, Tryz.ntmps72;go_wp2_with fail;refine (zad B0 _).mono ?_;rintro r w0 ⟨rfl, rfl⟩;go_wp2_with fail;refine (zal a b _).mono ?_;rintro r w1 ⟨rfl, hb1⟩;rw [hid.out];obtain ⟨c0, c1, c2, c3, c4, c5⟩ := hW.below hb1;have hbl : Below w.heap.size w w1 := (zaa w _).trans (hb1.mono (by simp));go_wp2_with fail;refine (zad q2 _).mono ?_;rintro r w0 ⟨rfl, rfl⟩;go_wp2;go_ret;exact ⟨by rw [hr.out]; rfl, hbl⟩
      ·skip;have hr := Lib.hid (show zac 4 true d.size e.size f = 2 by unfold zac; rw [if_neg (by omega), if_neg (by simp), if_neg (by omega), if_neg (by omega), if_pos (by omega)]);have q0 : e.toList.isEmpty = true := by rw [HZ.out]; simp only [decide_eq_true_eq, decide_eq_false_iff_not]; omega
       have q1 : (f != 0) = true := by simp only [bne_iff_ne, bne_eq_false_iff_eq, ne_eq]; omega
       have q2 := Lib.hid (show inB f (0) 1000 = false by unfold inB; rw [decide_eq_false]; omega);clear h1 h2 h3 h4 h5;have B0 := Lib.hid (show inB 4 1 4 = true by decide);go_enter Tryz.func72, Tryz.ntmps72;go_wp2_with fail;refine (zad B0 _).mono ?_;rintro r w0 ⟨rfl, rfl⟩;go_wp2_with fail;refine (zal a b _).mono ?_;rintro r w1 ⟨rfl, hb1⟩;rw [hid.out];obtain ⟨c0, c1, c2, c3, c4, c5⟩ := hW.below hb1;have hbl : Below w.heap.size w w1 := (zaa w _).trans (hb1.mono (by simp));go_wp2_with fail;refine (zad q2 _).mono ?_;rintro r w0 ⟨rfl, rfl⟩;go_wp2;go_ret;exact ⟨by rw [hr.out]; rfl, hbl⟩
    ·by_cases h4 : f = 0
     ·skip;have hr := Lib.hid (show zac 4 true d.size e.size f = 0 by unfold zac; rw [if_neg (by omega), if_neg (by simp), if_neg (by omega), if_neg (by omega), if_neg (by omega)]);have q0 : e.toList.isEmpty = false := by rw [HZ.out]; simp only [decide_eq_true_eq, decide_eq_false_iff_not]; omega
      have q1 : (f != 0) = false := by simp only [bne_iff_ne, bne_eq_false_iff_eq, ne_eq]; omega
      have q2 := Lib.hid (show inB f (0) 1000 = true by unfold inB; rw [decide_eq_true]; omega);clear h1 h2 h3 h4;have B0 := Lib.hid (show inB 4 1 4 = true by decide);go_enter Tryz.func72, Tryz.ntmps72;go_wp2_with fail;refine (zad B0 _).mono ?_;rintro r w0 ⟨rfl, rfl⟩;go_wp2_with fail;refine (zal a b _).mono ?_;rintro r w1 ⟨rfl, hb1⟩;rw [hid.out];obtain ⟨c0, c1, c2, c3, c4, c5⟩ := hW.below hb1;have hbl : Below w.heap.size w w1 := (zaa w _).trans (hb1.mono (by simp));go_wp2_with fail;refine (yki _).mono ?_;rintro r w0 ⟨rfl, rfl⟩;go_wp2_with fail;refine (has4 _).mono ?_;rintro r w0 ⟨rfl, rfl⟩;go_wp2_with fail;refine (zad q2 _).mono ?_;rintro r w0 ⟨rfl, rfl⟩;go_wp2;go_ret;exact ⟨by rw [hr.out]; rfl, hbl⟩
     ·by_cases h5 : (0 ≤ f ∧ f ≤ 1000)
      ·skip;have hr := Lib.hid (show zac 4 true d.size e.size f = 0 by unfold zac; rw [if_neg (by omega), if_neg (by simp), if_neg (by omega), if_neg (by omega), if_neg (by omega)]);have q0 : e.toList.isEmpty = false := by rw [HZ.out]; simp only [decide_eq_true_eq, decide_eq_false_iff_not]; omega
       have q1 : (f != 0) = true := by simp only [bne_iff_ne, bne_eq_false_iff_eq, ne_eq]; omega
       have q2 := Lib.hid (show inB f (0) 1000 = true by unfold inB; rw [decide_eq_true]; omega);clear h1 h2 h3 h4 h5;have B0 := Lib.hid (show inB 4 1 4 = true by decide);go_enter Tryz.func72, Tryz.ntmps72;go_wp2_with fail;refine (zad B0 _).mono ?_;rintro r w0 ⟨rfl, rfl⟩;go_wp2_with fail;refine (zal a b _).mono ?_;rintro r w1 ⟨rfl, hb1⟩;rw [hid.out];obtain ⟨c0, c1, c2, c3, c4, c5⟩ := hW.below hb1;have hbl : Below w.heap.size w w1 := (zaa w _).trans (hb1.mono (by simp));go_wp2_with fail;refine (yki _).mono ?_;rintro r w0 ⟨rfl, rfl⟩;go_wp2_with fail;refine (has4 _).mono ?_;rintro r w0 ⟨rfl, rfl⟩;go_wp2_with fail;refine (zad q2 _).mono ?_;rintro r w0 ⟨rfl, rfl⟩;go_wp2;go_ret;exact ⟨by rw [hr.out]; rfl, hbl⟩
      ·skip;have hr := Lib.hid (show zac 4 true d.size e.size f = 2 by unfold zac; rw [if_neg (by omega), if_neg (by simp), if_neg (by omega), if_neg (by omega), if_pos (by omega)]);have q0 : e.toList.isEmpty = false := by rw [HZ.out]; simp only [decide_eq_true_eq, decide_eq_false_iff_not]; omega
       have q1 : (f != 0) = true := by simp only [bne_iff_ne, bne_eq_false_iff_eq, ne_eq]; omega
       have q2 := Lib.hid (show inB f (0) 1000 = false by unfold inB; rw [decide_eq_false]; omega);clear h1 h2 h3 h4 h5;have B0 := Lib.hid (show inB 4 1 4 = true by decide);go_enter Tryz.func72, Tryz.ntmps72;go_wp2_with fail;refine (zad B0 _).mono ?_;rintro r w0 ⟨rfl, rfl⟩;go_wp2_with fail;refine (zal a b _).mono ?_;rintro r w1 ⟨rfl, hb1⟩;rw [hid.out];obtain ⟨c0, c1, c2, c3, c4, c5⟩ := hW.below hb1;have hbl : Below w.heap.size w w1 := (zaa w _).trans (hb1.mono (by simp));go_wp2_with fail;refine (yki _).mono ?_;rintro r w0 ⟨rfl, rfl⟩;go_wp2_with fail;refine (has4 _).mono ?_;rintro r w0 ⟨rfl, rfl⟩;go_wp2_with fail;refine (zad q2 _).mono ?_;rintro r w0 ⟨rfl, rfl⟩;go_wp2;go_ret;exact ⟨by rw [hr.out]; rfl, hbl⟩
set_option maxHeartbeats 2000000 in
set_option maxRecDepth 100000 in
theorem yfw (a b c f : Int) (d e : ByteArray) (w : World) (hc : c < 1 ∨ 4 < c) : Calls Tryz.prog 72 #[wrV a b (c) d e f] w fun r w' => r = .returned (.int .i64 (zao (a, b, c, d, e, f))) ∧ Below w.heap.size w w' := by
 rw [zdx];have hW := WrAt.new w a b (c) d e f;have hr := Lib.hid (show zac c (zdd (a, b)) d.size e.size f = 1 by unfold zac; rw [if_pos hc]);have B0 := Lib.hid (show inB c 1 4 = false by unfold inB; rw [decide_eq_false]; omega);clear hc;go_enter Tryz.func72, Tryz.ntmps72;go_wp2_with fail;refine (zad B0 _).mono ?_;rintro r w0 ⟨rfl, rfl⟩;go_wp2;go_ret;exact ⟨by rw [hr.out]; rfl, zaa w _⟩
theorem zdj (x : Wr) (w : World) : Calls Tryz.prog 72 #[wrV x.1 x.2.1 x.2.2.1 x.2.2.2.1 x.2.2.2.2.1 x.2.2.2.2.2] w fun r w' => r = .returned (.int .i64 (zao x)) ∧ Below w.heap.size w w' := by
 obtain ⟨a, b, c, d, e, f⟩ := x;by_cases h : c < 1 ∨ 4 < c
 ·exact yfw a b c f d e w h
 ·rcases (by omega : c = 1 ∨ c = 2 ∨ c = 3 ∨ c = 4) with rfl | rfl | rfl | rfl
  ·exact yfu a b f d e w
  ·exact yht a b f d e w
  ·exact yft a b f d e w
  ·exact yhl a b f d e w
end Go.Proofs.YtkejlnjnoiidnaaGreatDoor
end

section
namespace Go.Proofs.YtkejlnjnoiidnaaGreatDoor.Zg
open Go.ChangeShapes Go.WideShapes Go.ChangeAt Go.RowKit
/- Plain facts on bits. -/
theorem zuk (a : Int) : bits .xor .u64 a 0 = a % 18446744073709551616 := by
 show IntKind.u64.wrap ((BitVec.ofInt 64 a ^^^ BitVec.ofInt 64 0).toNat : Int) = _;have h : BitVec.ofInt 64 0 = 0#64 := by decide
 rw [h, BitVec.xor_zero, IntKind.wrap_u64, BitVec.toNat_ofInt];omega
theorem zuh (a : Nat) (ha : a < 18446744073709551616) : bits .xor .u64 (a : Int) 18446744073709551615 = 18446744073709551615 - (a : Int) := by
 show IntKind.u64.wrap ((BitVec.ofInt 64 (a : Int) ^^^ BitVec.ofInt 64 18446744073709551615).toNat : Int) = _;have h1 : BitVec.ofInt 64 18446744073709551615 = BitVec.allOnes 64 := by decide
 rw [h1, BitVec.xor_allOnes, BitVec.toNat_not, ofInt_u64 a ha, IntKind.wrap_u64];omega
theorem zru (a : Int) (h0 : 0 ≤ a) (h1 : a < 9223372036854775808) : bits .xor .i64 a 0 = a := by
 show IntKind.i64.wrap ((BitVec.ofInt 64 a ^^^ BitVec.ofInt 64 0).toNat : Int) = _;have h : BitVec.ofInt 64 0 = 0#64 := by decide
 rw [h, BitVec.xor_zero, BitVec.toNat_ofInt];simp [IntKind.wrap, IntKind.bits, IntKind.signed];omega
theorem zsh (a : Int) (h0 : 0 ≤ a) (h1 : a < 9223372036854775808) : bits .xor .i64 a (-1) = -1 - a := by
 obtain ⟨m, rfl⟩ := Int.eq_ofNat_of_zero_le h0;have h := i64_not m (by omega);have c : bits .xor .i64 (m : Int) (-1) = bits .xor .i64 (-1) (m : Int) := by
  show IntKind.i64.wrap ((BitVec.ofInt 64 (m : Int) ^^^ BitVec.ofInt 64 (-1)).toNat : Int) = IntKind.i64.wrap ((BitVec.ofInt 64 (-1) ^^^ BitVec.ofInt 64 (m : Int)).toNat : Int);rw [BitVec.xor_comm]
 rw [c, h]
theorem zlj (n : Int) (h0 : 0 ≤ n) (h1 : n ≤ 18446744073709551615) : bits .and .u64 n 1 = n % 2 := by
 have h := u64_and n 1 h0 (by omega) (by omega) (by omega);rw [h];have e : (1 : Int).toNat = 1 := rfl;rw [e, nat_mask1];omega
theorem ykl (n : Int) (h0 : -9223372036854775808 ≤ n) (h1 : n < 0) :
  bits BinOp.xor IntKind.u64 (IntKind.u64.wrap (IntKind.u64.wrap n * 2)) (IntKind.u64.wrap (n / 9223372036854775808)) = 2 * -(n + 1) + 1 := by
 have e1 : n / 9223372036854775808 = -1 := by omega
 rw [e1];simp only [IntKind.wrap_u64];have e2 : (-1 : Int) % 18446744073709551616 = 18446744073709551615 := by decide
 rw [e2];have e3 : n % 18446744073709551616 * 2 % 18446744073709551616 = ((2 * n + 18446744073709551616).toNat : Int) := by omega
 rw [e3, zuh _ (by omega)];omega
theorem yle (n : Int) (h0 : 0 ≤ n) (h1 : n ≤ 9223372036854775807) :
  bits BinOp.xor IntKind.u64 (IntKind.u64.wrap (IntKind.u64.wrap n * 2)) (IntKind.u64.wrap (n / 9223372036854775808)) = 2 * n := by
 have e1 : n / 9223372036854775808 = 0 := by omega
 rw [e1];simp only [IntKind.wrap_u64];have e2 : (0 : Int) % 18446744073709551616 = 0 := by decide
 rw [e2, zuk];omega
theorem yic (n : Int) (h0 : 0 ≤ n) (h1 : n ≤ 18446744073709551615) (h2 : n % 2 = 0) :
  bits BinOp.xor IntKind.i64 (n / 2) (wrap64 (-wrap64 (bits BinOp.and IntKind.u64 n 1))) = n / 2 := by
 rw [zlj n h0 h1, h2];have e : wrap64 (-wrap64 0) = 0 := by simp [wrap64]
 rw [e, zru _ (by omega) (by omega)]
theorem ykr (n : Int) (h0 : 0 ≤ n) (h1 : n ≤ 18446744073709551615) (h2 : n % 2 = 1) :
  bits BinOp.xor IntKind.i64 (n / 2) (wrap64 (-wrap64 (bits BinOp.and IntKind.u64 n 1))) = -(n / 2) - 1 := by
 rw [zlj n h0 h1, h2];have e : wrap64 (-wrap64 1) = -1 := by simp [wrap64]
 rw [e, zsh _ (by omega) (by omega)];omega
/- What each of the two pairs computes. -/
def zig (n : Int) : Int := if n < 0 then 2 * -(n + 1) + 1 else 2 * n
def zag (n : Int) : Int := if n % 2 = 1 then -(n / 2) - 1 else n / 2
theorem retI {k : IntKind} {a b : Int} (h : a = b) : Ending.returned (.int k a) = .returned (.int k b) := by rw [h]
theorem ykj (n : Int) (w : World) (h0 : -9223372036854775808 ≤ n) (h1 : n ≤ 9223372036854775807) :
  Calls Tryz.prog 84 #[.int .i64 n] w fun e w' => e = .returned (.int .u64 (zig n)) ∧ w = w' := by
 go_enter Tryz.func84, Tryz.ntmps84;go_wp2;go_ret;refine ⟨retI ?_, rfl⟩;unfold zig;split
 ·exact ykl n h0 (by assumption)
 ·exact yle n (by omega) h1
theorem yjv (n : Int) (w : World) (h0 : 0 ≤ n) (h1 : n ≤ 18446744073709551615) :
  Calls Tryz.prog 135 #[.int .u64 n] w fun e w' => e = .returned (.int .i64 (zag n)) ∧ w = w' := by
 go_enter Tryz.func135, Tryz.ntmps135;go_wp2;go_ret;refine ⟨retI ?_, rfl⟩;unfold zag;split
 ·exact ykr n h0 h1 (by assumption)
 ·exact yic n h0 h1 (by omega)
theorem yga (n : Int) (w : World) (h0 : -9223372036854775808 ≤ n) (h1 : n ≤ 9223372036854775807) :
  Calls Tryz.prog 77 #[.int .i64 n] w fun e w' => e = .returned (.int .u64 (zig n)) ∧ w = w' := by
 go_enter Tryz.func77, Tryz.ntmps77;go_wp2
 ·go_ret;exact ⟨retI (by unfold zig; rw [if_pos (by assumption)]), rfl⟩
 ·go_ret;exact ⟨retI (by unfold zig; rw [if_neg (by omega)]), rfl⟩
theorem ygv (n : Int) (w : World) (h0 : 0 ≤ n) (h1 : n ≤ 18446744073709551615) :
  Calls Tryz.prog 101 #[.int .u64 n] w fun e w' => e = .returned (.int .i64 (zag n)) ∧ w = w' := by
 go_enter Tryz.func101, Tryz.ntmps101;go_wp2
 ·go_ret;have h : (n % 2 == 1) = true := by assumption
  exact ⟨retI (by unfold zag; rw [if_pos (by simpa using h)]), rfl⟩
 ·go_ret;have h : (n % 2 == 1) = false := by assumption
  exact ⟨retI (by unfold zag; rw [if_neg (by simpa using h)]), rfl⟩
theorem yiz (n : Nat) : zag (n : Int) = zagN n := by
 unfold zag zagN;split <;> split <;> omega
theorem yjn (n : Int) (h0 : -9223372036854775808 ≤ n) : zig n = (zigN n : Int) := by
 unfold zig zigN;split <;> omega
end Go.Proofs.YtkejlnjnoiidnaaGreatDoor.Zg
end

section
namespace Go.Proofs.YtkejlnjnoiidnaaGreatDoor
open Go.RowKit As
theorem znx {a b c f : Int} {d e : ByteArray} (h : zao (a, b, c, d, e, f) = 0) : (c = 1 ∨ c = 2 ∨ c = 3 ∨ c = 4) ∧ d.size ≤ 40 ∧ e.size ≤ 300 ∧ (c = 2 → e.size = 0) ∧ (c = 3 → -1125899906842624 ≤ f ∧ f ≤ 1125899906842624) ∧ (c = 4 → 0 ≤ f ∧ f ≤ 1000) := by
 unfold zao at h;simp only at h;split at h
 ·omega
 ·split at h
  ·omega
  ·split at h
   ·omega
   ·split at h
    ·omega
    ·split at h
     ·omega
     ·omega
theorem zih {s : ByteArray} (h : s.size ≤ 300) : zfo s = (strOf (vput s.size) ++ s, 0) := by unfold zfo; rw [if_neg (by omega)]
theorem zsm {x : Wr} (h : zao x ≠ 0) : zlm x = (strOf [], zao x) := by unfold zlm; rw [if_pos h]
theorem zin {x : Wr} (h : zao x = 0) : zlm x = (zfn x, 0) := by unfold zlm; rw [if_neg (by omega)]
set_option maxHeartbeats 2000000 in
set_option maxRecDepth 100000 in
theorem ygb (x : Wr) (w : World) :
  Calls Tryz.prog 40 #[wrV x.1 x.2.1 x.2.2.1 x.2.2.2.1 x.2.2.2.2.1 x.2.2.2.2.2] w fun r w' => r = .returned (.tuple #[.string (zlm x).1, errV (zlm x).2]) ∧ Below w.heap.size w w' := by
 obtain ⟨a, b, c, d, e, f⟩ := x;have hW := WrAt.new w a b c d e f;have b0 := zaa w (wrO a b c d e f);by_cases hw : zao (a, b, c, d, e, f) = 0
 ·have hr := Lib.hid (zin hw);obtain ⟨hc, hd, he, v2, v3, v4⟩ := znx hw;have hm : e.size ≤ maxLen := by unfold maxLen; omega
  have H0 := Lib.hid hw;clear hw;rcases hc with rfl | rfl | rfl | rfl
  ·have hs := Lib.hid (zih he);have HW := hW;obtain ⟨c0, c1, c2, c3, c4, c5⟩ := hW;go_enter Tryz.func40, Tryz.ntmps40;go_wp2_with fail;refine (zcm (a, b, 1, d, e, f) _).mono ?_;rintro r w1 ⟨rfl, hb1⟩;rw [H0.out, zak];have b1 := b0.trans (hb1.mono b0.size);obtain ⟨k0, k1, k2, k3, k4, k5⟩ := HW.below hb1;go_wp2_with fail;refine (zjd e _ hm).mono ?_;rintro r w2 ⟨rfl, hb2⟩;rw [hs.out];go_wp2;go_ret2;exact ⟨by rw [hr.out]; rfl, b1.trans (hb2.mono b1.size)⟩
  ·have HW := hW;obtain ⟨c0, c1, c2, c3, c4, c5⟩ := hW;go_enter Tryz.func40, Tryz.ntmps40;go_wp2_with fail;refine (zcm (a, b, 2, d, e, f) _).mono ?_;rintro r w1 ⟨rfl, hb1⟩;rw [H0.out, zak];have b1 := b0.trans (hb1.mono b0.size);obtain ⟨k0, k1, k2, k3, k4, k5⟩ := HW.below hb1;go_wp2;go_ret2;exact ⟨by rw [hr.out]; rfl, b1⟩
  ·have v3 := v3 rfl;have hzi := Lib.hid (Zg.yjn f (by omega));have hzl : zigN f < 18446744073709551616 := by unfold zigN; split <;> omega
   have HW := hW;obtain ⟨c0, c1, c2, c3, c4, c5⟩ := hW;go_enter Tryz.func40, Tryz.ntmps40;go_wp2_with fail;refine (zcm (a, b, 3, d, e, f) _).mono ?_;rintro r w1 ⟨rfl, hb1⟩;rw [H0.out, zak];have b1 := b0.trans (hb1.mono b0.size);obtain ⟨k0, k1, k2, k3, k4, k5⟩ := HW.below hb1;go_wp2_with fail;refine (Zg.ykj f _ (by omega) (by omega)).mono ?_;rintro r w2 ⟨rfl, rfl⟩;rw [hzi.out];go_wp2_with fail;refine (zbm (zigN f) _ hzl).mono ?_;rintro r w2 ⟨rfl, hb2⟩;go_wp2;go_ret2;exact ⟨by rw [hr.out]; rfl, b1.trans (hb2.mono b1.size)⟩
  ·have v4 := v4 rfl;obtain ⟨m, rfl⟩ := Int.eq_ofNat_of_zero_le (show 0 ≤ f by omega);have hs := Lib.hid (zih he);have hl1 := zae (n := m) (by omega);have hl2 := zae (n := e.size) (by omega);rw [← zas] at hl1 hl2;have HW := hW;obtain ⟨c0, c1, c2, c3, c4, c5⟩ := hW;go_enter Tryz.func40, Tryz.ntmps40;go_wp2_with fail;refine (zcm (a, b, 4, d, e, (m : Int)) _).mono ?_;rintro r w1 ⟨rfl, hb1⟩;rw [H0.out, zak];have b1 := b0.trans (hb1.mono b0.size);obtain ⟨k0, k1, k2, k3, k4, k5⟩ := HW.below hb1;go_wp2_with fail;refine (zjd e _ hm).mono ?_;rintro r w2 ⟨rfl, hb2⟩;rw [hs.out];have b2 := b1.trans (hb2.mono b1.size);have k5 := (hb2.cell (cell_lt k5)).trans k5;clear k0 k1 k2 k3 k4;obtain ⟨t2, ht2⟩ : ∃ t, t = strOf (vput e.size) ++ e := ⟨_, rfl⟩;have hz2 : t2.size ≤ 400 := by rw [ht2, ByteArray.size_append]; omega
   rw [← ht2];have HT2 := Lib.hid ht2;clear ht2;go_wp2_with fail;refine (zbm m _ (by omega)).mono ?_;rintro r w3 ⟨rfl, hb3⟩;obtain ⟨t1, ht1⟩ : ∃ t, t = strOf (vput m) := ⟨_, rfl⟩;rw [← ht1] at hl1;have hE : (⟨(vput m).toArray⟩ : ByteArray) = t1 := ht1.symm;rw [hE];have HT1 := Lib.hid ht1;clear ht1 hE;have hcat : t1.size + t2.size ≤ 9223372036854775807 := by omega
   have hcat' : ¬ 9223372036854775807 < t1.size + t2.size := by omega
   go_wp2;go_ret2;exact ⟨by rw [hr.out, HT1.out, HT2.out]; rfl, b2.trans (hb3.mono b2.size)⟩
 ·have hr := Lib.hid (zsm hw);have HW := Lib.hid hw;clear hw;obtain ⟨c0, c1, c2, c3, c4, c5⟩ := hW;go_enter Tryz.func40, Tryz.ntmps40;go_wp2_with fail;refine (zcm (a, b, c, d, e, f) _).mono ?_;rintro r w1 ⟨rfl, hb1⟩;rw [zau HW.out];go_wp2;go_ret2;exact ⟨by rw [hr.out]; simp only; rw [zau HW.out]; rfl, b0.trans (hb1.mono b0.size)⟩
end Go.Proofs.YtkejlnjnoiidnaaGreatDoor
end

section
namespace Go.Proofs.YtkejlnjnoiidnaaGreatDoor.Keys
open Go.RowKit Go.Maps
theorem yex : Keyed Tryz.prog 9 := string_keyed Tryz.underlying9
theorem yei (w : World) : (zeroValue 3).run Tryz.prog w = .ok (.int .i64 0) w := by kernel_rfl
theorem zfy : (Tryz.prog.info? 9).map (fun i => (i.zero, i.size, i.bytes)) = some (some (.string ⟨#[]⟩), 1, 16) := by kernel_rfl
theorem yao : (Tryz.prog.info? 3).map (fun i => (i.zero, i.size, i.bytes)) = some (some (.int .i64 0), 1, 8) := by kernel_rfl
abbrev strV (T : List ByteArray) : List Value := T.map Value.string
abbrev intV (T : List Int) : List Value := T.map (Value.int .i64)
structure ycp (P : Program) (S I : TypeId) (B : Nat) (t : Tab) (k : Nat) (v2 v3 : Value) (w : World) : Prop where
 tab : w.ownsRow B S 1 v2 t.1.length (strV t.1)
 at_ : w.ownsRow B I 1 v3 t.2.length (intV t.2)
 map : ∃ D : DataW Unit, w.ownsMap P S (plainElem P I) B k D ∧ Tied D t.1
theorem zel {P : Program} {w : World} {base : Nat} {e : TypeId} {size n : Nat} {v : Value} {xs : List Value} {k : TypeId} {R : Value → Option (DataW Unit × List MemPlace)} {b m : Nat} {D : DataW Unit}
  (h : w.ownsRow base e size v n xs) (hm : w.ownsMap P k R b m D) : some b ≠ v.ownBlock := by
 obtain ⟨es, clock, hb, _⟩ := hm;rcases h.2 with ⟨rfl, _⟩ | ⟨g, cap, cur, rfl, _, hh, _⟩
 ·simp [Value.ownBlock]
 ·intro e0;have : b = g := by simpa [Value.ownBlock] using e0
  subst this;rw [hb] at hh;injection hh with hh
  cases hh
theorem ynp {P : Program} {S I : TypeId} {B k : Nat} {t : Tab} {s : ByteArray} {u2 u3 v' : Value} {wr w1 : World} {o : Obj} {D : DataW Unit} {c1 : Int} (hne : I ≠ S)
  (hT : wr.ownsRow B S 1 u2 t.1.length (strV t.1)) (hA : wr.ownsRow B I 1 u3 t.2.length (intV t.2)) (hM : wr.ownsMap P S (plainElem P I) B k D) (hD : Tied D t.1) (hm : s ∈ t.1)
  (hat : D.atKey (.string s.data.toList) (.lit (.int .i64 0)) = .lit (.int .i64 c1)) (hA1 : w1.ownsRow B I 1 v' (t.2.length + 1) (intV t.2 ++ [.int .i64 c1])) (hg : (wr.alloc o).grownBy w1 u3.ownBlock) :
  ycp P S I B (step t s) (k + 1) u2 v' w1 := by
 have hc : c1 = (t.1.idxOf s : Int) := by
  have := (hD s).2 hm;rw [hat] at this;injection this with this
  injection this
 rw [zld hm];refine ⟨(hT.alloc o).kept hg (own_ne hT hA (Ne.symm hne)), ?_, D, ((hM.alloc o).kept hg (zel hA hM)).mono (by omega), hD⟩;subst hc;simpa [intV] using hA1
theorem ymc {P : Program} {S I : TypeId} {B k : Nat} {t : Tab} {s : ByteArray} {u2 u3 v2 v3 : Value} {wr w1 w2 w3 : World} {o o' : Obj} {D : DataW Unit} (hne : I ≠ S)
  (hT : wr.ownsRow B S 1 u2 t.1.length (strV t.1)) (hA : wr.ownsRow B I 1 u3 t.2.length (intV t.2)) (hM : wr.ownsMap P S (plainElem P I) B k D) (hD : Tied D t.1) (hm : ¬ s ∈ t.1)
  (hM1 : w1.ownsMap P S (plainElem P I) B (k + 1) (D.put (.string s.data.toList) (.lit (.int .i64 (t.1.length : Int))))) (hg1 : wr.grownBy w1 (some B))
  (hT2 : w2.ownsRow B S 1 v2 (t.1.length + 1) (strV t.1 ++ [.string s])) (hg2 : (w1.alloc o).grownBy w2 u2.ownBlock)
  (hA3 : w3.ownsRow B I 1 v3 (t.2.length + 1) (intV t.2 ++ [.int .i64 (t.1.length : Int)])) (hg3 : (w2.alloc o').grownBy w3 u3.ownBlock) :
  ycp P S I B (step t s) (k + 1) v2 v3 w3 := by
 have hT1 : w1.ownsRow B S 1 u2 t.1.length (strV t.1) := hT.kept hg1 (.inr (zel hT hM).symm);have hA1 : w1.ownsRow B I 1 u3 t.2.length (intV t.2) := hA.kept hg1 (.inr (zel hA hM).symm);have hA2 : w2.ownsRow B I 1 u3 t.2.length (intV t.2) := (hA1.alloc o).kept hg2 (own_ne hA1 hT1 hne);have hM2 := (hM1.alloc o).kept hg2 (zel hT1 hM1);rw [zka hm];refine ⟨?_, ?_, _, (hM2.alloc o').kept hg3 (zel hA2 hM2), hD.put hM.isMap hm⟩
 ·have := (hT2.alloc o').kept hg3 (own_ne hT2 hA2 (Ne.symm hne));simpa [strV] using this
 ·simpa [intV] using hA3
set_option maxRecDepth 100000 in
theorem table_any (n c : Nat) (A : Option Addr) (l : List ByteArray) (w : World) (h : Strs w A n l) (hn : n ≤ 1000) (hsz : ∀ s ∈ l, s.size ≤ maxLen) :
  Calls Tryz.prog 91 #[.slice A n c] w fun e w' => ∃ v2 v3, e = .returned (.tuple #[v2, v3]) ∧ w'.ownsRow w.heap.size 9 1 v2 (tab l).1.length (strV (tab l).1) ∧ w'.ownsRow w.heap.size 3 1 v3 (tab l).2.length (intV (tab l).2) ∧ Below w.heap.size w w' := by
 have hmm := @run_makeMap Tryz.prog;obtain ⟨i0, hi, hz0, hz1, hz2⟩ := info_parts zfy;obtain ⟨j0, hj, hy0, hy1, hy2⟩ := info_parts yao;have hl := Lib.hid (zlf Value.string h);go_enter Tryz.func91, Tryz.ntmps91;go_wp2;go_loopw [2, 3, 6, 7, 8, 12] (fun v2 v3 _ _ _ i wr => ∃ k : Nat, k ≤ n ∧ i = .int .i64 k ∧ ycp Tryz.prog 9 3 w.heap.size (tab (l.take k)) k v2 v3 wr ∧ Below w.heap.size w wr) (fun _ _ _ _ _ i _ => n - (intOf i).toNat)
 case atStart => exact ⟨0, by omega, rfl, ⟨World.ownsRow_nil _ _ _ _, World.ownsRow_nil _ _ _ _, ⟨_, World.ownsMap_made _ _ _ _, Tied.nil⟩⟩, (Below.refl _ _).alloc (Nat.le_refl _) _⟩
 case round =>
  obtain ⟨k, hk, rfl, hR, hbel⟩ := hrel;obtain ⟨hT, hA, D, hM, hD⟩ := hR;by_cases hlt : k < n
  ·obtain ⟨b, o, s, rfl, hb, hx, hc⟩ := zfj Value.string h hl.out hlt;have hc' := (hbel.cell (p := ⟨b, o + k, none⟩) hb).trans hc;clear hc;have hs : s.size ≤ maxLen := hsz s (List.mem_of_getElem? hx);have hkn : (k : Int) < (n : Int) := by omega
   have htk := Lib.hid (zwr l k s hx);have hlen := Lib.hid (zkl (l.take k));have b1 : (tab (l.take k)).1.length ≤ 1000 := by have := hlen.out.1; simp at this; omega
   have b2 : (tab (l.take k)).2.length ≤ 1000 := by have := hlen.out.2.1; simp at this; omega
   have hB := hbel.size;have hone := own_ne hA hT (by decide);have hone' := own_ne hT hA (by decide);have hmA := zel hA hM;have hmT := zel hT hM;generalize htt : tab (l.take k) = t at *;have Htt := Lib.hid htt;clear htt;have hX := Lib.hid hx;clear hx;by_cases hm : s ∈ t.1
   ·have hhas : Maps.has D (.string s.data.toList) = true := by rw [(hD s).1]; simpa using hm
    have hidx := Lib.hid ((hD s).2 hm);have hst := Lib.hid (zld hm);go_wp2_with (first
     | (at_lookup; refine wpList_lookup_own_ok_int _ rfl _ _ 170 rfl 9 3 .i64 yex Tryz.underlying170 Tryz.underlying3 (yei _) w.heap.size k D rfl hM _ _ rfl (WideMaps.keyOf_string_mk Tryz.underlying9 hs) ?_; intro c1 hat hwc; rw [hhas])
     | (at_builtin; refine wpList_append_own _ rfl (.tmp 33) (.tmp 35) 117 rfl w.heap.size 3 j0 (.int .i64 0) 1 8 Tryz.underlying117 hj hy0 hy1 hy2 rfl (by decide) u3 t.2.length (intV t.2) rfl (hA.alloc _) ⟨wr.heap.size, 0, none⟩ 1 1 [.int .i64 c1] rfl rfl (cell_one_new _ _ _) (ints_oneCell .i64 [c1]) (by unfold maxLen; omega) (by omega) (by simp; omega) ?_; intro v' w1 hA1 hg1 _))
    go_roundw
    case rel => exact ⟨k + 1, by omega, by go_num, by rw [htk.out]; exact ynp (by decide) hT hA hM hD hm hat hA1 hg1, zaj (hbel.alloc hB _) hg1 (by simp; omega) (hA.alloc _)⟩
    case measure => simp [intOf]; omega
   ·have hhas : Maps.has D (.string s.data.toList) = false := by rw [(hD s).1]; simpa using hm
    have hst := Lib.hid (zka hm);obtain ⟨A2, c2, rfl⟩ := zah hT;go_wp2_with (first
     | (at_lookup; refine wpList_lookup_own_ok_int _ rfl _ _ 170 rfl 9 3 .i64 yex Tryz.underlying170 Tryz.underlying3 (yei _) w.heap.size k D rfl hM _ _ rfl (WideMaps.keyOf_string_mk Tryz.underlying9 hs) ?_; intro c1 hat hwc; rw [hhas])
     | (at_mapUpdate; refine wpList_mapUpdate_own _ rfl _ _ _ 170 rfl 9 3 yex Tryz.underlying170 _ w.heap.size k D rfl hM (by unfold maxLen; omega) _ _ _ rfl rfl (WideMaps.keyOf_string_mk Tryz.underlying9 hs) _ [] (plainElem_int Tryz.underlying3 (WalkArith.wf_i64 (by omega))) ?_; intro w1 hM1 hg1; have hT1 := hT.kept hg1 (.inr hmT.symm); have hA1 := hA.kept hg1 (.inr hmA.symm); have hb1 := hbel.grown hg1 hB (fun j hj => by cases hj; exact Nat.le_refl _))
     | (at_builtin; refine wpList_append_own _ rfl (.tmp 29) (.tmp 31) 116 rfl w.heap.size 9 i0 (.string ⟨#[]⟩) 1 16 Tryz.underlying116 hi hz0 hz1 hz2 rfl (by decide) _ t.1.length (strV t.1) rfl (hT1.alloc _) ⟨w1.heap.size, 0, none⟩ 1 1 [.string s] rfl rfl (cell_one_new _ _ _) (by intro u hu; simp at hu; subst hu; rfl) (by unfold maxLen; omega) (by omega) (by have := hb1.size; simp; omega) ?_; intro v2' w2 hT2 hg2 _; have hA2 := (hA1.alloc _).kept hg2 (own_ne hA1 hT1 (by decide)); have hb2 := zaj (hb1.alloc hb1.size _) hg2 (by have := hb1.size; simp; omega) (hT1.alloc _))
     | (at_builtin; refine wpList_append_own _ rfl (.tmp 33) (.tmp 35) 117 rfl w.heap.size 3 j0 (.int .i64 0) 1 8 Tryz.underlying117 hj hy0 hy1 hy2 rfl (by decide) u3 t.2.length (intV t.2) rfl (hA2.alloc _) ⟨w2.heap.size, 0, none⟩ 1 1 [.int .i64 (t.1.length : Int)] rfl rfl (cell_one_new _ _ _) (ints_oneCell .i64 [(t.1.length : Int)]) (by unfold maxLen; omega) (by omega) (by have := hb2.size; simp; omega) ?_; intro v3' w3 hA3 hg3 _; have hb3 := zaj (hb2.alloc hb2.size _) hg3 (by have := hb2.size; simp; omega) (hA2.alloc _)))
    go_roundw
    case rel => exact ⟨k + 1, by omega, by go_num, by rw [htk.out]; exact ymc (by decide) hT hA hM hD hm hM1 hg1 hT2 hg2 hA3 hg3, hb3⟩
    case measure => simp [intOf]; omega
  ·obtain rfl : k = n := by omega
   have htl : l.take k = l := List.take_of_length_le (by rw [hl.out]; exact Nat.le_refl _);rw [htl] at hT hA;go_wp2_with fail;go_ret2;exact ⟨_, _, rfl, hT, hA, hbel⟩
end Go.Proofs.YtkejlnjnoiidnaaGreatDoor.Keys
end

section
namespace Go.Proofs.YtkejlnjnoiidnaaGreatDoor
open Go.RowKit As
theorem zst {l : List Ent} {x : Int} {k : Nat} {t : Int} (h : ∀ (j : Nat) (y : Ent), j < k → l[j]? = some y → y.1 ≠ x) (hk : l[k]? = some (x, t)) : placeOf l x = k := by
 induction l generalizing k with
 | nil => simp at hk
 | cons y l ih =>
  obtain ⟨r, t'⟩ := y;cases k with
  | zero => simp at hk; obtain ⟨rfl, rfl⟩ := hk; simp [placeOf]
  | succ k =>
   have h0 := h 0 (r, t') (by omega) (by simp);simp only [placeOf];rw [if_neg h0, ih (k := k) (fun j y hj hy => h (j + 1) y (by omega) (by simpa using hy)) (by simpa using hk)]
theorem zsi {l : List Ent} {x t : Int} {i : Nat} (hm : (x, t) ∈ l) (hp : l.Pairwise (fun a b => a.1 < b.1)) (h1 : ∀ (j : Nat) (y : Ent), j < i → l[j]? = some y → y.1 < x) (h2 : ∀ (j : Nat) (y : Ent), i ≤ j → l[j]? = some y → x ≤ y.1) : placeOf l x = i := by
 obtain ⟨k, hk, e⟩ := List.mem_iff_getElem.1 hm;have hx : l[k]? = some (x, t) := by rw [List.getElem?_eq_getElem hk, e]
 have hik : i ≤ k := by
  rcases Nat.lt_or_ge k i with h | h
  ·have := h1 k _ h hx;simp at this
  ·exact h
 have hki : k ≤ i := by
  rcases Nat.lt_or_ge i k with h | h
  ·have hi : i < l.length := by omega
   have h3 := h2 i _ (Nat.le_refl i) (List.getElem?_eq_getElem hi);rw [List.pairwise_iff_getElem] at hp;have h4 := hp i k hi hk h;rw [e] at h4;simp only at h4;omega
  ·exact h
 obtain rfl : i = k := by omega
 exact zst (fun j y hj hy => by have := h1 j y hj hy; omega) hx
set_option maxHeartbeats 1000000 in
theorem zyx (w : World) (n c : Nat) (A : Option Addr) (l : List Ent) (x t : Int) (hl : Ents w w.heap.size A n l) (hn : n ≤ maxLen) (hm : (x, t) ∈ l) :
  Calls Tryz.prog 92 #[.slice A n c, .int .i64 x] w fun e w' => e = .returned (.int .i64 (placeOf l x : Int)) ∧ Below w.heap.size w w' := by
 unfold maxLen at hn;have hlen := Lib.hid hl.len;have HM := Lib.hid hm;clear hm;go_enter Tryz.func92, Tryz.ntmps92;go_wp2;go_loopw [5, 6, 9] (fun _ _ i wr => (∃ k : Nat, k ≤ n ∧ i = .int .i64 k ∧ ∀ (j : Nat) (y : Ent), j < k → l[j]? = some y → y.1 ≠ x) ∧ Below w.heap.size w wr) (fun _ _ i _ => n - (intOf i).toNat)
 case atStart => exact ⟨⟨0, by omega, rfl, fun j y hj => by omega⟩, Below.refl _ _⟩
 case round =>
  obtain ⟨⟨k, hk, rfl, hall⟩, hbel⟩ := hrel;have Hall := Lib.hid hall;clear hall;by_cases hlt : k < n
  ·obtain ⟨b, o, r, t', rfl, hb, hx, hf, hc0, hc1⟩ := hl.at_ hlt;have c0 := (hbel.cell (p := ⟨b, o + k * 2, none⟩) (by simp; omega)).trans hc0;have c1 := (hbel.cell (p := ⟨b, o + k * 2 + 1, none⟩) (by simp; omega)).trans hc1;clear hc0 hc1;have hsz := hbel.size;by_cases hr : r = x
   ·subst hr;have hv := Lib.hid (zst Hall.out hx);clear hx;go_wp2_with fail;go_ret;exact ⟨retI (by rw [hv.out]), (hbel.alloc (by omega) _)⟩
   ·have hr' : (r == x) = false := by simp [hr]
    have hx' := Lib.hid hx;clear hx;go_wp2_with fail;go_roundw
    case rel => exact ⟨⟨k + 1, by omega, by go_num, fun j y hj hy => zqy Hall.out hx'.out hr j y hj hy⟩, hbel.alloc (by omega) _⟩
    case measure => simp [intOf]; omega
  ·obtain rfl : k = n := by omega
   exfalso;obtain ⟨j, hj, e⟩ := List.mem_iff_getElem.1 HM.out;have hx : l[j]? = some (x, t) := by rw [List.getElem?_eq_getElem hj, e]
   exact Hall.out j _ (yax hlen.out hx) hx rfl
end Go.Proofs.YtkejlnjnoiidnaaGreatDoor
end
