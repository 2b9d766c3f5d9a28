/- WriteRight of the reference says what wright says. Printed by gen_write2.py.

What Zig and Zag, of package vary and of the reference, compute: contracts for other laws (from XZigs).

write.Tail says what wtail says.

The Go functions Table of package keys and of the reference compute what the plain function tab says.

body.place says what placeOf says, of a replica that is there; what a search in a vector finds, in plain Lean.

A region that draws its order, by an invariant: each operation is looked at once, whatever came up ahead of it. Any program. -/
import Derived.Test.YtkejlnjnoiidnaaGreatDoorZ4
import Derived.Test.YtkejlnjnoiidnaaGreatDoorZ2
import Derived.Test.YtkejlnjnoiidnaaGreatDoorShelfItoa
import Derived.Test.YtkejlnjnoiidnaaGreatDoorZ3
import Derived.WalkKit
import Derived.WalkLawsBesides
import Derived.WalkSpells
import Derived.ProofKit
import Derived.OpenShut
import Derived.Laws.DeepNot64
import Derived.Test.YtkejlnjnoiidnaaGreatDoorZ5
import Derived.KernelRfl
import Derived.OwnWalk
import Derived.Maps.AppendAt
import Derived.Deep.DeepCutAuto
import Derived.Deep.Cut
import Derived.Deep.CutBlock
import Derived.Test.YtkejlnjnoiidnaaGreatDoorZ1
import Derived.Orders
import Derived.Deep.RegionHeld
section
namespace Go.Proofs.YtkejlnjnoiidnaaGreatDoor
set_option linter.unusedSimpArgs false
open Go.RowKit As
theorem itoa1 (w : World) : Calls Tryz.prog 120 #[.int .i64 1] w fun e w' => e = .returned (.string ⟨#[49]⟩) ∧ w = w' :=
 (Tryz.strconv_Itoa_small 1 (by omega) w).mono fun _ _ h => ⟨by rw [h.1, show Lib.decDigits 1 = [49] by first | decide | kernel_rfl], h.2.symm⟩
theorem has1 (w : World) : Calls Tryz.prog 119 #[.string ⟨#[50, 51]⟩, .string ⟨#[49]⟩] w fun e w' => e = .returned (.bool false) ∧ w = w' :=
 (Tryz.strings_Contains_one ⟨#[50, 51]⟩ 49 w).mono fun _ _ h => ⟨by rw [h.1]; exact retB (by decide), h.2.symm⟩
theorem itoa2 (w : World) : Calls Tryz.prog 120 #[.int .i64 2] w fun e w' => e = .returned (.string ⟨#[50]⟩) ∧ w = w' :=
 (Tryz.strconv_Itoa_small 2 (by omega) w).mono fun _ _ h => ⟨by rw [h.1, show Lib.decDigits 2 = [50] by first | decide | kernel_rfl], h.2.symm⟩
theorem has2 (w : World) : Calls Tryz.prog 119 #[.string ⟨#[50, 51]⟩, .string ⟨#[50]⟩] w fun e w' => e = .returned (.bool true) ∧ w = w' :=
 (Tryz.strings_Contains_one ⟨#[50, 51]⟩ 50 w).mono fun _ _ h => ⟨by rw [h.1]; exact retB (by decide), h.2.symm⟩
theorem itoa3 (w : World) : Calls Tryz.prog 120 #[.int .i64 3] w fun e w' => e = .returned (.string ⟨#[51]⟩) ∧ w = w' :=
 (Tryz.strconv_Itoa_small 3 (by omega) w).mono fun _ _ h => ⟨by rw [h.1, show Lib.decDigits 3 = [51] by first | decide | kernel_rfl], h.2.symm⟩
theorem has3 (w : World) : Calls Tryz.prog 119 #[.string ⟨#[50, 51]⟩, .string ⟨#[51]⟩] w fun e w' => e = .returned (.bool true) ∧ w = w' :=
 (Tryz.strings_Contains_one ⟨#[50, 51]⟩ 51 w).mono fun _ _ h => ⟨by rw [h.1]; exact retB (by decide), h.2.symm⟩
theorem itoa4 (w : World) : Calls Tryz.prog 120 #[.int .i64 4] w fun e w' => e = .returned (.string ⟨#[52]⟩) ∧ w = w' :=
 (Tryz.strconv_Itoa_small 4 (by omega) w).mono fun _ _ h => ⟨by rw [h.1, show Lib.decDigits 4 = [52] by first | decide | kernel_rfl], h.2.symm⟩
theorem has4 (w : World) : Calls Tryz.prog 119 #[.string ⟨#[50, 51]⟩, .string ⟨#[52]⟩] w fun e w' => e = .returned (.bool false) ∧ w = w' :=
 (Tryz.strings_Contains_one ⟨#[50, 51]⟩ 52 w).mono fun _ _ h => ⟨by rw [h.1]; exact retB (by decide), h.2.symm⟩
set_option maxHeartbeats 2000000 in
set_option maxRecDepth 100000 in
theorem rwright1 (a b f : Int) (d e : ByteArray) (w : World) : Calls Tryz.prog 72 #[wrV a b (1) d e f] w fun r w' => r = .returned (.int .i64 (wright (a, b, 1, d, e, f))) ∧ Below w.heap.size w w' := by
 rw [wright_is]
 have hW := WrAt.new w a b (1) d e f
 cases hidv : idRight (a, b) with
 | false =>
  have hid := Lib.hid hidv
  clear hidv
  have hr := Lib.hid (show wrightC 1 false d.size e.size f = 2 by unfold wrightC; rw [if_neg (by omega), if_pos rfl])
  have B0 := Lib.hid (show inB 1 1 4 = true by decide)
  go_enter Tryz.func72, Tryz.ntmps72
  go_wp2_with fail
  refine (within_is B0 _).mono ?_
  rintro r w0 ⟨rfl, rfl⟩
  go_wp2_with fail
  refine (ridright_any a b _).mono ?_
  rintro r w1 ⟨rfl, hb1⟩
  rw [hid.out]
  obtain ⟨c0, c1, c2, c3, c4, c5⟩ := hW.below hb1
  have hbl : Below w.heap.size w w1 := (below1 w _).trans (hb1.mono (by simp))
  go_wp2
  go_ret
  exact ⟨by rw [hr.out]; rfl, hbl⟩
 | true =>
  have hid := Lib.hid hidv
  clear hidv
  by_cases h1 : 40 < d.size
  ·have hr := Lib.hid (show wrightC 1 true d.size e.size f = 4 by unfold wrightC; rw [if_neg (by omega), if_neg (by simp), if_pos (by omega)])
   have s0 : decide (40 < d.size) = true := by simp only [decide_eq_true_eq, decide_eq_false_iff_not]; omega
   have t0 : decide (40 < (d.size : Int)) = true := by simp only [decide_eq_true_eq, decide_eq_false_iff_not]; omega
   clear h1
   have B0 := Lib.hid (show inB 1 1 4 = true by decide)
   go_enter Tryz.func72, Tryz.ntmps72
   go_wp2_with fail
   refine (within_is B0 _).mono ?_
   rintro r w0 ⟨rfl, rfl⟩
   go_wp2_with fail
   refine (ridright_any a b _).mono ?_
   rintro r w1 ⟨rfl, hb1⟩
   rw [hid.out]
   obtain ⟨c0, c1, c2, c3, c4, c5⟩ := hW.below hb1
   have hbl : Below w.heap.size w w1 := (below1 w _).trans (hb1.mono (by simp))
   go_wp2
   go_ret
   exact ⟨by rw [hr.out]; rfl, hbl⟩
  ·by_cases h2 : 300 < e.size
   ·have hr := Lib.hid (show wrightC 1 true d.size e.size f = 4 by unfold wrightC; rw [if_neg (by omega), if_neg (by simp), if_pos (by omega)])
    have s0 : decide (40 < d.size) = false := by simp only [decide_eq_true_eq, decide_eq_false_iff_not]; omega
    have t0 : decide (40 < (d.size : Int)) = false := by simp only [decide_eq_true_eq, decide_eq_false_iff_not]; omega
    have s1 : decide (300 < e.size) = true := by simp only [decide_eq_true_eq, decide_eq_false_iff_not]; omega
    have t1 : decide (300 < (e.size : Int)) = true := by simp only [decide_eq_true_eq, decide_eq_false_iff_not]; omega
    clear h1 h2
    have B0 := Lib.hid (show inB 1 1 4 = true by decide)
    go_enter Tryz.func72, Tryz.ntmps72
    go_wp2_with fail
    refine (within_is B0 _).mono ?_
    rintro r w0 ⟨rfl, rfl⟩
    go_wp2_with fail
    refine (ridright_any a b _).mono ?_
    rintro r w1 ⟨rfl, hb1⟩
    rw [hid.out]
    obtain ⟨c0, c1, c2, c3, c4, c5⟩ := hW.below hb1
    have hbl : Below w.heap.size w w1 := (below1 w _).trans (hb1.mono (by simp))
    go_wp2
    go_ret
    exact ⟨by rw [hr.out]; rfl, hbl⟩
   ·have hz := str_empty' e
    have s0 : decide (40 < d.size) = false := by simp only [decide_eq_true_eq, decide_eq_false_iff_not]; omega
    have t0 : decide (40 < (d.size : Int)) = false := by simp only [decide_eq_true_eq, decide_eq_false_iff_not]; omega
    have s1 : decide (300 < e.size) = false := by simp only [decide_eq_true_eq, decide_eq_false_iff_not]; omega
    have t1 : decide (300 < (e.size : Int)) = false := by simp only [decide_eq_true_eq, decide_eq_false_iff_not]; omega
    have HZ := Lib.hid hz
    clear hz
    by_cases h3 : e.size = 0
    ·by_cases h4 : f = 0
     ·skip
      have hr := Lib.hid (show wrightC 1 true d.size e.size f = 0 by unfold wrightC; rw [if_neg (by omega), if_neg (by simp), if_neg (by omega), if_neg (by omega), if_neg (by omega)])
      have q0 : e.toList.isEmpty = true := by rw [HZ.out]; simp only [decide_eq_true_eq, decide_eq_false_iff_not]; omega
      have q1 : (f != 0) = false := by simp only [bne_iff_ne, bne_eq_false_iff_eq, ne_eq]; omega
      clear h1 h2 h3 h4
      have B0 := Lib.hid (show inB 1 1 4 = true by decide)
      go_enter Tryz.func72, Tryz.ntmps72
      go_wp2_with fail
      refine (within_is B0 _).mono ?_
      rintro r w0 ⟨rfl, rfl⟩
      go_wp2_with fail
      refine (ridright_any a b _).mono ?_
      rintro r w1 ⟨rfl, hb1⟩
      rw [hid.out]
      obtain ⟨c0, c1, c2, c3, c4, c5⟩ := hW.below hb1
      have hbl : Below w.heap.size w w1 := (below1 w _).trans (hb1.mono (by simp))
      go_wp2
      go_ret
      exact ⟨by rw [hr.out]; rfl, hbl⟩
     ·skip
      have hr := Lib.hid (show wrightC 1 true d.size e.size f = 3 by unfold wrightC; rw [if_neg (by omega), if_neg (by simp), if_neg (by omega), if_pos (by omega)])
      have q0 : e.toList.isEmpty = true := by rw [HZ.out]; simp only [decide_eq_true_eq, decide_eq_false_iff_not]; omega
      have q1 : (f != 0) = true := by simp only [bne_iff_ne, bne_eq_false_iff_eq, ne_eq]; omega
      clear h1 h2 h3 h4
      have B0 := Lib.hid (show inB 1 1 4 = true by decide)
      go_enter Tryz.func72, Tryz.ntmps72
      go_wp2_with fail
      refine (within_is B0 _).mono ?_
      rintro r w0 ⟨rfl, rfl⟩
      go_wp2_with fail
      refine (ridright_any a b _).mono ?_
      rintro r w1 ⟨rfl, hb1⟩
      rw [hid.out]
      obtain ⟨c0, c1, c2, c3, c4, c5⟩ := hW.below hb1
      have hbl : Below w.heap.size w w1 := (below1 w _).trans (hb1.mono (by simp))
      go_wp2
      go_ret
      exact ⟨by rw [hr.out]; rfl, hbl⟩
    ·by_cases h4 : f = 0
     ·skip
      have hr := Lib.hid (show wrightC 1 true d.size e.size f = 0 by unfold wrightC; rw [if_neg (by omega), if_neg (by simp), if_neg (by omega), if_neg (by omega), if_neg (by omega)])
      have q0 : e.toList.isEmpty = false := by rw [HZ.out]; simp only [decide_eq_true_eq, decide_eq_false_iff_not]; omega
      have q1 : (f != 0) = false := by simp only [bne_iff_ne, bne_eq_false_iff_eq, ne_eq]; omega
      clear h1 h2 h3 h4
      have B0 := Lib.hid (show inB 1 1 4 = true by decide)
      go_enter Tryz.func72, Tryz.ntmps72
      go_wp2_with fail
      refine (within_is B0 _).mono ?_
      rintro r w0 ⟨rfl, rfl⟩
      go_wp2_with fail
      refine (ridright_any a b _).mono ?_
      rintro r w1 ⟨rfl, hb1⟩
      rw [hid.out]
      obtain ⟨c0, c1, c2, c3, c4, c5⟩ := hW.below hb1
      have hbl : Below w.heap.size w w1 := (below1 w _).trans (hb1.mono (by simp))
      go_wp2_with fail
      refine (itoa1 _).mono ?_
      rintro r w0 ⟨rfl, rfl⟩
      go_wp2_with fail
      refine (has1 _).mono ?_
      rintro r w0 ⟨rfl, rfl⟩
      go_wp2
      go_ret
      exact ⟨by rw [hr.out]; rfl, hbl⟩
     ·skip
      have hr := Lib.hid (show wrightC 1 true d.size e.size f = 3 by unfold wrightC; rw [if_neg (by omega), if_neg (by simp), if_neg (by omega), if_pos (by omega)])
      have q0 : e.toList.isEmpty = false := by rw [HZ.out]; simp only [decide_eq_true_eq, decide_eq_false_iff_not]; omega
      have q1 : (f != 0) = true := by simp only [bne_iff_ne, bne_eq_false_iff_eq, ne_eq]; omega
      clear h1 h2 h3 h4
      have B0 := Lib.hid (show inB 1 1 4 = true by decide)
      go_enter Tryz.func72, Tryz.ntmps72
      go_wp2_with fail
      refine (within_is B0 _).mono ?_
      rintro r w0 ⟨rfl, rfl⟩
      go_wp2_with fail
      refine (ridright_any a b _).mono ?_
      rintro r w1 ⟨rfl, hb1⟩
      rw [hid.out]
      obtain ⟨c0, c1, c2, c3, c4, c5⟩ := hW.below hb1
      have hbl : Below w.heap.size w w1 := (below1 w _).trans (hb1.mono (by simp))
      go_wp2_with fail
      refine (itoa1 _).mono ?_
      rintro r w0 ⟨rfl, rfl⟩
      go_wp2_with fail
      refine (has1 _).mono ?_
      rintro r w0 ⟨rfl, rfl⟩
      go_wp2
      go_ret
      exact ⟨by rw [hr.out]; rfl, hbl⟩
set_option maxHeartbeats 2000000 in
set_option maxRecDepth 100000 in
theorem rwright2 (a b f : Int) (d e : ByteArray) (w : World) : Calls Tryz.prog 72 #[wrV a b (2) d e f] w fun r w' => r = .returned (.int .i64 (wright (a, b, 2, d, e, f))) ∧ Below w.heap.size w w' := by
 rw [wright_is]
 have hW := WrAt.new w a b (2) d e f
 cases hidv : idRight (a, b) with
 | false =>
  have hid := Lib.hid hidv
  clear hidv
  have hr := Lib.hid (show wrightC 2 false d.size e.size f = 2 by unfold wrightC; rw [if_neg (by omega), if_pos rfl])
  have B0 := Lib.hid (show inB 2 1 4 = true by decide)
  go_enter Tryz.func72, Tryz.ntmps72
  go_wp2_with fail
  refine (within_is B0 _).mono ?_
  rintro r w0 ⟨rfl, rfl⟩
  go_wp2_with fail
  refine (ridright_any a b _).mono ?_
  rintro r w1 ⟨rfl, hb1⟩
  rw [hid.out]
  obtain ⟨c0, c1, c2, c3, c4, c5⟩ := hW.below hb1
  have hbl : Below w.heap.size w w1 := (below1 w _).trans (hb1.mono (by simp))
  go_wp2
  go_ret
  exact ⟨by rw [hr.out]; rfl, hbl⟩
 | true =>
  have hid := Lib.hid hidv
  clear hidv
  by_cases h1 : 40 < d.size
  ·have hr := Lib.hid (show wrightC 2 true d.size e.size f = 4 by unfold wrightC; rw [if_neg (by omega), if_neg (by simp), if_pos (by omega)])
   have s0 : decide (40 < d.size) = true := by simp only [decide_eq_true_eq, decide_eq_false_iff_not]; omega
   have t0 : decide (40 < (d.size : Int)) = true := by simp only [decide_eq_true_eq, decide_eq_false_iff_not]; omega
   clear h1
   have B0 := Lib.hid (show inB 2 1 4 = true by decide)
   go_enter Tryz.func72, Tryz.ntmps72
   go_wp2_with fail
   refine (within_is B0 _).mono ?_
   rintro r w0 ⟨rfl, rfl⟩
   go_wp2_with fail
   refine (ridright_any a b _).mono ?_
   rintro r w1 ⟨rfl, hb1⟩
   rw [hid.out]
   obtain ⟨c0, c1, c2, c3, c4, c5⟩ := hW.below hb1
   have hbl : Below w.heap.size w w1 := (below1 w _).trans (hb1.mono (by simp))
   go_wp2
   go_ret
   exact ⟨by rw [hr.out]; rfl, hbl⟩
  ·by_cases h2 : 300 < e.size
   ·have hr := Lib.hid (show wrightC 2 true d.size e.size f = 4 by unfold wrightC; rw [if_neg (by omega), if_neg (by simp), if_pos (by omega)])
    have s0 : decide (40 < d.size) = false := by simp only [decide_eq_true_eq, decide_eq_false_iff_not]; omega
    have t0 : decide (40 < (d.size : Int)) = false := by simp only [decide_eq_true_eq, decide_eq_false_iff_not]; omega
    have s1 : decide (300 < e.size) = true := by simp only [decide_eq_true_eq, decide_eq_false_iff_not]; omega
    have t1 : decide (300 < (e.size : Int)) = true := by simp only [decide_eq_true_eq, decide_eq_false_iff_not]; omega
    clear h1 h2
    have B0 := Lib.hid (show inB 2 1 4 = true by decide)
    go_enter Tryz.func72, Tryz.ntmps72
    go_wp2_with fail
    refine (within_is B0 _).mono ?_
    rintro r w0 ⟨rfl, rfl⟩
    go_wp2_with fail
    refine (ridright_any a b _).mono ?_
    rintro r w1 ⟨rfl, hb1⟩
    rw [hid.out]
    obtain ⟨c0, c1, c2, c3, c4, c5⟩ := hW.below hb1
    have hbl : Below w.heap.size w w1 := (below1 w _).trans (hb1.mono (by simp))
    go_wp2
    go_ret
    exact ⟨by rw [hr.out]; rfl, hbl⟩
   ·have hz := str_empty' e
    have s0 : decide (40 < d.size) = false := by simp only [decide_eq_true_eq, decide_eq_false_iff_not]; omega
    have t0 : decide (40 < (d.size : Int)) = false := by simp only [decide_eq_true_eq, decide_eq_false_iff_not]; omega
    have s1 : decide (300 < e.size) = false := by simp only [decide_eq_true_eq, decide_eq_false_iff_not]; omega
    have t1 : decide (300 < (e.size : Int)) = false := by simp only [decide_eq_true_eq, decide_eq_false_iff_not]; omega
    have HZ := Lib.hid hz
    clear hz
    by_cases h3 : e.size = 0
    ·by_cases h4 : f = 0
     ·skip
      have hr := Lib.hid (show wrightC 2 true d.size e.size f = 0 by unfold wrightC; rw [if_neg (by omega), if_neg (by simp), if_neg (by omega), if_neg (by omega), if_neg (by omega)])
      have q0 : e.toList.isEmpty = true := by rw [HZ.out]; simp only [decide_eq_true_eq, decide_eq_false_iff_not]; omega
      have q1 : (f != 0) = false := by simp only [bne_iff_ne, bne_eq_false_iff_eq, ne_eq]; omega
      clear h1 h2 h3 h4
      have B0 := Lib.hid (show inB 2 1 4 = true by decide)
      go_enter Tryz.func72, Tryz.ntmps72
      go_wp2_with fail
      refine (within_is B0 _).mono ?_
      rintro r w0 ⟨rfl, rfl⟩
      go_wp2_with fail
      refine (ridright_any a b _).mono ?_
      rintro r w1 ⟨rfl, hb1⟩
      rw [hid.out]
      obtain ⟨c0, c1, c2, c3, c4, c5⟩ := hW.below hb1
      have hbl : Below w.heap.size w w1 := (below1 w _).trans (hb1.mono (by simp))
      go_wp2
      go_ret
      exact ⟨by rw [hr.out]; rfl, hbl⟩
     ·skip
      have hr := Lib.hid (show wrightC 2 true d.size e.size f = 3 by unfold wrightC; rw [if_neg (by omega), if_neg (by simp), if_neg (by omega), if_pos (by omega)])
      have q0 : e.toList.isEmpty = true := by rw [HZ.out]; simp only [decide_eq_true_eq, decide_eq_false_iff_not]; omega
      have q1 : (f != 0) = true := by simp only [bne_iff_ne, bne_eq_false_iff_eq, ne_eq]; omega
      clear h1 h2 h3 h4
      have B0 := Lib.hid (show inB 2 1 4 = true by decide)
      go_enter Tryz.func72, Tryz.ntmps72
      go_wp2_with fail
      refine (within_is B0 _).mono ?_
      rintro r w0 ⟨rfl, rfl⟩
      go_wp2_with fail
      refine (ridright_any a b _).mono ?_
      rintro r w1 ⟨rfl, hb1⟩
      rw [hid.out]
      obtain ⟨c0, c1, c2, c3, c4, c5⟩ := hW.below hb1
      have hbl : Below w.heap.size w w1 := (below1 w _).trans (hb1.mono (by simp))
      go_wp2
      go_ret
      exact ⟨by rw [hr.out]; rfl, hbl⟩
    ·skip
     have hr := Lib.hid (show wrightC 2 true d.size e.size f = 3 by unfold wrightC; rw [if_neg (by omega), if_neg (by simp), if_neg (by omega), if_pos (by omega)])
     have q0 : e.toList.isEmpty = false := by rw [HZ.out]; simp only [decide_eq_true_eq, decide_eq_false_iff_not]; omega
     clear h1 h2 h3
     have B0 := Lib.hid (show inB 2 1 4 = true by decide)
     go_enter Tryz.func72, Tryz.ntmps72
     go_wp2_with fail
     refine (within_is B0 _).mono ?_
     rintro r w0 ⟨rfl, rfl⟩
     go_wp2_with fail
     refine (ridright_any a b _).mono ?_
     rintro r w1 ⟨rfl, hb1⟩
     rw [hid.out]
     obtain ⟨c0, c1, c2, c3, c4, c5⟩ := hW.below hb1
     have hbl : Below w.heap.size w w1 := (below1 w _).trans (hb1.mono (by simp))
     go_wp2_with fail
     refine (itoa2 _).mono ?_
     rintro r w0 ⟨rfl, rfl⟩
     go_wp2_with fail
     refine (has2 _).mono ?_
     rintro r w0 ⟨rfl, rfl⟩
     go_wp2
     go_ret
     exact ⟨by rw [hr.out]; rfl, hbl⟩
set_option maxHeartbeats 2000000 in
set_option maxRecDepth 100000 in
theorem rwright3 (a b f : Int) (d e : ByteArray) (w : World) : Calls Tryz.prog 72 #[wrV a b (3) d e f] w fun r w' => r = .returned (.int .i64 (wright (a, b, 3, d, e, f))) ∧ Below w.heap.size w w' := by
 rw [wright_is]
 have hW := WrAt.new w a b (3) d e f
 cases hidv : idRight (a, b) with
 | false =>
  have hid := Lib.hid hidv
  clear hidv
  have hr := Lib.hid (show wrightC 3 false d.size e.size f = 2 by unfold wrightC; rw [if_neg (by omega), if_pos rfl])
  have B0 := Lib.hid (show inB 3 1 4 = true by decide)
  go_enter Tryz.func72, Tryz.ntmps72
  go_wp2_with fail
  refine (within_is B0 _).mono ?_
  rintro r w0 ⟨rfl, rfl⟩
  go_wp2_with fail
  refine (ridright_any a b _).mono ?_
  rintro r w1 ⟨rfl, hb1⟩
  rw [hid.out]
  obtain ⟨c0, c1, c2, c3, c4, c5⟩ := hW.below hb1
  have hbl : Below w.heap.size w w1 := (below1 w _).trans (hb1.mono (by simp))
  go_wp2
  go_ret
  exact ⟨by rw [hr.out]; rfl, hbl⟩
 | true =>
  have hid := Lib.hid hidv
  clear hidv
  by_cases h1 : 40 < d.size
  ·have hr := Lib.hid (show wrightC 3 true d.size e.size f = 4 by unfold wrightC; rw [if_neg (by omega), if_neg (by simp), if_pos (by omega)])
   have s0 : decide (40 < d.size) = true := by simp only [decide_eq_true_eq, decide_eq_false_iff_not]; omega
   have t0 : decide (40 < (d.size : Int)) = true := by simp only [decide_eq_true_eq, decide_eq_false_iff_not]; omega
   clear h1
   have B0 := Lib.hid (show inB 3 1 4 = true by decide)
   go_enter Tryz.func72, Tryz.ntmps72
   go_wp2_with fail
   refine (within_is B0 _).mono ?_
   rintro r w0 ⟨rfl, rfl⟩
   go_wp2_with fail
   refine (ridright_any a b _).mono ?_
   rintro r w1 ⟨rfl, hb1⟩
   rw [hid.out]
   obtain ⟨c0, c1, c2, c3, c4, c5⟩ := hW.below hb1
   have hbl : Below w.heap.size w w1 := (below1 w _).trans (hb1.mono (by simp))
   go_wp2
   go_ret
   exact ⟨by rw [hr.out]; rfl, hbl⟩
  ·by_cases h2 : 300 < e.size
   ·have hr := Lib.hid (show wrightC 3 true d.size e.size f = 4 by unfold wrightC; rw [if_neg (by omega), if_neg (by simp), if_pos (by omega)])
    have s0 : decide (40 < d.size) = false := by simp only [decide_eq_true_eq, decide_eq_false_iff_not]; omega
    have t0 : decide (40 < (d.size : Int)) = false := by simp only [decide_eq_true_eq, decide_eq_false_iff_not]; omega
    have s1 : decide (300 < e.size) = true := by simp only [decide_eq_true_eq, decide_eq_false_iff_not]; omega
    have t1 : decide (300 < (e.size : Int)) = true := by simp only [decide_eq_true_eq, decide_eq_false_iff_not]; omega
    clear h1 h2
    have B0 := Lib.hid (show inB 3 1 4 = true by decide)
    go_enter Tryz.func72, Tryz.ntmps72
    go_wp2_with fail
    refine (within_is B0 _).mono ?_
    rintro r w0 ⟨rfl, rfl⟩
    go_wp2_with fail
    refine (ridright_any a b _).mono ?_
    rintro r w1 ⟨rfl, hb1⟩
    rw [hid.out]
    obtain ⟨c0, c1, c2, c3, c4, c5⟩ := hW.below hb1
    have hbl : Below w.heap.size w w1 := (below1 w _).trans (hb1.mono (by simp))
    go_wp2
    go_ret
    exact ⟨by rw [hr.out]; rfl, hbl⟩
   ·have hz := str_empty' e
    have s0 : decide (40 < d.size) = false := by simp only [decide_eq_true_eq, decide_eq_false_iff_not]; omega
    have t0 : decide (40 < (d.size : Int)) = false := by simp only [decide_eq_true_eq, decide_eq_false_iff_not]; omega
    have s1 : decide (300 < e.size) = false := by simp only [decide_eq_true_eq, decide_eq_false_iff_not]; omega
    have t1 : decide (300 < (e.size : Int)) = false := by simp only [decide_eq_true_eq, decide_eq_false_iff_not]; omega
    have HZ := Lib.hid hz
    clear hz
    by_cases h3 : e.size = 0
    ·by_cases h4 : f = 0
     ·skip
      have hr := Lib.hid (show wrightC 3 true d.size e.size f = 0 by unfold wrightC; rw [if_neg (by omega), if_neg (by simp), if_neg (by omega), if_neg (by omega), if_neg (by omega)])
      have q0 : e.toList.isEmpty = true := by rw [HZ.out]; simp only [decide_eq_true_eq, decide_eq_false_iff_not]; omega
      have q1 : (f != 0) = false := by simp only [bne_iff_ne, bne_eq_false_iff_eq, ne_eq]; omega
      have q2 := Lib.hid (show inB f (-1125899906842624) 1125899906842624 = true by unfold inB; rw [decide_eq_true]; omega)
      clear h1 h2 h3 h4
      have B0 := Lib.hid (show inB 3 1 4 = true by decide)
      go_enter Tryz.func72, Tryz.ntmps72
      go_wp2_with fail
      refine (within_is B0 _).mono ?_
      rintro r w0 ⟨rfl, rfl⟩
      go_wp2_with fail
      refine (ridright_any a b _).mono ?_
      rintro r w1 ⟨rfl, hb1⟩
      rw [hid.out]
      obtain ⟨c0, c1, c2, c3, c4, c5⟩ := hW.below hb1
      have hbl : Below w.heap.size w w1 := (below1 w _).trans (hb1.mono (by simp))
      go_wp2_with fail
      refine (within_is q2 _).mono ?_
      rintro r w0 ⟨rfl, rfl⟩
      go_wp2
      go_ret
      exact ⟨by rw [hr.out]; rfl, hbl⟩
     ·by_cases h5 : (-1125899906842624 ≤ f ∧ f ≤ 1125899906842624)
      ·skip
       have hr := Lib.hid (show wrightC 3 true d.size e.size f = 0 by unfold wrightC; rw [if_neg (by omega), if_neg (by simp), if_neg (by omega), if_neg (by omega), if_neg (by omega)])
       have q0 : e.toList.isEmpty = true := by rw [HZ.out]; simp only [decide_eq_true_eq, decide_eq_false_iff_not]; omega
       have q1 : (f != 0) = true := by simp only [bne_iff_ne, bne_eq_false_iff_eq, ne_eq]; omega
       have q2 := Lib.hid (show inB f (-1125899906842624) 1125899906842624 = true by unfold inB; rw [decide_eq_true]; omega)
       clear h1 h2 h3 h4 h5
       have B0 := Lib.hid (show inB 3 1 4 = true by decide)
       go_enter Tryz.func72, Tryz.ntmps72
       go_wp2_with fail
       refine (within_is B0 _).mono ?_
       rintro r w0 ⟨rfl, rfl⟩
       go_wp2_with fail
       refine (ridright_any a b _).mono ?_
       rintro r w1 ⟨rfl, hb1⟩
       rw [hid.out]
       obtain ⟨c0, c1, c2, c3, c4, c5⟩ := hW.below hb1
       have hbl : Below w.heap.size w w1 := (below1 w _).trans (hb1.mono (by simp))
       go_wp2_with fail
       refine (within_is q2 _).mono ?_
       rintro r w0 ⟨rfl, rfl⟩
       go_wp2
       go_ret
       exact ⟨by rw [hr.out]; rfl, hbl⟩
      ·skip
       have hr := Lib.hid (show wrightC 3 true d.size e.size f = 2 by unfold wrightC; rw [if_neg (by omega), if_neg (by simp), if_neg (by omega), if_neg (by omega), if_pos (by omega)])
       have q0 : e.toList.isEmpty = true := by rw [HZ.out]; simp only [decide_eq_true_eq, decide_eq_false_iff_not]; omega
       have q1 : (f != 0) = true := by simp only [bne_iff_ne, bne_eq_false_iff_eq, ne_eq]; omega
       have q2 := Lib.hid (show inB f (-1125899906842624) 1125899906842624 = false by unfold inB; rw [decide_eq_false]; omega)
       clear h1 h2 h3 h4 h5
       have B0 := Lib.hid (show inB 3 1 4 = true by decide)
       go_enter Tryz.func72, Tryz.ntmps72
       go_wp2_with fail
       refine (within_is B0 _).mono ?_
       rintro r w0 ⟨rfl, rfl⟩
       go_wp2_with fail
       refine (ridright_any a b _).mono ?_
       rintro r w1 ⟨rfl, hb1⟩
       rw [hid.out]
       obtain ⟨c0, c1, c2, c3, c4, c5⟩ := hW.below hb1
       have hbl : Below w.heap.size w w1 := (below1 w _).trans (hb1.mono (by simp))
       go_wp2_with fail
       refine (within_is q2 _).mono ?_
       rintro r w0 ⟨rfl, rfl⟩
       go_wp2
       go_ret
       exact ⟨by rw [hr.out]; rfl, hbl⟩
    ·skip
     have hr := Lib.hid (show wrightC 3 true d.size e.size f = 3 by unfold wrightC; rw [if_neg (by omega), if_neg (by simp), if_neg (by omega), if_pos (by omega)])
     have q0 : e.toList.isEmpty = false := by rw [HZ.out]; simp only [decide_eq_true_eq, decide_eq_false_iff_not]; omega
     clear h1 h2 h3
     have B0 := Lib.hid (show inB 3 1 4 = true by decide)
     go_enter Tryz.func72, Tryz.ntmps72
     go_wp2_with fail
     refine (within_is B0 _).mono ?_
     rintro r w0 ⟨rfl, rfl⟩
     go_wp2_with fail
     refine (ridright_any a b _).mono ?_
     rintro r w1 ⟨rfl, hb1⟩
     rw [hid.out]
     obtain ⟨c0, c1, c2, c3, c4, c5⟩ := hW.below hb1
     have hbl : Below w.heap.size w w1 := (below1 w _).trans (hb1.mono (by simp))
     go_wp2_with fail
     refine (itoa3 _).mono ?_
     rintro r w0 ⟨rfl, rfl⟩
     go_wp2_with fail
     refine (has3 _).mono ?_
     rintro r w0 ⟨rfl, rfl⟩
     go_wp2
     go_ret
     exact ⟨by rw [hr.out]; rfl, hbl⟩
set_option maxHeartbeats 2000000 in
set_option maxRecDepth 100000 in
theorem rwright4 (a b f : Int) (d e : ByteArray) (w : World) : Calls Tryz.prog 72 #[wrV a b (4) d e f] w fun r w' => r = .returned (.int .i64 (wright (a, b, 4, d, e, f))) ∧ Below w.heap.size w w' := by
 rw [wright_is]
 have hW := WrAt.new w a b (4) d e f
 cases hidv : idRight (a, b) with
 | false =>
  have hid := Lib.hid hidv
  clear hidv
  have hr := Lib.hid (show wrightC 4 false d.size e.size f = 2 by unfold wrightC; rw [if_neg (by omega), if_pos rfl])
  have B0 := Lib.hid (show inB 4 1 4 = true by decide)
  go_enter Tryz.func72, Tryz.ntmps72
  go_wp2_with fail
  refine (within_is B0 _).mono ?_
  rintro r w0 ⟨rfl, rfl⟩
  go_wp2_with fail
  refine (ridright_any a b _).mono ?_
  rintro r w1 ⟨rfl, hb1⟩
  rw [hid.out]
  obtain ⟨c0, c1, c2, c3, c4, c5⟩ := hW.below hb1
  have hbl : Below w.heap.size w w1 := (below1 w _).trans (hb1.mono (by simp))
  go_wp2
  go_ret
  exact ⟨by rw [hr.out]; rfl, hbl⟩
 | true =>
  have hid := Lib.hid hidv
  clear hidv
  by_cases h1 : 40 < d.size
  ·have hr := Lib.hid (show wrightC 4 true d.size e.size f = 4 by unfold wrightC; rw [if_neg (by omega), if_neg (by simp), if_pos (by omega)])
   have s0 : decide (40 < d.size) = true := by simp only [decide_eq_true_eq, decide_eq_false_iff_not]; omega
   have t0 : decide (40 < (d.size : Int)) = true := by simp only [decide_eq_true_eq, decide_eq_false_iff_not]; omega
   clear h1
   have B0 := Lib.hid (show inB 4 1 4 = true by decide)
   go_enter Tryz.func72, Tryz.ntmps72
   go_wp2_with fail
   refine (within_is B0 _).mono ?_
   rintro r w0 ⟨rfl, rfl⟩
   go_wp2_with fail
   refine (ridright_any a b _).mono ?_
   rintro r w1 ⟨rfl, hb1⟩
   rw [hid.out]
   obtain ⟨c0, c1, c2, c3, c4, c5⟩ := hW.below hb1
   have hbl : Below w.heap.size w w1 := (below1 w _).trans (hb1.mono (by simp))
   go_wp2
   go_ret
   exact ⟨by rw [hr.out]; rfl, hbl⟩
  ·by_cases h2 : 300 < e.size
   ·have hr := Lib.hid (show wrightC 4 true d.size e.size f = 4 by unfold wrightC; rw [if_neg (by omega), if_neg (by simp), if_pos (by omega)])
    have s0 : decide (40 < d.size) = false := by simp only [decide_eq_true_eq, decide_eq_false_iff_not]; omega
    have t0 : decide (40 < (d.size : Int)) = false := by simp only [decide_eq_true_eq, decide_eq_false_iff_not]; omega
    have s1 : decide (300 < e.size) = true := by simp only [decide_eq_true_eq, decide_eq_false_iff_not]; omega
    have t1 : decide (300 < (e.size : Int)) = true := by simp only [decide_eq_true_eq, decide_eq_false_iff_not]; omega
    clear h1 h2
    have B0 := Lib.hid (show inB 4 1 4 = true by decide)
    go_enter Tryz.func72, Tryz.ntmps72
    go_wp2_with fail
    refine (within_is B0 _).mono ?_
    rintro r w0 ⟨rfl, rfl⟩
    go_wp2_with fail
    refine (ridright_any a b _).mono ?_
    rintro r w1 ⟨rfl, hb1⟩
    rw [hid.out]
    obtain ⟨c0, c1, c2, c3, c4, c5⟩ := hW.below hb1
    have hbl : Below w.heap.size w w1 := (below1 w _).trans (hb1.mono (by simp))
    go_wp2
    go_ret
    exact ⟨by rw [hr.out]; rfl, hbl⟩
   ·have hz := str_empty' e
    have s0 : decide (40 < d.size) = false := by simp only [decide_eq_true_eq, decide_eq_false_iff_not]; omega
    have t0 : decide (40 < (d.size : Int)) = false := by simp only [decide_eq_true_eq, decide_eq_false_iff_not]; omega
    have s1 : decide (300 < e.size) = false := by simp only [decide_eq_true_eq, decide_eq_false_iff_not]; omega
    have t1 : decide (300 < (e.size : Int)) = false := by simp only [decide_eq_true_eq, decide_eq_false_iff_not]; omega
    have HZ := Lib.hid hz
    clear hz
    by_cases h3 : e.size = 0
    ·by_cases h4 : f = 0
     ·skip
      have hr := Lib.hid (show wrightC 4 true d.size e.size f = 0 by unfold wrightC; rw [if_neg (by omega), if_neg (by simp), if_neg (by omega), if_neg (by omega), if_neg (by omega)])
      have q0 : e.toList.isEmpty = true := by rw [HZ.out]; simp only [decide_eq_true_eq, decide_eq_false_iff_not]; omega
      have q1 : (f != 0) = false := by simp only [bne_iff_ne, bne_eq_false_iff_eq, ne_eq]; omega
      have q2 := Lib.hid (show inB f (0) 1000 = true by unfold inB; rw [decide_eq_true]; omega)
      clear h1 h2 h3 h4
      have B0 := Lib.hid (show inB 4 1 4 = true by decide)
      go_enter Tryz.func72, Tryz.ntmps72
      go_wp2_with fail
      refine (within_is B0 _).mono ?_
      rintro r w0 ⟨rfl, rfl⟩
      go_wp2_with fail
      refine (ridright_any a b _).mono ?_
      rintro r w1 ⟨rfl, hb1⟩
      rw [hid.out]
      obtain ⟨c0, c1, c2, c3, c4, c5⟩ := hW.below hb1
      have hbl : Below w.heap.size w w1 := (below1 w _).trans (hb1.mono (by simp))
      go_wp2_with fail
      refine (within_is q2 _).mono ?_
      rintro r w0 ⟨rfl, rfl⟩
      go_wp2
      go_ret
      exact ⟨by rw [hr.out]; rfl, hbl⟩
     ·by_cases h5 : (0 ≤ f ∧ f ≤ 1000)
      ·skip
       have hr := Lib.hid (show wrightC 4 true d.size e.size f = 0 by unfold wrightC; rw [if_neg (by omega), if_neg (by simp), if_neg (by omega), if_neg (by omega), if_neg (by omega)])
       have q0 : e.toList.isEmpty = true := by rw [HZ.out]; simp only [decide_eq_true_eq, decide_eq_false_iff_not]; omega
       have q1 : (f != 0) = true := by simp only [bne_iff_ne, bne_eq_false_iff_eq, ne_eq]; omega
       have q2 := Lib.hid (show inB f (0) 1000 = true by unfold inB; rw [decide_eq_true]; omega)
       clear h1 h2 h3 h4 h5
       have B0 := Lib.hid (show inB 4 1 4 = true by decide)
       go_enter Tryz.func72, Tryz.ntmps72
       go_wp2_with fail
       refine (within_is B0 _).mono ?_
       rintro r w0 ⟨rfl, rfl⟩
       go_wp2_with fail
       refine (ridright_any a b _).mono ?_
       rintro r w1 ⟨rfl, hb1⟩
       rw [hid.out]
       obtain ⟨c0, c1, c2, c3, c4, c5⟩ := hW.below hb1
       have hbl : Below w.heap.size w w1 := (below1 w _).trans (hb1.mono (by simp))
       go_wp2_with fail
       refine (within_is q2 _).mono ?_
       rintro r w0 ⟨rfl, rfl⟩
       go_wp2
       go_ret
       exact ⟨by rw [hr.out]; rfl, hbl⟩
      ·skip
       have hr := Lib.hid (show wrightC 4 true d.size e.size f = 2 by unfold wrightC; rw [if_neg (by omega), if_neg (by simp), if_neg (by omega), if_neg (by omega), if_pos (by omega)])
       have q0 : e.toList.isEmpty = true := by rw [HZ.out]; simp only [decide_eq_true_eq, decide_eq_false_iff_not]; omega
       have q1 : (f != 0) = true := by simp only [bne_iff_ne, bne_eq_false_iff_eq, ne_eq]; omega
       have q2 := Lib.hid (show inB f (0) 1000 = false by unfold inB; rw [decide_eq_false]; omega)
       clear h1 h2 h3 h4 h5
       have B0 := Lib.hid (show inB 4 1 4 = true by decide)
       go_enter Tryz.func72, Tryz.ntmps72
       go_wp2_with fail
       refine (within_is B0 _).mono ?_
       rintro r w0 ⟨rfl, rfl⟩
       go_wp2_with fail
       refine (ridright_any a b _).mono ?_
       rintro r w1 ⟨rfl, hb1⟩
       rw [hid.out]
       obtain ⟨c0, c1, c2, c3, c4, c5⟩ := hW.below hb1
       have hbl : Below w.heap.size w w1 := (below1 w _).trans (hb1.mono (by simp))
       go_wp2_with fail
       refine (within_is q2 _).mono ?_
       rintro r w0 ⟨rfl, rfl⟩
       go_wp2
       go_ret
       exact ⟨by rw [hr.out]; rfl, hbl⟩
    ·by_cases h4 : f = 0
     ·skip
      have hr := Lib.hid (show wrightC 4 true d.size e.size f = 0 by unfold wrightC; rw [if_neg (by omega), if_neg (by simp), if_neg (by omega), if_neg (by omega), if_neg (by omega)])
      have q0 : e.toList.isEmpty = false := by rw [HZ.out]; simp only [decide_eq_true_eq, decide_eq_false_iff_not]; omega
      have q1 : (f != 0) = false := by simp only [bne_iff_ne, bne_eq_false_iff_eq, ne_eq]; omega
      have q2 := Lib.hid (show inB f (0) 1000 = true by unfold inB; rw [decide_eq_true]; omega)
      clear h1 h2 h3 h4
      have B0 := Lib.hid (show inB 4 1 4 = true by decide)
      go_enter Tryz.func72, Tryz.ntmps72
      go_wp2_with fail
      refine (within_is B0 _).mono ?_
      rintro r w0 ⟨rfl, rfl⟩
      go_wp2_with fail
      refine (ridright_any a b _).mono ?_
      rintro r w1 ⟨rfl, hb1⟩
      rw [hid.out]
      obtain ⟨c0, c1, c2, c3, c4, c5⟩ := hW.below hb1
      have hbl : Below w.heap.size w w1 := (below1 w _).trans (hb1.mono (by simp))
      go_wp2_with fail
      refine (itoa4 _).mono ?_
      rintro r w0 ⟨rfl, rfl⟩
      go_wp2_with fail
      refine (has4 _).mono ?_
      rintro r w0 ⟨rfl, rfl⟩
      go_wp2_with fail
      refine (within_is q2 _).mono ?_
      rintro r w0 ⟨rfl, rfl⟩
      go_wp2
      go_ret
      exact ⟨by rw [hr.out]; rfl, hbl⟩
     ·by_cases h5 : (0 ≤ f ∧ f ≤ 1000)
      ·skip
       have hr := Lib.hid (show wrightC 4 true d.size e.size f = 0 by unfold wrightC; rw [if_neg (by omega), if_neg (by simp), if_neg (by omega), if_neg (by omega), if_neg (by omega)])
       have q0 : e.toList.isEmpty = false := by rw [HZ.out]; simp only [decide_eq_true_eq, decide_eq_false_iff_not]; omega
       have q1 : (f != 0) = true := by simp only [bne_iff_ne, bne_eq_false_iff_eq, ne_eq]; omega
       have q2 := Lib.hid (show inB f (0) 1000 = true by unfold inB; rw [decide_eq_true]; omega)
       clear h1 h2 h3 h4 h5
       have B0 := Lib.hid (show inB 4 1 4 = true by decide)
       go_enter Tryz.func72, Tryz.ntmps72
       go_wp2_with fail
       refine (within_is B0 _).mono ?_
       rintro r w0 ⟨rfl, rfl⟩
       go_wp2_with fail
       refine (ridright_any a b _).mono ?_
       rintro r w1 ⟨rfl, hb1⟩
       rw [hid.out]
       obtain ⟨c0, c1, c2, c3, c4, c5⟩ := hW.below hb1
       have hbl : Below w.heap.size w w1 := (below1 w _).trans (hb1.mono (by simp))
       go_wp2_with fail
       refine (itoa4 _).mono ?_
       rintro r w0 ⟨rfl, rfl⟩
       go_wp2_with fail
       refine (has4 _).mono ?_
       rintro r w0 ⟨rfl, rfl⟩
       go_wp2_with fail
       refine (within_is q2 _).mono ?_
       rintro r w0 ⟨rfl, rfl⟩
       go_wp2
       go_ret
       exact ⟨by rw [hr.out]; rfl, hbl⟩
      ·skip
       have hr := Lib.hid (show wrightC 4 true d.size e.size f = 2 by unfold wrightC; rw [if_neg (by omega), if_neg (by simp), if_neg (by omega), if_neg (by omega), if_pos (by omega)])
       have q0 : e.toList.isEmpty = false := by rw [HZ.out]; simp only [decide_eq_true_eq, decide_eq_false_iff_not]; omega
       have q1 : (f != 0) = true := by simp only [bne_iff_ne, bne_eq_false_iff_eq, ne_eq]; omega
       have q2 := Lib.hid (show inB f (0) 1000 = false by unfold inB; rw [decide_eq_false]; omega)
       clear h1 h2 h3 h4 h5
       have B0 := Lib.hid (show inB 4 1 4 = true by decide)
       go_enter Tryz.func72, Tryz.ntmps72
       go_wp2_with fail
       refine (within_is B0 _).mono ?_
       rintro r w0 ⟨rfl, rfl⟩
       go_wp2_with fail
       refine (ridright_any a b _).mono ?_
       rintro r w1 ⟨rfl, hb1⟩
       rw [hid.out]
       obtain ⟨c0, c1, c2, c3, c4, c5⟩ := hW.below hb1
       have hbl : Below w.heap.size w w1 := (below1 w _).trans (hb1.mono (by simp))
       go_wp2_with fail
       refine (itoa4 _).mono ?_
       rintro r w0 ⟨rfl, rfl⟩
       go_wp2_with fail
       refine (has4 _).mono ?_
       rintro r w0 ⟨rfl, rfl⟩
       go_wp2_with fail
       refine (within_is q2 _).mono ?_
       rintro r w0 ⟨rfl, rfl⟩
       go_wp2
       go_ret
       exact ⟨by rw [hr.out]; rfl, hbl⟩
set_option maxHeartbeats 2000000 in
set_option maxRecDepth 100000 in
theorem rwright0 (a b c f : Int) (d e : ByteArray) (w : World) (hc : c < 1 ∨ 4 < c) : Calls Tryz.prog 72 #[wrV a b (c) d e f] w fun r w' => r = .returned (.int .i64 (wright (a, b, c, d, e, f))) ∧ Below w.heap.size w w' := by
 rw [wright_is]
 have hW := WrAt.new w a b (c) d e f
 have hr := Lib.hid (show wrightC c (idRight (a, b)) d.size e.size f = 1 by unfold wrightC; rw [if_pos hc])
 have B0 := Lib.hid (show inB c 1 4 = false by unfold inB; rw [decide_eq_false]; omega)
 clear hc
 go_enter Tryz.func72, Tryz.ntmps72
 go_wp2_with fail
 refine (within_is B0 _).mono ?_
 rintro r w0 ⟨rfl, rfl⟩
 go_wp2
 go_ret
 exact ⟨by rw [hr.out]; rfl, below1 w _⟩
theorem rwright_any (x : Wr) (w : World) : Calls Tryz.prog 72 #[wrV x.1 x.2.1 x.2.2.1 x.2.2.2.1 x.2.2.2.2.1 x.2.2.2.2.2] w fun r w' => r = .returned (.int .i64 (wright x)) ∧ Below w.heap.size w w' := by
 obtain ⟨a, b, c, d, e, f⟩ := x
 by_cases h : c < 1 ∨ 4 < c
 ·exact rwright0 a b c f d e w h
 ·rcases (by omega : c = 1 ∨ c = 2 ∨ c = 3 ∨ c = 4) with rfl | rfl | rfl | rfl
  ·exact rwright1 a b f d e w
  ·exact rwright2 a b f d e w
  ·exact rwright3 a b f d e w
  ·exact rwright4 a b f d e w
end Go.Proofs.YtkejlnjnoiidnaaGreatDoor
end

section
namespace Go.Proofs.YtkejlnjnoiidnaaGreatDoor.Zg
open Go.ChangeShapes Go.WideShapes Go.ChangeAt Go.RowKit
set_option linter.unusedVariables false

/- Plain facts on bits. -/
theorem xor_zero_i64 (a : Int) (h0 : 0 ≤ a) (h1 : a < 9223372036854775808) : bits .xor .i64 a 0 = a := by
 show IntKind.i64.wrap ((BitVec.ofInt 64 a ^^^ BitVec.ofInt 64 0).toNat : Int) = _
 have h : BitVec.ofInt 64 0 = 0#64 := by decide
 rw [h, BitVec.xor_zero, BitVec.toNat_ofInt]
 simp [IntKind.wrap, IntKind.bits, IntKind.signed]
 omega
theorem xor_ones_i64 (a : Int) (h0 : 0 ≤ a) (h1 : a < 9223372036854775808) : bits .xor .i64 a (-1) = -1 - a := by
 obtain ⟨m, rfl⟩ := Int.eq_ofNat_of_zero_le h0
 have h := i64_not m (by omega)
 have c : bits .xor .i64 (m : Int) (-1) = bits .xor .i64 (-1) (m : Int) := by
  show IntKind.i64.wrap ((BitVec.ofInt 64 (m : Int) ^^^ BitVec.ofInt 64 (-1)).toNat : Int) = IntKind.i64.wrap ((BitVec.ofInt 64 (-1) ^^^ BitVec.ofInt 64 (m : Int)).toNat : Int)
  rw [BitVec.xor_comm]
 rw [c, h]
theorem and_one_u64' (n : Int) (h0 : 0 ≤ n) (h1 : n ≤ 18446744073709551615) : bits .and .u64 n 1 = n % 2 := by
 have h := u64_and n 1 h0 (by omega) (by omega) (by omega)
 rw [h]
 have e : (1 : Int).toNat = 1 := rfl
 rw [e, nat_mask1]
 omega

theorem zag_even (n : Int) (h0 : 0 ≤ n) (h1 : n ≤ 18446744073709551615) (h2 : n % 2 = 0) :
  bits BinOp.xor IntKind.i64 (n / 2) (wrap64 (-wrap64 (bits BinOp.and IntKind.u64 n 1))) = n / 2 := by
 rw [and_one_u64' n h0 h1, h2]
 have e : wrap64 (-wrap64 0) = 0 := by simp [wrap64]
 rw [e, xor_zero_i64 _ (by omega) (by omega)]
theorem zag_odd (n : Int) (h0 : 0 ≤ n) (h1 : n ≤ 18446744073709551615) (h2 : n % 2 = 1) :
  bits BinOp.xor IntKind.i64 (n / 2) (wrap64 (-wrap64 (bits BinOp.and IntKind.u64 n 1))) = -(n / 2) - 1 := by
 rw [and_one_u64' n h0 h1, h2]
 have e : wrap64 (-wrap64 1) = -1 := by simp [wrap64]
 rw [e, xor_ones_i64 _ (by omega) (by omega)]
 omega

/- What each of the two pairs computes. -/
def zag (n : Int) : Int := if n % 2 = 1 then -(n / 2) - 1 else n / 2
theorem retI {k : IntKind} {a b : Int} (h : a = b) : Ending.returned (.int k a) = .returned (.int k b) := by rw [h]

theorem zag_any (n : Int) (w : World) (h0 : 0 ≤ n) (h1 : n ≤ 18446744073709551615) :
  Calls Tryz.prog 135 #[.int .u64 n] w fun e w' => e = .returned (.int .i64 (zag n)) ∧ w = w' := by
 go_enter Tryz.func135, Tryz.ntmps135
 go_wp2
 go_ret
 refine ⟨retI ?_, rfl⟩
 unfold zag
 split
 ·exact zag_odd n h0 h1 (by assumption)
 ·exact zag_even n h0 h1 (by omega)
theorem rzag_any (n : Int) (w : World) (h0 : 0 ≤ n) (h1 : n ≤ 18446744073709551615) :
  Calls Tryz.prog 101 #[.int .u64 n] w fun e w' => e = .returned (.int .i64 (zag n)) ∧ w = w' := by
 go_enter Tryz.func101, Tryz.ntmps101
 go_wp2
 ·go_ret
  have h : (n % 2 == 1) = true := by assumption
  exact ⟨retI (by unfold zag; rw [if_pos (by simpa using h)]), rfl⟩
 ·go_ret
  have h : (n % 2 == 1) = false := by assumption
  exact ⟨retI (by unfold zag; rw [if_neg (by simpa using h)]), rfl⟩

theorem zag_is (n : Nat) : zag (n : Int) = zagN n := by
 unfold zag zagN
 split <;> split <;> omega
end Go.Proofs.YtkejlnjnoiidnaaGreatDoor.Zg
end

section
namespace Go.Proofs.YtkejlnjnoiidnaaGreatDoor
set_option linter.unusedSimpArgs false
open Go.RowKit As
end Go.Proofs.YtkejlnjnoiidnaaGreatDoor
end

section
namespace Go.Proofs.YtkejlnjnoiidnaaGreatDoor.Keys
open Go.RowKit Go.Maps
theorem strInfo : (Tryz.prog.info? 9).map (fun i => (i.zero, i.size, i.bytes)) = some (some (.string ⟨#[]⟩), 1, 16) := by kernel_rfl
end Go.Proofs.YtkejlnjnoiidnaaGreatDoor.Keys
end

section
namespace Go.Proofs.YtkejlnjnoiidnaaGreatDoor
open Go.RowKit As
end Go.Proofs.YtkejlnjnoiidnaaGreatDoor
end

section
namespace Go.Proofs.YtkejlnjnoiidnaaGreatDoor.Flow
open Go
section
variable {P : Program} {ops : Array Oper} {Q : Exit → Act → World → Prop} {md : Region.Mode}
/-- Each operation waits for earlier ones alone. -/
def lexB (ops : Array Oper) : Bool := (List.range ops.size).all fun i => match ops[i]? with
 | some o => o.guard.isNone && o.after.all fun e => decide (e.on < i)
 | none => true
theorem lex_of (h : lexB ops = true) {i : Nat} {o : Oper} (ho : ops[i]? = some o) : o.guard = none ∧ ∀ e ∈ o.after, e.on < i := by
 have hi := (Array.getElem?_eq_some_iff.1 ho).1
 have := List.all_eq_true.1 h i (List.mem_range.2 hi)
 rw [ho] at this
 simp only [Bool.and_eq_true, Option.isNone_iff_eq_none, Array.all_eq_true_iff_forall_mem, decide_eq_true_eq] at this
 exact this
theorem getD_in {L : Array Bool} {i : Nat} (h : i < L.size) (d d' : Bool) : L.getD i d = L.getD i d' := by simp [Array.getD, h]
theorem all_of_ready (hlex : lexB ops = true) {L : Array Bool} (hs : L.size = ops.size) (h : Region.ready md ops L = []) (i : Nat) : i < ops.size → L.getD i false = true := by
 induction i using Nat.strongRecOn with
 | ind i ih =>
  intro hi
  rcases hb : L.getD i false with _ | _
  ·exfalso
   have hm : i ∈ Region.ready md ops L := mem_ready.2 ⟨by rw [getD_in (by omega) true false]; exact hb, ops[i], Array.getElem?_eq_getElem hi, fun e he _ => ih e.on ((lex_of hlex (Array.getElem?_eq_getElem hi)).2 e he) (by have := (lex_of hlex (Array.getElem?_eq_getElem hi)).2 e he; omega)⟩
   rw [h] at hm
   cases hm
  ·rfl
/-- How many have not come up. -/
def left (L : Array Bool) : Nat := L.toList.countP (! ·)
theorem left_set {L : Array Bool} {i : Nat} (h : L.getD i true = false) : left (L.setIfInBounds i true) + 1 = left L := by
 obtain ⟨l⟩ := L
 unfold left
 simp only [List.setIfInBounds_toArray]
 have h' : l[i]? = some false := by
  rcases Nat.lt_or_ge i l.length with hi | hi
  ·simp [Array.getD, hi] at h
   rw [List.getElem?_eq_getElem hi, h]
  ·simp [Array.getD, Nat.not_lt.2 hi] at h
 clear h
 induction l generalizing i with
 | nil => simp at h'
 | cons x l ih =>
  cases i with
  | zero => simp at h'; subst h'; simp
  | succ i =>
   simp at h'
   have := ih h'
   simp only [List.set_cons_succ, List.countP_cons]
   omega
theorem left_zero {L : Array Bool} (h : left L = 0) (i : Nat) : L.getD i true = true := by
 obtain ⟨l⟩ := L
 unfold left at h
 simp only at h
 rcases hl : l[i]? with _ | b
 ·simp [Array.getD]; intro hi; rw [List.getElem?_eq_getElem hi] at hl; cases hl
 ·have hm := List.mem_of_getElem? hl
  have := List.countP_eq_zero.1 h b hm
  obtain ⟨hi, e⟩ := List.getElem?_eq_some_iff.1 hl
  simp [Array.getD, hi, e]
  simpa using this
theorem wpAny_inv (I : Array Bool → Act → World → Prop)
  (hstep : ∀ L a w i o, L.size = ops.size → I L a w → ops[i]? = some o → L.getD i true = false → (∀ e ∈ o.after, Region.binds md e = true → L.getD e.on false = true) → wpOp P ops Q i (fun a' w' => I (L.setIfInBounds i true) a' w') a w)
  (hdone : ∀ L a w, L.size = ops.size → I L a w → Region.ready md ops L = [] → Q .normal a w) :
  ∀ (fuel : Nat) L a w, L.size = ops.size → I L a w → left L ≤ fuel → wpAny P md ops Q fuel L a w := by
 intro fuel
 induction fuel with
 | zero =>
  intro L a w hs hI hf
  have hr : Region.ready md ops L = [] := by
   rw [List.eq_nil_iff_forall_not_mem]
   intro i hi
   have h1 := (mem_ready.1 hi).1
   rw [left_zero (by omega) i] at h1
   cases h1
  exact ⟨hr, hdone L a w hs hI hr⟩
 | succ fuel ih =>
  intro L a w hs hI hf
  refine ⟨fun hr => hdone L a w hs hI hr, fun i hi => ?_⟩
  obtain ⟨h1, o, ho, h2⟩ := mem_ready.1 hi
  refine wpOp_mono (fun a' w' h => ih _ a' w' (by simpa using hs) h (by have := left_set h1; omega)) (hstep L a w i o hs hI ho h1 h2)
def fill (f : Nat → Value → Value) : Nat → List Value → List Value
 | _, [] => []
 | n, x :: l => f n x :: fill f (n + 1) l
theorem fill_get (f : Nat → Value → Value) (l : List Value) (n t : Nat) : (fill f n l)[t]? = l[t]?.map (f (n + t)) := by
 induction l generalizing n t with
 | nil => simp [fill]
 | cons x l ih =>
  cases t with
  | zero => simp [fill]
  | succ t => simp only [fill, List.getElem?_cons_succ, ih]; rw [show n + 1 + t = n + (t + 1) by omega]
/-- Which operation writes a slot. -/
def who (ops : Array Oper) (t : Nat) : Option Nat := ops.toList.findIdx? fun o => o.dst == some t
def slot (ops : Array Oper) (v : Nat → Value) (L : Nat → Bool) (t : Nat) (x : Value) : Value :=
 match who ops t with
 | some i => if L i then v i else x
 | none => x
/-- The frame once the operations of L have come up. -/
def frame (ops : Array Oper) (a0 : Act) (v : Nat → Value) (L : Nat → Bool) : Act := { a0 with tmps := (fill (slot ops v L) 0 a0.tmps.toList).toArray }
theorem who_some {t i : Nat} (h : who ops t = some i) : ∃ o, ops[i]? = some o ∧ o.dst = some t := by
 unfold who at h
 obtain ⟨hi, h1, _⟩ := List.findIdx?_eq_some_iff_getElem.1 h
 exact ⟨ops[i]'(by simpa using hi), Array.getElem?_eq_getElem (by simpa using hi), by simpa using h1⟩
theorem frame_at (a0 : Act) (v : Nat → Value) (L : Nat → Bool) (t : Nat) : (frame ops a0 v L).tmps[t]? = a0.tmps[t]?.map (slot ops v L t) := by
 unfold frame
 simp only [List.getElem?_toArray, fill_get, Nat.zero_add]
 simp
theorem frame_dst {a0 : Act} {v : Nat → Value} {L : Nat → Bool} {t i : Nat} (hw : who ops t = some i) (ht : t < a0.tmps.size) (hL : L i = true) : (frame ops a0 v L).eval (.tmp t) = v i := by
 show (frame ops a0 v L).tmps.getD t undef = v i
 rw [Array.getD_eq_getD_getElem?, frame_at, Array.getElem?_eq_getElem ht]
 simp [slot, hw, hL]
theorem frame_not {a0 : Act} {v : Nat → Value} {L : Nat → Bool} {t i : Nat} (hw : who ops t = some i) (hL : L i = false) : (frame ops a0 v L).eval (.tmp t) = a0.eval (.tmp t) := by
 show (frame ops a0 v L).tmps.getD t undef = a0.tmps.getD t undef
 rw [Array.getD_eq_getD_getElem?, Array.getD_eq_getD_getElem?, frame_at]
 cases a0.tmps[t]? <;> simp [slot, hw, hL]
theorem frame_old {a0 : Act} {v : Nat → Value} {L : Nat → Bool} {t : Nat} (hw : who ops t = none) : (frame ops a0 v L).eval (.tmp t) = a0.eval (.tmp t) := by
 show (frame ops a0 v L).tmps.getD t undef = a0.tmps.getD t undef
 rw [Array.getD_eq_getD_getElem?, Array.getD_eq_getD_getElem?, frame_at]
 cases a0.tmps[t]? <;> simp [slot, hw]
/-- Each slot is written by one operation. -/
def okB (ops : Array Oper) : Bool := (List.range ops.size).all fun i => match ops[i]? with
 | some o => (match o.dst with
  | some t => who ops t == some i
  | none => true)
 | none => true
theorem ok_of (h : okB ops = true) {i t : Nat} {o : Oper} (ho : ops[i]? = some o) (ht : o.dst = some t) : who ops t = some i := by
 have hi := (Array.getElem?_eq_some_iff.1 ho).1
 have := List.all_eq_true.1 h i (List.mem_range.2 hi)
 rw [ho] at this
 simp only [ht] at this
 simpa using this
theorem frame_put (hok : okB ops = true) {a0 : Act} {v v' : Nat → Value} {L : Nat → Bool} {i : Nat} {o : Oper} (ho : ops[i]? = some o) (hv : ∀ j, L j = true → v' j = v j) :
  (frame ops a0 v L).put o.dst (v' i) = frame ops a0 v' (fun j => j == i || L j) := by
 have key : ∀ t x, o.dst ≠ some t → slot ops v L t x = slot ops v' (fun j => j == i || L j) t x := by
  intro t x hne
  unfold slot
  rcases hw : who ops t with _ | j
  ·rfl
  ·simp only
   have hji : j ≠ i := by
    rintro rfl
    obtain ⟨o', ho', hd⟩ := who_some hw
    rw [ho] at ho'
    injection ho' with ho'
    subst ho'
    exact hne hd
   have hb : (j == i) = false := by simpa using hji
   simp only [hb, Bool.false_or]
   cases hL : L j with
   | false => simp
   | true => simp [hv j hL]
 rcases hd : o.dst with _ | d
 ·unfold Act.put
  simp only
  unfold frame
  congr 1
  apply Array.ext_getElem?
  intro t
  have h1 := frame_at (ops := ops) a0 v L t
  have h2 := frame_at (ops := ops) a0 v' (fun j => j == i || L j) t
  unfold frame at h1 h2
  rw [h1, h2]
  cases a0.tmps[t]? with
  | none => rfl
  | some x => simp only [Option.map_some]; rw [key t x (by rw [hd]; simp)]
 ·have hw := ok_of hok ho hd
  have e : (frame ops a0 v L).tmps.setIfInBounds d (v' i) = (frame ops a0 v' (fun j => j == i || L j)).tmps := by
   apply Array.ext_getElem?
   intro t
   rw [Array.getElem?_setIfInBounds, frame_at]
   have hsz : (frame ops a0 v L).tmps.size = a0.tmps.size := by
    apply Nat.le_antisymm
    ·rcases Nat.lt_or_ge a0.tmps.size (frame ops a0 v L).tmps.size with h | h
     ·have := frame_at (ops := ops) a0 v L a0.tmps.size
      rw [Array.getElem?_eq_getElem h, Array.getElem?_eq_none (Nat.le_refl _)] at this
      cases this
     ·exact h
    ·rcases Nat.lt_or_ge (frame ops a0 v L).tmps.size a0.tmps.size with h | h
     ·have := frame_at (ops := ops) a0 v L (frame ops a0 v L).tmps.size
      rw [Array.getElem?_eq_none (Nat.le_refl _), Array.getElem?_eq_getElem h] at this
      cases this
     ·exact h
   rw [frame_at, hsz]
   by_cases ht : d = t
   ·subst ht
    rw [if_pos rfl]
    by_cases hlt : d < a0.tmps.size
    ·rw [if_pos hlt, Array.getElem?_eq_getElem hlt]
     simp [slot, hw]
    ·rw [if_neg hlt, Array.getElem?_eq_none (Nat.not_lt.1 hlt)]; rfl
   ·rw [if_neg ht]
    cases a0.tmps[t]? with
    | none => rfl
    | some x => simp only [Option.map_some]; rw [key t x (by rw [hd]; intro h; injection h with h; exact ht h)]
  show ({ frame ops a0 v L with tmps := (frame ops a0 v L).tmps.setIfInBounds d (v' i) } : Act) = _
  rw [e]
  rfl
theorem frame_all {a0 : Act} {v : Nat → Value} {L : Nat → Bool} (h : ∀ i, i < ops.size → L i = true) : frame ops a0 v L = frame ops a0 v (fun _ => true) := by
 unfold frame
 congr 1
 apply Array.ext_getElem?
 intro t
 have h1 := frame_at (ops := ops) a0 v L t
 have h2 := frame_at (ops := ops) a0 v (fun _ => true) t
 unfold frame at h1 h2
 rw [h1, h2]
 cases a0.tmps[t]? with
 | none => rfl
 | some x =>
  simp only [Option.map_some]
  congr 1
  unfold slot
  rcases hw : who ops t with _ | j
  ·rfl
  ·simp only
   obtain ⟨o, ho, _⟩ := who_some hw
   rw [h j (Array.getElem?_eq_some_iff.1 ho).1]
   simp
theorem frame_none {a0 : Act} {v : Nat → Value} : frame ops a0 v (fun _ => false) = a0 := by
 obtain ⟨t0, d0⟩ := a0
 unfold frame
 congr 1
 apply Array.ext_getElem?
 intro t
 have h1 := frame_at (ops := ops) ⟨t0, d0⟩ v (fun _ => false) t
 unfold frame at h1
 rw [h1]
 cases t0[t]? with
 | none => rfl
 | some x =>
  simp only [Option.map_some]
  congr 1
  unfold slot
  split <;> simp
/-- The frame behind all operations, put by put. -/
def putAll (v : Nat → Value) : Nat → List Oper → Act → Act
 | _, [], a => a
 | i, o :: l, a => putAll v (i + 1) l (a.put o.dst (v i))
theorem putAll_from (hok : okB ops = true) {a0 : Act} {v : Nat → Value} (l pre : List Oper) (h : ops.toList = pre ++ l) : putAll v pre.length l (frame ops a0 v (fun j => decide (j < pre.length))) = frame ops a0 v (fun j => decide (j < ops.size)) := by
 induction l generalizing pre with
 | nil =>
  have : ops.size = pre.length := by rw [← Array.length_toList, h, List.append_nil]
  rw [this]
  rfl
 | cons o l ih =>
  have ho : ops[pre.length]? = some o := by rw [← Array.getElem?_toList, h, List.getElem?_append_right (Nat.le_refl _), Nat.sub_self]; rfl
  have e : (fun j => j == pre.length || decide (j < pre.length)) = fun j => decide (j < (pre ++ [o]).length) := by
   funext j
   rw [List.length_append, List.length_singleton]
   by_cases h1 : j = pre.length
   ·subst h1; simp
   ·have hb : (j == pre.length) = false := by simpa using h1
    rw [hb, Bool.false_or, decide_eq_decide]; omega
  have hp := frame_put hok (a0 := a0) (v := v) (v' := v) (L := fun j => decide (j < pre.length)) ho (fun _ _ => rfl)
  rw [e] at hp
  show putAll v (pre.length + 1) l ((frame ops a0 v (fun j => decide (j < pre.length))).put o.dst (v pre.length)) = _
  rw [hp]
  have := ih (pre ++ [o]) (by rw [h, List.append_assoc]; rfl)
  rw [List.length_append, List.length_singleton] at this ⊢
  exact this
theorem putAll_all (hok : okB ops = true) {a0 : Act} {v : Nat → Value} : frame ops a0 v (fun _ => true) = putAll v 0 ops.toList a0 := by
 have h := putAll_from hok (a0 := a0) (v := v) ops.toList [] rfl
 have e : (fun j : Nat => decide (j < ([] : List Oper).length)) = fun _ => false := by funext j; simp
 rw [e, frame_none] at h
 rw [show ([] : List Oper).length = 0 from rfl] at h
 rw [h]
 exact (frame_all (L := fun j => decide (j < ops.size)) (fun i hi => by simpa using hi)).symm
/-- What is asked of each operation. -/
def Steps (X : Nat → Oper → Prop) : Nat → List Oper → Prop
 | _, [] => True
 | i, o :: l => X i o ∧ Steps X (i + 1) l
theorem Steps.at_ {X : Nat → Oper → Prop} {l : List Oper} {n : Nat} (h : Steps X n l) {i : Nat} {o : Oper} (ho : l[i]? = some o) : X (n + i) o := by
 induction l generalizing n i with
 | nil => simp at ho
 | cons x l ih =>
  cases i with
  | zero => simp at ho; subst ho; exact h.1
  | succ i =>
   have := ih h.2 (i := i) (by simpa using ho)
   rw [show n + 1 + i = n + (i + 1) by omega] at this
   exact this
/-- All slots that are written are there. -/
def fitB (ops : Array Oper) (n : Nat) : Bool := ops.toList.all fun o => match o.dst with
 | some t => decide (t < n)
 | none => true
theorem fit_of {n t j : Nat} (h : fitB ops n = true) (hw : who ops t = some j) : t < n := by
 obtain ⟨o, ho, hd⟩ := who_some hw
 have := List.all_eq_true.1 h o (by rw [← Array.getElem?_toList] at ho; exact List.mem_of_getElem? ho)
 simp only [hd] at this
 exact of_decide_eq_true this
/-- What is asked of an operation's outcome. -/
def Yl (P : Program) (K : Value → World → Prop) : Result Next → Prop
 | .ok (.value v) w => K v w
 | .ok .skip w => K undef w
 | .ok (.enter f args) w => Calls P f args w fun e w' => ∃ v, e = .returned v ∧ K v w'
 | _ => False
theorem Yl.upon {K : Value → World → Prop} {r : Result Next} (h : Yl P K r) {o : Oper} {a : Act} {K' : Act → World → Prop} (hK : ∀ v w, K v w → K' (a.put o.dst v) w) : o.upon P a K' Q r := by
 cases r with
 | ok n w =>
  cases n with
  | value v => exact hK _ _ h
  | skip => exact hK _ _ h
  | enter f args => exact Calls.mono h fun e w' he => by obtain ⟨v, rfl, h⟩ := he; exact hK _ _ h
  | _ => exact absurd h (fun h => h)
 | halt x w => exact absurd h (fun h => h)
end
end Go.Proofs.YtkejlnjnoiidnaaGreatDoor.Flow
end
