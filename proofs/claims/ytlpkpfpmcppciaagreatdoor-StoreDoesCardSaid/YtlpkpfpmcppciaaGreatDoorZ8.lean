/- WriteRight of the reference says what wright says. Printed by gen_write2.py.

The law's own function big: how much a batch has.

Arguments opened with the form's own reach: no string and no slice of more than 2^47 bytes. Any program.

Writes as arguments, with the form's own reach. -/
import Derived.Test.YtlpkpfpmcppciaaGreatDoorZ3
import Derived.Test.YtlpkpfpmcppciaaGreatDoorZ7
import Derived.Test.YtlpkpfpmcppciaaGreatDoorShelfItoa
import Derived.Test.YtlpkpfpmcppciaaGreatDoorZ1
import Derived.Test.YtlpkpfpmcppciaaGreatDoorZ4
import Derived.SizedLaws
section
namespace Go.Proofs.YtlpkpfpmcppciaaGreatDoor
set_option linter.unusedSimpArgs false
open Go.RowKit As
theorem itoa1 (w : World) : Calls Tryz.prog 32 #[.int .i64 1] w fun e w' => e = .returned (.string ⟨#[49]⟩) ∧ w = w' :=
 (Tryz.strconv_Itoa_small 1 (by omega) w).mono fun _ _ h => ⟨by rw [h.1, show Lib.decDigits 1 = [49] by first | decide | kernel_rfl], h.2.symm⟩
theorem has1 (w : World) : Calls Tryz.prog 31 #[.string ⟨#[50, 51]⟩, .string ⟨#[49]⟩] w fun e w' => e = .returned (.bool false) ∧ w = w' :=
 (Tryz.strings_Contains_one ⟨#[50, 51]⟩ 49 w).mono fun _ _ h => ⟨by rw [h.1]; exact retB (by decide), h.2.symm⟩
theorem itoa2 (w : World) : Calls Tryz.prog 32 #[.int .i64 2] w fun e w' => e = .returned (.string ⟨#[50]⟩) ∧ w = w' :=
 (Tryz.strconv_Itoa_small 2 (by omega) w).mono fun _ _ h => ⟨by rw [h.1, show Lib.decDigits 2 = [50] by first | decide | kernel_rfl], h.2.symm⟩
theorem has2 (w : World) : Calls Tryz.prog 31 #[.string ⟨#[50, 51]⟩, .string ⟨#[50]⟩] w fun e w' => e = .returned (.bool true) ∧ w = w' :=
 (Tryz.strings_Contains_one ⟨#[50, 51]⟩ 50 w).mono fun _ _ h => ⟨by rw [h.1]; exact retB (by decide), h.2.symm⟩
theorem itoa3 (w : World) : Calls Tryz.prog 32 #[.int .i64 3] w fun e w' => e = .returned (.string ⟨#[51]⟩) ∧ w = w' :=
 (Tryz.strconv_Itoa_small 3 (by omega) w).mono fun _ _ h => ⟨by rw [h.1, show Lib.decDigits 3 = [51] by first | decide | kernel_rfl], h.2.symm⟩
theorem has3 (w : World) : Calls Tryz.prog 31 #[.string ⟨#[50, 51]⟩, .string ⟨#[51]⟩] w fun e w' => e = .returned (.bool true) ∧ w = w' :=
 (Tryz.strings_Contains_one ⟨#[50, 51]⟩ 51 w).mono fun _ _ h => ⟨by rw [h.1]; exact retB (by decide), h.2.symm⟩
theorem itoa4 (w : World) : Calls Tryz.prog 32 #[.int .i64 4] w fun e w' => e = .returned (.string ⟨#[52]⟩) ∧ w = w' :=
 (Tryz.strconv_Itoa_small 4 (by omega) w).mono fun _ _ h => ⟨by rw [h.1, show Lib.decDigits 4 = [52] by first | decide | kernel_rfl], h.2.symm⟩
theorem has4 (w : World) : Calls Tryz.prog 31 #[.string ⟨#[50, 51]⟩, .string ⟨#[52]⟩] w fun e w' => e = .returned (.bool false) ∧ w = w' :=
 (Tryz.strings_Contains_one ⟨#[50, 51]⟩ 52 w).mono fun _ _ h => ⟨by rw [h.1]; exact retB (by decide), h.2.symm⟩
set_option maxHeartbeats 2000000 in
set_option maxRecDepth 100000 in
theorem rwright1 (a b f : Int) (d e : ByteArray) (w : World) : Calls Tryz.prog 7 #[wrV a b (1) d e f] w fun r w' => r = .returned (.int .i64 (wright (a, b, 1, d, e, f))) ∧ Below w.heap.size w w' := by
 rw [wright_is]
 have hW := WrAt.new w a b (1) d e f
 cases hidv : idRight (a, b) with
 | false =>
  have hid := Lib.hid hidv
  clear hidv
  have hr := Lib.hid (show wrightC 1 false d.size e.size f = 2 by unfold wrightC; rw [if_neg (by omega), if_pos rfl])
  have B0 := Lib.hid (show inB 1 1 4 = true by decide)
  go_enter Tryz.func7, Tryz.ntmps7
  go_wp2_with fail
  refine (within_is B0 _).mono ?_
  rintro r w0 ⟨rfl, rfl⟩
  go_wp2_with fail
  refine (ridright_any a b _).mono ?_
  rintro r w1 ⟨rfl, hb1⟩
  rw [hid.out]
  obtain ⟨c0, c1, c2, c3, c4, c5⟩ := hW.below hb1
  have hbl : Below w.heap.size w w1 := (below1 w _).trans (hb1.mono (by simp))
  go_wp2
  go_ret
  exact ⟨by rw [hr.out]; rfl, hbl⟩
 | true =>
  have hid := Lib.hid hidv
  clear hidv
  by_cases h1 : 40 < d.size
  ·have hr := Lib.hid (show wrightC 1 true d.size e.size f = 4 by unfold wrightC; rw [if_neg (by omega), if_neg (by simp), if_pos (by omega)])
   have s0 : decide (40 < d.size) = true := by simp only [decide_eq_true_eq, decide_eq_false_iff_not]; omega
   have t0 : decide (40 < (d.size : Int)) = true := by simp only [decide_eq_true_eq, decide_eq_false_iff_not]; omega
   clear h1
   have B0 := Lib.hid (show inB 1 1 4 = true by decide)
   go_enter Tryz.func7, Tryz.ntmps7
   go_wp2_with fail
   refine (within_is B0 _).mono ?_
   rintro r w0 ⟨rfl, rfl⟩
   go_wp2_with fail
   refine (ridright_any a b _).mono ?_
   rintro r w1 ⟨rfl, hb1⟩
   rw [hid.out]
   obtain ⟨c0, c1, c2, c3, c4, c5⟩ := hW.below hb1
   have hbl : Below w.heap.size w w1 := (below1 w _).trans (hb1.mono (by simp))
   go_wp2
   go_ret
   exact ⟨by rw [hr.out]; rfl, hbl⟩
  ·by_cases h2 : 300 < e.size
   ·have hr := Lib.hid (show wrightC 1 true d.size e.size f = 4 by unfold wrightC; rw [if_neg (by omega), if_neg (by simp), if_pos (by omega)])
    have s0 : decide (40 < d.size) = false := by simp only [decide_eq_true_eq, decide_eq_false_iff_not]; omega
    have t0 : decide (40 < (d.size : Int)) = false := by simp only [decide_eq_true_eq, decide_eq_false_iff_not]; omega
    have s1 : decide (300 < e.size) = true := by simp only [decide_eq_true_eq, decide_eq_false_iff_not]; omega
    have t1 : decide (300 < (e.size : Int)) = true := by simp only [decide_eq_true_eq, decide_eq_false_iff_not]; omega
    clear h1 h2
    have B0 := Lib.hid (show inB 1 1 4 = true by decide)
    go_enter Tryz.func7, Tryz.ntmps7
    go_wp2_with fail
    refine (within_is B0 _).mono ?_
    rintro r w0 ⟨rfl, rfl⟩
    go_wp2_with fail
    refine (ridright_any a b _).mono ?_
    rintro r w1 ⟨rfl, hb1⟩
    rw [hid.out]
    obtain ⟨c0, c1, c2, c3, c4, c5⟩ := hW.below hb1
    have hbl : Below w.heap.size w w1 := (below1 w _).trans (hb1.mono (by simp))
    go_wp2
    go_ret
    exact ⟨by rw [hr.out]; rfl, hbl⟩
   ·have hz := str_empty' e
    have s0 : decide (40 < d.size) = false := by simp only [decide_eq_true_eq, decide_eq_false_iff_not]; omega
    have t0 : decide (40 < (d.size : Int)) = false := by simp only [decide_eq_true_eq, decide_eq_false_iff_not]; omega
    have s1 : decide (300 < e.size) = false := by simp only [decide_eq_true_eq, decide_eq_false_iff_not]; omega
    have t1 : decide (300 < (e.size : Int)) = false := by simp only [decide_eq_true_eq, decide_eq_false_iff_not]; omega
    have HZ := Lib.hid hz
    clear hz
    by_cases h3 : e.size = 0
    ·by_cases h4 : f = 0
     ·skip
      have hr := Lib.hid (show wrightC 1 true d.size e.size f = 0 by unfold wrightC; rw [if_neg (by omega), if_neg (by simp), if_neg (by omega), if_neg (by omega), if_neg (by omega)])
      have q0 : e.toList.isEmpty = true := by rw [HZ.out]; simp only [decide_eq_true_eq, decide_eq_false_iff_not]; omega
      have q1 : (f != 0) = false := by simp only [bne_iff_ne, bne_eq_false_iff_eq, ne_eq]; omega
      clear h1 h2 h3 h4
      have B0 := Lib.hid (show inB 1 1 4 = true by decide)
      go_enter Tryz.func7, Tryz.ntmps7
      go_wp2_with fail
      refine (within_is B0 _).mono ?_
      rintro r w0 ⟨rfl, rfl⟩
      go_wp2_with fail
      refine (ridright_any a b _).mono ?_
      rintro r w1 ⟨rfl, hb1⟩
      rw [hid.out]
      obtain ⟨c0, c1, c2, c3, c4, c5⟩ := hW.below hb1
      have hbl : Below w.heap.size w w1 := (below1 w _).trans (hb1.mono (by simp))
      go_wp2
      go_ret
      exact ⟨by rw [hr.out]; rfl, hbl⟩
     ·skip
      have hr := Lib.hid (show wrightC 1 true d.size e.size f = 3 by unfold wrightC; rw [if_neg (by omega), if_neg (by simp), if_neg (by omega), if_pos (by omega)])
      have q0 : e.toList.isEmpty = true := by rw [HZ.out]; simp only [decide_eq_true_eq, decide_eq_false_iff_not]; omega
      have q1 : (f != 0) = true := by simp only [bne_iff_ne, bne_eq_false_iff_eq, ne_eq]; omega
      clear h1 h2 h3 h4
      have B0 := Lib.hid (show inB 1 1 4 = true by decide)
      go_enter Tryz.func7, Tryz.ntmps7
      go_wp2_with fail
      refine (within_is B0 _).mono ?_
      rintro r w0 ⟨rfl, rfl⟩
      go_wp2_with fail
      refine (ridright_any a b _).mono ?_
      rintro r w1 ⟨rfl, hb1⟩
      rw [hid.out]
      obtain ⟨c0, c1, c2, c3, c4, c5⟩ := hW.below hb1
      have hbl : Below w.heap.size w w1 := (below1 w _).trans (hb1.mono (by simp))
      go_wp2
      go_ret
      exact ⟨by rw [hr.out]; rfl, hbl⟩
    ·by_cases h4 : f = 0
     ·skip
      have hr := Lib.hid (show wrightC 1 true d.size e.size f = 0 by unfold wrightC; rw [if_neg (by omega), if_neg (by simp), if_neg (by omega), if_neg (by omega), if_neg (by omega)])
      have q0 : e.toList.isEmpty = false := by rw [HZ.out]; simp only [decide_eq_true_eq, decide_eq_false_iff_not]; omega
      have q1 : (f != 0) = false := by simp only [bne_iff_ne, bne_eq_false_iff_eq, ne_eq]; omega
      clear h1 h2 h3 h4
      have B0 := Lib.hid (show inB 1 1 4 = true by decide)
      go_enter Tryz.func7, Tryz.ntmps7
      go_wp2_with fail
      refine (within_is B0 _).mono ?_
      rintro r w0 ⟨rfl, rfl⟩
      go_wp2_with fail
      refine (ridright_any a b _).mono ?_
      rintro r w1 ⟨rfl, hb1⟩
      rw [hid.out]
      obtain ⟨c0, c1, c2, c3, c4, c5⟩ := hW.below hb1
      have hbl : Below w.heap.size w w1 := (below1 w _).trans (hb1.mono (by simp))
      go_wp2_with fail
      refine (itoa1 _).mono ?_
      rintro r w0 ⟨rfl, rfl⟩
      go_wp2_with fail
      refine (has1 _).mono ?_
      rintro r w0 ⟨rfl, rfl⟩
      go_wp2
      go_ret
      exact ⟨by rw [hr.out]; rfl, hbl⟩
     ·skip
      have hr := Lib.hid (show wrightC 1 true d.size e.size f = 3 by unfold wrightC; rw [if_neg (by omega), if_neg (by simp), if_neg (by omega), if_pos (by omega)])
      have q0 : e.toList.isEmpty = false := by rw [HZ.out]; simp only [decide_eq_true_eq, decide_eq_false_iff_not]; omega
      have q1 : (f != 0) = true := by simp only [bne_iff_ne, bne_eq_false_iff_eq, ne_eq]; omega
      clear h1 h2 h3 h4
      have B0 := Lib.hid (show inB 1 1 4 = true by decide)
      go_enter Tryz.func7, Tryz.ntmps7
      go_wp2_with fail
      refine (within_is B0 _).mono ?_
      rintro r w0 ⟨rfl, rfl⟩
      go_wp2_with fail
      refine (ridright_any a b _).mono ?_
      rintro r w1 ⟨rfl, hb1⟩
      rw [hid.out]
      obtain ⟨c0, c1, c2, c3, c4, c5⟩ := hW.below hb1
      have hbl : Below w.heap.size w w1 := (below1 w _).trans (hb1.mono (by simp))
      go_wp2_with fail
      refine (itoa1 _).mono ?_
      rintro r w0 ⟨rfl, rfl⟩
      go_wp2_with fail
      refine (has1 _).mono ?_
      rintro r w0 ⟨rfl, rfl⟩
      go_wp2
      go_ret
      exact ⟨by rw [hr.out]; rfl, hbl⟩
set_option maxHeartbeats 2000000 in
set_option maxRecDepth 100000 in
theorem rwright2 (a b f : Int) (d e : ByteArray) (w : World) : Calls Tryz.prog 7 #[wrV a b (2) d e f] w fun r w' => r = .returned (.int .i64 (wright (a, b, 2, d, e, f))) ∧ Below w.heap.size w w' := by
 rw [wright_is]
 have hW := WrAt.new w a b (2) d e f
 cases hidv : idRight (a, b) with
 | false =>
  have hid := Lib.hid hidv
  clear hidv
  have hr := Lib.hid (show wrightC 2 false d.size e.size f = 2 by unfold wrightC; rw [if_neg (by omega), if_pos rfl])
  have B0 := Lib.hid (show inB 2 1 4 = true by decide)
  go_enter Tryz.func7, Tryz.ntmps7
  go_wp2_with fail
  refine (within_is B0 _).mono ?_
  rintro r w0 ⟨rfl, rfl⟩
  go_wp2_with fail
  refine (ridright_any a b _).mono ?_
  rintro r w1 ⟨rfl, hb1⟩
  rw [hid.out]
  obtain ⟨c0, c1, c2, c3, c4, c5⟩ := hW.below hb1
  have hbl : Below w.heap.size w w1 := (below1 w _).trans (hb1.mono (by simp))
  go_wp2
  go_ret
  exact ⟨by rw [hr.out]; rfl, hbl⟩
 | true =>
  have hid := Lib.hid hidv
  clear hidv
  by_cases h1 : 40 < d.size
  ·have hr := Lib.hid (show wrightC 2 true d.size e.size f = 4 by unfold wrightC; rw [if_neg (by omega), if_neg (by simp), if_pos (by omega)])
   have s0 : decide (40 < d.size) = true := by simp only [decide_eq_true_eq, decide_eq_false_iff_not]; omega
   have t0 : decide (40 < (d.size : Int)) = true := by simp only [decide_eq_true_eq, decide_eq_false_iff_not]; omega
   clear h1
   have B0 := Lib.hid (show inB 2 1 4 = true by decide)
   go_enter Tryz.func7, Tryz.ntmps7
   go_wp2_with fail
   refine (within_is B0 _).mono ?_
   rintro r w0 ⟨rfl, rfl⟩
   go_wp2_with fail
   refine (ridright_any a b _).mono ?_
   rintro r w1 ⟨rfl, hb1⟩
   rw [hid.out]
   obtain ⟨c0, c1, c2, c3, c4, c5⟩ := hW.below hb1
   have hbl : Below w.heap.size w w1 := (below1 w _).trans (hb1.mono (by simp))
   go_wp2
   go_ret
   exact ⟨by rw [hr.out]; rfl, hbl⟩
  ·by_cases h2 : 300 < e.size
   ·have hr := Lib.hid (show wrightC 2 true d.size e.size f = 4 by unfold wrightC; rw [if_neg (by omega), if_neg (by simp), if_pos (by omega)])
    have s0 : decide (40 < d.size) = false := by simp only [decide_eq_true_eq, decide_eq_false_iff_not]; omega
    have t0 : decide (40 < (d.size : Int)) = false := by simp only [decide_eq_true_eq, decide_eq_false_iff_not]; omega
    have s1 : decide (300 < e.size) = true := by simp only [decide_eq_true_eq, decide_eq_false_iff_not]; omega
    have t1 : decide (300 < (e.size : Int)) = true := by simp only [decide_eq_true_eq, decide_eq_false_iff_not]; omega
    clear h1 h2
    have B0 := Lib.hid (show inB 2 1 4 = true by decide)
    go_enter Tryz.func7, Tryz.ntmps7
    go_wp2_with fail
    refine (within_is B0 _).mono ?_
    rintro r w0 ⟨rfl, rfl⟩
    go_wp2_with fail
    refine (ridright_any a b _).mono ?_
    rintro r w1 ⟨rfl, hb1⟩
    rw [hid.out]
    obtain ⟨c0, c1, c2, c3, c4, c5⟩ := hW.below hb1
    have hbl : Below w.heap.size w w1 := (below1 w _).trans (hb1.mono (by simp))
    go_wp2
    go_ret
    exact ⟨by rw [hr.out]; rfl, hbl⟩
   ·have hz := str_empty' e
    have s0 : decide (40 < d.size) = false := by simp only [decide_eq_true_eq, decide_eq_false_iff_not]; omega
    have t0 : decide (40 < (d.size : Int)) = false := by simp only [decide_eq_true_eq, decide_eq_false_iff_not]; omega
    have s1 : decide (300 < e.size) = false := by simp only [decide_eq_true_eq, decide_eq_false_iff_not]; omega
    have t1 : decide (300 < (e.size : Int)) = false := by simp only [decide_eq_true_eq, decide_eq_false_iff_not]; omega
    have HZ := Lib.hid hz
    clear hz
    by_cases h3 : e.size = 0
    ·by_cases h4 : f = 0
     ·skip
      have hr := Lib.hid (show wrightC 2 true d.size e.size f = 0 by unfold wrightC; rw [if_neg (by omega), if_neg (by simp), if_neg (by omega), if_neg (by omega), if_neg (by omega)])
      have q0 : e.toList.isEmpty = true := by rw [HZ.out]; simp only [decide_eq_true_eq, decide_eq_false_iff_not]; omega
      have q1 : (f != 0) = false := by simp only [bne_iff_ne, bne_eq_false_iff_eq, ne_eq]; omega
      clear h1 h2 h3 h4
      have B0 := Lib.hid (show inB 2 1 4 = true by decide)
      go_enter Tryz.func7, Tryz.ntmps7
      go_wp2_with fail
      refine (within_is B0 _).mono ?_
      rintro r w0 ⟨rfl, rfl⟩
      go_wp2_with fail
      refine (ridright_any a b _).mono ?_
      rintro r w1 ⟨rfl, hb1⟩
      rw [hid.out]
      obtain ⟨c0, c1, c2, c3, c4, c5⟩ := hW.below hb1
      have hbl : Below w.heap.size w w1 := (below1 w _).trans (hb1.mono (by simp))
      go_wp2
      go_ret
      exact ⟨by rw [hr.out]; rfl, hbl⟩
     ·skip
      have hr := Lib.hid (show wrightC 2 true d.size e.size f = 3 by unfold wrightC; rw [if_neg (by omega), if_neg (by simp), if_neg (by omega), if_pos (by omega)])
      have q0 : e.toList.isEmpty = true := by rw [HZ.out]; simp only [decide_eq_true_eq, decide_eq_false_iff_not]; omega
      have q1 : (f != 0) = true := by simp only [bne_iff_ne, bne_eq_false_iff_eq, ne_eq]; omega
      clear h1 h2 h3 h4
      have B0 := Lib.hid (show inB 2 1 4 = true by decide)
      go_enter Tryz.func7, Tryz.ntmps7
      go_wp2_with fail
      refine (within_is B0 _).mono ?_
      rintro r w0 ⟨rfl, rfl⟩
      go_wp2_with fail
      refine (ridright_any a b _).mono ?_
      rintro r w1 ⟨rfl, hb1⟩
      rw [hid.out]
      obtain ⟨c0, c1, c2, c3, c4, c5⟩ := hW.below hb1
      have hbl : Below w.heap.size w w1 := (below1 w _).trans (hb1.mono (by simp))
      go_wp2
      go_ret
      exact ⟨by rw [hr.out]; rfl, hbl⟩
    ·skip
     have hr := Lib.hid (show wrightC 2 true d.size e.size f = 3 by unfold wrightC; rw [if_neg (by omega), if_neg (by simp), if_neg (by omega), if_pos (by omega)])
     have q0 : e.toList.isEmpty = false := by rw [HZ.out]; simp only [decide_eq_true_eq, decide_eq_false_iff_not]; omega
     clear h1 h2 h3
     have B0 := Lib.hid (show inB 2 1 4 = true by decide)
     go_enter Tryz.func7, Tryz.ntmps7
     go_wp2_with fail
     refine (within_is B0 _).mono ?_
     rintro r w0 ⟨rfl, rfl⟩
     go_wp2_with fail
     refine (ridright_any a b _).mono ?_
     rintro r w1 ⟨rfl, hb1⟩
     rw [hid.out]
     obtain ⟨c0, c1, c2, c3, c4, c5⟩ := hW.below hb1
     have hbl : Below w.heap.size w w1 := (below1 w _).trans (hb1.mono (by simp))
     go_wp2_with fail
     refine (itoa2 _).mono ?_
     rintro r w0 ⟨rfl, rfl⟩
     go_wp2_with fail
     refine (has2 _).mono ?_
     rintro r w0 ⟨rfl, rfl⟩
     go_wp2
     go_ret
     exact ⟨by rw [hr.out]; rfl, hbl⟩
set_option maxHeartbeats 2000000 in
set_option maxRecDepth 100000 in
theorem rwright3 (a b f : Int) (d e : ByteArray) (w : World) : Calls Tryz.prog 7 #[wrV a b (3) d e f] w fun r w' => r = .returned (.int .i64 (wright (a, b, 3, d, e, f))) ∧ Below w.heap.size w w' := by
 rw [wright_is]
 have hW := WrAt.new w a b (3) d e f
 cases hidv : idRight (a, b) with
 | false =>
  have hid := Lib.hid hidv
  clear hidv
  have hr := Lib.hid (show wrightC 3 false d.size e.size f = 2 by unfold wrightC; rw [if_neg (by omega), if_pos rfl])
  have B0 := Lib.hid (show inB 3 1 4 = true by decide)
  go_enter Tryz.func7, Tryz.ntmps7
  go_wp2_with fail
  refine (within_is B0 _).mono ?_
  rintro r w0 ⟨rfl, rfl⟩
  go_wp2_with fail
  refine (ridright_any a b _).mono ?_
  rintro r w1 ⟨rfl, hb1⟩
  rw [hid.out]
  obtain ⟨c0, c1, c2, c3, c4, c5⟩ := hW.below hb1
  have hbl : Below w.heap.size w w1 := (below1 w _).trans (hb1.mono (by simp))
  go_wp2
  go_ret
  exact ⟨by rw [hr.out]; rfl, hbl⟩
 | true =>
  have hid := Lib.hid hidv
  clear hidv
  by_cases h1 : 40 < d.size
  ·have hr := Lib.hid (show wrightC 3 true d.size e.size f = 4 by unfold wrightC; rw [if_neg (by omega), if_neg (by simp), if_pos (by omega)])
   have s0 : decide (40 < d.size) = true := by simp only [decide_eq_true_eq, decide_eq_false_iff_not]; omega
   have t0 : decide (40 < (d.size : Int)) = true := by simp only [decide_eq_true_eq, decide_eq_false_iff_not]; omega
   clear h1
   have B0 := Lib.hid (show inB 3 1 4 = true by decide)
   go_enter Tryz.func7, Tryz.ntmps7
   go_wp2_with fail
   refine (within_is B0 _).mono ?_
   rintro r w0 ⟨rfl, rfl⟩
   go_wp2_with fail
   refine (ridright_any a b _).mono ?_
   rintro r w1 ⟨rfl, hb1⟩
   rw [hid.out]
   obtain ⟨c0, c1, c2, c3, c4, c5⟩ := hW.below hb1
   have hbl : Below w.heap.size w w1 := (below1 w _).trans (hb1.mono (by simp))
   go_wp2
   go_ret
   exact ⟨by rw [hr.out]; rfl, hbl⟩
  ·by_cases h2 : 300 < e.size
   ·have hr := Lib.hid (show wrightC 3 true d.size e.size f = 4 by unfold wrightC; rw [if_neg (by omega), if_neg (by simp), if_pos (by omega)])
    have s0 : decide (40 < d.size) = false := by simp only [decide_eq_true_eq, decide_eq_false_iff_not]; omega
    have t0 : decide (40 < (d.size : Int)) = false := by simp only [decide_eq_true_eq, decide_eq_false_iff_not]; omega
    have s1 : decide (300 < e.size) = true := by simp only [decide_eq_true_eq, decide_eq_false_iff_not]; omega
    have t1 : decide (300 < (e.size : Int)) = true := by simp only [decide_eq_true_eq, decide_eq_false_iff_not]; omega
    clear h1 h2
    have B0 := Lib.hid (show inB 3 1 4 = true by decide)
    go_enter Tryz.func7, Tryz.ntmps7
    go_wp2_with fail
    refine (within_is B0 _).mono ?_
    rintro r w0 ⟨rfl, rfl⟩
    go_wp2_with fail
    refine (ridright_any a b _).mono ?_
    rintro r w1 ⟨rfl, hb1⟩
    rw [hid.out]
    obtain ⟨c0, c1, c2, c3, c4, c5⟩ := hW.below hb1
    have hbl : Below w.heap.size w w1 := (below1 w _).trans (hb1.mono (by simp))
    go_wp2
    go_ret
    exact ⟨by rw [hr.out]; rfl, hbl⟩
   ·have hz := str_empty' e
    have s0 : decide (40 < d.size) = false := by simp only [decide_eq_true_eq, decide_eq_false_iff_not]; omega
    have t0 : decide (40 < (d.size : Int)) = false := by simp only [decide_eq_true_eq, decide_eq_false_iff_not]; omega
    have s1 : decide (300 < e.size) = false := by simp only [decide_eq_true_eq, decide_eq_false_iff_not]; omega
    have t1 : decide (300 < (e.size : Int)) = false := by simp only [decide_eq_true_eq, decide_eq_false_iff_not]; omega
    have HZ := Lib.hid hz
    clear hz
    by_cases h3 : e.size = 0
    ·by_cases h4 : f = 0
     ·skip
      have hr := Lib.hid (show wrightC 3 true d.size e.size f = 0 by unfold wrightC; rw [if_neg (by omega), if_neg (by simp), if_neg (by omega), if_neg (by omega), if_neg (by omega)])
      have q0 : e.toList.isEmpty = true := by rw [HZ.out]; simp only [decide_eq_true_eq, decide_eq_false_iff_not]; omega
      have q1 : (f != 0) = false := by simp only [bne_iff_ne, bne_eq_false_iff_eq, ne_eq]; omega
      have q2 := Lib.hid (show inB f (-1125899906842624) 1125899906842624 = true by unfold inB; rw [decide_eq_true]; omega)
      clear h1 h2 h3 h4
      have B0 := Lib.hid (show inB 3 1 4 = true by decide)
      go_enter Tryz.func7, Tryz.ntmps7
      go_wp2_with fail
      refine (within_is B0 _).mono ?_
      rintro r w0 ⟨rfl, rfl⟩
      go_wp2_with fail
      refine (ridright_any a b _).mono ?_
      rintro r w1 ⟨rfl, hb1⟩
      rw [hid.out]
      obtain ⟨c0, c1, c2, c3, c4, c5⟩ := hW.below hb1
      have hbl : Below w.heap.size w w1 := (below1 w _).trans (hb1.mono (by simp))
      go_wp2_with fail
      refine (within_is q2 _).mono ?_
      rintro r w0 ⟨rfl, rfl⟩
      go_wp2
      go_ret
      exact ⟨by rw [hr.out]; rfl, hbl⟩
     ·by_cases h5 : (-1125899906842624 ≤ f ∧ f ≤ 1125899906842624)
      ·skip
       have hr := Lib.hid (show wrightC 3 true d.size e.size f = 0 by unfold wrightC; rw [if_neg (by omega), if_neg (by simp), if_neg (by omega), if_neg (by omega), if_neg (by omega)])
       have q0 : e.toList.isEmpty = true := by rw [HZ.out]; simp only [decide_eq_true_eq, decide_eq_false_iff_not]; omega
       have q1 : (f != 0) = true := by simp only [bne_iff_ne, bne_eq_false_iff_eq, ne_eq]; omega
       have q2 := Lib.hid (show inB f (-1125899906842624) 1125899906842624 = true by unfold inB; rw [decide_eq_true]; omega)
       clear h1 h2 h3 h4 h5
       have B0 := Lib.hid (show inB 3 1 4 = true by decide)
       go_enter Tryz.func7, Tryz.ntmps7
       go_wp2_with fail
       refine (within_is B0 _).mono ?_
       rintro r w0 ⟨rfl, rfl⟩
       go_wp2_with fail
       refine (ridright_any a b _).mono ?_
       rintro r w1 ⟨rfl, hb1⟩
       rw [hid.out]
       obtain ⟨c0, c1, c2, c3, c4, c5⟩ := hW.below hb1
       have hbl : Below w.heap.size w w1 := (below1 w _).trans (hb1.mono (by simp))
       go_wp2_with fail
       refine (within_is q2 _).mono ?_
       rintro r w0 ⟨rfl, rfl⟩
       go_wp2
       go_ret
       exact ⟨by rw [hr.out]; rfl, hbl⟩
      ·skip
       have hr := Lib.hid (show wrightC 3 true d.size e.size f = 2 by unfold wrightC; rw [if_neg (by omega), if_neg (by simp), if_neg (by omega), if_neg (by omega), if_pos (by omega)])
       have q0 : e.toList.isEmpty = true := by rw [HZ.out]; simp only [decide_eq_true_eq, decide_eq_false_iff_not]; omega
       have q1 : (f != 0) = true := by simp only [bne_iff_ne, bne_eq_false_iff_eq, ne_eq]; omega
       have q2 := Lib.hid (show inB f (-1125899906842624) 1125899906842624 = false by unfold inB; rw [decide_eq_false]; omega)
       clear h1 h2 h3 h4 h5
       have B0 := Lib.hid (show inB 3 1 4 = true by decide)
       go_enter Tryz.func7, Tryz.ntmps7
       go_wp2_with fail
       refine (within_is B0 _).mono ?_
       rintro r w0 ⟨rfl, rfl⟩
       go_wp2_with fail
       refine (ridright_any a b _).mono ?_
       rintro r w1 ⟨rfl, hb1⟩
       rw [hid.out]
       obtain ⟨c0, c1, c2, c3, c4, c5⟩ := hW.below hb1
       have hbl : Below w.heap.size w w1 := (below1 w _).trans (hb1.mono (by simp))
       go_wp2_with fail
       refine (within_is q2 _).mono ?_
       rintro r w0 ⟨rfl, rfl⟩
       go_wp2
       go_ret
       exact ⟨by rw [hr.out]; rfl, hbl⟩
    ·skip
     have hr := Lib.hid (show wrightC 3 true d.size e.size f = 3 by unfold wrightC; rw [if_neg (by omega), if_neg (by simp), if_neg (by omega), if_pos (by omega)])
     have q0 : e.toList.isEmpty = false := by rw [HZ.out]; simp only [decide_eq_true_eq, decide_eq_false_iff_not]; omega
     clear h1 h2 h3
     have B0 := Lib.hid (show inB 3 1 4 = true by decide)
     go_enter Tryz.func7, Tryz.ntmps7
     go_wp2_with fail
     refine (within_is B0 _).mono ?_
     rintro r w0 ⟨rfl, rfl⟩
     go_wp2_with fail
     refine (ridright_any a b _).mono ?_
     rintro r w1 ⟨rfl, hb1⟩
     rw [hid.out]
     obtain ⟨c0, c1, c2, c3, c4, c5⟩ := hW.below hb1
     have hbl : Below w.heap.size w w1 := (below1 w _).trans (hb1.mono (by simp))
     go_wp2_with fail
     refine (itoa3 _).mono ?_
     rintro r w0 ⟨rfl, rfl⟩
     go_wp2_with fail
     refine (has3 _).mono ?_
     rintro r w0 ⟨rfl, rfl⟩
     go_wp2
     go_ret
     exact ⟨by rw [hr.out]; rfl, hbl⟩
set_option maxHeartbeats 2000000 in
set_option maxRecDepth 100000 in
theorem rwright4 (a b f : Int) (d e : ByteArray) (w : World) : Calls Tryz.prog 7 #[wrV a b (4) d e f] w fun r w' => r = .returned (.int .i64 (wright (a, b, 4, d, e, f))) ∧ Below w.heap.size w w' := by
 rw [wright_is]
 have hW := WrAt.new w a b (4) d e f
 cases hidv : idRight (a, b) with
 | false =>
  have hid := Lib.hid hidv
  clear hidv
  have hr := Lib.hid (show wrightC 4 false d.size e.size f = 2 by unfold wrightC; rw [if_neg (by omega), if_pos rfl])
  have B0 := Lib.hid (show inB 4 1 4 = true by decide)
  go_enter Tryz.func7, Tryz.ntmps7
  go_wp2_with fail
  refine (within_is B0 _).mono ?_
  rintro r w0 ⟨rfl, rfl⟩
  go_wp2_with fail
  refine (ridright_any a b _).mono ?_
  rintro r w1 ⟨rfl, hb1⟩
  rw [hid.out]
  obtain ⟨c0, c1, c2, c3, c4, c5⟩ := hW.below hb1
  have hbl : Below w.heap.size w w1 := (below1 w _).trans (hb1.mono (by simp))
  go_wp2
  go_ret
  exact ⟨by rw [hr.out]; rfl, hbl⟩
 | true =>
  have hid := Lib.hid hidv
  clear hidv
  by_cases h1 : 40 < d.size
  ·have hr := Lib.hid (show wrightC 4 true d.size e.size f = 4 by unfold wrightC; rw [if_neg (by omega), if_neg (by simp), if_pos (by omega)])
   have s0 : decide (40 < d.size) = true := by simp only [decide_eq_true_eq, decide_eq_false_iff_not]; omega
   have t0 : decide (40 < (d.size : Int)) = true := by simp only [decide_eq_true_eq, decide_eq_false_iff_not]; omega
   clear h1
   have B0 := Lib.hid (show inB 4 1 4 = true by decide)
   go_enter Tryz.func7, Tryz.ntmps7
   go_wp2_with fail
   refine (within_is B0 _).mono ?_
   rintro r w0 ⟨rfl, rfl⟩
   go_wp2_with fail
   refine (ridright_any a b _).mono ?_
   rintro r w1 ⟨rfl, hb1⟩
   rw [hid.out]
   obtain ⟨c0, c1, c2, c3, c4, c5⟩ := hW.below hb1
   have hbl : Below w.heap.size w w1 := (below1 w _).trans (hb1.mono (by simp))
   go_wp2
   go_ret
   exact ⟨by rw [hr.out]; rfl, hbl⟩
  ·by_cases h2 : 300 < e.size
   ·have hr := Lib.hid (show wrightC 4 true d.size e.size f = 4 by unfold wrightC; rw [if_neg (by omega), if_neg (by simp), if_pos (by omega)])
    have s0 : decide (40 < d.size) = false := by simp only [decide_eq_true_eq, decide_eq_false_iff_not]; omega
    have t0 : decide (40 < (d.size : Int)) = false := by simp only [decide_eq_true_eq, decide_eq_false_iff_not]; omega
    have s1 : decide (300 < e.size) = true := by simp only [decide_eq_true_eq, decide_eq_false_iff_not]; omega
    have t1 : decide (300 < (e.size : Int)) = true := by simp only [decide_eq_true_eq, decide_eq_false_iff_not]; omega
    clear h1 h2
    have B0 := Lib.hid (show inB 4 1 4 = true by decide)
    go_enter Tryz.func7, Tryz.ntmps7
    go_wp2_with fail
    refine (within_is B0 _).mono ?_
    rintro r w0 ⟨rfl, rfl⟩
    go_wp2_with fail
    refine (ridright_any a b _).mono ?_
    rintro r w1 ⟨rfl, hb1⟩
    rw [hid.out]
    obtain ⟨c0, c1, c2, c3, c4, c5⟩ := hW.below hb1
    have hbl : Below w.heap.size w w1 := (below1 w _).trans (hb1.mono (by simp))
    go_wp2
    go_ret
    exact ⟨by rw [hr.out]; rfl, hbl⟩
   ·have hz := str_empty' e
    have s0 : decide (40 < d.size) = false := by simp only [decide_eq_true_eq, decide_eq_false_iff_not]; omega
    have t0 : decide (40 < (d.size : Int)) = false := by simp only [decide_eq_true_eq, decide_eq_false_iff_not]; omega
    have s1 : decide (300 < e.size) = false := by simp only [decide_eq_true_eq, decide_eq_false_iff_not]; omega
    have t1 : decide (300 < (e.size : Int)) = false := by simp only [decide_eq_true_eq, decide_eq_false_iff_not]; omega
    have HZ := Lib.hid hz
    clear hz
    by_cases h3 : e.size = 0
    ·by_cases h4 : f = 0
     ·skip
      have hr := Lib.hid (show wrightC 4 true d.size e.size f = 0 by unfold wrightC; rw [if_neg (by omega), if_neg (by simp), if_neg (by omega), if_neg (by omega), if_neg (by omega)])
      have q0 : e.toList.isEmpty = true := by rw [HZ.out]; simp only [decide_eq_true_eq, decide_eq_false_iff_not]; omega
      have q1 : (f != 0) = false := by simp only [bne_iff_ne, bne_eq_false_iff_eq, ne_eq]; omega
      have q2 := Lib.hid (show inB f (0) 1000 = true by unfold inB; rw [decide_eq_true]; omega)
      clear h1 h2 h3 h4
      have B0 := Lib.hid (show inB 4 1 4 = true by decide)
      go_enter Tryz.func7, Tryz.ntmps7
      go_wp2_with fail
      refine (within_is B0 _).mono ?_
      rintro r w0 ⟨rfl, rfl⟩
      go_wp2_with fail
      refine (ridright_any a b _).mono ?_
      rintro r w1 ⟨rfl, hb1⟩
      rw [hid.out]
      obtain ⟨c0, c1, c2, c3, c4, c5⟩ := hW.below hb1
      have hbl : Below w.heap.size w w1 := (below1 w _).trans (hb1.mono (by simp))
      go_wp2_with fail
      refine (within_is q2 _).mono ?_
      rintro r w0 ⟨rfl, rfl⟩
      go_wp2
      go_ret
      exact ⟨by rw [hr.out]; rfl, hbl⟩
     ·by_cases h5 : (0 ≤ f ∧ f ≤ 1000)
      ·skip
       have hr := Lib.hid (show wrightC 4 true d.size e.size f = 0 by unfold wrightC; rw [if_neg (by omega), if_neg (by simp), if_neg (by omega), if_neg (by omega), if_neg (by omega)])
       have q0 : e.toList.isEmpty = true := by rw [HZ.out]; simp only [decide_eq_true_eq, decide_eq_false_iff_not]; omega
       have q1 : (f != 0) = true := by simp only [bne_iff_ne, bne_eq_false_iff_eq, ne_eq]; omega
       have q2 := Lib.hid (show inB f (0) 1000 = true by unfold inB; rw [decide_eq_true]; omega)
       clear h1 h2 h3 h4 h5
       have B0 := Lib.hid (show inB 4 1 4 = true by decide)
       go_enter Tryz.func7, Tryz.ntmps7
       go_wp2_with fail
       refine (within_is B0 _).mono ?_
       rintro r w0 ⟨rfl, rfl⟩
       go_wp2_with fail
       refine (ridright_any a b _).mono ?_
       rintro r w1 ⟨rfl, hb1⟩
       rw [hid.out]
       obtain ⟨c0, c1, c2, c3, c4, c5⟩ := hW.below hb1
       have hbl : Below w.heap.size w w1 := (below1 w _).trans (hb1.mono (by simp))
       go_wp2_with fail
       refine (within_is q2 _).mono ?_
       rintro r w0 ⟨rfl, rfl⟩
       go_wp2
       go_ret
       exact ⟨by rw [hr.out]; rfl, hbl⟩
      ·skip
       have hr := Lib.hid (show wrightC 4 true d.size e.size f = 2 by unfold wrightC; rw [if_neg (by omega), if_neg (by simp), if_neg (by omega), if_neg (by omega), if_pos (by omega)])
       have q0 : e.toList.isEmpty = true := by rw [HZ.out]; simp only [decide_eq_true_eq, decide_eq_false_iff_not]; omega
       have q1 : (f != 0) = true := by simp only [bne_iff_ne, bne_eq_false_iff_eq, ne_eq]; omega
       have q2 := Lib.hid (show inB f (0) 1000 = false by unfold inB; rw [decide_eq_false]; omega)
       clear h1 h2 h3 h4 h5
       have B0 := Lib.hid (show inB 4 1 4 = true by decide)
       go_enter Tryz.func7, Tryz.ntmps7
       go_wp2_with fail
       refine (within_is B0 _).mono ?_
       rintro r w0 ⟨rfl, rfl⟩
       go_wp2_with fail
       refine (ridright_any a b _).mono ?_
       rintro r w1 ⟨rfl, hb1⟩
       rw [hid.out]
       obtain ⟨c0, c1, c2, c3, c4, c5⟩ := hW.below hb1
       have hbl : Below w.heap.size w w1 := (below1 w _).trans (hb1.mono (by simp))
       go_wp2_with fail
       refine (within_is q2 _).mono ?_
       rintro r w0 ⟨rfl, rfl⟩
       go_wp2
       go_ret
       exact ⟨by rw [hr.out]; rfl, hbl⟩
    ·by_cases h4 : f = 0
     ·skip
      have hr := Lib.hid (show wrightC 4 true d.size e.size f = 0 by unfold wrightC; rw [if_neg (by omega), if_neg (by simp), if_neg (by omega), if_neg (by omega), if_neg (by omega)])
      have q0 : e.toList.isEmpty = false := by rw [HZ.out]; simp only [decide_eq_true_eq, decide_eq_false_iff_not]; omega
      have q1 : (f != 0) = false := by simp only [bne_iff_ne, bne_eq_false_iff_eq, ne_eq]; omega
      have q2 := Lib.hid (show inB f (0) 1000 = true by unfold inB; rw [decide_eq_true]; omega)
      clear h1 h2 h3 h4
      have B0 := Lib.hid (show inB 4 1 4 = true by decide)
      go_enter Tryz.func7, Tryz.ntmps7
      go_wp2_with fail
      refine (within_is B0 _).mono ?_
      rintro r w0 ⟨rfl, rfl⟩
      go_wp2_with fail
      refine (ridright_any a b _).mono ?_
      rintro r w1 ⟨rfl, hb1⟩
      rw [hid.out]
      obtain ⟨c0, c1, c2, c3, c4, c5⟩ := hW.below hb1
      have hbl : Below w.heap.size w w1 := (below1 w _).trans (hb1.mono (by simp))
      go_wp2_with fail
      refine (itoa4 _).mono ?_
      rintro r w0 ⟨rfl, rfl⟩
      go_wp2_with fail
      refine (has4 _).mono ?_
      rintro r w0 ⟨rfl, rfl⟩
      go_wp2_with fail
      refine (within_is q2 _).mono ?_
      rintro r w0 ⟨rfl, rfl⟩
      go_wp2
      go_ret
      exact ⟨by rw [hr.out]; rfl, hbl⟩
     ·by_cases h5 : (0 ≤ f ∧ f ≤ 1000)
      ·skip
       have hr := Lib.hid (show wrightC 4 true d.size e.size f = 0 by unfold wrightC; rw [if_neg (by omega), if_neg (by simp), if_neg (by omega), if_neg (by omega), if_neg (by omega)])
       have q0 : e.toList.isEmpty = false := by rw [HZ.out]; simp only [decide_eq_true_eq, decide_eq_false_iff_not]; omega
       have q1 : (f != 0) = true := by simp only [bne_iff_ne, bne_eq_false_iff_eq, ne_eq]; omega
       have q2 := Lib.hid (show inB f (0) 1000 = true by unfold inB; rw [decide_eq_true]; omega)
       clear h1 h2 h3 h4 h5
       have B0 := Lib.hid (show inB 4 1 4 = true by decide)
       go_enter Tryz.func7, Tryz.ntmps7
       go_wp2_with fail
       refine (within_is B0 _).mono ?_
       rintro r w0 ⟨rfl, rfl⟩
       go_wp2_with fail
       refine (ridright_any a b _).mono ?_
       rintro r w1 ⟨rfl, hb1⟩
       rw [hid.out]
       obtain ⟨c0, c1, c2, c3, c4, c5⟩ := hW.below hb1
       have hbl : Below w.heap.size w w1 := (below1 w _).trans (hb1.mono (by simp))
       go_wp2_with fail
       refine (itoa4 _).mono ?_
       rintro r w0 ⟨rfl, rfl⟩
       go_wp2_with fail
       refine (has4 _).mono ?_
       rintro r w0 ⟨rfl, rfl⟩
       go_wp2_with fail
       refine (within_is q2 _).mono ?_
       rintro r w0 ⟨rfl, rfl⟩
       go_wp2
       go_ret
       exact ⟨by rw [hr.out]; rfl, hbl⟩
      ·skip
       have hr := Lib.hid (show wrightC 4 true d.size e.size f = 2 by unfold wrightC; rw [if_neg (by omega), if_neg (by simp), if_neg (by omega), if_neg (by omega), if_pos (by omega)])
       have q0 : e.toList.isEmpty = false := by rw [HZ.out]; simp only [decide_eq_true_eq, decide_eq_false_iff_not]; omega
       have q1 : (f != 0) = true := by simp only [bne_iff_ne, bne_eq_false_iff_eq, ne_eq]; omega
       have q2 := Lib.hid (show inB f (0) 1000 = false by unfold inB; rw [decide_eq_false]; omega)
       clear h1 h2 h3 h4 h5
       have B0 := Lib.hid (show inB 4 1 4 = true by decide)
       go_enter Tryz.func7, Tryz.ntmps7
       go_wp2_with fail
       refine (within_is B0 _).mono ?_
       rintro r w0 ⟨rfl, rfl⟩
       go_wp2_with fail
       refine (ridright_any a b _).mono ?_
       rintro r w1 ⟨rfl, hb1⟩
       rw [hid.out]
       obtain ⟨c0, c1, c2, c3, c4, c5⟩ := hW.below hb1
       have hbl : Below w.heap.size w w1 := (below1 w _).trans (hb1.mono (by simp))
       go_wp2_with fail
       refine (itoa4 _).mono ?_
       rintro r w0 ⟨rfl, rfl⟩
       go_wp2_with fail
       refine (has4 _).mono ?_
       rintro r w0 ⟨rfl, rfl⟩
       go_wp2_with fail
       refine (within_is q2 _).mono ?_
       rintro r w0 ⟨rfl, rfl⟩
       go_wp2
       go_ret
       exact ⟨by rw [hr.out]; rfl, hbl⟩
set_option maxHeartbeats 2000000 in
set_option maxRecDepth 100000 in
theorem rwright0 (a b c f : Int) (d e : ByteArray) (w : World) (hc : c < 1 ∨ 4 < c) : Calls Tryz.prog 7 #[wrV a b (c) d e f] w fun r w' => r = .returned (.int .i64 (wright (a, b, c, d, e, f))) ∧ Below w.heap.size w w' := by
 rw [wright_is]
 have hW := WrAt.new w a b (c) d e f
 have hr := Lib.hid (show wrightC c (idRight (a, b)) d.size e.size f = 1 by unfold wrightC; rw [if_pos hc])
 have B0 := Lib.hid (show inB c 1 4 = false by unfold inB; rw [decide_eq_false]; omega)
 clear hc
 go_enter Tryz.func7, Tryz.ntmps7
 go_wp2_with fail
 refine (within_is B0 _).mono ?_
 rintro r w0 ⟨rfl, rfl⟩
 go_wp2
 go_ret
 exact ⟨by rw [hr.out]; rfl, below1 w _⟩
theorem rwright_any (x : Wr) (w : World) : Calls Tryz.prog 7 #[wrV x.1 x.2.1 x.2.2.1 x.2.2.2.1 x.2.2.2.2.1 x.2.2.2.2.2] w fun r w' => r = .returned (.int .i64 (wright x)) ∧ Below w.heap.size w w' := by
 obtain ⟨a, b, c, d, e, f⟩ := x
 by_cases h : c < 1 ∨ 4 < c
 ·exact rwright0 a b c f d e w h
 ·rcases (by omega : c = 1 ∨ c = 2 ∨ c = 3 ∨ c = 4) with rfl | rfl | rfl | rfl
  ·exact rwright1 a b f d e w
  ·exact rwright2 a b f d e w
  ·exact rwright3 a b f d e w
  ·exact rwright4 a b f d e w
end Go.Proofs.YtlpkpfpmcppciaaGreatDoor
end

section
namespace Go.Proofs.YtlpkpfpmcppciaaGreatDoor
open Go.RowKit
theorem below1' (w : World) (o : Obj) : Below w.heap.size w (w.alloc o) := (Below.refl _ _).alloc (Nat.le_refl _) o
def bigStep (z : Int) (x : Wr) : Int := wrap64 (z + wrap64 ((wrap64 ((x.2.2.2.1.size : Int) + (x.2.2.2.2.1.size : Int))).tdiv 8))
def bigN (z : Int) (l : List Wr) : Int := l.foldl bigStep z
theorem bigN_take (z : Int) (k : Nat) (l : List Wr) (x : Wr) (h : l[k]? = some x) : bigN z (l.take (k + 1)) = bigStep (bigN z (l.take k)) x := by
 have hk : k < l.length := (List.getElem?_eq_some_iff.1 h).1
 rw [List.take_succ_eq_append_getElem hk]
 rw [List.getElem?_eq_getElem hk] at h
 injection h with h
 simp only [bigN, List.foldl_append, List.foldl_cons, List.foldl_nil, h]
theorem bigN_0 (z : Int) (l : List Wr) : bigN z (l.take 0) = z := by simp only [bigN, List.take_zero, List.foldl_nil]
theorem bigStep_eq (z : Int) (x : Wr) : bigStep z x = wrap64 (z + wrap64 ((wrap64 ((x.2.2.2.1.size : Int) + (x.2.2.2.2.1.size : Int))).tdiv 8)) := by simp only [bigStep]
def bigZ (n n' n'' : Nat) : Int := wrap64 (wrap64 ((n : Int) + (n' : Int)) + (n'' : Int))
theorem bigZ_eq (n n' n'' : Nat) : wrap64 (wrap64 ((n : Int) + (n' : Int)) + (n'' : Int)) = bigZ n n' n'' := by simp only [bigZ]
def bigB (n n' n'' : Nat) (l : List Wr) : Bool := decide (300 < bigN (bigZ n n' n'') l)
theorem big_any (A A' A'' : Option Addr) (n n' n'' c c' c'' : Nat) (l : List Wr) (w : World) (h : Sl w w.heap.size 6 A'' n'' (l.flatMap wrCells)) (hn'' : n'' ≤ maxLen) :
  Calls Tryz.prog 5 #[.agg #[.slice A n c, .slice A' n' c', .slice A'' n'' c'']] w fun e w' => e = .returned (.bool (bigB n n' n'' l)) ∧ Below w.heap.size w w' := by
 unfold maxLen at hn''
 have hl := Lib.hid (slk_len wrCells 6 (by omega) (fun _ => rfl) h)
 have hz := bigZ_eq n n' n''
 have hB : Hid (bigB n n' n'' l = decide (300 < bigN (bigZ n n' n'') l)) := Lib.hid (by simp only [bigB])
 generalize bigZ n n' n'' = z0 at *
 generalize bigB n n' n'' l = bb at *
 go_enter Tryz.func5, Tryz.ntmps5
 go_wp2
 go_loopw [3, 5, 20] (fun v _ i wr => (∃ k : Nat, k ≤ n'' ∧ i = .int .i64 k ∧ v = .int .i64 (bigN z0 (l.take k))) ∧ Below w.heap.size w wr) (fun _ _ i _ => n'' - (intOf i).toNat)
 case atStart => exact ⟨⟨0, by omega, rfl, valI (hz.trans (bigN_0 _ _).symm)⟩, below1' _ _⟩
 case round =>
  obtain ⟨⟨k, hk, rfl, rfl⟩, hbel⟩ := hrel
  clear hz
  by_cases hlt : k < n''
  ·obtain ⟨b, o, x, rfl, hb, hx, hc⟩ := slk_at wrCells 6 (fun _ => rfl) h hl.out hlt
   obtain ⟨a1, a2, a3, a4, a5, a6⟩ := x
   have c0 := (hbel.cell (p := ⟨b, _, none⟩) hb).trans (hc 0 _ rfl)
   have c1 := (hbel.cell (p := ⟨b, _, none⟩) hb).trans (hc 1 _ rfl)
   have c2 := (hbel.cell (p := ⟨b, _, none⟩) hb).trans (hc 2 _ rfl)
   have c3 := (hbel.cell (p := ⟨b, _, none⟩) hb).trans (hc 3 _ rfl)
   have c4 := (hbel.cell (p := ⟨b, _, none⟩) hb).trans (hc 4 _ rfl)
   have c5 := (hbel.cell (p := ⟨b, _, none⟩) hb).trans (hc 5 _ rfl)
   simp only [Nat.add_zero] at c0
   have hsz := hbel.size
   have hst := Lib.hid (bigN_take z0 k l _ hx)
   clear hc h hx
   go_wp2_with fail
   go_roundw
   case rel => exact ⟨⟨k + 1, by omega, by go_num, by rw [hst.out, bigStep_eq]⟩, hbel.alloc hsz _⟩
   case measure => simp [intOf]; omega
  ·obtain rfl : k = n'' := by omega
   have htk : l.take k = l := List.take_of_length_le (by rw [hl.out]; exact Nat.le_refl _)
   rw [htk]
   go_wp2_with fail
   go_ret
   exact ⟨by rw [hB.out]; rfl, hbel⟩
end Go.Proofs.YtlpkpfpmcppciaaGreatDoor
end

section
namespace Go.Proofs.YtlpkpfpmcppciaaGreatDoor
open Go.ChangeShapes Go.WideShapes Go.ChangeAt Go.RowKit
/-- The reach: 2^47 - 4096 bytes. -/
def Small {H : Type} (P : Program) (t : TypeId) (d : DataW H) : Prop := ∀ n ∈ d.weights P t, n ≤ 140737488351232
theorem small_each {H : Type} {P : Program} {ts : List TypeId} {ds : List (DataW H)} (h : (DataW.weightsEach P ts ds).all (· ≤ reachBytes) = true) {j : Nat} {t : TypeId} {d : DataW H} (ht : ts[j]? = some t) (hd : ds[j]? = some d) : Small P t d := by
 intro n hn
 have := List.all_eq_true.1 h _ (DataW.weights_mem_each ht hd n hn)
 have := of_decide_eq_true this
 unfold reachBytes at this
 omega
section
variable {H : Type} {enc : TypeId × Value → H} {P : Program} {w : World} {base : Nat} {spare : Nat → Bool} {held : Bool}
theorem weightsAll_mem {e : TypeId} : ∀ {l : List (DataW H)} {d : DataW H}, d ∈ l → ∀ n ∈ d.weights P e, n ∈ DataW.weightsAll P e l
 | x :: l, d, h, n, hn => by
  simp only [DataW.weightsAll, List.mem_append]
  rcases List.mem_cons.1 h with rfl | h
  ·exact .inl hn
  ·exact .inr (weightsAll_mem h n hn)
theorem small_elem {t e : TypeId} {elems sp : List (DataW H)} {d : DataW H} (ht : P.underlying t = some (.slice e)) (h : Small P t (.slice elems sp)) (hd : d ∈ elems ∨ d ∈ sp) : Small P e d := by
 intro n hn
 apply h
 simp only [DataW.weights, ht, List.mem_cons, List.mem_append]
 rcases hd with hd | hd
 ·exact .inr (.inl (weightsAll_mem hd n hn))
 ·exact .inr (.inr (weightsAll_mem hd n hn))
theorem small_len {t e : TypeId} {elems sp : List (DataW H)} (ht : P.underlying t = some (.slice e)) (h : Small P t (.slice elems sp)) : elems.length * P.bytesOf e ≤ 140737488351232 := by
 have := h ((elems.length + sp.length) * P.bytesOf e) (by simp only [DataW.weights, ht, List.mem_cons, true_or])
 refine Nat.le_trans (Nat.mul_le_mul_right _ (by omega)) this
theorem open_cells_r {α : Type} (f : α → List Value) (k : Nat) (hk0 : 0 < k) (hf : ∀ x, (f x).length = k) (ok : α → Prop) {t e fuel : Nat} {cs : List Value} {y : DataW H × List MemPlace} (by_ : Nat)
  (ht : P.underlying t = some (.slice e)) (hk : P.cellsOf e = k) (hby : P.bytesOf e = by_) (hsm : Small P t y.1)
  (helem : ∀ (cs : List Value) (m : Nat) (y : DataW H × List MemPlace), DataW.trod enc P w base spare held m e cs = some y → Small P e y.1 → ∃ x, cs = f x ∧ ok x)
  (hfu : DataW.trod enc P w base spare held fuel t cs = some y) :
  ∃ (A : Option Addr) (n c : Nat) (l : List α), cs = [.slice A n c] ∧ n * by_ ≤ 140737488351232 ∧ l.length = n ∧ Sl w w.heap.size k A n (l.flatMap f) ∧ ∀ x ∈ l, ok x := by
 rcases Go.Deep.open_slice ht hfu with ⟨hcs, _⟩ | ⟨a, n, c, m, n', D, Pl, hcs, _, hl, hm, hmm, hy, hi⟩
 ·exact ⟨none, 0, 0, [], hcs, by simp, rfl, Sl.nil, fun x hx => by simp at hx⟩
 ·have hlm : n ≤ m := by rw [hmm]; split <;> omega
  subst hy
  have hb := small_len ht hsm
  rw [List.length_map, List.length_range, hby] at hb
  obtain ⟨l, hll, hP⟩ := exists_list n (fun i x => (∀ j, j < k → w.cell? (a.add (i * k + j)) = (f x)[j]?) ∧ ok x) (fun i him => by
   obtain ⟨cs', hc, ht'⟩ := hi i (by omega)
   obtain ⟨x, rfl, hx⟩ := helem cs' n' _ ht' (small_elem ht hsm (.inl (List.mem_map.2 ⟨i, List.mem_range.2 him, rfl⟩)))
   obtain ⟨_, hcl, hat⟩ := World.cells?_some hc
   rw [hk] at hat
   exact ⟨x, fun j hj => by rw [← Go.Deep.add_add]; exact hat j hj, hx⟩)
  refine ⟨some a, n, c, l, hcs, hb, hll, ⟨by rw [flat_len f k hf, hll], fun hn => ?_⟩, fun x hx => ?_⟩
  ·have h0 := (hP 0 _ (List.getElem?_eq_getElem (by omega : 0 < l.length))).1 0 hk0
   rw [List.getElem?_eq_getElem (by rw [hf]; exact hk0)] at h0
   have hspot := World.cell?_spot h0
   obtain ⟨b, o, sp⟩ := a
   have hsp : sp = none := by simpa [Addr.add] using hspot
   subst hsp
   have hadd : ∀ j, (⟨b, o, none⟩ : Addr).add j = ⟨b, o + j, none⟩ := fun j => by unfold Addr.add; split <;> simp_all
   refine ⟨b, o, rfl, ?_, fun j u hu => ?_⟩
   ·have := cell_lt h0
    rw [hadd] at this
    exact this
   ·obtain ⟨i, j', x, rfl, hj', hx, hu'⟩ := flat_at f k hf l j u hu
    have := (hP i x hx).1 j' hj'
    rw [hadd] at this
    rw [this, hu']
  ·obtain ⟨i, hi', rfl⟩ := List.mem_iff_getElem.1 hx
   exact (hP i _ (List.getElem?_eq_getElem hi')).2
theorem open_elems_r {α : Type} (f : α → List Value) (k : Nat) (hk0 : 0 < k) (hf : ∀ x, (f x).length = k) (ok : α → Prop) {r : Reach} {b0 : Nat} {t e : TypeId} {v : Value} {d : DataW H} {p : List MemPlace} (by_ : Nat)
  (ht : P.underlying t = some (.slice e)) (hk : P.cellsOf e = k) (hby : P.bytesOf e = by_) (hsm : Small P t d)
  (helem : ∀ (cs : List Value) (m : Nat) (y : DataW H × List MemPlace), DataW.trod enc P w base spare held m e cs = some y → Small P e y.1 → ∃ x, cs = f x ∧ ok x)
  (hv : Value.okWide P w r b0 t v) (h : DataW.Trod enc P w base spare held t v d p) :
  ∃ (A : Option Addr) (n c : Nat) (l : List α), v = .slice A n c ∧ n * by_ ≤ 140737488351232 ∧ l.length = n ∧ Sl w w.heap.size k A n (l.flatMap f) ∧ ∀ x ∈ l, ok x := by
 obtain ⟨A, n, c, rfl⟩ := okWide_slice ht hv
 obtain ⟨fuel, hfu⟩ := h
 obtain ⟨A', n', c', l, hcs, r⟩ := open_cells_r f k hk0 hf ok by_ ht hk hby hsm helem hfu
 simp [Value.cells] at hcs
 obtain ⟨rfl, rfl, rfl⟩ := hcs
 exact ⟨A, n, c, l, rfl, r⟩
/-- What a struct's reading says of all its fields, with the reach. -/
def FieldedR (P : Program) (w : World) (base : Nat) (spare : Nat → Bool) (held : Bool) (enc : TypeId × Value → H) (fs : Array Field) (cs : List Value) : Prop :=
 ∃ m, ∀ (i : Nat) (f : Field), fs[i]? = some f → ∃ y, DataW.trod enc P w base spare held m f.type ((cs.drop f.offset).take (P.cellsOf f.type)) = some y ∧ Small P f.type y.1
theorem FieldedR.all {fs : Array Field} {cs : List Value} (h : FieldedR P w base spare held enc fs cs) : Fielded P w base spare held enc fs cs := by
 obtain ⟨m, hg⟩ := h
 exact ⟨m, fun i f hf => by obtain ⟨y, hy, _⟩ := hg i f hf; exact ⟨y, hy⟩⟩
end
end Go.Proofs.YtlpkpfpmcppciaaGreatDoor
end

section
namespace Go.Proofs.YtlpkpfpmcppciaaGreatDoor
set_option maxRecDepth 100000
open Go.ChangeShapes Go.WideShapes Go.ChangeAt Go.RowKit
structure WrsArg where
 A : Option Addr
 n : Nat
 c : Nat
 l : List Wr
section
variable {H : Type} {enc : TypeId × Value → H} {w : World} {base : Nat} {spare : Nat → Bool} {held : Bool}
theorem bytesWr : Tryz.prog.bytesOf 32 = 64 := by kernel_rfl
theorem open_wrs_r {r : Reach} {b0 : Nat} {v : Value} {d : DataW H} {p : List MemPlace} (hv : Value.okWide Tryz.prog w r b0 22 v) (h : DataW.Trod enc Tryz.prog w base spare held 22 v d p) (hs : Small Tryz.prog 22 d) :
  ∃ a : WrsArg, v = .slice a.A a.n a.c ∧ (Sl w w.heap.size 6 a.A a.n (a.l.flatMap wrCells) ∧ (∀ x ∈ a.l, wrFits x) ∧ a.n * 64 ≤ 140737488351232) := by
 obtain ⟨A, n, c, l, rfl, hn, hl, hsl, ho⟩ := open_elems_r wrCells 6 (by omega) (fun _ => rfl) wrFits 64 Tryz.underlying22 cellsWr bytesWr hs (fun cs m y hy _ => open_wr cs m y hy) hv h
 exact ⟨⟨A, n, c, l⟩, rfl, hsl, ho, hn⟩
end
end Go.Proofs.YtlpkpfpmcppciaaGreatDoor
end
