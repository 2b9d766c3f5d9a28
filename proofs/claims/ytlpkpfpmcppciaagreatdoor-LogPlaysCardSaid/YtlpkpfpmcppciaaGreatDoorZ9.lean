/- WriteRight of the reference says what wright says. Printed by gen_write2.py. -/
import Derived.Test.YtlpkpfpmcppciaaGreatDoorZ7
import Derived.Test.YtlpkpfpmcppciaaGreatDoorZ2
import Derived.Test.YtlpkpfpmcppciaaGreatDoorShelfItoa
section
namespace Go.Proofs.YtlpkpfpmcppciaaGreatDoor
set_option linter.unusedSimpArgs false
open Go.RowKit As
theorem itoa1 (w : World) : Calls Tryz.prog 32 #[.int .i64 1] w fun e w' => e = .returned (.string ⟨#[49]⟩) ∧ w = w' :=
 (Tryz.strconv_Itoa_small 1 (by omega) w).mono fun _ _ h => ⟨by rw [h.1, show Lib.decDigits 1 = [49] by first | decide | kernel_rfl], h.2.symm⟩
theorem has1 (w : World) : Calls Tryz.prog 31 #[.string ⟨#[50, 51]⟩, .string ⟨#[49]⟩] w fun e w' => e = .returned (.bool false) ∧ w = w' :=
 (Tryz.strings_Contains_one ⟨#[50, 51]⟩ 49 w).mono fun _ _ h => ⟨by rw [h.1]; exact retB (by decide), h.2.symm⟩
theorem itoa2 (w : World) : Calls Tryz.prog 32 #[.int .i64 2] w fun e w' => e = .returned (.string ⟨#[50]⟩) ∧ w = w' :=
 (Tryz.strconv_Itoa_small 2 (by omega) w).mono fun _ _ h => ⟨by rw [h.1, show Lib.decDigits 2 = [50] by first | decide | kernel_rfl], h.2.symm⟩
theorem has2 (w : World) : Calls Tryz.prog 31 #[.string ⟨#[50, 51]⟩, .string ⟨#[50]⟩] w fun e w' => e = .returned (.bool true) ∧ w = w' :=
 (Tryz.strings_Contains_one ⟨#[50, 51]⟩ 50 w).mono fun _ _ h => ⟨by rw [h.1]; exact retB (by decide), h.2.symm⟩
theorem itoa3 (w : World) : Calls Tryz.prog 32 #[.int .i64 3] w fun e w' => e = .returned (.string ⟨#[51]⟩) ∧ w = w' :=
 (Tryz.strconv_Itoa_small 3 (by omega) w).mono fun _ _ h => ⟨by rw [h.1, show Lib.decDigits 3 = [51] by first | decide | kernel_rfl], h.2.symm⟩
theorem has3 (w : World) : Calls Tryz.prog 31 #[.string ⟨#[50, 51]⟩, .string ⟨#[51]⟩] w fun e w' => e = .returned (.bool true) ∧ w = w' :=
 (Tryz.strings_Contains_one ⟨#[50, 51]⟩ 51 w).mono fun _ _ h => ⟨by rw [h.1]; exact retB (by decide), h.2.symm⟩
theorem itoa4 (w : World) : Calls Tryz.prog 32 #[.int .i64 4] w fun e w' => e = .returned (.string ⟨#[52]⟩) ∧ w = w' :=
 (Tryz.strconv_Itoa_small 4 (by omega) w).mono fun _ _ h => ⟨by rw [h.1, show Lib.decDigits 4 = [52] by first | decide | kernel_rfl], h.2.symm⟩
theorem has4 (w : World) : Calls Tryz.prog 31 #[.string ⟨#[50, 51]⟩, .string ⟨#[52]⟩] w fun e w' => e = .returned (.bool false) ∧ w = w' :=
 (Tryz.strings_Contains_one ⟨#[50, 51]⟩ 52 w).mono fun _ _ h => ⟨by rw [h.1]; exact retB (by decide), h.2.symm⟩
set_option maxHeartbeats 2000000 in
set_option maxRecDepth 100000 in
theorem rwright1 (a b f : Int) (d e : ByteArray) (w : World) : Calls Tryz.prog 7 #[wrV a b (1) d e f] w fun r w' => r = .returned (.int .i64 (wright (a, b, 1, d, e, f))) ∧ Below w.heap.size w w' := by
 rw [wright_is]
 have hW := WrAt.new w a b (1) d e f
 cases hidv : idRight (a, b) with
 | false =>
  have hid := Lib.hid hidv
  clear hidv
  have hr := Lib.hid (show wrightC 1 false d.size e.size f = 2 by unfold wrightC; rw [if_neg (by omega), if_pos rfl])
  have B0 := Lib.hid (show inB 1 1 4 = true by decide)
  go_enter Tryz.func7, Tryz.ntmps7
  go_wp2_with fail
  refine (within_is B0 _).mono ?_
  rintro r w0 ⟨rfl, rfl⟩
  go_wp2_with fail
  refine (ridright_any a b _).mono ?_
  rintro r w1 ⟨rfl, hb1⟩
  rw [hid.out]
  obtain ⟨c0, c1, c2, c3, c4, c5⟩ := hW.below hb1
  have hbl : Below w.heap.size w w1 := (below1 w _).trans (hb1.mono (by simp))
  go_wp2
  go_ret
  exact ⟨by rw [hr.out]; rfl, hbl⟩
 | true =>
  have hid := Lib.hid hidv
  clear hidv
  by_cases h1 : 40 < d.size
  ·have hr := Lib.hid (show wrightC 1 true d.size e.size f = 4 by unfold wrightC; rw [if_neg (by omega), if_neg (by simp), if_pos (by omega)])
   have s0 : decide (40 < d.size) = true := by simp only [decide_eq_true_eq, decide_eq_false_iff_not]; omega
   have t0 : decide (40 < (d.size : Int)) = true := by simp only [decide_eq_true_eq, decide_eq_false_iff_not]; omega
   clear h1
   have B0 := Lib.hid (show inB 1 1 4 = true by decide)
   go_enter Tryz.func7, Tryz.ntmps7
   go_wp2_with fail
   refine (within_is B0 _).mono ?_
   rintro r w0 ⟨rfl, rfl⟩
   go_wp2_with fail
   refine (ridright_any a b _).mono ?_
   rintro r w1 ⟨rfl, hb1⟩
   rw [hid.out]
   obtain ⟨c0, c1, c2, c3, c4, c5⟩ := hW.below hb1
   have hbl : Below w.heap.size w w1 := (below1 w _).trans (hb1.mono (by simp))
   go_wp2
   go_ret
   exact ⟨by rw [hr.out]; rfl, hbl⟩
  ·by_cases h2 : 300 < e.size
   ·have hr := Lib.hid (show wrightC 1 true d.size e.size f = 4 by unfold wrightC; rw [if_neg (by omega), if_neg (by simp), if_pos (by omega)])
    have s0 : decide (40 < d.size) = false := by simp only [decide_eq_true_eq, decide_eq_false_iff_not]; omega
    have t0 : decide (40 < (d.size : Int)) = false := by simp only [decide_eq_true_eq, decide_eq_false_iff_not]; omega
    have s1 : decide (300 < e.size) = true := by simp only [decide_eq_true_eq, decide_eq_false_iff_not]; omega
    have t1 : decide (300 < (e.size : Int)) = true := by simp only [decide_eq_true_eq, decide_eq_false_iff_not]; omega
    clear h1 h2
    have B0 := Lib.hid (show inB 1 1 4 = true by decide)
    go_enter Tryz.func7, Tryz.ntmps7
    go_wp2_with fail
    refine (within_is B0 _).mono ?_
    rintro r w0 ⟨rfl, rfl⟩
    go_wp2_with fail
    refine (ridright_any a b _).mono ?_
    rintro r w1 ⟨rfl, hb1⟩
    rw [hid.out]
    obtain ⟨c0, c1, c2, c3, c4, c5⟩ := hW.below hb1
    have hbl : Below w.heap.size w w1 := (below1 w _).trans (hb1.mono (by simp))
    go_wp2
    go_ret
    exact ⟨by rw [hr.out]; rfl, hbl⟩
   ·have hz := str_empty' e
    have s0 : decide (40 < d.size) = false := by simp only [decide_eq_true_eq, decide_eq_false_iff_not]; omega
    have t0 : decide (40 < (d.size : Int)) = false := by simp only [decide_eq_true_eq, decide_eq_false_iff_not]; omega
    have s1 : decide (300 < e.size) = false := by simp only [decide_eq_true_eq, decide_eq_false_iff_not]; omega
    have t1 : decide (300 < (e.size : Int)) = false := by simp only [decide_eq_true_eq, decide_eq_false_iff_not]; omega
    have HZ := Lib.hid hz
    clear hz
    by_cases h3 : e.size = 0
    ·by_cases h4 : f = 0
     ·skip
      have hr := Lib.hid (show wrightC 1 true d.size e.size f = 0 by unfold wrightC; rw [if_neg (by omega), if_neg (by simp), if_neg (by omega), if_neg (by omega), if_neg (by omega)])
      have q0 : e.toList.isEmpty = true := by rw [HZ.out]; simp only [decide_eq_true_eq, decide_eq_false_iff_not]; omega
      have q1 : (f != 0) = false := by simp only [bne_iff_ne, bne_eq_false_iff_eq, ne_eq]; omega
      clear h1 h2 h3 h4
      have B0 := Lib.hid (show inB 1 1 4 = true by decide)
      go_enter Tryz.func7, Tryz.ntmps7
      go_wp2_with fail
      refine (within_is B0 _).mono ?_
      rintro r w0 ⟨rfl, rfl⟩
      go_wp2_with fail
      refine (ridright_any a b _).mono ?_
      rintro r w1 ⟨rfl, hb1⟩
      rw [hid.out]
      obtain ⟨c0, c1, c2, c3, c4, c5⟩ := hW.below hb1
      have hbl : Below w.heap.size w w1 := (below1 w _).trans (hb1.mono (by simp))
      go_wp2
      go_ret
      exact ⟨by rw [hr.out]; rfl, hbl⟩
     ·skip
      have hr := Lib.hid (show wrightC 1 true d.size e.size f = 3 by unfold wrightC; rw [if_neg (by omega), if_neg (by simp), if_neg (by omega), if_pos (by omega)])
      have q0 : e.toList.isEmpty = true := by rw [HZ.out]; simp only [decide_eq_true_eq, decide_eq_false_iff_not]; omega
      have q1 : (f != 0) = true := by simp only [bne_iff_ne, bne_eq_false_iff_eq, ne_eq]; omega
      clear h1 h2 h3 h4
      have B0 := Lib.hid (show inB 1 1 4 = true by decide)
      go_enter Tryz.func7, Tryz.ntmps7
      go_wp2_with fail
      refine (within_is B0 _).mono ?_
      rintro r w0 ⟨rfl, rfl⟩
      go_wp2_with fail
      refine (ridright_any a b _).mono ?_
      rintro r w1 ⟨rfl, hb1⟩
      rw [hid.out]
      obtain ⟨c0, c1, c2, c3, c4, c5⟩ := hW.below hb1
      have hbl : Below w.heap.size w w1 := (below1 w _).trans (hb1.mono (by simp))
      go_wp2
      go_ret
      exact ⟨by rw [hr.out]; rfl, hbl⟩
    ·by_cases h4 : f = 0
     ·skip
      have hr := Lib.hid (show wrightC 1 true d.size e.size f = 0 by unfold wrightC; rw [if_neg (by omega), if_neg (by simp), if_neg (by omega), if_neg (by omega), if_neg (by omega)])
      have q0 : e.toList.isEmpty = false := by rw [HZ.out]; simp only [decide_eq_true_eq, decide_eq_false_iff_not]; omega
      have q1 : (f != 0) = false := by simp only [bne_iff_ne, bne_eq_false_iff_eq, ne_eq]; omega
      clear h1 h2 h3 h4
      have B0 := Lib.hid (show inB 1 1 4 = true by decide)
      go_enter Tryz.func7, Tryz.ntmps7
      go_wp2_with fail
      refine (within_is B0 _).mono ?_
      rintro r w0 ⟨rfl, rfl⟩
      go_wp2_with fail
      refine (ridright_any a b _).mono ?_
      rintro r w1 ⟨rfl, hb1⟩
      rw [hid.out]
      obtain ⟨c0, c1, c2, c3, c4, c5⟩ := hW.below hb1
      have hbl : Below w.heap.size w w1 := (below1 w _).trans (hb1.mono (by simp))
      go_wp2_with fail
      refine (itoa1 _).mono ?_
      rintro r w0 ⟨rfl, rfl⟩
      go_wp2_with fail
      refine (has1 _).mono ?_
      rintro r w0 ⟨rfl, rfl⟩
      go_wp2
      go_ret
      exact ⟨by rw [hr.out]; rfl, hbl⟩
     ·skip
      have hr := Lib.hid (show wrightC 1 true d.size e.size f = 3 by unfold wrightC; rw [if_neg (by omega), if_neg (by simp), if_neg (by omega), if_pos (by omega)])
      have q0 : e.toList.isEmpty = false := by rw [HZ.out]; simp only [decide_eq_true_eq, decide_eq_false_iff_not]; omega
      have q1 : (f != 0) = true := by simp only [bne_iff_ne, bne_eq_false_iff_eq, ne_eq]; omega
      clear h1 h2 h3 h4
      have B0 := Lib.hid (show inB 1 1 4 = true by decide)
      go_enter Tryz.func7, Tryz.ntmps7
      go_wp2_with fail
      refine (within_is B0 _).mono ?_
      rintro r w0 ⟨rfl, rfl⟩
      go_wp2_with fail
      refine (ridright_any a b _).mono ?_
      rintro r w1 ⟨rfl, hb1⟩
      rw [hid.out]
      obtain ⟨c0, c1, c2, c3, c4, c5⟩ := hW.below hb1
      have hbl : Below w.heap.size w w1 := (below1 w _).trans (hb1.mono (by simp))
      go_wp2_with fail
      refine (itoa1 _).mono ?_
      rintro r w0 ⟨rfl, rfl⟩
      go_wp2_with fail
      refine (has1 _).mono ?_
      rintro r w0 ⟨rfl, rfl⟩
      go_wp2
      go_ret
      exact ⟨by rw [hr.out]; rfl, hbl⟩
set_option maxHeartbeats 2000000 in
set_option maxRecDepth 100000 in
theorem rwright2 (a b f : Int) (d e : ByteArray) (w : World) : Calls Tryz.prog 7 #[wrV a b (2) d e f] w fun r w' => r = .returned (.int .i64 (wright (a, b, 2, d, e, f))) ∧ Below w.heap.size w w' := by
 rw [wright_is]
 have hW := WrAt.new w a b (2) d e f
 cases hidv : idRight (a, b) with
 | false =>
  have hid := Lib.hid hidv
  clear hidv
  have hr := Lib.hid (show wrightC 2 false d.size e.size f = 2 by unfold wrightC; rw [if_neg (by omega), if_pos rfl])
  have B0 := Lib.hid (show inB 2 1 4 = true by decide)
  go_enter Tryz.func7, Tryz.ntmps7
  go_wp2_with fail
  refine (within_is B0 _).mono ?_
  rintro r w0 ⟨rfl, rfl⟩
  go_wp2_with fail
  refine (ridright_any a b _).mono ?_
  rintro r w1 ⟨rfl, hb1⟩
  rw [hid.out]
  obtain ⟨c0, c1, c2, c3, c4, c5⟩ := hW.below hb1
  have hbl : Below w.heap.size w w1 := (below1 w _).trans (hb1.mono (by simp))
  go_wp2
  go_ret
  exact ⟨by rw [hr.out]; rfl, hbl⟩
 | true =>
  have hid := Lib.hid hidv
  clear hidv
  by_cases h1 : 40 < d.size
  ·have hr := Lib.hid (show wrightC 2 true d.size e.size f = 4 by unfold wrightC; rw [if_neg (by omega), if_neg (by simp), if_pos (by omega)])
   have s0 : decide (40 < d.size) = true := by simp only [decide_eq_true_eq, decide_eq_false_iff_not]; omega
   have t0 : decide (40 < (d.size : Int)) = true := by simp only [decide_eq_true_eq, decide_eq_false_iff_not]; omega
   clear h1
   have B0 := Lib.hid (show inB 2 1 4 = true by decide)
   go_enter Tryz.func7, Tryz.ntmps7
   go_wp2_with fail
   refine (within_is B0 _).mono ?_
   rintro r w0 ⟨rfl, rfl⟩
   go_wp2_with fail
   refine (ridright_any a b _).mono ?_
   rintro r w1 ⟨rfl, hb1⟩
   rw [hid.out]
   obtain ⟨c0, c1, c2, c3, c4, c5⟩ := hW.below hb1
   have hbl : Below w.heap.size w w1 := (below1 w _).trans (hb1.mono (by simp))
   go_wp2
   go_ret
   exact ⟨by rw [hr.out]; rfl, hbl⟩
  ·by_cases h2 : 300 < e.size
   ·have hr := Lib.hid (show wrightC 2 true d.size e.size f = 4 by unfold wrightC; rw [if_neg (by omega), if_neg (by simp), if_pos (by omega)])
    have s0 : decide (40 < d.size) = false := by simp only [decide_eq_true_eq, decide_eq_false_iff_not]; omega
    have t0 : decide (40 < (d.size : Int)) = false := by simp only [decide_eq_true_eq, decide_eq_false_iff_not]; omega
    have s1 : decide (300 < e.size) = true := by simp only [decide_eq_true_eq, decide_eq_false_iff_not]; omega
    have t1 : decide (300 < (e.size : Int)) = true := by simp only [decide_eq_true_eq, decide_eq_false_iff_not]; omega
    clear h1 h2
    have B0 := Lib.hid (show inB 2 1 4 = true by decide)
    go_enter Tryz.func7, Tryz.ntmps7
    go_wp2_with fail
    refine (within_is B0 _).mono ?_
    rintro r w0 ⟨rfl, rfl⟩
    go_wp2_with fail
    refine (ridright_any a b _).mono ?_
    rintro r w1 ⟨rfl, hb1⟩
    rw [hid.out]
    obtain ⟨c0, c1, c2, c3, c4, c5⟩ := hW.below hb1
    have hbl : Below w.heap.size w w1 := (below1 w _).trans (hb1.mono (by simp))
    go_wp2
    go_ret
    exact ⟨by rw [hr.out]; rfl, hbl⟩
   ·have hz := str_empty' e
    have s0 : decide (40 < d.size) = false := by simp only [decide_eq_true_eq, decide_eq_false_iff_not]; omega
    have t0 : decide (40 < (d.size : Int)) = false := by simp only [decide_eq_true_eq, decide_eq_false_iff_not]; omega
    have s1 : decide (300 < e.size) = false := by simp only [decide_eq_true_eq, decide_eq_false_iff_not]; omega
    have t1 : decide (300 < (e.size : Int)) = false := by simp only [decide_eq_true_eq, decide_eq_false_iff_not]; omega
    have HZ := Lib.hid hz
    clear hz
    by_cases h3 : e.size = 0
    ·by_cases h4 : f = 0
     ·skip
      have hr := Lib.hid (show wrightC 2 true d.size e.size f = 0 by unfold wrightC; rw [if_neg (by omega), if_neg (by simp), if_neg (by omega), if_neg (by omega), if_neg (by omega)])
      have q0 : e.toList.isEmpty = true := by rw [HZ.out]; simp only [decide_eq_true_eq, decide_eq_false_iff_not]; omega
      have q1 : (f != 0) = false := by simp only [bne_iff_ne, bne_eq_false_iff_eq, ne_eq]; omega
      clear h1 h2 h3 h4
      have B0 := Lib.hid (show inB 2 1 4 = true by decide)
      go_enter Tryz.func7, Tryz.ntmps7
      go_wp2_with fail
      refine (within_is B0 _).mono ?_
      rintro r w0 ⟨rfl, rfl⟩
      go_wp2_with fail
      refine (ridright_any a b _).mono ?_
      rintro r w1 ⟨rfl, hb1⟩
      rw [hid.out]
      obtain ⟨c0, c1, c2, c3, c4, c5⟩ := hW.below hb1
      have hbl : Below w.heap.size w w1 := (below1 w _).trans (hb1.mono (by simp))
      go_wp2
      go_ret
      exact ⟨by rw [hr.out]; rfl, hbl⟩
     ·skip
      have hr := Lib.hid (show wrightC 2 true d.size e.size f = 3 by unfold wrightC; rw [if_neg (by omega), if_neg (by simp), if_neg (by omega), if_pos (by omega)])
      have q0 : e.toList.isEmpty = true := by rw [HZ.out]; simp only [decide_eq_true_eq, decide_eq_false_iff_not]; omega
      have q1 : (f != 0) = true := by simp only [bne_iff_ne, bne_eq_false_iff_eq, ne_eq]; omega
      clear h1 h2 h3 h4
      have B0 := Lib.hid (show inB 2 1 4 = true by decide)
      go_enter Tryz.func7, Tryz.ntmps7
      go_wp2_with fail
      refine (within_is B0 _).mono ?_
      rintro r w0 ⟨rfl, rfl⟩
      go_wp2_with fail
      refine (ridright_any a b _).mono ?_
      rintro r w1 ⟨rfl, hb1⟩
      rw [hid.out]
      obtain ⟨c0, c1, c2, c3, c4, c5⟩ := hW.below hb1
      have hbl : Below w.heap.size w w1 := (below1 w _).trans (hb1.mono (by simp))
      go_wp2
      go_ret
      exact ⟨by rw [hr.out]; rfl, hbl⟩
    ·skip
     have hr := Lib.hid (show wrightC 2 true d.size e.size f = 3 by unfold wrightC; rw [if_neg (by omega), if_neg (by simp), if_neg (by omega), if_pos (by omega)])
     have q0 : e.toList.isEmpty = false := by rw [HZ.out]; simp only [decide_eq_true_eq, decide_eq_false_iff_not]; omega
     clear h1 h2 h3
     have B0 := Lib.hid (show inB 2 1 4 = true by decide)
     go_enter Tryz.func7, Tryz.ntmps7
     go_wp2_with fail
     refine (within_is B0 _).mono ?_
     rintro r w0 ⟨rfl, rfl⟩
     go_wp2_with fail
     refine (ridright_any a b _).mono ?_
     rintro r w1 ⟨rfl, hb1⟩
     rw [hid.out]
     obtain ⟨c0, c1, c2, c3, c4, c5⟩ := hW.below hb1
     have hbl : Below w.heap.size w w1 := (below1 w _).trans (hb1.mono (by simp))
     go_wp2_with fail
     refine (itoa2 _).mono ?_
     rintro r w0 ⟨rfl, rfl⟩
     go_wp2_with fail
     refine (has2 _).mono ?_
     rintro r w0 ⟨rfl, rfl⟩
     go_wp2
     go_ret
     exact ⟨by rw [hr.out]; rfl, hbl⟩
set_option maxHeartbeats 2000000 in
set_option maxRecDepth 100000 in
theorem rwright3 (a b f : Int) (d e : ByteArray) (w : World) : Calls Tryz.prog 7 #[wrV a b (3) d e f] w fun r w' => r = .returned (.int .i64 (wright (a, b, 3, d, e, f))) ∧ Below w.heap.size w w' := by
 rw [wright_is]
 have hW := WrAt.new w a b (3) d e f
 cases hidv : idRight (a, b) with
 | false =>
  have hid := Lib.hid hidv
  clear hidv
  have hr := Lib.hid (show wrightC 3 false d.size e.size f = 2 by unfold wrightC; rw [if_neg (by omega), if_pos rfl])
  have B0 := Lib.hid (show inB 3 1 4 = true by decide)
  go_enter Tryz.func7, Tryz.ntmps7
  go_wp2_with fail
  refine (within_is B0 _).mono ?_
  rintro r w0 ⟨rfl, rfl⟩
  go_wp2_with fail
  refine (ridright_any a b _).mono ?_
  rintro r w1 ⟨rfl, hb1⟩
  rw [hid.out]
  obtain ⟨c0, c1, c2, c3, c4, c5⟩ := hW.below hb1
  have hbl : Below w.heap.size w w1 := (below1 w _).trans (hb1.mono (by simp))
  go_wp2
  go_ret
  exact ⟨by rw [hr.out]; rfl, hbl⟩
 | true =>
  have hid := Lib.hid hidv
  clear hidv
  by_cases h1 : 40 < d.size
  ·have hr := Lib.hid (show wrightC 3 true d.size e.size f = 4 by unfold wrightC; rw [if_neg (by omega), if_neg (by simp), if_pos (by omega)])
   have s0 : decide (40 < d.size) = true := by simp only [decide_eq_true_eq, decide_eq_false_iff_not]; omega
   have t0 : decide (40 < (d.size : Int)) = true := by simp only [decide_eq_true_eq, decide_eq_false_iff_not]; omega
   clear h1
   have B0 := Lib.hid (show inB 3 1 4 = true by decide)
   go_enter Tryz.func7, Tryz.ntmps7
   go_wp2_with fail
   refine (within_is B0 _).mono ?_
   rintro r w0 ⟨rfl, rfl⟩
   go_wp2_with fail
   refine (ridright_any a b _).mono ?_
   rintro r w1 ⟨rfl, hb1⟩
   rw [hid.out]
   obtain ⟨c0, c1, c2, c3, c4, c5⟩ := hW.below hb1
   have hbl : Below w.heap.size w w1 := (below1 w _).trans (hb1.mono (by simp))
   go_wp2
   go_ret
   exact ⟨by rw [hr.out]; rfl, hbl⟩
  ·by_cases h2 : 300 < e.size
   ·have hr := Lib.hid (show wrightC 3 true d.size e.size f = 4 by unfold wrightC; rw [if_neg (by omega), if_neg (by simp), if_pos (by omega)])
    have s0 : decide (40 < d.size) = false := by simp only [decide_eq_true_eq, decide_eq_false_iff_not]; omega
    have t0 : decide (40 < (d.size : Int)) = false := by simp only [decide_eq_true_eq, decide_eq_false_iff_not]; omega
    have s1 : decide (300 < e.size) = true := by simp only [decide_eq_true_eq, decide_eq_false_iff_not]; omega
    have t1 : decide (300 < (e.size : Int)) = true := by simp only [decide_eq_true_eq, decide_eq_false_iff_not]; omega
    clear h1 h2
    have B0 := Lib.hid (show inB 3 1 4 = true by decide)
    go_enter Tryz.func7, Tryz.ntmps7
    go_wp2_with fail
    refine (within_is B0 _).mono ?_
    rintro r w0 ⟨rfl, rfl⟩
    go_wp2_with fail
    refine (ridright_any a b _).mono ?_
    rintro r w1 ⟨rfl, hb1⟩
    rw [hid.out]
    obtain ⟨c0, c1, c2, c3, c4, c5⟩ := hW.below hb1
    have hbl : Below w.heap.size w w1 := (below1 w _).trans (hb1.mono (by simp))
    go_wp2
    go_ret
    exact ⟨by rw [hr.out]; rfl, hbl⟩
   ·have hz := str_empty' e
    have s0 : decide (40 < d.size) = false := by simp only [decide_eq_true_eq, decide_eq_false_iff_not]; omega
    have t0 : decide (40 < (d.size : Int)) = false := by simp only [decide_eq_true_eq, decide_eq_false_iff_not]; omega
    have s1 : decide (300 < e.size) = false := by simp only [decide_eq_true_eq, decide_eq_false_iff_not]; omega
    have t1 : decide (300 < (e.size : Int)) = false := by simp only [decide_eq_true_eq, decide_eq_false_iff_not]; omega
    have HZ := Lib.hid hz
    clear hz
    by_cases h3 : e.size = 0
    ·by_cases h4 : f = 0
     ·skip
      have hr := Lib.hid (show wrightC 3 true d.size e.size f = 0 by unfold wrightC; rw [if_neg (by omega), if_neg (by simp), if_neg (by omega), if_neg (by omega), if_neg (by omega)])
      have q0 : e.toList.isEmpty = true := by rw [HZ.out]; simp only [decide_eq_true_eq, decide_eq_false_iff_not]; omega
      have q1 : (f != 0) = false := by simp only [bne_iff_ne, bne_eq_false_iff_eq, ne_eq]; omega
      have q2 := Lib.hid (show inB f (-1125899906842624) 1125899906842624 = true by unfold inB; rw [decide_eq_true]; omega)
      clear h1 h2 h3 h4
      have B0 := Lib.hid (show inB 3 1 4 = true by decide)
      go_enter Tryz.func7, Tryz.ntmps7
      go_wp2_with fail
      refine (within_is B0 _).mono ?_
      rintro r w0 ⟨rfl, rfl⟩
      go_wp2_with fail
      refine (ridright_any a b _).mono ?_
      rintro r w1 ⟨rfl, hb1⟩
      rw [hid.out]
      obtain ⟨c0, c1, c2, c3, c4, c5⟩ := hW.below hb1
      have hbl : Below w.heap.size w w1 := (below1 w _).trans (hb1.mono (by simp))
      go_wp2_with fail
      refine (within_is q2 _).mono ?_
      rintro r w0 ⟨rfl, rfl⟩
      go_wp2
      go_ret
      exact ⟨by rw [hr.out]; rfl, hbl⟩
     ·by_cases h5 : (-1125899906842624 ≤ f ∧ f ≤ 1125899906842624)
      ·skip
       have hr := Lib.hid (show wrightC 3 true d.size e.size f = 0 by unfold wrightC; rw [if_neg (by omega), if_neg (by simp), if_neg (by omega), if_neg (by omega), if_neg (by omega)])
       have q0 : e.toList.isEmpty = true := by rw [HZ.out]; simp only [decide_eq_true_eq, decide_eq_false_iff_not]; omega
       have q1 : (f != 0) = true := by simp only [bne_iff_ne, bne_eq_false_iff_eq, ne_eq]; omega
       have q2 := Lib.hid (show inB f (-1125899906842624) 1125899906842624 = true by unfold inB; rw [decide_eq_true]; omega)
       clear h1 h2 h3 h4 h5
       have B0 := Lib.hid (show inB 3 1 4 = true by decide)
       go_enter Tryz.func7, Tryz.ntmps7
       go_wp2_with fail
       refine (within_is B0 _).mono ?_
       rintro r w0 ⟨rfl, rfl⟩
       go_wp2_with fail
       refine (ridright_any a b _).mono ?_
       rintro r w1 ⟨rfl, hb1⟩
       rw [hid.out]
       obtain ⟨c0, c1, c2, c3, c4, c5⟩ := hW.below hb1
       have hbl : Below w.heap.size w w1 := (below1 w _).trans (hb1.mono (by simp))
       go_wp2_with fail
       refine (within_is q2 _).mono ?_
       rintro r w0 ⟨rfl, rfl⟩
       go_wp2
       go_ret
       exact ⟨by rw [hr.out]; rfl, hbl⟩
      ·skip
       have hr := Lib.hid (show wrightC 3 true d.size e.size f = 2 by unfold wrightC; rw [if_neg (by omega), if_neg (by simp), if_neg (by omega), if_neg (by omega), if_pos (by omega)])
       have q0 : e.toList.isEmpty = true := by rw [HZ.out]; simp only [decide_eq_true_eq, decide_eq_false_iff_not]; omega
       have q1 : (f != 0) = true := by simp only [bne_iff_ne, bne_eq_false_iff_eq, ne_eq]; omega
       have q2 := Lib.hid (show inB f (-1125899906842624) 1125899906842624 = false by unfold inB; rw [decide_eq_false]; omega)
       clear h1 h2 h3 h4 h5
       have B0 := Lib.hid (show inB 3 1 4 = true by decide)
       go_enter Tryz.func7, Tryz.ntmps7
       go_wp2_with fail
       refine (within_is B0 _).mono ?_
       rintro r w0 ⟨rfl, rfl⟩
       go_wp2_with fail
       refine (ridright_any a b _).mono ?_
       rintro r w1 ⟨rfl, hb1⟩
       rw [hid.out]
       obtain ⟨c0, c1, c2, c3, c4, c5⟩ := hW.below hb1
       have hbl : Below w.heap.size w w1 := (below1 w _).trans (hb1.mono (by simp))
       go_wp2_with fail
       refine (within_is q2 _).mono ?_
       rintro r w0 ⟨rfl, rfl⟩
       go_wp2
       go_ret
       exact ⟨by rw [hr.out]; rfl, hbl⟩
    ·skip
     have hr := Lib.hid (show wrightC 3 true d.size e.size f = 3 by unfold wrightC; rw [if_neg (by omega), if_neg (by simp), if_neg (by omega), if_pos (by omega)])
     have q0 : e.toList.isEmpty = false := by rw [HZ.out]; simp only [decide_eq_true_eq, decide_eq_false_iff_not]; omega
     clear h1 h2 h3
     have B0 := Lib.hid (show inB 3 1 4 = true by decide)
     go_enter Tryz.func7, Tryz.ntmps7
     go_wp2_with fail
     refine (within_is B0 _).mono ?_
     rintro r w0 ⟨rfl, rfl⟩
     go_wp2_with fail
     refine (ridright_any a b _).mono ?_
     rintro r w1 ⟨rfl, hb1⟩
     rw [hid.out]
     obtain ⟨c0, c1, c2, c3, c4, c5⟩ := hW.below hb1
     have hbl : Below w.heap.size w w1 := (below1 w _).trans (hb1.mono (by simp))
     go_wp2_with fail
     refine (itoa3 _).mono ?_
     rintro r w0 ⟨rfl, rfl⟩
     go_wp2_with fail
     refine (has3 _).mono ?_
     rintro r w0 ⟨rfl, rfl⟩
     go_wp2
     go_ret
     exact ⟨by rw [hr.out]; rfl, hbl⟩
set_option maxHeartbeats 2000000 in
set_option maxRecDepth 100000 in
theorem rwright4 (a b f : Int) (d e : ByteArray) (w : World) : Calls Tryz.prog 7 #[wrV a b (4) d e f] w fun r w' => r = .returned (.int .i64 (wright (a, b, 4, d, e, f))) ∧ Below w.heap.size w w' := by
 rw [wright_is]
 have hW := WrAt.new w a b (4) d e f
 cases hidv : idRight (a, b) with
 | false =>
  have hid := Lib.hid hidv
  clear hidv
  have hr := Lib.hid (show wrightC 4 false d.size e.size f = 2 by unfold wrightC; rw [if_neg (by omega), if_pos rfl])
  have B0 := Lib.hid (show inB 4 1 4 = true by decide)
  go_enter Tryz.func7, Tryz.ntmps7
  go_wp2_with fail
  refine (within_is B0 _).mono ?_
  rintro r w0 ⟨rfl, rfl⟩
  go_wp2_with fail
  refine (ridright_any a b _).mono ?_
  rintro r w1 ⟨rfl, hb1⟩
  rw [hid.out]
  obtain ⟨c0, c1, c2, c3, c4, c5⟩ := hW.below hb1
  have hbl : Below w.heap.size w w1 := (below1 w _).trans (hb1.mono (by simp))
  go_wp2
  go_ret
  exact ⟨by rw [hr.out]; rfl, hbl⟩
 | true =>
  have hid := Lib.hid hidv
  clear hidv
  by_cases h1 : 40 < d.size
  ·have hr := Lib.hid (show wrightC 4 true d.size e.size f = 4 by unfold wrightC; rw [if_neg (by omega), if_neg (by simp), if_pos (by omega)])
   have s0 : decide (40 < d.size) = true := by simp only [decide_eq_true_eq, decide_eq_false_iff_not]; omega
   have t0 : decide (40 < (d.size : Int)) = true := by simp only [decide_eq_true_eq, decide_eq_false_iff_not]; omega
   clear h1
   have B0 := Lib.hid (show inB 4 1 4 = true by decide)
   go_enter Tryz.func7, Tryz.ntmps7
   go_wp2_with fail
   refine (within_is B0 _).mono ?_
   rintro r w0 ⟨rfl, rfl⟩
   go_wp2_with fail
   refine (ridright_any a b _).mono ?_
   rintro r w1 ⟨rfl, hb1⟩
   rw [hid.out]
   obtain ⟨c0, c1, c2, c3, c4, c5⟩ := hW.below hb1
   have hbl : Below w.heap.size w w1 := (below1 w _).trans (hb1.mono (by simp))
   go_wp2
   go_ret
   exact ⟨by rw [hr.out]; rfl, hbl⟩
  ·by_cases h2 : 300 < e.size
   ·have hr := Lib.hid (show wrightC 4 true d.size e.size f = 4 by unfold wrightC; rw [if_neg (by omega), if_neg (by simp), if_pos (by omega)])
    have s0 : decide (40 < d.size) = false := by simp only [decide_eq_true_eq, decide_eq_false_iff_not]; omega
    have t0 : decide (40 < (d.size : Int)) = false := by simp only [decide_eq_true_eq, decide_eq_false_iff_not]; omega
    have s1 : decide (300 < e.size) = true := by simp only [decide_eq_true_eq, decide_eq_false_iff_not]; omega
    have t1 : decide (300 < (e.size : Int)) = true := by simp only [decide_eq_true_eq, decide_eq_false_iff_not]; omega
    clear h1 h2
    have B0 := Lib.hid (show inB 4 1 4 = true by decide)
    go_enter Tryz.func7, Tryz.ntmps7
    go_wp2_with fail
    refine (within_is B0 _).mono ?_
    rintro r w0 ⟨rfl, rfl⟩
    go_wp2_with fail
    refine (ridright_any a b _).mono ?_
    rintro r w1 ⟨rfl, hb1⟩
    rw [hid.out]
    obtain ⟨c0, c1, c2, c3, c4, c5⟩ := hW.below hb1
    have hbl : Below w.heap.size w w1 := (below1 w _).trans (hb1.mono (by simp))
    go_wp2
    go_ret
    exact ⟨by rw [hr.out]; rfl, hbl⟩
   ·have hz := str_empty' e
    have s0 : decide (40 < d.size) = false := by simp only [decide_eq_true_eq, decide_eq_false_iff_not]; omega
    have t0 : decide (40 < (d.size : Int)) = false := by simp only [decide_eq_true_eq, decide_eq_false_iff_not]; omega
    have s1 : decide (300 < e.size) = false := by simp only [decide_eq_true_eq, decide_eq_false_iff_not]; omega
    have t1 : decide (300 < (e.size : Int)) = false := by simp only [decide_eq_true_eq, decide_eq_false_iff_not]; omega
    have HZ := Lib.hid hz
    clear hz
    by_cases h3 : e.size = 0
    ·by_cases h4 : f = 0
     ·skip
      have hr := Lib.hid (show wrightC 4 true d.size e.size f = 0 by unfold wrightC; rw [if_neg (by omega), if_neg (by simp), if_neg (by omega), if_neg (by omega), if_neg (by omega)])
      have q0 : e.toList.isEmpty = true := by rw [HZ.out]; simp only [decide_eq_true_eq, decide_eq_false_iff_not]; omega
      have q1 : (f != 0) = false := by simp only [bne_iff_ne, bne_eq_false_iff_eq, ne_eq]; omega
      have q2 := Lib.hid (show inB f (0) 1000 = true by unfold inB; rw [decide_eq_true]; omega)
      clear h1 h2 h3 h4
      have B0 := Lib.hid (show inB 4 1 4 = true by decide)
      go_enter Tryz.func7, Tryz.ntmps7
      go_wp2_with fail
      refine (within_is B0 _).mono ?_
      rintro r w0 ⟨rfl, rfl⟩
      go_wp2_with fail
      refine (ridright_any a b _).mono ?_
      rintro r w1 ⟨rfl, hb1⟩
      rw [hid.out]
      obtain ⟨c0, c1, c2, c3, c4, c5⟩ := hW.below hb1
      have hbl : Below w.heap.size w w1 := (below1 w _).trans (hb1.mono (by simp))
      go_wp2_with fail
      refine (within_is q2 _).mono ?_
      rintro r w0 ⟨rfl, rfl⟩
      go_wp2
      go_ret
      exact ⟨by rw [hr.out]; rfl, hbl⟩
     ·by_cases h5 : (0 ≤ f ∧ f ≤ 1000)
      ·skip
       have hr := Lib.hid (show wrightC 4 true d.size e.size f = 0 by unfold wrightC; rw [if_neg (by omega), if_neg (by simp), if_neg (by omega), if_neg (by omega), if_neg (by omega)])
       have q0 : e.toList.isEmpty = true := by rw [HZ.out]; simp only [decide_eq_true_eq, decide_eq_false_iff_not]; omega
       have q1 : (f != 0) = true := by simp only [bne_iff_ne, bne_eq_false_iff_eq, ne_eq]; omega
       have q2 := Lib.hid (show inB f (0) 1000 = true by unfold inB; rw [decide_eq_true]; omega)
       clear h1 h2 h3 h4 h5
       have B0 := Lib.hid (show inB 4 1 4 = true by decide)
       go_enter Tryz.func7, Tryz.ntmps7
       go_wp2_with fail
       refine (within_is B0 _).mono ?_
       rintro r w0 ⟨rfl, rfl⟩
       go_wp2_with fail
       refine (ridright_any a b _).mono ?_
       rintro r w1 ⟨rfl, hb1⟩
       rw [hid.out]
       obtain ⟨c0, c1, c2, c3, c4, c5⟩ := hW.below hb1
       have hbl : Below w.heap.size w w1 := (below1 w _).trans (hb1.mono (by simp))
       go_wp2_with fail
       refine (within_is q2 _).mono ?_
       rintro r w0 ⟨rfl, rfl⟩
       go_wp2
       go_ret
       exact ⟨by rw [hr.out]; rfl, hbl⟩
      ·skip
       have hr := Lib.hid (show wrightC 4 true d.size e.size f = 2 by unfold wrightC; rw [if_neg (by omega), if_neg (by simp), if_neg (by omega), if_neg (by omega), if_pos (by omega)])
       have q0 : e.toList.isEmpty = true := by rw [HZ.out]; simp only [decide_eq_true_eq, decide_eq_false_iff_not]; omega
       have q1 : (f != 0) = true := by simp only [bne_iff_ne, bne_eq_false_iff_eq, ne_eq]; omega
       have q2 := Lib.hid (show inB f (0) 1000 = false by unfold inB; rw [decide_eq_false]; omega)
       clear h1 h2 h3 h4 h5
       have B0 := Lib.hid (show inB 4 1 4 = true by decide)
       go_enter Tryz.func7, Tryz.ntmps7
       go_wp2_with fail
       refine (within_is B0 _).mono ?_
       rintro r w0 ⟨rfl, rfl⟩
       go_wp2_with fail
       refine (ridright_any a b _).mono ?_
       rintro r w1 ⟨rfl, hb1⟩
       rw [hid.out]
       obtain ⟨c0, c1, c2, c3, c4, c5⟩ := hW.below hb1
       have hbl : Below w.heap.size w w1 := (below1 w _).trans (hb1.mono (by simp))
       go_wp2_with fail
       refine (within_is q2 _).mono ?_
       rintro r w0 ⟨rfl, rfl⟩
       go_wp2
       go_ret
       exact ⟨by rw [hr.out]; rfl, hbl⟩
    ·by_cases h4 : f = 0
     ·skip
      have hr := Lib.hid (show wrightC 4 true d.size e.size f = 0 by unfold wrightC; rw [if_neg (by omega), if_neg (by simp), if_neg (by omega), if_neg (by omega), if_neg (by omega)])
      have q0 : e.toList.isEmpty = false := by rw [HZ.out]; simp only [decide_eq_true_eq, decide_eq_false_iff_not]; omega
      have q1 : (f != 0) = false := by simp only [bne_iff_ne, bne_eq_false_iff_eq, ne_eq]; omega
      have q2 := Lib.hid (show inB f (0) 1000 = true by unfold inB; rw [decide_eq_true]; omega)
      clear h1 h2 h3 h4
      have B0 := Lib.hid (show inB 4 1 4 = true by decide)
      go_enter Tryz.func7, Tryz.ntmps7
      go_wp2_with fail
      refine (within_is B0 _).mono ?_
      rintro r w0 ⟨rfl, rfl⟩
      go_wp2_with fail
      refine (ridright_any a b _).mono ?_
      rintro r w1 ⟨rfl, hb1⟩
      rw [hid.out]
      obtain ⟨c0, c1, c2, c3, c4, c5⟩ := hW.below hb1
      have hbl : Below w.heap.size w w1 := (below1 w _).trans (hb1.mono (by simp))
      go_wp2_with fail
      refine (itoa4 _).mono ?_
      rintro r w0 ⟨rfl, rfl⟩
      go_wp2_with fail
      refine (has4 _).mono ?_
      rintro r w0 ⟨rfl, rfl⟩
      go_wp2_with fail
      refine (within_is q2 _).mono ?_
      rintro r w0 ⟨rfl, rfl⟩
      go_wp2
      go_ret
      exact ⟨by rw [hr.out]; rfl, hbl⟩
     ·by_cases h5 : (0 ≤ f ∧ f ≤ 1000)
      ·skip
       have hr := Lib.hid (show wrightC 4 true d.size e.size f = 0 by unfold wrightC; rw [if_neg (by omega), if_neg (by simp), if_neg (by omega), if_neg (by omega), if_neg (by omega)])
       have q0 : e.toList.isEmpty = false := by rw [HZ.out]; simp only [decide_eq_true_eq, decide_eq_false_iff_not]; omega
       have q1 : (f != 0) = true := by simp only [bne_iff_ne, bne_eq_false_iff_eq, ne_eq]; omega
       have q2 := Lib.hid (show inB f (0) 1000 = true by unfold inB; rw [decide_eq_true]; omega)
       clear h1 h2 h3 h4 h5
       have B0 := Lib.hid (show inB 4 1 4 = true by decide)
       go_enter Tryz.func7, Tryz.ntmps7
       go_wp2_with fail
       refine (within_is B0 _).mono ?_
       rintro r w0 ⟨rfl, rfl⟩
       go_wp2_with fail
       refine (ridright_any a b _).mono ?_
       rintro r w1 ⟨rfl, hb1⟩
       rw [hid.out]
       obtain ⟨c0, c1, c2, c3, c4, c5⟩ := hW.below hb1
       have hbl : Below w.heap.size w w1 := (below1 w _).trans (hb1.mono (by simp))
       go_wp2_with fail
       refine (itoa4 _).mono ?_
       rintro r w0 ⟨rfl, rfl⟩
       go_wp2_with fail
       refine (has4 _).mono ?_
       rintro r w0 ⟨rfl, rfl⟩
       go_wp2_with fail
       refine (within_is q2 _).mono ?_
       rintro r w0 ⟨rfl, rfl⟩
       go_wp2
       go_ret
       exact ⟨by rw [hr.out]; rfl, hbl⟩
      ·skip
       have hr := Lib.hid (show wrightC 4 true d.size e.size f = 2 by unfold wrightC; rw [if_neg (by omega), if_neg (by simp), if_neg (by omega), if_neg (by omega), if_pos (by omega)])
       have q0 : e.toList.isEmpty = false := by rw [HZ.out]; simp only [decide_eq_true_eq, decide_eq_false_iff_not]; omega
       have q1 : (f != 0) = true := by simp only [bne_iff_ne, bne_eq_false_iff_eq, ne_eq]; omega
       have q2 := Lib.hid (show inB f (0) 1000 = false by unfold inB; rw [decide_eq_false]; omega)
       clear h1 h2 h3 h4 h5
       have B0 := Lib.hid (show inB 4 1 4 = true by decide)
       go_enter Tryz.func7, Tryz.ntmps7
       go_wp2_with fail
       refine (within_is B0 _).mono ?_
       rintro r w0 ⟨rfl, rfl⟩
       go_wp2_with fail
       refine (ridright_any a b _).mono ?_
       rintro r w1 ⟨rfl, hb1⟩
       rw [hid.out]
       obtain ⟨c0, c1, c2, c3, c4, c5⟩ := hW.below hb1
       have hbl : Below w.heap.size w w1 := (below1 w _).trans (hb1.mono (by simp))
       go_wp2_with fail
       refine (itoa4 _).mono ?_
       rintro r w0 ⟨rfl, rfl⟩
       go_wp2_with fail
       refine (has4 _).mono ?_
       rintro r w0 ⟨rfl, rfl⟩
       go_wp2_with fail
       refine (within_is q2 _).mono ?_
       rintro r w0 ⟨rfl, rfl⟩
       go_wp2
       go_ret
       exact ⟨by rw [hr.out]; rfl, hbl⟩
set_option maxHeartbeats 2000000 in
set_option maxRecDepth 100000 in
theorem rwright0 (a b c f : Int) (d e : ByteArray) (w : World) (hc : c < 1 ∨ 4 < c) : Calls Tryz.prog 7 #[wrV a b (c) d e f] w fun r w' => r = .returned (.int .i64 (wright (a, b, c, d, e, f))) ∧ Below w.heap.size w w' := by
 rw [wright_is]
 have hW := WrAt.new w a b (c) d e f
 have hr := Lib.hid (show wrightC c (idRight (a, b)) d.size e.size f = 1 by unfold wrightC; rw [if_pos hc])
 have B0 := Lib.hid (show inB c 1 4 = false by unfold inB; rw [decide_eq_false]; omega)
 clear hc
 go_enter Tryz.func7, Tryz.ntmps7
 go_wp2_with fail
 refine (within_is B0 _).mono ?_
 rintro r w0 ⟨rfl, rfl⟩
 go_wp2
 go_ret
 exact ⟨by rw [hr.out]; rfl, below1 w _⟩
theorem rwright_any (x : Wr) (w : World) : Calls Tryz.prog 7 #[wrV x.1 x.2.1 x.2.2.1 x.2.2.2.1 x.2.2.2.2.1 x.2.2.2.2.2] w fun r w' => r = .returned (.int .i64 (wright x)) ∧ Below w.heap.size w w' := by
 obtain ⟨a, b, c, d, e, f⟩ := x
 by_cases h : c < 1 ∨ 4 < c
 ·exact rwright0 a b c f d e w h
 ·rcases (by omega : c = 1 ∨ c = 2 ∨ c = 3 ∨ c = 4) with rfl | rfl | rfl | rfl
  ·exact rwright1 a b f d e w
  ·exact rwright2 a b f d e w
  ·exact rwright3 a b f d e w
  ·exact rwright4 a b f d e w
end Go.Proofs.YtlpkpfpmcppciaaGreatDoor
end
