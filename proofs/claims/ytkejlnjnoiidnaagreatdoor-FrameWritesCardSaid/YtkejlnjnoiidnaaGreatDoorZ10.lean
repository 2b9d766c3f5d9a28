/- WriteRight of the reference says what wright says. Printed by gen_write2.py.

What Zig and Zag, of package vary and of the reference, compute: contracts for other laws (from XZigs).

write.Tail says what wtail says. -/
import Derived.Test.YtkejlnjnoiidnaaGreatDoorZ8
import Derived.Test.YtkejlnjnoiidnaaGreatDoorZ2
import Derived.Test.YtkejlnjnoiidnaaGreatDoorShelfItoa
import Derived.Test.YtkejlnjnoiidnaaGreatDoorZ6
import Derived.WalkKit
import Derived.WalkLawsBesides
import Derived.WalkSpells
import Derived.ProofKit
import Derived.OpenShut
import Derived.Laws.DeepNot64
import Derived.Test.YtkejlnjnoiidnaaGreatDoorZ4
section
namespace Go.Proofs.YtkejlnjnoiidnaaGreatDoor
set_option linter.unusedSimpArgs false
open Go.RowKit As
theorem itoa1 (w : World) : Calls Tryz.prog 120 #[.int .i64 1] w fun e w' => e = .returned (.string ⟨#[49]⟩) ∧ w = w' :=
  (Tryz.strconv_Itoa_small 1 (by omega) w).mono fun _ _ h => ⟨by rw [h.1, show Lib.decDigits 1 = [49] by first | decide | kernel_rfl], h.2.symm⟩
theorem has1 (w : World) : Calls Tryz.prog 119 #[.string ⟨#[50, 51]⟩, .string ⟨#[49]⟩] w fun e w' => e = .returned (.bool false) ∧ w = w' :=
  (Tryz.strings_Contains_one ⟨#[50, 51]⟩ 49 w).mono fun _ _ h => ⟨by rw [h.1]; exact retB (by decide), h.2.symm⟩
theorem itoa2 (w : World) : Calls Tryz.prog 120 #[.int .i64 2] w fun e w' => e = .returned (.string ⟨#[50]⟩) ∧ w = w' :=
  (Tryz.strconv_Itoa_small 2 (by omega) w).mono fun _ _ h => ⟨by rw [h.1, show Lib.decDigits 2 = [50] by first | decide | kernel_rfl], h.2.symm⟩
theorem has2 (w : World) : Calls Tryz.prog 119 #[.string ⟨#[50, 51]⟩, .string ⟨#[50]⟩] w fun e w' => e = .returned (.bool true) ∧ w = w' :=
  (Tryz.strings_Contains_one ⟨#[50, 51]⟩ 50 w).mono fun _ _ h => ⟨by rw [h.1]; exact retB (by decide), h.2.symm⟩
theorem itoa3 (w : World) : Calls Tryz.prog 120 #[.int .i64 3] w fun e w' => e = .returned (.string ⟨#[51]⟩) ∧ w = w' :=
  (Tryz.strconv_Itoa_small 3 (by omega) w).mono fun _ _ h => ⟨by rw [h.1, show Lib.decDigits 3 = [51] by first | decide | kernel_rfl], h.2.symm⟩
theorem has3 (w : World) : Calls Tryz.prog 119 #[.string ⟨#[50, 51]⟩, .string ⟨#[51]⟩] w fun e w' => e = .returned (.bool true) ∧ w = w' :=
  (Tryz.strings_Contains_one ⟨#[50, 51]⟩ 51 w).mono fun _ _ h => ⟨by rw [h.1]; exact retB (by decide), h.2.symm⟩
theorem itoa4 (w : World) : Calls Tryz.prog 120 #[.int .i64 4] w fun e w' => e = .returned (.string ⟨#[52]⟩) ∧ w = w' :=
  (Tryz.strconv_Itoa_small 4 (by omega) w).mono fun _ _ h => ⟨by rw [h.1, show Lib.decDigits 4 = [52] by first | decide | kernel_rfl], h.2.symm⟩
theorem has4 (w : World) : Calls Tryz.prog 119 #[.string ⟨#[50, 51]⟩, .string ⟨#[52]⟩] w fun e w' => e = .returned (.bool false) ∧ w = w' :=
  (Tryz.strings_Contains_one ⟨#[50, 51]⟩ 52 w).mono fun _ _ h => ⟨by rw [h.1]; exact retB (by decide), h.2.symm⟩
set_option maxHeartbeats 2000000 in
set_option maxRecDepth 100000 in
theorem rwright1 (a b f : Int) (d e : ByteArray) (w : World) : Calls Tryz.prog 72 #[wrV a b (1) d e f] w fun r w' => r = .returned (.int .i64 (wright (a, b, 1, d, e, f))) ∧ Below w.heap.size w w' := by
  rw [wright_is]
  have hW := WrAt.new w a b (1) d e f
  cases hidv : idRight (a, b) with
  | false =>
    have hid := Lib.hid hidv
    clear hidv
    have hr := Lib.hid (show wrightC 1 false d.size e.size f = 2 by unfold wrightC; rw [if_neg (by omega), if_pos rfl])
    have B0 := Lib.hid (show inB 1 1 4 = true by decide)
    go_enter Tryz.func72, Tryz.ntmps72
    go_wp2_with fail
    refine (within_is B0 _).mono ?_
    rintro r w0 ⟨rfl, rfl⟩
    go_wp2_with fail
    refine (ridright_any a b _).mono ?_
    rintro r w1 ⟨rfl, hb1⟩
    rw [hid.out]
    obtain ⟨c0, c1, c2, c3, c4, c5⟩ := hW.below hb1
    have hbl : Below w.heap.size w w1 := (below1 w _).trans (hb1.mono (by simp))
    go_wp2
    go_ret
    exact ⟨by rw [hr.out]; rfl, hbl⟩
  | true =>
    have hid := Lib.hid hidv
    clear hidv
    by_cases h1 : 40 < d.size
    · have hr := Lib.hid (show wrightC 1 true d.size e.size f = 4 by unfold wrightC; rw [if_neg (by omega), if_neg (by simp), if_pos (by omega)])
      have s0 : decide (40 < d.size) = true := by simp only [decide_eq_true_eq, decide_eq_false_iff_not]; omega
      have t0 : decide (40 < (d.size : Int)) = true := by simp only [decide_eq_true_eq, decide_eq_false_iff_not]; omega
      clear h1
      have B0 := Lib.hid (show inB 1 1 4 = true by decide)
      go_enter Tryz.func72, Tryz.ntmps72
      go_wp2_with fail
      refine (within_is B0 _).mono ?_
      rintro r w0 ⟨rfl, rfl⟩
      go_wp2_with fail
      refine (ridright_any a b _).mono ?_
      rintro r w1 ⟨rfl, hb1⟩
      rw [hid.out]
      obtain ⟨c0, c1, c2, c3, c4, c5⟩ := hW.below hb1
      have hbl : Below w.heap.size w w1 := (below1 w _).trans (hb1.mono (by simp))
      go_wp2
      go_ret
      exact ⟨by rw [hr.out]; rfl, hbl⟩
    · by_cases h2 : 300 < e.size
      · have hr := Lib.hid (show wrightC 1 true d.size e.size f = 4 by unfold wrightC; rw [if_neg (by omega), if_neg (by simp), if_pos (by omega)])
        have s0 : decide (40 < d.size) = false := by simp only [decide_eq_true_eq, decide_eq_false_iff_not]; omega
        have t0 : decide (40 < (d.size : Int)) = false := by simp only [decide_eq_true_eq, decide_eq_false_iff_not]; omega
        have s1 : decide (300 < e.size) = true := by simp only [decide_eq_true_eq, decide_eq_false_iff_not]; omega
        have t1 : decide (300 < (e.size : Int)) = true := by simp only [decide_eq_true_eq, decide_eq_false_iff_not]; omega
        clear h1 h2
        have B0 := Lib.hid (show inB 1 1 4 = true by decide)
        go_enter Tryz.func72, Tryz.ntmps72
        go_wp2_with fail
        refine (within_is B0 _).mono ?_
        rintro r w0 ⟨rfl, rfl⟩
        go_wp2_with fail
        refine (ridright_any a b _).mono ?_
        rintro r w1 ⟨rfl, hb1⟩
        rw [hid.out]
        obtain ⟨c0, c1, c2, c3, c4, c5⟩ := hW.below hb1
        have hbl : Below w.heap.size w w1 := (below1 w _).trans (hb1.mono (by simp))
        go_wp2
        go_ret
        exact ⟨by rw [hr.out]; rfl, hbl⟩
      · have hz := str_empty' e
        have s0 : decide (40 < d.size) = false := by simp only [decide_eq_true_eq, decide_eq_false_iff_not]; omega
        have t0 : decide (40 < (d.size : Int)) = false := by simp only [decide_eq_true_eq, decide_eq_false_iff_not]; omega
        have s1 : decide (300 < e.size) = false := by simp only [decide_eq_true_eq, decide_eq_false_iff_not]; omega
        have t1 : decide (300 < (e.size : Int)) = false := by simp only [decide_eq_true_eq, decide_eq_false_iff_not]; omega
        have HZ := Lib.hid hz
        clear hz
        by_cases h3 : e.size = 0
        · by_cases h4 : f = 0
          · skip
            have hr := Lib.hid (show wrightC 1 true d.size e.size f = 0 by unfold wrightC; rw [if_neg (by omega), if_neg (by simp), if_neg (by omega), if_neg (by omega), if_neg (by omega)])
            have q0 : e.toList.isEmpty = true := by rw [HZ.out]; simp only [decide_eq_true_eq, decide_eq_false_iff_not]; omega
            have q1 : (f != 0) = false := by simp only [bne_iff_ne, bne_eq_false_iff_eq, ne_eq]; omega
            clear h1 h2 h3 h4
            have B0 := Lib.hid (show inB 1 1 4 = true by decide)
            go_enter Tryz.func72, Tryz.ntmps72
            go_wp2_with fail
            refine (within_is B0 _).mono ?_
            rintro r w0 ⟨rfl, rfl⟩
            go_wp2_with fail
            refine (ridright_any a b _).mono ?_
            rintro r w1 ⟨rfl, hb1⟩
            rw [hid.out]
            obtain ⟨c0, c1, c2, c3, c4, c5⟩ := hW.below hb1
            have hbl : Below w.heap.size w w1 := (below1 w _).trans (hb1.mono (by simp))
            go_wp2
            go_ret
            exact ⟨by rw [hr.out]; rfl, hbl⟩
          · skip
            have hr := Lib.hid (show wrightC 1 true d.size e.size f = 3 by unfold wrightC; rw [if_neg (by omega), if_neg (by simp), if_neg (by omega), if_pos (by omega)])
            have q0 : e.toList.isEmpty = true := by rw [HZ.out]; simp only [decide_eq_true_eq, decide_eq_false_iff_not]; omega
            have q1 : (f != 0) = true := by simp only [bne_iff_ne, bne_eq_false_iff_eq, ne_eq]; omega
            clear h1 h2 h3 h4
            have B0 := Lib.hid (show inB 1 1 4 = true by decide)
            go_enter Tryz.func72, Tryz.ntmps72
            go_wp2_with fail
            refine (within_is B0 _).mono ?_
            rintro r w0 ⟨rfl, rfl⟩
            go_wp2_with fail
            refine (ridright_any a b _).mono ?_
            rintro r w1 ⟨rfl, hb1⟩
            rw [hid.out]
            obtain ⟨c0, c1, c2, c3, c4, c5⟩ := hW.below hb1
            have hbl : Below w.heap.size w w1 := (below1 w _).trans (hb1.mono (by simp))
            go_wp2
            go_ret
            exact ⟨by rw [hr.out]; rfl, hbl⟩
        · by_cases h4 : f = 0
          · skip
            have hr := Lib.hid (show wrightC 1 true d.size e.size f = 0 by unfold wrightC; rw [if_neg (by omega), if_neg (by simp), if_neg (by omega), if_neg (by omega), if_neg (by omega)])
            have q0 : e.toList.isEmpty = false := by rw [HZ.out]; simp only [decide_eq_true_eq, decide_eq_false_iff_not]; omega
            have q1 : (f != 0) = false := by simp only [bne_iff_ne, bne_eq_false_iff_eq, ne_eq]; omega
            clear h1 h2 h3 h4
            have B0 := Lib.hid (show inB 1 1 4 = true by decide)
            go_enter Tryz.func72, Tryz.ntmps72
            go_wp2_with fail
            refine (within_is B0 _).mono ?_
            rintro r w0 ⟨rfl, rfl⟩
            go_wp2_with fail
            refine (ridright_any a b _).mono ?_
            rintro r w1 ⟨rfl, hb1⟩
            rw [hid.out]
            obtain ⟨c0, c1, c2, c3, c4, c5⟩ := hW.below hb1
            have hbl : Below w.heap.size w w1 := (below1 w _).trans (hb1.mono (by simp))
            go_wp2_with fail
            refine (itoa1 _).mono ?_
            rintro r w0 ⟨rfl, rfl⟩
            go_wp2_with fail
            refine (has1 _).mono ?_
            rintro r w0 ⟨rfl, rfl⟩
            go_wp2
            go_ret
            exact ⟨by rw [hr.out]; rfl, hbl⟩
          · skip
            have hr := Lib.hid (show wrightC 1 true d.size e.size f = 3 by unfold wrightC; rw [if_neg (by omega), if_neg (by simp), if_neg (by omega), if_pos (by omega)])
            have q0 : e.toList.isEmpty = false := by rw [HZ.out]; simp only [decide_eq_true_eq, decide_eq_false_iff_not]; omega
            have q1 : (f != 0) = true := by simp only [bne_iff_ne, bne_eq_false_iff_eq, ne_eq]; omega
            clear h1 h2 h3 h4
            have B0 := Lib.hid (show inB 1 1 4 = true by decide)
            go_enter Tryz.func72, Tryz.ntmps72
            go_wp2_with fail
            refine (within_is B0 _).mono ?_
            rintro r w0 ⟨rfl, rfl⟩
            go_wp2_with fail
            refine (ridright_any a b _).mono ?_
            rintro r w1 ⟨rfl, hb1⟩
            rw [hid.out]
            obtain ⟨c0, c1, c2, c3, c4, c5⟩ := hW.below hb1
            have hbl : Below w.heap.size w w1 := (below1 w _).trans (hb1.mono (by simp))
            go_wp2_with fail
            refine (itoa1 _).mono ?_
            rintro r w0 ⟨rfl, rfl⟩
            go_wp2_with fail
            refine (has1 _).mono ?_
            rintro r w0 ⟨rfl, rfl⟩
            go_wp2
            go_ret
            exact ⟨by rw [hr.out]; rfl, hbl⟩
set_option maxHeartbeats 2000000 in
set_option maxRecDepth 100000 in
theorem rwright2 (a b f : Int) (d e : ByteArray) (w : World) : Calls Tryz.prog 72 #[wrV a b (2) d e f] w fun r w' => r = .returned (.int .i64 (wright (a, b, 2, d, e, f))) ∧ Below w.heap.size w w' := by
  rw [wright_is]
  have hW := WrAt.new w a b (2) d e f
  cases hidv : idRight (a, b) with
  | false =>
    have hid := Lib.hid hidv
    clear hidv
    have hr := Lib.hid (show wrightC 2 false d.size e.size f = 2 by unfold wrightC; rw [if_neg (by omega), if_pos rfl])
    have B0 := Lib.hid (show inB 2 1 4 = true by decide)
    go_enter Tryz.func72, Tryz.ntmps72
    go_wp2_with fail
    refine (within_is B0 _).mono ?_
    rintro r w0 ⟨rfl, rfl⟩
    go_wp2_with fail
    refine (ridright_any a b _).mono ?_
    rintro r w1 ⟨rfl, hb1⟩
    rw [hid.out]
    obtain ⟨c0, c1, c2, c3, c4, c5⟩ := hW.below hb1
    have hbl : Below w.heap.size w w1 := (below1 w _).trans (hb1.mono (by simp))
    go_wp2
    go_ret
    exact ⟨by rw [hr.out]; rfl, hbl⟩
  | true =>
    have hid := Lib.hid hidv
    clear hidv
    by_cases h1 : 40 < d.size
    · have hr := Lib.hid (show wrightC 2 true d.size e.size f = 4 by unfold wrightC; rw [if_neg (by omega), if_neg (by simp), if_pos (by omega)])
      have s0 : decide (40 < d.size) = true := by simp only [decide_eq_true_eq, decide_eq_false_iff_not]; omega
      have t0 : decide (40 < (d.size : Int)) = true := by simp only [decide_eq_true_eq, decide_eq_false_iff_not]; omega
      clear h1
      have B0 := Lib.hid (show inB 2 1 4 = true by decide)
      go_enter Tryz.func72, Tryz.ntmps72
      go_wp2_with fail
      refine (within_is B0 _).mono ?_
      rintro r w0 ⟨rfl, rfl⟩
      go_wp2_with fail
      refine (ridright_any a b _).mono ?_
      rintro r w1 ⟨rfl, hb1⟩
      rw [hid.out]
      obtain ⟨c0, c1, c2, c3, c4, c5⟩ := hW.below hb1
      have hbl : Below w.heap.size w w1 := (below1 w _).trans (hb1.mono (by simp))
      go_wp2
      go_ret
      exact ⟨by rw [hr.out]; rfl, hbl⟩
    · by_cases h2 : 300 < e.size
      · have hr := Lib.hid (show wrightC 2 true d.size e.size f = 4 by unfold wrightC; rw [if_neg (by omega), if_neg (by simp), if_pos (by omega)])
        have s0 : decide (40 < d.size) = false := by simp only [decide_eq_true_eq, decide_eq_false_iff_not]; omega
        have t0 : decide (40 < (d.size : Int)) = false := by simp only [decide_eq_true_eq, decide_eq_false_iff_not]; omega
        have s1 : decide (300 < e.size) = true := by simp only [decide_eq_true_eq, decide_eq_false_iff_not]; omega
        have t1 : decide (300 < (e.size : Int)) = true := by simp only [decide_eq_true_eq, decide_eq_false_iff_not]; omega
        clear h1 h2
        have B0 := Lib.hid (show inB 2 1 4 = true by decide)
        go_enter Tryz.func72, Tryz.ntmps72
        go_wp2_with fail
        refine (within_is B0 _).mono ?_
        rintro r w0 ⟨rfl, rfl⟩
        go_wp2_with fail
        refine (ridright_any a b _).mono ?_
        rintro r w1 ⟨rfl, hb1⟩
        rw [hid.out]
        obtain ⟨c0, c1, c2, c3, c4, c5⟩ := hW.below hb1
        have hbl : Below w.heap.size w w1 := (below1 w _).trans (hb1.mono (by simp))
        go_wp2
        go_ret
        exact ⟨by rw [hr.out]; rfl, hbl⟩
      · have hz := str_empty' e
        have s0 : decide (40 < d.size) = false := by simp only [decide_eq_true_eq, decide_eq_false_iff_not]; omega
        have t0 : decide (40 < (d.size : Int)) = false := by simp only [decide_eq_true_eq, decide_eq_false_iff_not]; omega
        have s1 : decide (300 < e.size) = false := by simp only [decide_eq_true_eq, decide_eq_false_iff_not]; omega
        have t1 : decide (300 < (e.size : Int)) = false := by simp only [decide_eq_true_eq, decide_eq_false_iff_not]; omega
        have HZ := Lib.hid hz
        clear hz
        by_cases h3 : e.size = 0
        · by_cases h4 : f = 0
          · skip
            have hr := Lib.hid (show wrightC 2 true d.size e.size f = 0 by unfold wrightC; rw [if_neg (by omega), if_neg (by simp), if_neg (by omega), if_neg (by omega), if_neg (by omega)])
            have q0 : e.toList.isEmpty = true := by rw [HZ.out]; simp only [decide_eq_true_eq, decide_eq_false_iff_not]; omega
            have q1 : (f != 0) = false := by simp only [bne_iff_ne, bne_eq_false_iff_eq, ne_eq]; omega
            clear h1 h2 h3 h4
            have B0 := Lib.hid (show inB 2 1 4 = true by decide)
            go_enter Tryz.func72, Tryz.ntmps72
            go_wp2_with fail
            refine (within_is B0 _).mono ?_
            rintro r w0 ⟨rfl, rfl⟩
            go_wp2_with fail
            refine (ridright_any a b _).mono ?_
            rintro r w1 ⟨rfl, hb1⟩
            rw [hid.out]
            obtain ⟨c0, c1, c2, c3, c4, c5⟩ := hW.below hb1
            have hbl : Below w.heap.size w w1 := (below1 w _).trans (hb1.mono (by simp))
            go_wp2
            go_ret
            exact ⟨by rw [hr.out]; rfl, hbl⟩
          · skip
            have hr := Lib.hid (show wrightC 2 true d.size e.size f = 3 by unfold wrightC; rw [if_neg (by omega), if_neg (by simp), if_neg (by omega), if_pos (by omega)])
            have q0 : e.toList.isEmpty = true := by rw [HZ.out]; simp only [decide_eq_true_eq, decide_eq_false_iff_not]; omega
            have q1 : (f != 0) = true := by simp only [bne_iff_ne, bne_eq_false_iff_eq, ne_eq]; omega
            clear h1 h2 h3 h4
            have B0 := Lib.hid (show inB 2 1 4 = true by decide)
            go_enter Tryz.func72, Tryz.ntmps72
            go_wp2_with fail
            refine (within_is B0 _).mono ?_
            rintro r w0 ⟨rfl, rfl⟩
            go_wp2_with fail
            refine (ridright_any a b _).mono ?_
            rintro r w1 ⟨rfl, hb1⟩
            rw [hid.out]
            obtain ⟨c0, c1, c2, c3, c4, c5⟩ := hW.below hb1
            have hbl : Below w.heap.size w w1 := (below1 w _).trans (hb1.mono (by simp))
            go_wp2
            go_ret
            exact ⟨by rw [hr.out]; rfl, hbl⟩
        · skip
          have hr := Lib.hid (show wrightC 2 true d.size e.size f = 3 by unfold wrightC; rw [if_neg (by omega), if_neg (by simp), if_neg (by omega), if_pos (by omega)])
          have q0 : e.toList.isEmpty = false := by rw [HZ.out]; simp only [decide_eq_true_eq, decide_eq_false_iff_not]; omega
          clear h1 h2 h3
          have B0 := Lib.hid (show inB 2 1 4 = true by decide)
          go_enter Tryz.func72, Tryz.ntmps72
          go_wp2_with fail
          refine (within_is B0 _).mono ?_
          rintro r w0 ⟨rfl, rfl⟩
          go_wp2_with fail
          refine (ridright_any a b _).mono ?_
          rintro r w1 ⟨rfl, hb1⟩
          rw [hid.out]
          obtain ⟨c0, c1, c2, c3, c4, c5⟩ := hW.below hb1
          have hbl : Below w.heap.size w w1 := (below1 w _).trans (hb1.mono (by simp))
          go_wp2_with fail
          refine (itoa2 _).mono ?_
          rintro r w0 ⟨rfl, rfl⟩
          go_wp2_with fail
          refine (has2 _).mono ?_
          rintro r w0 ⟨rfl, rfl⟩
          go_wp2
          go_ret
          exact ⟨by rw [hr.out]; rfl, hbl⟩
set_option maxHeartbeats 2000000 in
set_option maxRecDepth 100000 in
theorem rwright3 (a b f : Int) (d e : ByteArray) (w : World) : Calls Tryz.prog 72 #[wrV a b (3) d e f] w fun r w' => r = .returned (.int .i64 (wright (a, b, 3, d, e, f))) ∧ Below w.heap.size w w' := by
  rw [wright_is]
  have hW := WrAt.new w a b (3) d e f
  cases hidv : idRight (a, b) with
  | false =>
    have hid := Lib.hid hidv
    clear hidv
    have hr := Lib.hid (show wrightC 3 false d.size e.size f = 2 by unfold wrightC; rw [if_neg (by omega), if_pos rfl])
    have B0 := Lib.hid (show inB 3 1 4 = true by decide)
    go_enter Tryz.func72, Tryz.ntmps72
    go_wp2_with fail
    refine (within_is B0 _).mono ?_
    rintro r w0 ⟨rfl, rfl⟩
    go_wp2_with fail
    refine (ridright_any a b _).mono ?_
    rintro r w1 ⟨rfl, hb1⟩
    rw [hid.out]
    obtain ⟨c0, c1, c2, c3, c4, c5⟩ := hW.below hb1
    have hbl : Below w.heap.size w w1 := (below1 w _).trans (hb1.mono (by simp))
    go_wp2
    go_ret
    exact ⟨by rw [hr.out]; rfl, hbl⟩
  | true =>
    have hid := Lib.hid hidv
    clear hidv
    by_cases h1 : 40 < d.size
    · have hr := Lib.hid (show wrightC 3 true d.size e.size f = 4 by unfold wrightC; rw [if_neg (by omega), if_neg (by simp), if_pos (by omega)])
      have s0 : decide (40 < d.size) = true := by simp only [decide_eq_true_eq, decide_eq_false_iff_not]; omega
      have t0 : decide (40 < (d.size : Int)) = true := by simp only [decide_eq_true_eq, decide_eq_false_iff_not]; omega
      clear h1
      have B0 := Lib.hid (show inB 3 1 4 = true by decide)
      go_enter Tryz.func72, Tryz.ntmps72
      go_wp2_with fail
      refine (within_is B0 _).mono ?_
      rintro r w0 ⟨rfl, rfl⟩
      go_wp2_with fail
      refine (ridright_any a b _).mono ?_
      rintro r w1 ⟨rfl, hb1⟩
      rw [hid.out]
      obtain ⟨c0, c1, c2, c3, c4, c5⟩ := hW.below hb1
      have hbl : Below w.heap.size w w1 := (below1 w _).trans (hb1.mono (by simp))
      go_wp2
      go_ret
      exact ⟨by rw [hr.out]; rfl, hbl⟩
    · by_cases h2 : 300 < e.size
      · have hr := Lib.hid (show wrightC 3 true d.size e.size f = 4 by unfold wrightC; rw [if_neg (by omega), if_neg (by simp), if_pos (by omega)])
        have s0 : decide (40 < d.size) = false := by simp only [decide_eq_true_eq, decide_eq_false_iff_not]; omega
        have t0 : decide (40 < (d.size : Int)) = false := by simp only [decide_eq_true_eq, decide_eq_false_iff_not]; omega
        have s1 : decide (300 < e.size) = true := by simp only [decide_eq_true_eq, decide_eq_false_iff_not]; omega
        have t1 : decide (300 < (e.size : Int)) = true := by simp only [decide_eq_true_eq, decide_eq_false_iff_not]; omega
        clear h1 h2
        have B0 := Lib.hid (show inB 3 1 4 = true by decide)
        go_enter Tryz.func72, Tryz.ntmps72
        go_wp2_with fail
        refine (within_is B0 _).mono ?_
        rintro r w0 ⟨rfl, rfl⟩
        go_wp2_with fail
        refine (ridright_any a b _).mono ?_
        rintro r w1 ⟨rfl, hb1⟩
        rw [hid.out]
        obtain ⟨c0, c1, c2, c3, c4, c5⟩ := hW.below hb1
        have hbl : Below w.heap.size w w1 := (below1 w _).trans (hb1.mono (by simp))
        go_wp2
        go_ret
        exact ⟨by rw [hr.out]; rfl, hbl⟩
      · have hz := str_empty' e
        have s0 : decide (40 < d.size) = false := by simp only [decide_eq_true_eq, decide_eq_false_iff_not]; omega
        have t0 : decide (40 < (d.size : Int)) = false := by simp only [decide_eq_true_eq, decide_eq_false_iff_not]; omega
        have s1 : decide (300 < e.size) = false := by simp only [decide_eq_true_eq, decide_eq_false_iff_not]; omega
        have t1 : decide (300 < (e.size : Int)) = false := by simp only [decide_eq_true_eq, decide_eq_false_iff_not]; omega
        have HZ := Lib.hid hz
        clear hz
        by_cases h3 : e.size = 0
        · by_cases h4 : f = 0
          · skip
            have hr := Lib.hid (show wrightC 3 true d.size e.size f = 0 by unfold wrightC; rw [if_neg (by omega), if_neg (by simp), if_neg (by omega), if_neg (by omega), if_neg (by omega)])
            have q0 : e.toList.isEmpty = true := by rw [HZ.out]; simp only [decide_eq_true_eq, decide_eq_false_iff_not]; omega
            have q1 : (f != 0) = false := by simp only [bne_iff_ne, bne_eq_false_iff_eq, ne_eq]; omega
            have q2 := Lib.hid (show inB f (-1125899906842624) 1125899906842624 = true by unfold inB; rw [decide_eq_true]; omega)
            clear h1 h2 h3 h4
            have B0 := Lib.hid (show inB 3 1 4 = true by decide)
            go_enter Tryz.func72, Tryz.ntmps72
            go_wp2_with fail
            refine (within_is B0 _).mono ?_
            rintro r w0 ⟨rfl, rfl⟩
            go_wp2_with fail
            refine (ridright_any a b _).mono ?_
            rintro r w1 ⟨rfl, hb1⟩
            rw [hid.out]
            obtain ⟨c0, c1, c2, c3, c4, c5⟩ := hW.below hb1
            have hbl : Below w.heap.size w w1 := (below1 w _).trans (hb1.mono (by simp))
            go_wp2_with fail
            refine (within_is q2 _).mono ?_
            rintro r w0 ⟨rfl, rfl⟩
            go_wp2
            go_ret
            exact ⟨by rw [hr.out]; rfl, hbl⟩
          · by_cases h5 : (-1125899906842624 ≤ f ∧ f ≤ 1125899906842624)
            · skip
              have hr := Lib.hid (show wrightC 3 true d.size e.size f = 0 by unfold wrightC; rw [if_neg (by omega), if_neg (by simp), if_neg (by omega), if_neg (by omega), if_neg (by omega)])
              have q0 : e.toList.isEmpty = true := by rw [HZ.out]; simp only [decide_eq_true_eq, decide_eq_false_iff_not]; omega
              have q1 : (f != 0) = true := by simp only [bne_iff_ne, bne_eq_false_iff_eq, ne_eq]; omega
              have q2 := Lib.hid (show inB f (-1125899906842624) 1125899906842624 = true by unfold inB; rw [decide_eq_true]; omega)
              clear h1 h2 h3 h4 h5
              have B0 := Lib.hid (show inB 3 1 4 = true by decide)
              go_enter Tryz.func72, Tryz.ntmps72
              go_wp2_with fail
              refine (within_is B0 _).mono ?_
              rintro r w0 ⟨rfl, rfl⟩
              go_wp2_with fail
              refine (ridright_any a b _).mono ?_
              rintro r w1 ⟨rfl, hb1⟩
              rw [hid.out]
              obtain ⟨c0, c1, c2, c3, c4, c5⟩ := hW.below hb1
              have hbl : Below w.heap.size w w1 := (below1 w _).trans (hb1.mono (by simp))
              go_wp2_with fail
              refine (within_is q2 _).mono ?_
              rintro r w0 ⟨rfl, rfl⟩
              go_wp2
              go_ret
              exact ⟨by rw [hr.out]; rfl, hbl⟩
            · skip
              have hr := Lib.hid (show wrightC 3 true d.size e.size f = 2 by unfold wrightC; rw [if_neg (by omega), if_neg (by simp), if_neg (by omega), if_neg (by omega), if_pos (by omega)])
              have q0 : e.toList.isEmpty = true := by rw [HZ.out]; simp only [decide_eq_true_eq, decide_eq_false_iff_not]; omega
              have q1 : (f != 0) = true := by simp only [bne_iff_ne, bne_eq_false_iff_eq, ne_eq]; omega
              have q2 := Lib.hid (show inB f (-1125899906842624) 1125899906842624 = false by unfold inB; rw [decide_eq_false]; omega)
              clear h1 h2 h3 h4 h5
              have B0 := Lib.hid (show inB 3 1 4 = true by decide)
              go_enter Tryz.func72, Tryz.ntmps72
              go_wp2_with fail
              refine (within_is B0 _).mono ?_
              rintro r w0 ⟨rfl, rfl⟩
              go_wp2_with fail
              refine (ridright_any a b _).mono ?_
              rintro r w1 ⟨rfl, hb1⟩
              rw [hid.out]
              obtain ⟨c0, c1, c2, c3, c4, c5⟩ := hW.below hb1
              have hbl : Below w.heap.size w w1 := (below1 w _).trans (hb1.mono (by simp))
              go_wp2_with fail
              refine (within_is q2 _).mono ?_
              rintro r w0 ⟨rfl, rfl⟩
              go_wp2
              go_ret
              exact ⟨by rw [hr.out]; rfl, hbl⟩
        · skip
          have hr := Lib.hid (show wrightC 3 true d.size e.size f = 3 by unfold wrightC; rw [if_neg (by omega), if_neg (by simp), if_neg (by omega), if_pos (by omega)])
          have q0 : e.toList.isEmpty = false := by rw [HZ.out]; simp only [decide_eq_true_eq, decide_eq_false_iff_not]; omega
          clear h1 h2 h3
          have B0 := Lib.hid (show inB 3 1 4 = true by decide)
          go_enter Tryz.func72, Tryz.ntmps72
          go_wp2_with fail
          refine (within_is B0 _).mono ?_
          rintro r w0 ⟨rfl, rfl⟩
          go_wp2_with fail
          refine (ridright_any a b _).mono ?_
          rintro r w1 ⟨rfl, hb1⟩
          rw [hid.out]
          obtain ⟨c0, c1, c2, c3, c4, c5⟩ := hW.below hb1
          have hbl : Below w.heap.size w w1 := (below1 w _).trans (hb1.mono (by simp))
          go_wp2_with fail
          refine (itoa3 _).mono ?_
          rintro r w0 ⟨rfl, rfl⟩
          go_wp2_with fail
          refine (has3 _).mono ?_
          rintro r w0 ⟨rfl, rfl⟩
          go_wp2
          go_ret
          exact ⟨by rw [hr.out]; rfl, hbl⟩
set_option maxHeartbeats 2000000 in
set_option maxRecDepth 100000 in
theorem rwright4 (a b f : Int) (d e : ByteArray) (w : World) : Calls Tryz.prog 72 #[wrV a b (4) d e f] w fun r w' => r = .returned (.int .i64 (wright (a, b, 4, d, e, f))) ∧ Below w.heap.size w w' := by
  rw [wright_is]
  have hW := WrAt.new w a b (4) d e f
  cases hidv : idRight (a, b) with
  | false =>
    have hid := Lib.hid hidv
    clear hidv
    have hr := Lib.hid (show wrightC 4 false d.size e.size f = 2 by unfold wrightC; rw [if_neg (by omega), if_pos rfl])
    have B0 := Lib.hid (show inB 4 1 4 = true by decide)
    go_enter Tryz.func72, Tryz.ntmps72
    go_wp2_with fail
    refine (within_is B0 _).mono ?_
    rintro r w0 ⟨rfl, rfl⟩
    go_wp2_with fail
    refine (ridright_any a b _).mono ?_
    rintro r w1 ⟨rfl, hb1⟩
    rw [hid.out]
    obtain ⟨c0, c1, c2, c3, c4, c5⟩ := hW.below hb1
    have hbl : Below w.heap.size w w1 := (below1 w _).trans (hb1.mono (by simp))
    go_wp2
    go_ret
    exact ⟨by rw [hr.out]; rfl, hbl⟩
  | true =>
    have hid := Lib.hid hidv
    clear hidv
    by_cases h1 : 40 < d.size
    · have hr := Lib.hid (show wrightC 4 true d.size e.size f = 4 by unfold wrightC; rw [if_neg (by omega), if_neg (by simp), if_pos (by omega)])
      have s0 : decide (40 < d.size) = true := by simp only [decide_eq_true_eq, decide_eq_false_iff_not]; omega
      have t0 : decide (40 < (d.size : Int)) = true := by simp only [decide_eq_true_eq, decide_eq_false_iff_not]; omega
      clear h1
      have B0 := Lib.hid (show inB 4 1 4 = true by decide)
      go_enter Tryz.func72, Tryz.ntmps72
      go_wp2_with fail
      refine (within_is B0 _).mono ?_
      rintro r w0 ⟨rfl, rfl⟩
      go_wp2_with fail
      refine (ridright_any a b _).mono ?_
      rintro r w1 ⟨rfl, hb1⟩
      rw [hid.out]
      obtain ⟨c0, c1, c2, c3, c4, c5⟩ := hW.below hb1
      have hbl : Below w.heap.size w w1 := (below1 w _).trans (hb1.mono (by simp))
      go_wp2
      go_ret
      exact ⟨by rw [hr.out]; rfl, hbl⟩
    · by_cases h2 : 300 < e.size
      · have hr := Lib.hid (show wrightC 4 true d.size e.size f = 4 by unfold wrightC; rw [if_neg (by omega), if_neg (by simp), if_pos (by omega)])
        have s0 : decide (40 < d.size) = false := by simp only [decide_eq_true_eq, decide_eq_false_iff_not]; omega
        have t0 : decide (40 < (d.size : Int)) = false := by simp only [decide_eq_true_eq, decide_eq_false_iff_not]; omega
        have s1 : decide (300 < e.size) = true := by simp only [decide_eq_true_eq, decide_eq_false_iff_not]; omega
        have t1 : decide (300 < (e.size : Int)) = true := by simp only [decide_eq_true_eq, decide_eq_false_iff_not]; omega
        clear h1 h2
        have B0 := Lib.hid (show inB 4 1 4 = true by decide)
        go_enter Tryz.func72, Tryz.ntmps72
        go_wp2_with fail
        refine (within_is B0 _).mono ?_
        rintro r w0 ⟨rfl, rfl⟩
        go_wp2_with fail
        refine (ridright_any a b _).mono ?_
        rintro r w1 ⟨rfl, hb1⟩
        rw [hid.out]
        obtain ⟨c0, c1, c2, c3, c4, c5⟩ := hW.below hb1
        have hbl : Below w.heap.size w w1 := (below1 w _).trans (hb1.mono (by simp))
        go_wp2
        go_ret
        exact ⟨by rw [hr.out]; rfl, hbl⟩
      · have hz := str_empty' e
        have s0 : decide (40 < d.size) = false := by simp only [decide_eq_true_eq, decide_eq_false_iff_not]; omega
        have t0 : decide (40 < (d.size : Int)) = false := by simp only [decide_eq_true_eq, decide_eq_false_iff_not]; omega
        have s1 : decide (300 < e.size) = false := by simp only [decide_eq_true_eq, decide_eq_false_iff_not]; omega
        have t1 : decide (300 < (e.size : Int)) = false := by simp only [decide_eq_true_eq, decide_eq_false_iff_not]; omega
        have HZ := Lib.hid hz
        clear hz
        by_cases h3 : e.size = 0
        · by_cases h4 : f = 0
          · skip
            have hr := Lib.hid (show wrightC 4 true d.size e.size f = 0 by unfold wrightC; rw [if_neg (by omega), if_neg (by simp), if_neg (by omega), if_neg (by omega), if_neg (by omega)])
            have q0 : e.toList.isEmpty = true := by rw [HZ.out]; simp only [decide_eq_true_eq, decide_eq_false_iff_not]; omega
            have q1 : (f != 0) = false := by simp only [bne_iff_ne, bne_eq_false_iff_eq, ne_eq]; omega
            have q2 := Lib.hid (show inB f (0) 1000 = true by unfold inB; rw [decide_eq_true]; omega)
            clear h1 h2 h3 h4
            have B0 := Lib.hid (show inB 4 1 4 = true by decide)
            go_enter Tryz.func72, Tryz.ntmps72
            go_wp2_with fail
            refine (within_is B0 _).mono ?_
            rintro r w0 ⟨rfl, rfl⟩
            go_wp2_with fail
            refine (ridright_any a b _).mono ?_
            rintro r w1 ⟨rfl, hb1⟩
            rw [hid.out]
            obtain ⟨c0, c1, c2, c3, c4, c5⟩ := hW.below hb1
            have hbl : Below w.heap.size w w1 := (below1 w _).trans (hb1.mono (by simp))
            go_wp2_with fail
            refine (within_is q2 _).mono ?_
            rintro r w0 ⟨rfl, rfl⟩
            go_wp2
            go_ret
            exact ⟨by rw [hr.out]; rfl, hbl⟩
          · by_cases h5 : (0 ≤ f ∧ f ≤ 1000)
            · skip
              have hr := Lib.hid (show wrightC 4 true d.size e.size f = 0 by unfold wrightC; rw [if_neg (by omega), if_neg (by simp), if_neg (by omega), if_neg (by omega), if_neg (by omega)])
              have q0 : e.toList.isEmpty = true := by rw [HZ.out]; simp only [decide_eq_true_eq, decide_eq_false_iff_not]; omega
              have q1 : (f != 0) = true := by simp only [bne_iff_ne, bne_eq_false_iff_eq, ne_eq]; omega
              have q2 := Lib.hid (show inB f (0) 1000 = true by unfold inB; rw [decide_eq_true]; omega)
              clear h1 h2 h3 h4 h5
              have B0 := Lib.hid (show inB 4 1 4 = true by decide)
              go_enter Tryz.func72, Tryz.ntmps72
              go_wp2_with fail
              refine (within_is B0 _).mono ?_
              rintro r w0 ⟨rfl, rfl⟩
              go_wp2_with fail
              refine (ridright_any a b _).mono ?_
              rintro r w1 ⟨rfl, hb1⟩
              rw [hid.out]
              obtain ⟨c0, c1, c2, c3, c4, c5⟩ := hW.below hb1
              have hbl : Below w.heap.size w w1 := (below1 w _).trans (hb1.mono (by simp))
              go_wp2_with fail
              refine (within_is q2 _).mono ?_
              rintro r w0 ⟨rfl, rfl⟩
              go_wp2
              go_ret
              exact ⟨by rw [hr.out]; rfl, hbl⟩
            · skip
              have hr := Lib.hid (show wrightC 4 true d.size e.size f = 2 by unfold wrightC; rw [if_neg (by omega), if_neg (by simp), if_neg (by omega), if_neg (by omega), if_pos (by omega)])
              have q0 : e.toList.isEmpty = true := by rw [HZ.out]; simp only [decide_eq_true_eq, decide_eq_false_iff_not]; omega
              have q1 : (f != 0) = true := by simp only [bne_iff_ne, bne_eq_false_iff_eq, ne_eq]; omega
              have q2 := Lib.hid (show inB f (0) 1000 = false by unfold inB; rw [decide_eq_false]; omega)
              clear h1 h2 h3 h4 h5
              have B0 := Lib.hid (show inB 4 1 4 = true by decide)
              go_enter Tryz.func72, Tryz.ntmps72
              go_wp2_with fail
              refine (within_is B0 _).mono ?_
              rintro r w0 ⟨rfl, rfl⟩
              go_wp2_with fail
              refine (ridright_any a b _).mono ?_
              rintro r w1 ⟨rfl, hb1⟩
              rw [hid.out]
              obtain ⟨c0, c1, c2, c3, c4, c5⟩ := hW.below hb1
              have hbl : Below w.heap.size w w1 := (below1 w _).trans (hb1.mono (by simp))
              go_wp2_with fail
              refine (within_is q2 _).mono ?_
              rintro r w0 ⟨rfl, rfl⟩
              go_wp2
              go_ret
              exact ⟨by rw [hr.out]; rfl, hbl⟩
        · by_cases h4 : f = 0
          · skip
            have hr := Lib.hid (show wrightC 4 true d.size e.size f = 0 by unfold wrightC; rw [if_neg (by omega), if_neg (by simp), if_neg (by omega), if_neg (by omega), if_neg (by omega)])
            have q0 : e.toList.isEmpty = false := by rw [HZ.out]; simp only [decide_eq_true_eq, decide_eq_false_iff_not]; omega
            have q1 : (f != 0) = false := by simp only [bne_iff_ne, bne_eq_false_iff_eq, ne_eq]; omega
            have q2 := Lib.hid (show inB f (0) 1000 = true by unfold inB; rw [decide_eq_true]; omega)
            clear h1 h2 h3 h4
            have B0 := Lib.hid (show inB 4 1 4 = true by decide)
            go_enter Tryz.func72, Tryz.ntmps72
            go_wp2_with fail
            refine (within_is B0 _).mono ?_
            rintro r w0 ⟨rfl, rfl⟩
            go_wp2_with fail
            refine (ridright_any a b _).mono ?_
            rintro r w1 ⟨rfl, hb1⟩
            rw [hid.out]
            obtain ⟨c0, c1, c2, c3, c4, c5⟩ := hW.below hb1
            have hbl : Below w.heap.size w w1 := (below1 w _).trans (hb1.mono (by simp))
            go_wp2_with fail
            refine (itoa4 _).mono ?_
            rintro r w0 ⟨rfl, rfl⟩
            go_wp2_with fail
            refine (has4 _).mono ?_
            rintro r w0 ⟨rfl, rfl⟩
            go_wp2_with fail
            refine (within_is q2 _).mono ?_
            rintro r w0 ⟨rfl, rfl⟩
            go_wp2
            go_ret
            exact ⟨by rw [hr.out]; rfl, hbl⟩
          · by_cases h5 : (0 ≤ f ∧ f ≤ 1000)
            · skip
              have hr := Lib.hid (show wrightC 4 true d.size e.size f = 0 by unfold wrightC; rw [if_neg (by omega), if_neg (by simp), if_neg (by omega), if_neg (by omega), if_neg (by omega)])
              have q0 : e.toList.isEmpty = false := by rw [HZ.out]; simp only [decide_eq_true_eq, decide_eq_false_iff_not]; omega
              have q1 : (f != 0) = true := by simp only [bne_iff_ne, bne_eq_false_iff_eq, ne_eq]; omega
              have q2 := Lib.hid (show inB f (0) 1000 = true by unfold inB; rw [decide_eq_true]; omega)
              clear h1 h2 h3 h4 h5
              have B0 := Lib.hid (show inB 4 1 4 = true by decide)
              go_enter Tryz.func72, Tryz.ntmps72
              go_wp2_with fail
              refine (within_is B0 _).mono ?_
              rintro r w0 ⟨rfl, rfl⟩
              go_wp2_with fail
              refine (ridright_any a b _).mono ?_
              rintro r w1 ⟨rfl, hb1⟩
              rw [hid.out]
              obtain ⟨c0, c1, c2, c3, c4, c5⟩ := hW.below hb1
              have hbl : Below w.heap.size w w1 := (below1 w _).trans (hb1.mono (by simp))
              go_wp2_with fail
              refine (itoa4 _).mono ?_
              rintro r w0 ⟨rfl, rfl⟩
              go_wp2_with fail
              refine (has4 _).mono ?_
              rintro r w0 ⟨rfl, rfl⟩
              go_wp2_with fail
              refine (within_is q2 _).mono ?_
              rintro r w0 ⟨rfl, rfl⟩
              go_wp2
              go_ret
              exact ⟨by rw [hr.out]; rfl, hbl⟩
            · skip
              have hr := Lib.hid (show wrightC 4 true d.size e.size f = 2 by unfold wrightC; rw [if_neg (by omega), if_neg (by simp), if_neg (by omega), if_neg (by omega), if_pos (by omega)])
              have q0 : e.toList.isEmpty = false := by rw [HZ.out]; simp only [decide_eq_true_eq, decide_eq_false_iff_not]; omega
              have q1 : (f != 0) = true := by simp only [bne_iff_ne, bne_eq_false_iff_eq, ne_eq]; omega
              have q2 := Lib.hid (show inB f (0) 1000 = false by unfold inB; rw [decide_eq_false]; omega)
              clear h1 h2 h3 h4 h5
              have B0 := Lib.hid (show inB 4 1 4 = true by decide)
              go_enter Tryz.func72, Tryz.ntmps72
              go_wp2_with fail
              refine (within_is B0 _).mono ?_
              rintro r w0 ⟨rfl, rfl⟩
              go_wp2_with fail
              refine (ridright_any a b _).mono ?_
              rintro r w1 ⟨rfl, hb1⟩
              rw [hid.out]
              obtain ⟨c0, c1, c2, c3, c4, c5⟩ := hW.below hb1
              have hbl : Below w.heap.size w w1 := (below1 w _).trans (hb1.mono (by simp))
              go_wp2_with fail
              refine (itoa4 _).mono ?_
              rintro r w0 ⟨rfl, rfl⟩
              go_wp2_with fail
              refine (has4 _).mono ?_
              rintro r w0 ⟨rfl, rfl⟩
              go_wp2_with fail
              refine (within_is q2 _).mono ?_
              rintro r w0 ⟨rfl, rfl⟩
              go_wp2
              go_ret
              exact ⟨by rw [hr.out]; rfl, hbl⟩
set_option maxHeartbeats 2000000 in
set_option maxRecDepth 100000 in
theorem rwright0 (a b c f : Int) (d e : ByteArray) (w : World) (hc : c < 1 ∨ 4 < c) : Calls Tryz.prog 72 #[wrV a b (c) d e f] w fun r w' => r = .returned (.int .i64 (wright (a, b, c, d, e, f))) ∧ Below w.heap.size w w' := by
  rw [wright_is]
  have hW := WrAt.new w a b (c) d e f
  have hr := Lib.hid (show wrightC c (idRight (a, b)) d.size e.size f = 1 by unfold wrightC; rw [if_pos hc])
  have B0 := Lib.hid (show inB c 1 4 = false by unfold inB; rw [decide_eq_false]; omega)
  clear hc
  go_enter Tryz.func72, Tryz.ntmps72
  go_wp2_with fail
  refine (within_is B0 _).mono ?_
  rintro r w0 ⟨rfl, rfl⟩
  go_wp2
  go_ret
  exact ⟨by rw [hr.out]; rfl, below1 w _⟩
theorem rwright_any (x : Wr) (w : World) : Calls Tryz.prog 72 #[wrV x.1 x.2.1 x.2.2.1 x.2.2.2.1 x.2.2.2.2.1 x.2.2.2.2.2] w fun r w' => r = .returned (.int .i64 (wright x)) ∧ Below w.heap.size w w' := by
  obtain ⟨a, b, c, d, e, f⟩ := x
  by_cases h : c < 1 ∨ 4 < c
  · exact rwright0 a b c f d e w h
  · rcases (by omega : c = 1 ∨ c = 2 ∨ c = 3 ∨ c = 4) with rfl | rfl | rfl | rfl
    · exact rwright1 a b f d e w
    · exact rwright2 a b f d e w
    · exact rwright3 a b f d e w
    · exact rwright4 a b f d e w
end Go.Proofs.YtkejlnjnoiidnaaGreatDoor
end

section
namespace Go.Proofs.YtkejlnjnoiidnaaGreatDoor.Zg
open Go.ChangeShapes Go.WideShapes Go.ChangeAt Go.RowKit
set_option linter.unusedVariables false

/- Plain facts on bits. -/
theorem xor_zero_u64 (a : Int) : bits .xor .u64 a 0 = a % 18446744073709551616 := by
  show IntKind.u64.wrap ((BitVec.ofInt 64 a ^^^ BitVec.ofInt 64 0).toNat : Int) = _
  have h : BitVec.ofInt 64 0 = 0#64 := by decide
  rw [h, BitVec.xor_zero, IntKind.wrap_u64, BitVec.toNat_ofInt]
  omega
theorem xor_ones_u64 (a : Nat) (ha : a < 18446744073709551616) : bits .xor .u64 (a : Int) 18446744073709551615 = 18446744073709551615 - (a : Int) := by
  show IntKind.u64.wrap ((BitVec.ofInt 64 (a : Int) ^^^ BitVec.ofInt 64 18446744073709551615).toNat : Int) = _
  have h1 : BitVec.ofInt 64 18446744073709551615 = BitVec.allOnes 64 := by decide
  rw [h1, BitVec.xor_allOnes, BitVec.toNat_not, ofInt_u64 a ha, IntKind.wrap_u64]
  omega
theorem xor_zero_i64 (a : Int) (h0 : 0 ≤ a) (h1 : a < 9223372036854775808) : bits .xor .i64 a 0 = a := by
  show IntKind.i64.wrap ((BitVec.ofInt 64 a ^^^ BitVec.ofInt 64 0).toNat : Int) = _
  have h : BitVec.ofInt 64 0 = 0#64 := by decide
  rw [h, BitVec.xor_zero, BitVec.toNat_ofInt]
  simp [IntKind.wrap, IntKind.bits, IntKind.signed]
  omega
theorem xor_ones_i64 (a : Int) (h0 : 0 ≤ a) (h1 : a < 9223372036854775808) : bits .xor .i64 a (-1) = -1 - a := by
  obtain ⟨m, rfl⟩ := Int.eq_ofNat_of_zero_le h0
  have h := i64_not m (by omega)
  have c : bits .xor .i64 (m : Int) (-1) = bits .xor .i64 (-1) (m : Int) := by
    show IntKind.i64.wrap ((BitVec.ofInt 64 (m : Int) ^^^ BitVec.ofInt 64 (-1)).toNat : Int) = IntKind.i64.wrap ((BitVec.ofInt 64 (-1) ^^^ BitVec.ofInt 64 (m : Int)).toNat : Int)
    rw [BitVec.xor_comm]
  rw [c, h]
theorem and_one_u64' (n : Int) (h0 : 0 ≤ n) (h1 : n ≤ 18446744073709551615) : bits .and .u64 n 1 = n % 2 := by
  have h := u64_and n 1 h0 (by omega) (by omega) (by omega)
  rw [h]
  have e : (1 : Int).toNat = 1 := rfl
  rw [e, nat_mask1]
  omega

theorem zig_neg (n : Int) (h0 : -9223372036854775808 ≤ n) (h1 : n < 0) :
    bits BinOp.xor IntKind.u64 (IntKind.u64.wrap (IntKind.u64.wrap n * 2)) (IntKind.u64.wrap (n / 9223372036854775808)) = 2 * -(n + 1) + 1 := by
  have e1 : n / 9223372036854775808 = -1 := by omega
  rw [e1]
  simp only [IntKind.wrap_u64]
  have e2 : (-1 : Int) % 18446744073709551616 = 18446744073709551615 := by decide
  rw [e2]
  have e3 : n % 18446744073709551616 * 2 % 18446744073709551616 = ((2 * n + 18446744073709551616).toNat : Int) := by omega
  rw [e3, xor_ones_u64 _ (by omega)]
  omega
theorem zig_pos (n : Int) (h0 : 0 ≤ n) (h1 : n ≤ 9223372036854775807) :
    bits BinOp.xor IntKind.u64 (IntKind.u64.wrap (IntKind.u64.wrap n * 2)) (IntKind.u64.wrap (n / 9223372036854775808)) = 2 * n := by
  have e1 : n / 9223372036854775808 = 0 := by omega
  rw [e1]
  simp only [IntKind.wrap_u64]
  have e2 : (0 : Int) % 18446744073709551616 = 0 := by decide
  rw [e2, xor_zero_u64]
  omega
theorem zag_even (n : Int) (h0 : 0 ≤ n) (h1 : n ≤ 18446744073709551615) (h2 : n % 2 = 0) :
    bits BinOp.xor IntKind.i64 (n / 2) (wrap64 (-wrap64 (bits BinOp.and IntKind.u64 n 1))) = n / 2 := by
  rw [and_one_u64' n h0 h1, h2]
  have e : wrap64 (-wrap64 0) = 0 := by simp [wrap64]
  rw [e, xor_zero_i64 _ (by omega) (by omega)]
theorem zag_odd (n : Int) (h0 : 0 ≤ n) (h1 : n ≤ 18446744073709551615) (h2 : n % 2 = 1) :
    bits BinOp.xor IntKind.i64 (n / 2) (wrap64 (-wrap64 (bits BinOp.and IntKind.u64 n 1))) = -(n / 2) - 1 := by
  rw [and_one_u64' n h0 h1, h2]
  have e : wrap64 (-wrap64 1) = -1 := by simp [wrap64]
  rw [e, xor_ones_i64 _ (by omega) (by omega)]
  omega

/- What each of the two pairs computes. -/
def zig (n : Int) : Int := if n < 0 then 2 * -(n + 1) + 1 else 2 * n
def zag (n : Int) : Int := if n % 2 = 1 then -(n / 2) - 1 else n / 2
theorem retI {k : IntKind} {a b : Int} (h : a = b) : Ending.returned (.int k a) = .returned (.int k b) := by rw [h]

theorem zig_any (n : Int) (w : World) (h0 : -9223372036854775808 ≤ n) (h1 : n ≤ 9223372036854775807) :
    Calls Tryz.prog 84 #[.int .i64 n] w fun e w' => e = .returned (.int .u64 (zig n)) ∧ w = w' := by
  go_enter Tryz.func84, Tryz.ntmps84
  go_wp2
  go_ret
  refine ⟨retI ?_, rfl⟩
  unfold zig
  split
  · exact zig_neg n h0 (by assumption)
  · exact zig_pos n (by omega) h1
theorem zag_any (n : Int) (w : World) (h0 : 0 ≤ n) (h1 : n ≤ 18446744073709551615) :
    Calls Tryz.prog 135 #[.int .u64 n] w fun e w' => e = .returned (.int .i64 (zag n)) ∧ w = w' := by
  go_enter Tryz.func135, Tryz.ntmps135
  go_wp2
  go_ret
  refine ⟨retI ?_, rfl⟩
  unfold zag
  split
  · exact zag_odd n h0 h1 (by assumption)
  · exact zag_even n h0 h1 (by omega)
theorem rzig_any (n : Int) (w : World) (h0 : -9223372036854775808 ≤ n) (h1 : n ≤ 9223372036854775807) :
    Calls Tryz.prog 77 #[.int .i64 n] w fun e w' => e = .returned (.int .u64 (zig n)) ∧ w = w' := by
  go_enter Tryz.func77, Tryz.ntmps77
  go_wp2
  · go_ret
    exact ⟨retI (by unfold zig; rw [if_pos (by assumption)]), rfl⟩
  · go_ret
    exact ⟨retI (by unfold zig; rw [if_neg (by omega)]), rfl⟩
theorem rzag_any (n : Int) (w : World) (h0 : 0 ≤ n) (h1 : n ≤ 18446744073709551615) :
    Calls Tryz.prog 101 #[.int .u64 n] w fun e w' => e = .returned (.int .i64 (zag n)) ∧ w = w' := by
  go_enter Tryz.func101, Tryz.ntmps101
  go_wp2
  · go_ret
    have h : (n % 2 == 1) = true := by assumption
    exact ⟨retI (by unfold zag; rw [if_pos (by simpa using h)]), rfl⟩
  · go_ret
    have h : (n % 2 == 1) = false := by assumption
    exact ⟨retI (by unfold zag; rw [if_neg (by simpa using h)]), rfl⟩

theorem zag_is (n : Nat) : zag (n : Int) = zagN n := by
  unfold zag zagN
  split <;> split <;> omega
theorem zig_is (n : Int) (h0 : -9223372036854775808 ≤ n) : zig n = (zigN n : Int) := by
  unfold zig zigN
  split <;> omega
end Go.Proofs.YtkejlnjnoiidnaaGreatDoor.Zg
end

section
namespace Go.Proofs.YtkejlnjnoiidnaaGreatDoor
set_option linter.unusedSimpArgs false
open Go.RowKit As
theorem wright_vals {a b c f : Int} {d e : ByteArray} (h : wright (a, b, c, d, e, f) = 0) : (c = 1 ∨ c = 2 ∨ c = 3 ∨ c = 4) ∧ d.size ≤ 40 ∧ e.size ≤ 300 ∧ (c = 2 → e.size = 0) ∧ (c = 3 → -1125899906842624 ≤ f ∧ f ≤ 1125899906842624) ∧ (c = 4 → 0 ≤ f ∧ f ≤ 1000) := by
  unfold wright at h
  simp only at h
  split at h
  · omega
  · split at h
    · omega
    · split at h
      · omega
      · split at h
        · omega
        · split at h
          · omega
          · omega
theorem span_small {s : ByteArray} (h : s.size ≤ 300) : spanOf s = (strOf (vput s.size) ++ s, 0) := by unfold spanOf; rw [if_neg (by omega)]
theorem wtail_bad {x : Wr} (h : wright x ≠ 0) : wtail x = (strOf [], wright x) := by unfold wtail; rw [if_pos h]
theorem wtail_good {x : Wr} (h : wright x = 0) : wtail x = (wtailOf x, 0) := by unfold wtail; rw [if_neg (by omega)]
set_option maxHeartbeats 2000000 in
set_option maxRecDepth 100000 in
theorem tail_any (x : Wr) (w : World) :
    Calls Tryz.prog 40 #[wrV x.1 x.2.1 x.2.2.1 x.2.2.2.1 x.2.2.2.2.1 x.2.2.2.2.2] w fun r w' => r = .returned (.tuple #[.string (wtail x).1, errV (wtail x).2]) ∧ Below w.heap.size w w' := by
  obtain ⟨a, b, c, d, e, f⟩ := x
  have hW := WrAt.new w a b c d e f
  have b0 := below1 w (wrO a b c d e f)
  by_cases hw : wright (a, b, c, d, e, f) = 0
  · have hr := Lib.hid (wtail_good hw)
    obtain ⟨hc, hd, he, v2, v3, v4⟩ := wright_vals hw
    have hm : e.size ≤ maxLen := by unfold maxLen; omega
    have H0 := Lib.hid hw
    clear hw
    rcases hc with rfl | rfl | rfl | rfl
    · have hs := Lib.hid (span_small he)
      have HW := hW
      obtain ⟨c0, c1, c2, c3, c4, c5⟩ := hW
      go_enter Tryz.func40, Tryz.ntmps40
      go_wp2_with fail
      refine (wright_any (a, b, 1, d, e, f) _).mono ?_
      rintro r w1 ⟨rfl, hb1⟩
      rw [H0.out, errV_zero]
      have b1 := b0.trans (hb1.mono b0.size)
      obtain ⟨k0, k1, k2, k3, k4, k5⟩ := HW.below hb1
      go_wp2_with fail
      refine (spanput_any e _ hm).mono ?_
      rintro r w2 ⟨rfl, hb2⟩
      rw [hs.out]
      go_wp2
      go_ret2
      exact ⟨by rw [hr.out]; rfl, b1.trans (hb2.mono b1.size)⟩
    · have HW := hW
      obtain ⟨c0, c1, c2, c3, c4, c5⟩ := hW
      go_enter Tryz.func40, Tryz.ntmps40
      go_wp2_with fail
      refine (wright_any (a, b, 2, d, e, f) _).mono ?_
      rintro r w1 ⟨rfl, hb1⟩
      rw [H0.out, errV_zero]
      have b1 := b0.trans (hb1.mono b0.size)
      obtain ⟨k0, k1, k2, k3, k4, k5⟩ := HW.below hb1
      go_wp2
      go_ret2
      exact ⟨by rw [hr.out]; rfl, b1⟩
    · have v3 := v3 rfl
      have hzi := Lib.hid (Zg.zig_is f (by omega))
      have hzl : zigN f < 18446744073709551616 := by unfold zigN; split <;> omega
      have HW := hW
      obtain ⟨c0, c1, c2, c3, c4, c5⟩ := hW
      go_enter Tryz.func40, Tryz.ntmps40
      go_wp2_with fail
      refine (wright_any (a, b, 3, d, e, f) _).mono ?_
      rintro r w1 ⟨rfl, hb1⟩
      rw [H0.out, errV_zero]
      have b1 := b0.trans (hb1.mono b0.size)
      obtain ⟨k0, k1, k2, k3, k4, k5⟩ := HW.below hb1
      go_wp2_with fail
      refine (Zg.zig_any f _ (by omega) (by omega)).mono ?_
      rintro r w2 ⟨rfl, rfl⟩
      rw [hzi.out]
      go_wp2_with fail
      refine (vput_any (zigN f) _ hzl).mono ?_
      rintro r w2 ⟨rfl, hb2⟩
      go_wp2
      go_ret2
      exact ⟨by rw [hr.out]; rfl, b1.trans (hb2.mono b1.size)⟩
    · have v4 := v4 rfl
      obtain ⟨m, rfl⟩ := Int.eq_ofNat_of_zero_le (show 0 ≤ f by omega)
      have hs := Lib.hid (span_small he)
      have hl1 := vput_len10 (n := m) (by omega)
      have hl2 := vput_len10 (n := e.size) (by omega)
      rw [← strOf_size] at hl1 hl2
      have HW := hW
      obtain ⟨c0, c1, c2, c3, c4, c5⟩ := hW
      go_enter Tryz.func40, Tryz.ntmps40
      go_wp2_with fail
      refine (wright_any (a, b, 4, d, e, (m : Int)) _).mono ?_
      rintro r w1 ⟨rfl, hb1⟩
      rw [H0.out, errV_zero]
      have b1 := b0.trans (hb1.mono b0.size)
      obtain ⟨k0, k1, k2, k3, k4, k5⟩ := HW.below hb1
      go_wp2_with fail
      refine (spanput_any e _ hm).mono ?_
      rintro r w2 ⟨rfl, hb2⟩
      rw [hs.out]
      have b2 := b1.trans (hb2.mono b1.size)
      have k5 := (hb2.cell (cell_lt k5)).trans k5
      clear k0 k1 k2 k3 k4
      obtain ⟨t2, ht2⟩ : ∃ t, t = strOf (vput e.size) ++ e := ⟨_, rfl⟩
      have hz2 : t2.size ≤ 400 := by rw [ht2, ByteArray.size_append]; omega
      rw [← ht2]
      have HT2 := Lib.hid ht2
      clear ht2
      go_wp2_with fail
      refine (vput_any m _ (by omega)).mono ?_
      rintro r w3 ⟨rfl, hb3⟩
      obtain ⟨t1, ht1⟩ : ∃ t, t = strOf (vput m) := ⟨_, rfl⟩
      rw [← ht1] at hl1
      have hE : (⟨(vput m).toArray⟩ : ByteArray) = t1 := ht1.symm
      rw [hE]
      have HT1 := Lib.hid ht1
      clear ht1 hE
      have hcat : t1.size + t2.size ≤ 9223372036854775807 := by omega
      have hcat' : ¬ 9223372036854775807 < t1.size + t2.size := by omega
      go_wp2
      go_ret2
      exact ⟨by rw [hr.out, HT1.out, HT2.out]; rfl, b2.trans (hb3.mono b2.size)⟩
  · have hr := Lib.hid (wtail_bad hw)
    have HW := Lib.hid hw
    clear hw
    obtain ⟨c0, c1, c2, c3, c4, c5⟩ := hW
    go_enter Tryz.func40, Tryz.ntmps40
    go_wp2_with fail
    refine (wright_any (a, b, c, d, e, f) _).mono ?_
    rintro r w1 ⟨rfl, hb1⟩
    rw [errV_of HW.out]
    go_wp2
    go_ret2
    exact ⟨by rw [hr.out]; simp only; rw [errV_of HW.out]; rfl, b0.trans (hb1.mono b0.size)⟩
end Go.Proofs.YtkejlnjnoiidnaaGreatDoor
end
