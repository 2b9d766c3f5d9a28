/- write.Right says what wright says. Printed by gen_write.py.

Batches in memory. Any program. -/
import Derived.Test.YtglemfdnfaemiaaDoorZ2
import Derived.Test.YtglemfdnfaemiaaDoorZ5
import Derived.Test.YtglemfdnfaemiaaDoorZ4
import Derived.Deep.QuietTactic
import Derived.BigQuiet
import Derived.Test.YtglemfdnfaemiaaDoorZ1
section
namespace Go.Proofs.YtglemfdnfaemiaaDoor
set_option linter.unusedSimpArgs false
open Go.RowKit As
def wrightC (k : Int) (i : Bool) (x y : Nat) (n : Int) : Int :=
  if k < 1 ∨ 4 < k then 1
  else if i = false then 2
  else if 40 < x ∨ 300 < y then 4
  else if (k ≠ 1 ∧ k ≠ 4 ∧ y ≠ 0) ∨ (k ≠ 3 ∧ k ≠ 4 ∧ n ≠ 0) then 3
  else if k = 3 ∧ (n < -1125899906842624 ∨ 1125899906842624 < n) ∨ k = 4 ∧ (n < 0 ∨ 1000 < n) then 2 else 0
theorem wright_is (a b c f : Int) (d e : ByteArray) : wright (a, b, c, d, e, f) = wrightC c (idRight (a, b)) d.size e.size f := rfl
abbrev wrV (a b c : Int) (d e : ByteArray) (f : Int) : Value := .agg #[.int .i64 a, .int .i64 b, .int .i64 c, .string d, .string e, .int .i64 f]
abbrev wrO (a b c : Int) (d e : ByteArray) (f : Int) : Obj := .cells #[.int .i64 a, .int .i64 b, .int .i64 c, .string d, .string e, .int .i64 f] 116
/-- The write's cells, later on. -/
structure WrAt (w : World) (B : Nat) (a b c : Int) (d e : ByteArray) (f : Int) : Prop where
  c0 : w.cell? ⟨B, 0, none⟩ = some (.int .i64 a)
  c1 : w.cell? ⟨B, 1, none⟩ = some (.int .i64 b)
  c2 : w.cell? ⟨B, 2, none⟩ = some (.int .i64 c)
  c3 : w.cell? ⟨B, 3, none⟩ = some (.string d)
  c4 : w.cell? ⟨B, 4, none⟩ = some (.string e)
  c5 : w.cell? ⟨B, 5, none⟩ = some (.int .i64 f)
theorem WrAt.new (w : World) (a b c : Int) (d e : ByteArray) (f : Int) : WrAt (w.alloc (wrO a b c d e f)) w.heap.size a b c d e f := by
  refine ⟨?_, ?_, ?_, ?_, ?_, ?_⟩ <;> (rw [World.cell?_alloc_new]; rfl)
theorem WrAt.drewN {w : World} {B : Nat} {a b c f : Int} {d e : ByteArray} (h : WrAt w B a b c d e f) (q : Nat) : WrAt (w.drewN q) B a b c d e f := ⟨h.c0, h.c1, h.c2, h.c3, h.c4, h.c5⟩
theorem WrAt.below {w w' : World} {B : Nat} {a b c f : Int} {d e : ByteArray} (h : WrAt w B a b c d e f) (hb : Below w.heap.size w w') : WrAt w' B a b c d e f :=
  ⟨(hb.cell (cell_lt h.c0)).trans h.c0, (hb.cell (cell_lt h.c1)).trans h.c1, (hb.cell (cell_lt h.c2)).trans h.c2, (hb.cell (cell_lt h.c3)).trans h.c3, (hb.cell (cell_lt h.c4)).trans h.c4, (hb.cell (cell_lt h.c5)).trans h.c5⟩
set_option maxHeartbeats 2000000 in
set_option maxRecDepth 100000 in
theorem wright1 (a b f : Int) (d e : ByteArray) (w : World) : Calls Tryd.prog 80 #[wrV a b (1) d e f] w fun r w' => r = .returned (errV (wright (a, b, 1, d, e, f))) ∧ Below w.heap.size w w' := by
  rw [wright_is]
  have hW := WrAt.new w a b (1) d e f
  cases hidv : idRight (a, b) with
  | false =>
    have hid := Lib.hid hidv
    clear hidv
    have hr := Lib.hid (show wrightC 1 false d.size e.size f = 2 by unfold wrightC; rw [if_neg (by omega), if_pos rfl])
    go_enter Tryd.func80, Tryd.ntmps80
    go_wp2_with fail
    go_quiet (fail)
    go_wp2_with fail
    refine (idright_any a b _).mono ?_
    rintro r w1 ⟨rfl, hb1⟩
    rw [hid.out]
    obtain ⟨c0, c1, c2, c3, c4, c5⟩ := (hW.drewN nq).below hb1
    have hbl : Below w.heap.size w w1 := (below_drewN (below1 w _) nq).trans (hb1.mono (by simp))
    go_wp2
    go_ret
    exact ⟨by rw [hr.out]; rfl, hbl⟩
  | true =>
    have hid := Lib.hid hidv
    clear hidv
    by_cases h1 : 40 < d.size
    · have hr := Lib.hid (show wrightC 1 true d.size e.size f = 4 by unfold wrightC; rw [if_neg (by omega), if_neg (by simp), if_pos (by omega)])
      have s0 : decide (40 < d.size) = true := by simp only [decide_eq_true_eq, decide_eq_false_iff_not]; omega
      have t0 : decide (40 < (d.size : Int)) = true := by simp only [decide_eq_true_eq, decide_eq_false_iff_not]; omega
      clear h1
      go_enter Tryd.func80, Tryd.ntmps80
      go_wp2_with fail
      go_quiet (fail)
      go_wp2_with fail
      refine (idright_any a b _).mono ?_
      rintro r w1 ⟨rfl, hb1⟩
      rw [hid.out]
      obtain ⟨c0, c1, c2, c3, c4, c5⟩ := (hW.drewN nq).below hb1
      have hbl : Below w.heap.size w w1 := (below_drewN (below1 w _) nq).trans (hb1.mono (by simp))
      go_wp2
      go_ret
      exact ⟨by rw [hr.out]; rfl, hbl⟩
    · by_cases h2 : 300 < e.size
      · have hr := Lib.hid (show wrightC 1 true d.size e.size f = 4 by unfold wrightC; rw [if_neg (by omega), if_neg (by simp), if_pos (by omega)])
        have s0 : decide (40 < d.size) = false := by simp only [decide_eq_true_eq, decide_eq_false_iff_not]; omega
        have t0 : decide (40 < (d.size : Int)) = false := by simp only [decide_eq_true_eq, decide_eq_false_iff_not]; omega
        have s1 : decide (300 < e.size) = true := by simp only [decide_eq_true_eq, decide_eq_false_iff_not]; omega
        have t1 : decide (300 < (e.size : Int)) = true := by simp only [decide_eq_true_eq, decide_eq_false_iff_not]; omega
        clear h1 h2
        go_enter Tryd.func80, Tryd.ntmps80
        go_wp2_with fail
        go_quiet (fail)
        go_wp2_with fail
        refine (idright_any a b _).mono ?_
        rintro r w1 ⟨rfl, hb1⟩
        rw [hid.out]
        obtain ⟨c0, c1, c2, c3, c4, c5⟩ := (hW.drewN nq).below hb1
        have hbl : Below w.heap.size w w1 := (below_drewN (below1 w _) nq).trans (hb1.mono (by simp))
        go_wp2
        go_ret
        exact ⟨by rw [hr.out]; rfl, hbl⟩
      · have hz := str_empty' e
        have s0 : decide (40 < d.size) = false := by simp only [decide_eq_true_eq, decide_eq_false_iff_not]; omega
        have t0 : decide (40 < (d.size : Int)) = false := by simp only [decide_eq_true_eq, decide_eq_false_iff_not]; omega
        have s1 : decide (300 < e.size) = false := by simp only [decide_eq_true_eq, decide_eq_false_iff_not]; omega
        have t1 : decide (300 < (e.size : Int)) = false := by simp only [decide_eq_true_eq, decide_eq_false_iff_not]; omega
        have HZ := Lib.hid hz
        clear hz
        by_cases h3 : f = 0
        · skip
          have hr := Lib.hid (show wrightC 1 true d.size e.size f = 0 by unfold wrightC; rw [if_neg (by omega), if_neg (by simp), if_neg (by omega), if_neg (by omega), if_neg (by omega)])
          have q0 : (f != 0) = false := by simp only [bne_iff_ne, bne_eq_false_iff_eq, ne_eq]; omega
          clear h1 h2 h3
          go_enter Tryd.func80, Tryd.ntmps80
          go_wp2_with fail
          go_quiet (fail)
          go_wp2_with fail
          refine (idright_any a b _).mono ?_
          rintro r w1 ⟨rfl, hb1⟩
          rw [hid.out]
          obtain ⟨c0, c1, c2, c3, c4, c5⟩ := (hW.drewN nq).below hb1
          have hbl : Below w.heap.size w w1 := (below_drewN (below1 w _) nq).trans (hb1.mono (by simp))
          go_wp2
          go_ret
          exact ⟨by rw [hr.out]; rfl, hbl⟩
        · skip
          have hr := Lib.hid (show wrightC 1 true d.size e.size f = 3 by unfold wrightC; rw [if_neg (by omega), if_neg (by simp), if_neg (by omega), if_pos (by omega)])
          have q0 : (f != 0) = true := by simp only [bne_iff_ne, bne_eq_false_iff_eq, ne_eq]; omega
          clear h1 h2 h3
          go_enter Tryd.func80, Tryd.ntmps80
          go_wp2_with fail
          go_quiet (fail)
          go_wp2_with fail
          refine (idright_any a b _).mono ?_
          rintro r w1 ⟨rfl, hb1⟩
          rw [hid.out]
          obtain ⟨c0, c1, c2, c3, c4, c5⟩ := (hW.drewN nq).below hb1
          have hbl : Below w.heap.size w w1 := (below_drewN (below1 w _) nq).trans (hb1.mono (by simp))
          go_wp2
          go_ret
          exact ⟨by rw [hr.out]; rfl, hbl⟩
set_option maxHeartbeats 2000000 in
set_option maxRecDepth 100000 in
theorem wright2 (a b f : Int) (d e : ByteArray) (w : World) : Calls Tryd.prog 80 #[wrV a b (2) d e f] w fun r w' => r = .returned (errV (wright (a, b, 2, d, e, f))) ∧ Below w.heap.size w w' := by
  rw [wright_is]
  have hW := WrAt.new w a b (2) d e f
  cases hidv : idRight (a, b) with
  | false =>
    have hid := Lib.hid hidv
    clear hidv
    have hr := Lib.hid (show wrightC 2 false d.size e.size f = 2 by unfold wrightC; rw [if_neg (by omega), if_pos rfl])
    go_enter Tryd.func80, Tryd.ntmps80
    go_wp2_with fail
    go_quiet (fail)
    go_wp2_with fail
    refine (idright_any a b _).mono ?_
    rintro r w1 ⟨rfl, hb1⟩
    rw [hid.out]
    obtain ⟨c0, c1, c2, c3, c4, c5⟩ := (hW.drewN nq).below hb1
    have hbl : Below w.heap.size w w1 := (below_drewN (below1 w _) nq).trans (hb1.mono (by simp))
    go_wp2
    go_ret
    exact ⟨by rw [hr.out]; rfl, hbl⟩
  | true =>
    have hid := Lib.hid hidv
    clear hidv
    by_cases h1 : 40 < d.size
    · have hr := Lib.hid (show wrightC 2 true d.size e.size f = 4 by unfold wrightC; rw [if_neg (by omega), if_neg (by simp), if_pos (by omega)])
      have s0 : decide (40 < d.size) = true := by simp only [decide_eq_true_eq, decide_eq_false_iff_not]; omega
      have t0 : decide (40 < (d.size : Int)) = true := by simp only [decide_eq_true_eq, decide_eq_false_iff_not]; omega
      clear h1
      go_enter Tryd.func80, Tryd.ntmps80
      go_wp2_with fail
      go_quiet (fail)
      go_wp2_with fail
      refine (idright_any a b _).mono ?_
      rintro r w1 ⟨rfl, hb1⟩
      rw [hid.out]
      obtain ⟨c0, c1, c2, c3, c4, c5⟩ := (hW.drewN nq).below hb1
      have hbl : Below w.heap.size w w1 := (below_drewN (below1 w _) nq).trans (hb1.mono (by simp))
      go_wp2
      go_ret
      exact ⟨by rw [hr.out]; rfl, hbl⟩
    · by_cases h2 : 300 < e.size
      · have hr := Lib.hid (show wrightC 2 true d.size e.size f = 4 by unfold wrightC; rw [if_neg (by omega), if_neg (by simp), if_pos (by omega)])
        have s0 : decide (40 < d.size) = false := by simp only [decide_eq_true_eq, decide_eq_false_iff_not]; omega
        have t0 : decide (40 < (d.size : Int)) = false := by simp only [decide_eq_true_eq, decide_eq_false_iff_not]; omega
        have s1 : decide (300 < e.size) = true := by simp only [decide_eq_true_eq, decide_eq_false_iff_not]; omega
        have t1 : decide (300 < (e.size : Int)) = true := by simp only [decide_eq_true_eq, decide_eq_false_iff_not]; omega
        clear h1 h2
        go_enter Tryd.func80, Tryd.ntmps80
        go_wp2_with fail
        go_quiet (fail)
        go_wp2_with fail
        refine (idright_any a b _).mono ?_
        rintro r w1 ⟨rfl, hb1⟩
        rw [hid.out]
        obtain ⟨c0, c1, c2, c3, c4, c5⟩ := (hW.drewN nq).below hb1
        have hbl : Below w.heap.size w w1 := (below_drewN (below1 w _) nq).trans (hb1.mono (by simp))
        go_wp2
        go_ret
        exact ⟨by rw [hr.out]; rfl, hbl⟩
      · have hz := str_empty' e
        have s0 : decide (40 < d.size) = false := by simp only [decide_eq_true_eq, decide_eq_false_iff_not]; omega
        have t0 : decide (40 < (d.size : Int)) = false := by simp only [decide_eq_true_eq, decide_eq_false_iff_not]; omega
        have s1 : decide (300 < e.size) = false := by simp only [decide_eq_true_eq, decide_eq_false_iff_not]; omega
        have t1 : decide (300 < (e.size : Int)) = false := by simp only [decide_eq_true_eq, decide_eq_false_iff_not]; omega
        have HZ := Lib.hid hz
        clear hz
        by_cases h3 : e.size = 0
        · by_cases h4 : f = 0
          · skip
            have hr := Lib.hid (show wrightC 2 true d.size e.size f = 0 by unfold wrightC; rw [if_neg (by omega), if_neg (by simp), if_neg (by omega), if_neg (by omega), if_neg (by omega)])
            have q0 : e.toList.isEmpty = true := by rw [HZ.out]; simp only [decide_eq_true_eq, decide_eq_false_iff_not]; omega
            have q1 : (f != 0) = false := by simp only [bne_iff_ne, bne_eq_false_iff_eq, ne_eq]; omega
            clear h1 h2 h3 h4
            go_enter Tryd.func80, Tryd.ntmps80
            go_wp2_with fail
            go_quiet (fail)
            go_wp2_with fail
            refine (idright_any a b _).mono ?_
            rintro r w1 ⟨rfl, hb1⟩
            rw [hid.out]
            obtain ⟨c0, c1, c2, c3, c4, c5⟩ := (hW.drewN nq).below hb1
            have hbl : Below w.heap.size w w1 := (below_drewN (below1 w _) nq).trans (hb1.mono (by simp))
            go_wp2
            go_ret
            exact ⟨by rw [hr.out]; rfl, hbl⟩
          · skip
            have hr := Lib.hid (show wrightC 2 true d.size e.size f = 3 by unfold wrightC; rw [if_neg (by omega), if_neg (by simp), if_neg (by omega), if_pos (by omega)])
            have q0 : e.toList.isEmpty = true := by rw [HZ.out]; simp only [decide_eq_true_eq, decide_eq_false_iff_not]; omega
            have q1 : (f != 0) = true := by simp only [bne_iff_ne, bne_eq_false_iff_eq, ne_eq]; omega
            clear h1 h2 h3 h4
            go_enter Tryd.func80, Tryd.ntmps80
            go_wp2_with fail
            go_quiet (fail)
            go_wp2_with fail
            refine (idright_any a b _).mono ?_
            rintro r w1 ⟨rfl, hb1⟩
            rw [hid.out]
            obtain ⟨c0, c1, c2, c3, c4, c5⟩ := (hW.drewN nq).below hb1
            have hbl : Below w.heap.size w w1 := (below_drewN (below1 w _) nq).trans (hb1.mono (by simp))
            go_wp2
            go_ret
            exact ⟨by rw [hr.out]; rfl, hbl⟩
        · skip
          have hr := Lib.hid (show wrightC 2 true d.size e.size f = 3 by unfold wrightC; rw [if_neg (by omega), if_neg (by simp), if_neg (by omega), if_pos (by omega)])
          have q0 : e.toList.isEmpty = false := by rw [HZ.out]; simp only [decide_eq_true_eq, decide_eq_false_iff_not]; omega
          clear h1 h2 h3
          go_enter Tryd.func80, Tryd.ntmps80
          go_wp2_with fail
          go_quiet (fail)
          go_wp2_with fail
          refine (idright_any a b _).mono ?_
          rintro r w1 ⟨rfl, hb1⟩
          rw [hid.out]
          obtain ⟨c0, c1, c2, c3, c4, c5⟩ := (hW.drewN nq).below hb1
          have hbl : Below w.heap.size w w1 := (below_drewN (below1 w _) nq).trans (hb1.mono (by simp))
          go_wp2
          go_ret
          exact ⟨by rw [hr.out]; rfl, hbl⟩
set_option maxHeartbeats 2000000 in
set_option maxRecDepth 100000 in
theorem wright3 (a b f : Int) (d e : ByteArray) (w : World) : Calls Tryd.prog 80 #[wrV a b (3) d e f] w fun r w' => r = .returned (errV (wright (a, b, 3, d, e, f))) ∧ Below w.heap.size w w' := by
  rw [wright_is]
  have hW := WrAt.new w a b (3) d e f
  cases hidv : idRight (a, b) with
  | false =>
    have hid := Lib.hid hidv
    clear hidv
    have hr := Lib.hid (show wrightC 3 false d.size e.size f = 2 by unfold wrightC; rw [if_neg (by omega), if_pos rfl])
    go_enter Tryd.func80, Tryd.ntmps80
    go_wp2_with fail
    go_quiet (fail)
    go_wp2_with fail
    refine (idright_any a b _).mono ?_
    rintro r w1 ⟨rfl, hb1⟩
    rw [hid.out]
    obtain ⟨c0, c1, c2, c3, c4, c5⟩ := (hW.drewN nq).below hb1
    have hbl : Below w.heap.size w w1 := (below_drewN (below1 w _) nq).trans (hb1.mono (by simp))
    go_wp2
    go_ret
    exact ⟨by rw [hr.out]; rfl, hbl⟩
  | true =>
    have hid := Lib.hid hidv
    clear hidv
    by_cases h1 : 40 < d.size
    · have hr := Lib.hid (show wrightC 3 true d.size e.size f = 4 by unfold wrightC; rw [if_neg (by omega), if_neg (by simp), if_pos (by omega)])
      have s0 : decide (40 < d.size) = true := by simp only [decide_eq_true_eq, decide_eq_false_iff_not]; omega
      have t0 : decide (40 < (d.size : Int)) = true := by simp only [decide_eq_true_eq, decide_eq_false_iff_not]; omega
      clear h1
      go_enter Tryd.func80, Tryd.ntmps80
      go_wp2_with fail
      go_quiet (fail)
      go_wp2_with fail
      refine (idright_any a b _).mono ?_
      rintro r w1 ⟨rfl, hb1⟩
      rw [hid.out]
      obtain ⟨c0, c1, c2, c3, c4, c5⟩ := (hW.drewN nq).below hb1
      have hbl : Below w.heap.size w w1 := (below_drewN (below1 w _) nq).trans (hb1.mono (by simp))
      go_wp2
      go_ret
      exact ⟨by rw [hr.out]; rfl, hbl⟩
    · by_cases h2 : 300 < e.size
      · have hr := Lib.hid (show wrightC 3 true d.size e.size f = 4 by unfold wrightC; rw [if_neg (by omega), if_neg (by simp), if_pos (by omega)])
        have s0 : decide (40 < d.size) = false := by simp only [decide_eq_true_eq, decide_eq_false_iff_not]; omega
        have t0 : decide (40 < (d.size : Int)) = false := by simp only [decide_eq_true_eq, decide_eq_false_iff_not]; omega
        have s1 : decide (300 < e.size) = true := by simp only [decide_eq_true_eq, decide_eq_false_iff_not]; omega
        have t1 : decide (300 < (e.size : Int)) = true := by simp only [decide_eq_true_eq, decide_eq_false_iff_not]; omega
        clear h1 h2
        go_enter Tryd.func80, Tryd.ntmps80
        go_wp2_with fail
        go_quiet (fail)
        go_wp2_with fail
        refine (idright_any a b _).mono ?_
        rintro r w1 ⟨rfl, hb1⟩
        rw [hid.out]
        obtain ⟨c0, c1, c2, c3, c4, c5⟩ := (hW.drewN nq).below hb1
        have hbl : Below w.heap.size w w1 := (below_drewN (below1 w _) nq).trans (hb1.mono (by simp))
        go_wp2
        go_ret
        exact ⟨by rw [hr.out]; rfl, hbl⟩
      · have hz := str_empty' e
        have s0 : decide (40 < d.size) = false := by simp only [decide_eq_true_eq, decide_eq_false_iff_not]; omega
        have t0 : decide (40 < (d.size : Int)) = false := by simp only [decide_eq_true_eq, decide_eq_false_iff_not]; omega
        have s1 : decide (300 < e.size) = false := by simp only [decide_eq_true_eq, decide_eq_false_iff_not]; omega
        have t1 : decide (300 < (e.size : Int)) = false := by simp only [decide_eq_true_eq, decide_eq_false_iff_not]; omega
        have HZ := Lib.hid hz
        clear hz
        by_cases h3 : e.size = 0
        · by_cases h4 : f < -1125899906842624
          · skip
            have hr := Lib.hid (show wrightC 3 true d.size e.size f = 2 by unfold wrightC; rw [if_neg (by omega), if_neg (by simp), if_neg (by omega), if_neg (by omega), if_pos (by omega)])
            have q0 : e.toList.isEmpty = true := by rw [HZ.out]; simp only [decide_eq_true_eq, decide_eq_false_iff_not]; omega
            have q1 : decide (f < -1125899906842624) = true := by simp only [decide_eq_true_eq, decide_eq_false_iff_not]; omega
            clear h1 h2 h3 h4
            go_enter Tryd.func80, Tryd.ntmps80
            go_wp2_with fail
            go_quiet (fail)
            go_wp2_with fail
            refine (idright_any a b _).mono ?_
            rintro r w1 ⟨rfl, hb1⟩
            rw [hid.out]
            obtain ⟨c0, c1, c2, c3, c4, c5⟩ := (hW.drewN nq).below hb1
            have hbl : Below w.heap.size w w1 := (below_drewN (below1 w _) nq).trans (hb1.mono (by simp))
            go_wp2
            go_ret
            exact ⟨by rw [hr.out]; rfl, hbl⟩
          · by_cases h5 : 1125899906842624 < f
            · skip
              have hr := Lib.hid (show wrightC 3 true d.size e.size f = 2 by unfold wrightC; rw [if_neg (by omega), if_neg (by simp), if_neg (by omega), if_neg (by omega), if_pos (by omega)])
              have q0 : e.toList.isEmpty = true := by rw [HZ.out]; simp only [decide_eq_true_eq, decide_eq_false_iff_not]; omega
              have q1 : decide (f < -1125899906842624) = false := by simp only [decide_eq_true_eq, decide_eq_false_iff_not]; omega
              have q2 : decide (1125899906842624 < f) = true := by simp only [decide_eq_true_eq, decide_eq_false_iff_not]; omega
              clear h1 h2 h3 h4 h5
              go_enter Tryd.func80, Tryd.ntmps80
              go_wp2_with fail
              go_quiet (fail)
              go_wp2_with fail
              refine (idright_any a b _).mono ?_
              rintro r w1 ⟨rfl, hb1⟩
              rw [hid.out]
              obtain ⟨c0, c1, c2, c3, c4, c5⟩ := (hW.drewN nq).below hb1
              have hbl : Below w.heap.size w w1 := (below_drewN (below1 w _) nq).trans (hb1.mono (by simp))
              go_wp2
              go_ret
              exact ⟨by rw [hr.out]; rfl, hbl⟩
            · skip
              have hr := Lib.hid (show wrightC 3 true d.size e.size f = 0 by unfold wrightC; rw [if_neg (by omega), if_neg (by simp), if_neg (by omega), if_neg (by omega), if_neg (by omega)])
              have q0 : e.toList.isEmpty = true := by rw [HZ.out]; simp only [decide_eq_true_eq, decide_eq_false_iff_not]; omega
              have q1 : decide (f < -1125899906842624) = false := by simp only [decide_eq_true_eq, decide_eq_false_iff_not]; omega
              have q2 : decide (1125899906842624 < f) = false := by simp only [decide_eq_true_eq, decide_eq_false_iff_not]; omega
              clear h1 h2 h3 h4 h5
              go_enter Tryd.func80, Tryd.ntmps80
              go_wp2_with fail
              go_quiet (fail)
              go_wp2_with fail
              refine (idright_any a b _).mono ?_
              rintro r w1 ⟨rfl, hb1⟩
              rw [hid.out]
              obtain ⟨c0, c1, c2, c3, c4, c5⟩ := (hW.drewN nq).below hb1
              have hbl : Below w.heap.size w w1 := (below_drewN (below1 w _) nq).trans (hb1.mono (by simp))
              go_wp2
              go_ret
              exact ⟨by rw [hr.out]; rfl, hbl⟩
        · skip
          have hr := Lib.hid (show wrightC 3 true d.size e.size f = 3 by unfold wrightC; rw [if_neg (by omega), if_neg (by simp), if_neg (by omega), if_pos (by omega)])
          have q0 : e.toList.isEmpty = false := by rw [HZ.out]; simp only [decide_eq_true_eq, decide_eq_false_iff_not]; omega
          clear h1 h2 h3
          go_enter Tryd.func80, Tryd.ntmps80
          go_wp2_with fail
          go_quiet (fail)
          go_wp2_with fail
          refine (idright_any a b _).mono ?_
          rintro r w1 ⟨rfl, hb1⟩
          rw [hid.out]
          obtain ⟨c0, c1, c2, c3, c4, c5⟩ := (hW.drewN nq).below hb1
          have hbl : Below w.heap.size w w1 := (below_drewN (below1 w _) nq).trans (hb1.mono (by simp))
          go_wp2
          go_ret
          exact ⟨by rw [hr.out]; rfl, hbl⟩
set_option maxHeartbeats 2000000 in
set_option maxRecDepth 100000 in
theorem wright4 (a b f : Int) (d e : ByteArray) (w : World) : Calls Tryd.prog 80 #[wrV a b (4) d e f] w fun r w' => r = .returned (errV (wright (a, b, 4, d, e, f))) ∧ Below w.heap.size w w' := by
  rw [wright_is]
  have hW := WrAt.new w a b (4) d e f
  cases hidv : idRight (a, b) with
  | false =>
    have hid := Lib.hid hidv
    clear hidv
    have hr := Lib.hid (show wrightC 4 false d.size e.size f = 2 by unfold wrightC; rw [if_neg (by omega), if_pos rfl])
    go_enter Tryd.func80, Tryd.ntmps80
    go_wp2_with fail
    go_quiet (fail)
    go_wp2_with fail
    refine (idright_any a b _).mono ?_
    rintro r w1 ⟨rfl, hb1⟩
    rw [hid.out]
    obtain ⟨c0, c1, c2, c3, c4, c5⟩ := (hW.drewN nq).below hb1
    have hbl : Below w.heap.size w w1 := (below_drewN (below1 w _) nq).trans (hb1.mono (by simp))
    go_wp2
    go_ret
    exact ⟨by rw [hr.out]; rfl, hbl⟩
  | true =>
    have hid := Lib.hid hidv
    clear hidv
    by_cases h1 : 40 < d.size
    · have hr := Lib.hid (show wrightC 4 true d.size e.size f = 4 by unfold wrightC; rw [if_neg (by omega), if_neg (by simp), if_pos (by omega)])
      have s0 : decide (40 < d.size) = true := by simp only [decide_eq_true_eq, decide_eq_false_iff_not]; omega
      have t0 : decide (40 < (d.size : Int)) = true := by simp only [decide_eq_true_eq, decide_eq_false_iff_not]; omega
      clear h1
      go_enter Tryd.func80, Tryd.ntmps80
      go_wp2_with fail
      go_quiet (fail)
      go_wp2_with fail
      refine (idright_any a b _).mono ?_
      rintro r w1 ⟨rfl, hb1⟩
      rw [hid.out]
      obtain ⟨c0, c1, c2, c3, c4, c5⟩ := (hW.drewN nq).below hb1
      have hbl : Below w.heap.size w w1 := (below_drewN (below1 w _) nq).trans (hb1.mono (by simp))
      go_wp2
      go_ret
      exact ⟨by rw [hr.out]; rfl, hbl⟩
    · by_cases h2 : 300 < e.size
      · have hr := Lib.hid (show wrightC 4 true d.size e.size f = 4 by unfold wrightC; rw [if_neg (by omega), if_neg (by simp), if_pos (by omega)])
        have s0 : decide (40 < d.size) = false := by simp only [decide_eq_true_eq, decide_eq_false_iff_not]; omega
        have t0 : decide (40 < (d.size : Int)) = false := by simp only [decide_eq_true_eq, decide_eq_false_iff_not]; omega
        have s1 : decide (300 < e.size) = true := by simp only [decide_eq_true_eq, decide_eq_false_iff_not]; omega
        have t1 : decide (300 < (e.size : Int)) = true := by simp only [decide_eq_true_eq, decide_eq_false_iff_not]; omega
        clear h1 h2
        go_enter Tryd.func80, Tryd.ntmps80
        go_wp2_with fail
        go_quiet (fail)
        go_wp2_with fail
        refine (idright_any a b _).mono ?_
        rintro r w1 ⟨rfl, hb1⟩
        rw [hid.out]
        obtain ⟨c0, c1, c2, c3, c4, c5⟩ := (hW.drewN nq).below hb1
        have hbl : Below w.heap.size w w1 := (below_drewN (below1 w _) nq).trans (hb1.mono (by simp))
        go_wp2
        go_ret
        exact ⟨by rw [hr.out]; rfl, hbl⟩
      · have hz := str_empty' e
        have s0 : decide (40 < d.size) = false := by simp only [decide_eq_true_eq, decide_eq_false_iff_not]; omega
        have t0 : decide (40 < (d.size : Int)) = false := by simp only [decide_eq_true_eq, decide_eq_false_iff_not]; omega
        have s1 : decide (300 < e.size) = false := by simp only [decide_eq_true_eq, decide_eq_false_iff_not]; omega
        have t1 : decide (300 < (e.size : Int)) = false := by simp only [decide_eq_true_eq, decide_eq_false_iff_not]; omega
        have HZ := Lib.hid hz
        clear hz
        by_cases h4 : f < 0
        · skip
          have hr := Lib.hid (show wrightC 4 true d.size e.size f = 2 by unfold wrightC; rw [if_neg (by omega), if_neg (by simp), if_neg (by omega), if_neg (by omega), if_pos (by omega)])
          have q0 : decide (f < 0) = true := by simp only [decide_eq_true_eq, decide_eq_false_iff_not]; omega
          clear h1 h2 h4
          go_enter Tryd.func80, Tryd.ntmps80
          go_wp2_with fail
          go_quiet (fail)
          go_wp2_with fail
          refine (idright_any a b _).mono ?_
          rintro r w1 ⟨rfl, hb1⟩
          rw [hid.out]
          obtain ⟨c0, c1, c2, c3, c4, c5⟩ := (hW.drewN nq).below hb1
          have hbl : Below w.heap.size w w1 := (below_drewN (below1 w _) nq).trans (hb1.mono (by simp))
          go_wp2
          go_ret
          exact ⟨by rw [hr.out]; rfl, hbl⟩
        · by_cases h5 : 1000 < f
          · skip
            have hr := Lib.hid (show wrightC 4 true d.size e.size f = 2 by unfold wrightC; rw [if_neg (by omega), if_neg (by simp), if_neg (by omega), if_neg (by omega), if_pos (by omega)])
            have q0 : decide (f < 0) = false := by simp only [decide_eq_true_eq, decide_eq_false_iff_not]; omega
            have q1 : decide (1000 < f) = true := by simp only [decide_eq_true_eq, decide_eq_false_iff_not]; omega
            clear h1 h2 h4 h5
            go_enter Tryd.func80, Tryd.ntmps80
            go_wp2_with fail
            go_quiet (fail)
            go_wp2_with fail
            refine (idright_any a b _).mono ?_
            rintro r w1 ⟨rfl, hb1⟩
            rw [hid.out]
            obtain ⟨c0, c1, c2, c3, c4, c5⟩ := (hW.drewN nq).below hb1
            have hbl : Below w.heap.size w w1 := (below_drewN (below1 w _) nq).trans (hb1.mono (by simp))
            go_wp2
            go_ret
            exact ⟨by rw [hr.out]; rfl, hbl⟩
          · skip
            have hr := Lib.hid (show wrightC 4 true d.size e.size f = 0 by unfold wrightC; rw [if_neg (by omega), if_neg (by simp), if_neg (by omega), if_neg (by omega), if_neg (by omega)])
            have q0 : decide (f < 0) = false := by simp only [decide_eq_true_eq, decide_eq_false_iff_not]; omega
            have q1 : decide (1000 < f) = false := by simp only [decide_eq_true_eq, decide_eq_false_iff_not]; omega
            clear h1 h2 h4 h5
            go_enter Tryd.func80, Tryd.ntmps80
            go_wp2_with fail
            go_quiet (fail)
            go_wp2_with fail
            refine (idright_any a b _).mono ?_
            rintro r w1 ⟨rfl, hb1⟩
            rw [hid.out]
            obtain ⟨c0, c1, c2, c3, c4, c5⟩ := (hW.drewN nq).below hb1
            have hbl : Below w.heap.size w w1 := (below_drewN (below1 w _) nq).trans (hb1.mono (by simp))
            go_wp2
            go_ret
            exact ⟨by rw [hr.out]; rfl, hbl⟩
set_option maxHeartbeats 2000000 in
set_option maxRecDepth 100000 in
theorem wright0 (a b c f : Int) (d e : ByteArray) (w : World) (hc : c < 1 ∨ 4 < c) : Calls Tryd.prog 80 #[wrV a b (c) d e f] w fun r w' => r = .returned (errV (wright (a, b, c, d, e, f))) ∧ Below w.heap.size w w' := by
  rw [wright_is]
  have hW := WrAt.new w a b (c) d e f
  have hr := Lib.hid (show wrightC c (idRight (a, b)) d.size e.size f = 1 by unfold wrightC; rw [if_pos hc])
  have k1 : (c == 1) = false := by rw [beq_eq_false_iff_ne]; omega
  have k3 : (c == 3) = false := by rw [beq_eq_false_iff_ne]; omega
  have k4 : (c == 4) = false := by rw [beq_eq_false_iff_ne]; omega
  by_cases h : c < 1
  · have q0 : decide (c < 1) = true := by simp only [decide_eq_true_eq, decide_eq_false_iff_not]; omega
    clear h hc
    go_enter Tryd.func80, Tryd.ntmps80
    go_wp2_with fail
    go_quiet (fail)
    go_wp2_with fail
    go_ret
    exact ⟨by rw [hr.out]; rfl, below_drewN (below1 w _) nq⟩
  · have q0 : decide (c < 1) = false := by simp only [decide_eq_true_eq, decide_eq_false_iff_not]; omega
    have q1 : decide (4 < c) = true := by simp only [decide_eq_true_eq]; omega
    clear h hc
    go_enter Tryd.func80, Tryd.ntmps80
    go_wp2_with fail
    go_quiet (fail)
    go_wp2_with fail
    go_ret
    exact ⟨by rw [hr.out]; rfl, below_drewN (below1 w _) nq⟩
theorem wright_any (x : Wr) (w : World) : Calls Tryd.prog 80 #[wrV x.1 x.2.1 x.2.2.1 x.2.2.2.1 x.2.2.2.2.1 x.2.2.2.2.2] w fun r w' => r = .returned (errV (wright x)) ∧ Below w.heap.size w w' := by
  obtain ⟨a, b, c, d, e, f⟩ := x
  by_cases h : c < 1 ∨ 4 < c
  · exact wright0 a b c f d e w h
  · rcases (by omega : c = 1 ∨ c = 2 ∨ c = 3 ∨ c = 4) with rfl | rfl | rfl | rfl
    · exact wright1 a b f d e w
    · exact wright2 a b f d e w
    · exact wright3 a b f d e w
    · exact wright4 a b f d e w
end Go.Proofs.YtglemfdnfaemiaaDoor
end

section
namespace Go.Proofs.YtglemfdnfaemiaaDoor
open Go.RowKit
/-- A batch in an argument: three slices. -/
structure BatArg where
  A : Option Addr
  n : Nat
  c : Nat
  A' : Option Addr
  n' : Nat
  c' : Nat
  A'' : Option Addr
  n'' : Nat
  c'' : Nat
  f : List Ent
  h : List Ent
  l : List Wr
def BatArg.v (b : BatArg) : Value := .agg #[.slice b.A b.n b.c, .slice b.A' b.n' b.c', .slice b.A'' b.n'' b.c'']
structure Bat (w : World) (b : BatArg) : Prop where
  f : Sl w w.heap.size 2 b.A b.n (b.f.flatMap entCells)
  h : Sl w w.heap.size 2 b.A' b.n' (b.h.flatMap entCells)
  l : Sl w w.heap.size 6 b.A'' b.n'' (b.l.flatMap wrCells)
  nf : b.n ≤ maxLen
  nh : b.n' ≤ maxLen
  nl : b.n'' ≤ maxLen
theorem Bat.grow {w w' : World} {b : BatArg} (h : Bat w b) (hb : Below w.heap.size w w') : Bat w' b := ⟨h.f.grow hb, h.h.grow hb, h.l.grow hb, h.nf, h.nh, h.nl⟩
end Go.Proofs.YtglemfdnfaemiaaDoor
end
