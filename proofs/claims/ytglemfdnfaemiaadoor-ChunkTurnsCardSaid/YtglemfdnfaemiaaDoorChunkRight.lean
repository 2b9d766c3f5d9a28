/- chunk.Right and ChunkRight of the reference say what chkRight says. -/
import Derived.Test.YtglemfdnfaemiaaDoorChunkLaw
import Derived.Test.YtglemfdnfaemiaaDoorCutWalks
import Derived.Test.YtglemfdnfaemiaaDoorVecRight
import Derived.Deep.QuietTactic
import Derived.BigQuiet
namespace Go.Proofs.YtglemfdnfaemiaaDoor
set_option linter.unusedSimpArgs false
open Go.RowKit As
abbrev ckV (m t a : Int) (d : ByteArray) : Value := .agg #[.int .u32 m, .int .i64 t, .int .i64 a, .string d]
abbrev ckO (m t a : Int) (d : ByteArray) : Obj := .cells #[.int .u32 m, .int .i64 t, .int .i64 a, .string d] 74
/-- The piece's cells, later on. -/
structure CkAt (w : World) (B : Nat) (m t a : Int) (d : ByteArray) : Prop where
  c0 : w.cell? ⟨B, 0, none⟩ = some (.int .u32 m)
  c1 : w.cell? ⟨B, 1, none⟩ = some (.int .i64 t)
  c2 : w.cell? ⟨B, 2, none⟩ = some (.int .i64 a)
  c3 : w.cell? ⟨B, 3, none⟩ = some (.string d)
theorem CkAt.new (w : World) (m t a : Int) (d : ByteArray) : CkAt (w.alloc (ckO m t a d)) w.heap.size m t a d := by
  refine ⟨?_, ?_, ?_, ?_⟩ <;> (rw [World.cell?_alloc_new]; rfl)
theorem CkAt.below {w w' : World} {B : Nat} {m t a : Int} {d : ByteArray} (h : CkAt w B m t a d) (hb : Below w.heap.size w w') : CkAt w' B m t a d :=
  ⟨(hb.cell (cell_lt h.c0)).trans h.c0, (hb.cell (cell_lt h.c1)).trans h.c1, (hb.cell (cell_lt h.c2)).trans h.c2, (hb.cell (cell_lt h.c3)).trans h.c3⟩
set_option maxHeartbeats 1000000 in
set_option maxRecDepth 100000 in
theorem ckright_any (m t a : Int) (d : ByteArray) (w : World) : Calls Tryd.prog 75 #[ckV m t a d] w fun r w' => r = .returned (errV (chkRight t a d.size)) ∧ Below w.heap.size w w' := by
  have hW := CkAt.new w m t a d
  by_cases h1 : t < 1 ∨ 4096 < t ∨ a < 0 ∨ t < a
  · have hr := Lib.hid (show chkRight t a d.size = 2 by unfold chkRight; rw [if_pos h1])
    have hq : decide (t < 1) = true ∨ (decide (t < 1) = false ∧ decide (4096 < t) = true) ∨ (decide (t < 1) = false ∧ decide (4096 < t) = false ∧ decide (a < 0) = true) ∨ (decide (t < 1) = false ∧ decide (4096 < t) = false ∧ decide (a < 0) = false ∧ decide (t < a) = true) := by
      simp only [decide_eq_true_eq, decide_eq_false_iff_not]; omega
    clear h1
    obtain ⟨c0, c1, c2, c3⟩ := hW
    rcases hq with d0 | ⟨d0, d1⟩ | ⟨d0, d1, d2⟩ | ⟨d0, d1, d2, d3⟩
    all_goals
      go_enter Tryd.func75, Tryd.ntmps75
      go_wp2
      go_ret
      exact ⟨by rw [hr.out]; rfl, below1 _ _⟩
  · have d0 : decide (t < 1) = false := by simp only [decide_eq_false_iff_not]; omega
    have d1 : decide (4096 < t) = false := by simp only [decide_eq_false_iff_not]; omega
    have d2 : decide (a < 0) = false := by simp only [decide_eq_false_iff_not]; omega
    have d3 : decide (t < a) = false := by simp only [decide_eq_false_iff_not]; omega
    by_cases h2 : d.size = 0 ∨ 256 < d.size
    · have hr := Lib.hid (show chkRight t a d.size = 4 by unfold chkRight; rw [if_neg h1, if_pos h2])
      have hq : d.toList.isEmpty = true ∨ (d.toList.isEmpty = false ∧ decide (256 < (d.size : Int)) = true) := by
        rw [str_empty']
        simp only [decide_eq_true_eq, decide_eq_false_iff_not]; omega
      clear h1 h2
      obtain ⟨c0, c1, c2, c3⟩ := hW
      rcases hq with e0 | ⟨e0, e1⟩
      all_goals
        go_enter Tryd.func75, Tryd.ntmps75
        go_wp2
        go_ret
        exact ⟨by rw [hr.out]; rfl, below1 _ _⟩
    · have e0 : d.toList.isEmpty = false := by rw [str_empty']; simp only [decide_eq_false_iff_not]; omega
      have e1 : decide (256 < (d.size : Int)) = false := by simp only [decide_eq_false_iff_not]; omega
      have w1 : IntKind.i64.wrap (t - a) = t - a := IntWalk.i64_in _ (by omega)
      by_cases h3 : t - a < (d.size : Int)
      · have hr := Lib.hid (show chkRight t a d.size = 2 by unfold chkRight; rw [if_neg h1, if_neg h2, if_pos h3])
        have f0 : decide (t - a < (d.size : Int)) = true := by simp only [decide_eq_true_eq]; omega
        clear h1 h2 h3
        obtain ⟨c0, c1, c2, c3⟩ := hW
        go_enter Tryd.func75, Tryd.ntmps75
        go_wp2
        go_ret
        exact ⟨by rw [hr.out]; rfl, below1 _ _⟩
      · have hr := Lib.hid (show chkRight t a d.size = 0 by unfold chkRight; rw [if_neg h1, if_neg h2, if_neg h3])
        have f0 : decide (t - a < (d.size : Int)) = false := by simp only [decide_eq_false_iff_not]; omega
        clear h1 h2 h3
        obtain ⟨c0, c1, c2, c3⟩ := hW
        go_enter Tryd.func75, Tryd.ntmps75
        go_wp2
        go_ret
        exact ⟨by rw [hr.out]; rfl, below1 _ _⟩
set_option maxHeartbeats 1000000 in
set_option maxRecDepth 100000 in
theorem rckright_any (m t a : Int) (d : ByteArray) (w : World) (hd : d.size ≤ 1000000000000) : Calls Tryd.prog 106 #[ckV m t a d] w fun r w' => r = .returned (.int .i64 (chkRight t a d.size)) ∧ Below w.heap.size w w' := by
  have hW := CkAt.new w m t a d
  by_cases h1 : t < 1 ∨ 4096 < t ∨ a < 0 ∨ t < a
  · have hr := Lib.hid (show chkRight t a d.size = 2 by unfold chkRight; rw [if_pos h1])
    by_cases h0 : t < 1 ∨ 4096 < t
    · have B0 := Lib.hid (show inB t 1 4096 = false by unfold inB; rw [decide_eq_false]; omega)
      clear h1 h0
      obtain ⟨c0, c1, c2, c3⟩ := hW
      go_enter Tryd.func106, Tryd.ntmps106
      go_wp2_with fail
      refine (within_is B0 _).mono ?_
      rintro e w' ⟨rfl, rfl⟩
      go_wp2
      go_ret
      exact ⟨by rw [hr.out]; rfl, below1 _ _⟩
    · have B0 := Lib.hid (show inB t 1 4096 = true by unfold inB; rw [decide_eq_true]; omega)
      have B1 := Lib.hid (show inB a 0 t = false by unfold inB; rw [decide_eq_false]; omega)
      clear h1 h0
      obtain ⟨c0, c1, c2, c3⟩ := hW
      go_enter Tryd.func106, Tryd.ntmps106
      go_wp2_with fail
      refine (within_is B0 _).mono ?_
      rintro e w' ⟨rfl, rfl⟩
      go_wp2_with fail
      refine (within_is B1 _).mono ?_
      rintro e w' ⟨rfl, rfl⟩
      go_wp2
      go_ret
      exact ⟨by rw [hr.out]; rfl, below1 _ _⟩
  · have B0 := Lib.hid (show inB t 1 4096 = true by unfold inB; rw [decide_eq_true]; omega)
    have B1 := Lib.hid (show inB a 0 t = true by unfold inB; rw [decide_eq_true]; omega)
    by_cases h2 : d.size = 0 ∨ 256 < d.size
    · have hr := Lib.hid (show chkRight t a d.size = 4 by unfold chkRight; rw [if_neg h1, if_pos h2])
      have B2 := Lib.hid (show inB (d.size : Int) 1 256 = false by unfold inB; rw [decide_eq_false]; omega)
      clear h1 h2
      obtain ⟨c0, c1, c2, c3⟩ := hW
      go_enter Tryd.func106, Tryd.ntmps106
      go_wp2_with fail
      refine (within_is B0 _).mono ?_
      rintro e w' ⟨rfl, rfl⟩
      go_wp2_with fail
      refine (within_is B1 _).mono ?_
      rintro e w' ⟨rfl, rfl⟩
      go_wp2_with fail
      refine (within_is B2 _).mono ?_
      rintro e w' ⟨rfl, rfl⟩
      go_wp2
      go_ret
      exact ⟨by rw [hr.out]; rfl, below1 _ _⟩
    · have B2 := Lib.hid (show inB (d.size : Int) 1 256 = true by unfold inB; rw [decide_eq_true]; omega)
      have w1 : IntKind.i64.wrap (a + (d.size : Int)) = a + (d.size : Int) := IntWalk.i64_in _ (by omega)
      by_cases h3 : t - a < (d.size : Int)
      · have hr := Lib.hid (show chkRight t a d.size = 2 by unfold chkRight; rw [if_neg h1, if_neg h2, if_pos h3])
        have f0 : decide (t < a + (d.size : Int)) = true := by simp only [decide_eq_true_eq]; omega
        clear h1 h2 h3
        obtain ⟨c0, c1, c2, c3⟩ := hW
        go_enter Tryd.func106, Tryd.ntmps106
        go_wp2_with fail
        refine (within_is B0 _).mono ?_
        rintro e w' ⟨rfl, rfl⟩
        go_wp2_with fail
        refine (within_is B1 _).mono ?_
        rintro e w' ⟨rfl, rfl⟩
        go_wp2_with fail
        refine (within_is B2 _).mono ?_
        rintro e w' ⟨rfl, rfl⟩
        go_wp2
        go_ret
        exact ⟨by rw [hr.out]; rfl, below1 _ _⟩
      · have hr := Lib.hid (show chkRight t a d.size = 0 by unfold chkRight; rw [if_neg h1, if_neg h2, if_neg h3])
        have f0 : decide (t < a + (d.size : Int)) = false := by simp only [decide_eq_false_iff_not]; omega
        clear h1 h2 h3
        obtain ⟨c0, c1, c2, c3⟩ := hW
        go_enter Tryd.func106, Tryd.ntmps106
        go_wp2_with fail
        refine (within_is B0 _).mono ?_
        rintro e w' ⟨rfl, rfl⟩
        go_wp2_with fail
        refine (within_is B1 _).mono ?_
        rintro e w' ⟨rfl, rfl⟩
        go_wp2_with fail
        refine (within_is B2 _).mono ?_
        rintro e w' ⟨rfl, rfl⟩
        go_wp2
        go_ret
        exact ⟨by rw [hr.out]; rfl, below1 _ _⟩
end Go.Proofs.YtglemfdnfaemiaaDoor
