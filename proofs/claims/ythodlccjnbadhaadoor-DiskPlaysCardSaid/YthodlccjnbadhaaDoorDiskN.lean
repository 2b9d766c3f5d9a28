/- The program's new disk. -/
import Derived.Test.YthodlccjnbadhaaDoorRep
namespace Go.Proofs.YthodlccjnbadhaaDoor
set_option linter.unusedSimpArgs false
set_option linter.unusedVariables false
open Go.RowKit As Go.Maps
theorem secs_none (N : Nat) : secs N (fun _ => none) = List.replicate N (.string (zeros 32)) := by
  unfold secs safeAt
  apply List.ext_getElem?
  intro j
  by_cases hj : j < N
  · rw [List.getElem?_map, List.getElem?_range hj, List.getElem?_replicate, if_pos hj]; rfl
  · rw [List.getElem?_eq_none (by simp; omega), List.getElem?_eq_none (by simp; omega)]
theorem dnew_no (n : Int) (h : n < 0 ∨ 140 < n) (w : World) :
    Calls Tryd.prog 4 #[.int .i64 n] w fun e w' => e = .returned (.tuple #[.pointer none, errV 2]) ∧ w = w' := by
  by_cases h0 : n < 0
  · have d0 : decide (n < 0) = true := decide_eq_true h0
    go_enter Tryd.func4, Tryd.ntmps4
    go_wp2
    go_ret2
    exact ⟨rfl, rfl⟩
  · have d0 : decide (n < 0) = false := decide_eq_false h0
    have d1 : decide (140 < n) = true := decide_eq_true (by omega)
    clear h h0
    go_enter Tryd.func4, Tryd.ntmps4
    go_wp2
    go_ret2
    exact ⟨rfl, rfl⟩
set_option maxHeartbeats 1000000 in
set_option maxRecDepth 100000 in
theorem dnew_any (N : Nat) (h : N ≤ 140) (w : World) :
    Calls Tryd.prog 4 #[.int .i64 (N : Int)] w fun e w' => ∃ d R M, e = .returned (.tuple #[.pointer (some ⟨d, 0, none⟩), .nilIface]) ∧ PD w' d R M N N 0 (fun _ => none) (fun _ => none) ∧ (w.heap.size ≤ d ∧ w.heap.size ≤ R ∧ w.heap.size ≤ M) ∧ Below w.heap.size w w' := by
  have d0 : decide ((N : Int) < 0) = false := decide_eq_false (by omega)
  have d1 : decide (140 < (N : Int)) = false := decide_eq_false (by omega)
  have hmm := @run_makeMap Tryd.prog
  have hmk : (Instr.makeSlice 48 (.int .i64 32) (.int .i64 32)).run Tryd.prog w = .ok (.slice (some ⟨w.heap.size, 0, none⟩) 32 32) (w.alloc (.cells (madeCells #[.int .u8 0] 32) 5)) := run_make_row' (P := Tryd.prog) 48 5 (.int .u8 0) 1 Tryd.underlying48 dwInfo rfl .i64 .i64 32 (by omega) (by omega) w
  have b1 := below1 w (.cells (madeCells #[.int .u8 0] 32) 5)
  have hcv : (convert 48 9 (.slice (some ⟨w.heap.size, 0, none⟩) 32 32)).run Tryd.prog (w.alloc (.cells (madeCells #[.int .u8 0] 32) 5)) = .ok (.string (zeros 32)) (w.alloc (.cells (madeCells #[.int .u8 0] 32) 5)) := by
    have := string_of (P := Tryd.prog) _ 48 5 9 w.heap.size 32 (List.replicate 32 0) Tryd.underlying48 Tryd.underlying5 Tryd.underlying9 (bytes_made w 32)
    rw [List.length_replicate] at this
    exact this
  go_enter Tryd.func4, Tryd.ntmps4
  go_wp2_with fail
  have b2 := below1 (w.alloc (.cells (madeCells #[.int .u8 0] 32) 5)) (.cells #[.string (zeros 32)] 9)
  have b12 := b1.trans (b2.mono b1.size)
  have hc : ((w.alloc (.cells (madeCells #[.int .u8 0] 32) 5)).alloc (.cells #[.string (zeros 32)] 9)).cell? ⟨w.heap.size + 1, 0, none⟩ = some (.string (zeros 32)) := by
    rw [show w.heap.size + 1 = (w.alloc (.cells (madeCells #[.int .u8 0] 32) 5)).heap.size by simp, World.cell?_alloc_new]
    rfl
  clear hmk hcv b1 b2
  generalize (w.alloc (.cells (madeCells #[.int .u8 0] 32) 5)).alloc (.cells #[.string (zeros 32)] 9) = W2 at *
  refine (rep_any (w.heap.size + 1) N (zeros 32) W2 h hc).mono ?_
  rintro r w3 ⟨rfl, ho, hb3⟩
  have b3 := b12.trans (hb3.mono b12.size)
  have hw3 : W2.heap.size < w3.heap.size := row_lt ho
  have lW := b12.size
  have bM : Below w3.heap.size w3 (w3.alloc (.map #[] 0)) := below1 w3 (.map #[] 0)
  have iM := IM.made w3
  have bD := below1 (w3.alloc (.map #[] 0)) (.cells #[.slice (some ⟨W2.heap.size, 0, none⟩) N N, .map (some w3.heap.size)] 51)
  have b4 := b3.trans (bM.mono b3.size)
  have b5 := b4.trans (bD.mono b4.size)
  have hT : Turned (fun _ => False) w3 ((w3.alloc (.map #[] 0)).alloc (.cells #[.slice (some ⟨W2.heap.size, 0, none⟩) N N, .map (some w3.heap.size)] 51)) := (Turned.of_below bM).trans (.of_below bD)
  have hTD : Turned (fun _ => False) (w3.alloc (.map #[] 0)) ((w3.alloc (.map #[] 0)).alloc (.cells #[.slice (some ⟨W2.heap.size, 0, none⟩) N N, .map (some w3.heap.size)] 51)) := .of_below bD
  have hP : PD ((w3.alloc (.map #[] 0)).alloc (.cells #[.slice (some ⟨W2.heap.size, 0, none⟩) N N, .map (some w3.heap.size)] 51)) (w3.heap.size + 1) W2.heap.size w3.heap.size N N 0 (fun _ => none) (fun _ => none) := by
    refine ⟨?_, ?_, by rw [secs_none]; exact hT.own ho (fun _ _ => id), hTD.im iM id, .new h, by omega, by omega, by omega⟩
    · rw [show w3.heap.size + 1 = (w3.alloc (.map #[] 0)).heap.size by simp, World.cell?_alloc_new]; rfl
    · rw [show w3.heap.size + 1 = (w3.alloc (.map #[] 0)).heap.size by simp, World.cell?_alloc_new]; rfl
  clear hc ho hb3 b12 b3 b4 iM bM bD hT hTD
  go_wp2
  go_ret2
  exact ⟨_, _, _, rfl, hP, ⟨by omega, by omega, by omega⟩, b5⟩
end Go.Proofs.YthodlccjnbadhaaDoor
