/- chunk.Cut says what cutOf says. -/
import Derived.Test.YtglemfdnfaemiaaDoorStrE
import Derived.Test.YtglemfdnfaemiaaDoorCutLaw
import Derived.Test.YtglemfdnfaemiaaDoorSealWalks
import Derived.Test.YtglemfdnfaemiaaDoorSpansWalks
import Derived.Deep.QuietTactic
import Derived.BigQuiet
import Derived.Deep.RegionHeld3
import Derived.Deep.RegionWith
namespace Go.Proofs.YtglemfdnfaemiaaDoor
open Go.RowKit As
/-- How long a text is. -/
def strLen' : Value → Nat
  | .string s => s.size
  | _ => 0
theorem chkInfo : (Tryd.prog.info? 74).map (fun i => (i.zero, i.size, i.bytes)) = some (some (.agg #[.int .u32 0, .int .i64 0, .int .i64 0, .string ⟨#[]⟩]), 4, 40) := by kernel_rfl
abbrev chkV (l : List Chk) : List Value := l.flatMap chkCells
theorem chkV_snoc {w : World} {base : Nat} {E : TypeId} {v : Value} {l : List Chk} {x : Chk} {n : Nat} (hn : l.length = n) (h : w.ownsRow base E 4 v (n + 1) (chkV l ++ chkCells x)) : w.ownsRow base E 4 v (l ++ [x]).length (chkV (l ++ [x])) := by
  subst hn
  simpa [chkV, List.flatMap_append] using h
theorem cells_new4 (w : World) (a b c d : Value) (t : TypeId) : ∀ j u, ([a, b, c, d] : List Value)[j]? = some u → (w.alloc (.cells #[a, b, c, d] t)).cell? ((⟨w.heap.size, 0, none⟩ : Addr).add j) = some u := by
  intro j u hu
  have hadd : (⟨w.heap.size, 0, none⟩ : Addr).add j = ⟨w.heap.size, j, none⟩ := by unfold Addr.add; split <;> simp_all
  rw [hadd, World.cell?_alloc_new]
  simpa using hu
set_option maxHeartbeats 2000000 in
set_option maxRecDepth 100000 in
theorem cut_any (s : ByteArray) (z : Int) (w : World) (hs : s.size ≤ 1000000) :
    Calls Tryd.prog 47 #[.string s, .int .i64 z] w fun e w' => ∃ v, e = .returned (.tuple #[v, errV (cutOf s z).2]) ∧ w'.ownsRow w.heap.size 74 4 v (cutOf s z).1.length (chkV (cutOf s z).1) ∧ Below w.heap.size w w' := by
  obtain ⟨i0, hi, hz0, hz1, hz2⟩ := info_parts chkInfo
  by_cases h0 : s.size = 0 ∨ 4096 < s.size
  · have hr := Lib.hid (cut_limit (z := z) h0)
    have hq : s.toList.isEmpty = true ∨ (s.toList.isEmpty = false ∧ decide (4096 < (s.size : Int)) = true) := by
      rw [str_empty']
      simp only [decide_eq_true_eq, decide_eq_false_iff_not]; omega
    clear h0
    rcases hq with d0 | ⟨d0, d1⟩
    all_goals
      go_enter Tryd.func47, Tryd.ntmps47
      go_wp2
      go_ret2
      refine ⟨_, by rw [hr.out]; rfl, ?_, Below.refl _ _⟩
      rw [hr.out]; exact World.ownsRow_nil _ _ _ _
  · have d0 : s.toList.isEmpty = false := by rw [str_empty']; simp only [decide_eq_false_iff_not]; omega
    have d1 : decide (4096 < (s.size : Int)) = false := by simp only [decide_eq_false_iff_not]; omega
    by_cases h1 : z < 1 ∨ 256 < z
    · have hr := Lib.hid (cut_range h0 h1)
      have hq : decide (z < 1) = true ∨ (decide (z < 1) = false ∧ decide (256 < z) = true) := by
        simp only [decide_eq_true_eq, decide_eq_false_iff_not]; omega
      clear h0 h1
      rcases hq with e0 | ⟨e0, e1⟩
      all_goals
        go_enter Tryd.func47, Tryd.ntmps47
        go_wp2
        go_ret2
        refine ⟨_, by rw [hr.out]; rfl, ?_, Below.refl _ _⟩
        rw [hr.out]; exact World.ownsRow_nil _ _ _ _
    · obtain ⟨y, rfl⟩ := Int.eq_ofNat_of_zero_le (show 0 ≤ z by omega)
      have hr := Lib.hid (cut_good h0 h1)
      have e0 : decide ((y : Int) < 1) = false := by simp only [decide_eq_false_iff_not]; omega
      have e1 : decide (256 < (y : Int)) = false := by simp only [decide_eq_false_iff_not]; omega
      have hy0 : 0 < y := by omega
      have hy1 : y ≤ 256 := by omega
      have hs0 : 0 < s.size := by omega
      have hs1 : s.size ≤ 4096 := by omega
      clear h0 h1
      go_enter Tryd.func47, Tryd.ntmps47
      go_wp2
      go_loopw [6, 7] (fun v p wr => ∃ k q : Nat, p = .int .i64 q ∧ q ≤ s.size + y ∧ Hid (Cut s y k q) ∧ wr.ownsRow w.heap.size 74 4 v (pieces s y k).length (chkV (pieces s y k)) ∧ Below w.heap.size w wr) (fun _ p _ => s.size - (intOf p).toNat)
      case atStart => exact ⟨0, 0, rfl, by omega, Lib.hid (Cut.zero s y), World.ownsRow_nil _ _ _ _, Below.refl _ _⟩
      case round =>
        obtain ⟨k, q, rfl, hq, hc, hT, hbel⟩ := hrel
        have hB := hbel.size
        by_cases hlt : q < s.size
        · have hnext := Lib.hid (hc.out.succ hlt)
          have hpc := Lib.hid hc.out.piece
          have hkq := hc.out.le hy0
          have hpl := pieces_len s y k
          obtain ⟨L, hL⟩ : ∃ L, L = pieces s y k := ⟨_, rfl⟩
          rw [← hL] at hT hpl
          rw [← hL] at hpc
          have HL := Lib.hid hL
          clear hL
          have w1 : IntKind.i64.wrap ((q : Int) + (y : Int)) = ((q + y : Nat) : Int) := IntWalk.i64_in _ (by omega)
          go_wp2_with fail
          have hmin : min (s.size : Int) ((q : Int) + (y : Int)) = ((min s.size (q + y) : Nat) : Int) := by omega
          have hq1 : q ≤ min s.size (q + y) := by omega
          have hq2 : min s.size (q + y) ≤ s.size := by omega
          have hi1 : (0 : Int) ≤ (q : Int) := by omega
          have hi2 : (q : Int) ≤ ((min s.size (q + y) : Nat) : Int) := by omega
          have hi3 : ((min s.size (q + y) : Nat) : Int) ≤ (s.size : Int) := by omega
          have HPC : Hid (pieces s y (k + 1) = L ++ [((Crc.more 0 s.data.toList : Int), (s.size : Int), (q : Int), s.extract q (min s.size (q + y)))]) := hpc
          clear hpc
          generalize hMM : min s.size (q + y) = M at *
          have HM := Lib.hid hMM
          clear hMM
          generalize hCC : Crc.more 0 s.data.toList = C at *
          have HC := Lib.hid hCC
          clear hCC
          go_region_held3 (fun wx => w.heap.size ≤ wx.heap.size) (first | assumption | exact hb1.size | (simp; omega))
            (first
              | (go_at_call 92; refine (Crc.sum_any s _ (by unfold maxLen; omega)).mono ?_; rintro e w' ⟨rfl, rfl⟩; rw [HC.out])
              | (refine step_append_own rfl (.tmp 32) (.tmp 48) 66 rfl w.heap.size 74 i0 (.agg #[.int .u32 0, .int .i64 0, .int .i64 0, .string ⟨#[]⟩]) 4 40 Tryd.underlying66 hi hz0 hz1 hz2 rfl (by decide) u6 L.length (chkV L) rfl (hT.alloc _) ⟨wr.heap.size, 0, none⟩ 1 1 [.int .u32 (C : Int), .int .i64 (s.size : Int), .int .i64 (q : Int), .string (s.extract q M)] rfl rfl (cells_new4 _ _ _ _ _ _) (by intro u hu; simp at hu; rcases hu with rfl | rfl | rfl | rfl <;> rfl) (by unfold maxLen; omega) (by omega) (by simp; omega) ?_; intro v1 w2 hT2 hg2; have hb1 := grown_own (hbel.alloc hB _).drew hg2 (by simp; omega) (hT.alloc _); have hT3 := chkV_snoc (x := ((C : Int), (s.size : Int), (q : Int), s.extract q M)) rfl hT2))
          all_goals
            clear hmin w1
            go_wp2
            go_roundw
            case rel => exact ⟨k + 1, q + y, by go_num, by omega, hnext, by rw [HPC.out]; exact hT3, hb1⟩
            case measure => simp [intOf]; omega
        · have hdone := Lib.hid (hc.out.done hy0 (by omega) hs0)
          go_wp2
          go_ret2
          refine ⟨_, by rw [hr.out]; rfl, ?_, hbel⟩
          rw [hr.out, ← hdone.out]; exact hT
set_option maxHeartbeats 2000000 in
set_option maxRecDepth 100000 in
theorem rcut_any (s : ByteArray) (z : Int) (w : World) (hs : s.size ≤ 1000000) :
    Calls Tryd.prog 46 #[.string s, .int .i64 z] w fun e w' => ∃ v, e = .returned (.tuple #[v, .int .i64 (cutOf s z).2]) ∧ w'.ownsRow w.heap.size 74 4 v (cutOf s z).1.length (chkV (cutOf s z).1) ∧ Below w.heap.size w w' := by
  obtain ⟨i0, hi, hz0, hz1, hz2⟩ := info_parts chkInfo
  by_cases h0 : s.size = 0 ∨ 4096 < s.size
  · have hr := Lib.hid (cut_limit (z := z) h0)
    have B0 := Lib.hid (show inB (s.size : Int) 1 4096 = false by unfold inB; rw [decide_eq_false]; omega)
    clear h0
    go_enter Tryd.func46, Tryd.ntmps46
    go_wp2_with fail
    refine (within_is B0 _).mono ?_
    rintro e w' ⟨rfl, rfl⟩
    go_wp2
    go_ret2
    refine ⟨_, by rw [hr.out]; rfl, ?_, Below.refl _ _⟩
    rw [hr.out]; exact World.ownsRow_nil _ _ _ _
  · have B0 := Lib.hid (show inB (s.size : Int) 1 4096 = true by unfold inB; rw [decide_eq_true]; omega)
    by_cases h1 : z < 1 ∨ 256 < z
    · have hr := Lib.hid (cut_range h0 h1)
      have B1 := Lib.hid (show inB z 1 256 = false by unfold inB; rw [decide_eq_false]; omega)
      clear h0 h1
      go_enter Tryd.func46, Tryd.ntmps46
      go_wp2_with fail
      refine (within_is B0 _).mono ?_
      rintro e w' ⟨rfl, rfl⟩
      go_wp2_with fail
      refine (within_is B1 _).mono ?_
      rintro e w' ⟨rfl, rfl⟩
      go_wp2
      go_ret2
      refine ⟨_, by rw [hr.out]; rfl, ?_, Below.refl _ _⟩
      rw [hr.out]; exact World.ownsRow_nil _ _ _ _
    · obtain ⟨y, rfl⟩ := Int.eq_ofNat_of_zero_le (show 0 ≤ z by omega)
      have hr := Lib.hid (cut_good h0 h1)
      have B1 := Lib.hid (show inB (y : Int) 1 256 = true by unfold inB; rw [decide_eq_true]; omega)
      have hy0 : 0 < y := by omega
      have hy1 : y ≤ 256 := by omega
      have hs0 : 0 < s.size := by omega
      have hs1 : s.size ≤ 4096 := by omega
      clear h0 h1
      go_enter Tryd.func46, Tryd.ntmps46
      go_wp2_with fail
      refine (within_is B0 _).mono ?_
      rintro e w' ⟨rfl, rfl⟩
      go_wp2_with fail
      refine (within_is B1 _).mono ?_
      rintro e w' ⟨rfl, rfl⟩
      go_wp2_with fail
      refine (Crc.rsum_any s w (by omega)).mono ?_
      rintro e w' ⟨rfl, rfl⟩
      have hcc := Lib.hid (show (crcOf s : Int) = (Crc.more 0 s.data.toList : Int) from rfl)
      generalize hCC : Crc.more 0 s.data.toList = C at *
      clear hCC
      have hall := Lib.hid (extract_all s)
      go_wp2
      go_loopw [6, 8, 9] (fun v r _ wr => ∃ k q : Nat, r = .string (s.extract q s.size) ∧ q ≤ s.size ∧ Hid (∃ q', Cut s y k q' ∧ q = min s.size q') ∧ wr.ownsRow w.heap.size 74 4 v (pieces s y k).length (chkV (pieces s y k)) ∧ Below w.heap.size w wr) (fun _ r _ _ => strLen' r)
      case atStart => exact ⟨0, 0, by rw [hall.out], by omega, Lib.hid ⟨0, Cut.zero s y, by omega⟩, World.ownsRow_nil _ _ _ _, Below.refl _ _⟩
      case round =>
        obtain ⟨k, q, rfl, hq, hc0, hT, hbel⟩ := hrel
        obtain ⟨q', hc, hqq⟩ := hc0.out
        have HC := Lib.hid hc
        have hB := hbel.size
        have hrs := extract_rest s q hq
        by_cases hlt : q < s.size
        · have hq2 : q' = q := by omega
          rw [hq2] at hc
          have hnext := Lib.hid (hc.succ hlt)
          have hpc := Lib.hid hc.piece
          have hkq := hc.le hy0
          clear hc HC hc0 hqq
          have hpl := pieces_len s y k
          obtain ⟨L, hL⟩ : ∃ L, L = pieces s y k := ⟨_, rfl⟩
          rw [← hL] at hT hpl hpc
          have HL := Lib.hid hL
          clear hL
          have hE : (s.extract q s.size).toList.isEmpty = false := by rw [str_empty', hrs, decide_eq_false]; omega
          have hmm : min (y : Int) ((s.size - q : Nat) : Int) = ((min y (s.size - q) : Nat) : Int) := by omega
          have hx1 := Lib.hid (extract_twice s q (min y (s.size - q)) (s.size - q) hq rfl)
          have hx2 := Lib.hid (show (s.extract q s.size).extract 0 (min y (s.size - q)) = s.extract q (min s.size (q + y)) by
            rw [ByteArray.extract_extract]; congr 1; omega)
          have hnq := Lib.hid (show q + min y (s.size - q) = min s.size (q + y) by omega)
          obtain ⟨R, hR⟩ : ∃ R, R = s.extract q s.size := ⟨_, rfl⟩
          rw [← hR] at hrs hE hx1 hx2 ⊢
          have HR := Lib.hid hR
          clear hR
          obtain ⟨M, hM⟩ : ∃ M, M = min y (s.size - q) := ⟨_, rfl⟩
          rw [← hM] at hmm hx1 hx2 hnq
          have hM1 : M ≤ s.size - q := by omega
          have hM0 : 0 < M := by omega
          have HM := Lib.hid hM
          clear hM
          have HPC : Hid (pieces s y (k + 1) = L ++ [((C : Int), (s.size : Int), (q : Int), R.extract 0 M)]) := Lib.hid (by rw [hpc.out, hx2.out, hcc.out])
          have hsub : (s.size : Int) - ((s.size - q : Nat) : Int) = (q : Int) := by omega
          clear hpc
          go_wp2_with (first
            | (at_builtin; refine wpList_append_own _ rfl (.tmp 26) (.tmp 39) 66 rfl w.heap.size 74 i0 (.agg #[.int .u32 0, .int .i64 0, .int .i64 0, .string ⟨#[]⟩]) 4 40 Tryd.underlying66 hi hz0 hz1 hz2 rfl (by decide) u6 L.length (chkV L) rfl (hT.alloc _) ⟨wr.heap.size, 0, none⟩ 1 1 [.int .u32 (C : Int), .int .i64 (s.size : Int), .int .i64 (q : Int), .string (R.extract 0 M)] rfl rfl (cells_new4 _ _ _ _ _ _) (by intro u hu; simp at hu; rcases hu with rfl | rfl | rfl | rfl <;> rfl) (by unfold maxLen; omega) (by omega) (by simp; omega) ?_; intro v1 w2 hT2 hg2 _; have hb1 := grown_own (hbel.alloc hB _) hg2 (by simp; omega) (hT.alloc _); have hT3 := chkV_snoc (x := ((C : Int), (s.size : Int), (q : Int), R.extract 0 M)) rfl hT2))
          go_roundw
          case rel => exact ⟨k + 1, q + M, by rw [hx1.out], by omega, Lib.hid ⟨q + y, hnext.out, hnq.out⟩, by rw [HPC.out]; exact hT3, hb1⟩
          case measure => simp only [strLen']; rw [ByteArray.size_extract]; omega
        · have hdone := Lib.hid (hc.done hy0 (by omega) hs0)
          have hE : (s.extract q s.size).toList.isEmpty = true := by rw [str_empty', hrs, decide_eq_true]; omega
          obtain ⟨R, hR⟩ : ∃ R, R = s.extract q s.size := ⟨_, rfl⟩
          rw [← hR] at hE ⊢
          clear hR hrs HC hc hc0 hqq
          go_wp2
          go_ret2
          refine ⟨_, by rw [hr.out]; rfl, ?_, hbel⟩
          rw [hr.out, ← hdone.out]; exact hT
end Go.Proofs.YtglemfdnfaemiaaDoor
