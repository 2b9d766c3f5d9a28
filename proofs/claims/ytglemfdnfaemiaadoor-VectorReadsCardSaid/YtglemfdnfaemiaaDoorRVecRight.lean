/- VectorRight of the reference says what vright says. -/
import Derived.Test.YtglemfdnfaemiaaDoorVecRight
namespace Go.Proofs.YtglemfdnfaemiaaDoor
open Go.RowKit As
set_option maxHeartbeats 1000000 in
theorem rvright_any (w : World) (n c : Nat) (A : Option Addr) (l : List Ent) (hl : Ents w w.heap.size A n l) (hn : n ≤ maxLen) :
    Calls Tryd.prog 25 #[.slice A n c] w fun e w' => e = .returned (faultV (vright l)) ∧ Below w.heap.size w w' := by
  unfold maxLen at hn
  have hlen := hl.len
  by_cases hbig : 16 < n
  · have hv := Lib.hid (vright_big (l := l) (by omega))
    have hd : decide (16 < n) = true := by simpa using hbig
    have hlen := Lib.hid hlen
    clear hl
    go_enter Tryd.func25, Tryd.ntmps25
    go_wp2_with fail
    refine (bareF_any _ _).mono ?_
    rintro e w' ⟨rfl, hb⟩
    have hz := hb.size
    obtain ⟨c0, c1, f0, f1⟩ := (Two.new w 0 0 29).below hb
    have S := set2 (.int .i64 4) (.int .i64 (-1)) c0 c1
    simp at hz
    go_wp2
    exact bodyPost_ret (v := .agg #[.int .i64 4, .int .i64 (-1)]) (by simp [results, Tryd.results25, go_sem, S.1, S.2]) rfl ⟨by rw [hv.out]; rfl, below_set2 _ _ ((below1 _ _).trans (hb.mono (by simp))) (Nat.le_refl _)⟩
  · have hv := Lib.hid (vright_small (l := l) (by omega))
    have hd : decide (16 < n) = false := by simpa using hbig
    have hlen := Lib.hid hlen
    go_enter Tryd.func25, Tryd.ntmps25
    go_wp2
    go_loopw [3, 4, 5, 12] (fun last _ _ i wr => ∃ k : Nat, k ≤ n ∧ i = .int .i64 k ∧ last = .int .i64 (lastAt l k) ∧ VAt l k ∧ Two wr w.heap.size 0 0 ∧ Below w.heap.size w wr) (fun _ _ _ i _ => n - (intOf i).toNat)
    case atStart => exact ⟨0, by omega, rfl, rfl, VAt.zero l, Two.new _ _ _ _, below1 _ _⟩
    case round =>
      obtain ⟨k, hk, rfl, rfl, hat, hT, hbel⟩ := hrel
      have Hat := Lib.hid hat
      clear hat
      obtain ⟨c0, c1, f0, f1⟩ := hT
      have hs : w.heap.size < wr.heap.size := cell_lt c0
      by_cases hlt : k < n
      · obtain ⟨b, o, r, t, rfl, hb, hx, hf, hc0, hc1⟩ := hl.at_ hlt
        have e0 := (hbel.cell (p := ⟨b, o + k * 2, none⟩) (by simp; omega)).trans hc0
        have e1 := (hbel.cell (p := ⟨b, o + k * 2 + 1, none⟩) (by simp; omega)).trans hc1
        clear hc0 hc1
        have hX := Lib.hid hx
        clear hx
        have hrt := Lib.hid hf
        clear hf
        obtain ⟨last, hla⟩ : ∃ last, last = lastAt l k := ⟨_, rfl⟩
        rw [← hla]
        have hla := Lib.hid hla
        by_cases hbad : entBad (r, t)
        · have hres := Lib.hid (Hat.out.bad hX.out hbad)
          have hparts := bad_inB hbad
          clear hbad
          have S := set2_alloc (.int .i64 2) (.int .i64 (k : Int)) (.cells #[.int .i64 r, .int .i64 t] 92) hs c0 c1
          rcases hparts with B0' | ⟨B0', B1'⟩
          · have B0 := Lib.hid B0'
            clear B0'
            go_wp2_with fail
            refine (within_is B0 _).mono ?_
            rintro e w' ⟨rfl, rfl⟩
            go_wp2
            exact bodyPost_ret (v := .agg #[.int .i64 2, .int .i64 (k : Int)]) (by simp [results, Tryd.results25, go_sem, S.1, S.2]) rfl ⟨by rw [hv.out, hres.out]; rfl, (below_set2 _ _ hbel (Nat.le_refl _)).alloc (by simp; omega) _⟩
          · have B0 := Lib.hid B0'
            have B1 := Lib.hid B1'
            clear B0' B1'
            go_wp2_with fail
            refine (within_is B0 _).mono ?_
            rintro e w' ⟨rfl, rfl⟩
            go_wp2_with fail
            refine (within_is B1 _).mono ?_
            rintro e w' ⟨rfl, rfl⟩
            go_wp2
            exact bodyPost_ret (v := .agg #[.int .i64 2, .int .i64 (k : Int)]) (by simp [results, Tryd.results25, go_sem, S.1, S.2]) rfl ⟨by rw [hv.out, hres.out]; rfl, (below_set2 _ _ hbel (Nat.le_refl _)).alloc (by simp; omega) _⟩
        · have hok : 0 ≤ r ∧ r ≤ 200 ∧ 1 ≤ t ∧ t ≤ 1099511627776 := by unfold entBad at hbad; simp only at hbad; omega
          obtain ⟨g0, g1, g2, g3⟩ := hok
          have B0 := Lib.hid (show inB r 0 200 = true by unfold inB; simp [g0, g1])
          have B1 := Lib.hid (show inB t 1 1099511627776 = true by unfold inB; simp [g2, g3])
          clear g0 g1 g2 g3
          have Hbad := Lib.hid hbad
          clear hbad
          by_cases ho : r ≤ last
          · have hres := Lib.hid (Hat.out.order hX.out Hbad.out (by rw [← hla.out]; exact ho))
            have S := set2_alloc (.int .i64 10) (.int .i64 (k : Int)) (.cells #[.int .i64 r, .int .i64 t] 92) hs c0 c1
            go_wp2_with fail
            refine (within_is B0 _).mono ?_
            rintro e w' ⟨rfl, rfl⟩
            go_wp2_with fail
            refine (within_is B1 _).mono ?_
            rintro e w' ⟨rfl, rfl⟩
            go_wp2
            exact bodyPost_ret (v := .agg #[.int .i64 10, .int .i64 (k : Int)]) (by simp [results, Tryd.results25, go_sem, S.1, S.2]) rfl ⟨by rw [hv.out, hres.out]; rfl, (below_set2 _ _ hbel (Nat.le_refl _)).alloc (by simp; omega) _⟩
          · have hnext := Lib.hid (Hat.out.succ hX.out Hbad.out (by rw [← hla.out]; exact ho))
            have hl2 := Lib.hid (lastAt_succ l k r t hX.out)
            go_wp2_with fail
            refine (within_is B0 _).mono ?_
            rintro e w' ⟨rfl, rfl⟩
            go_wp2_with fail
            refine (within_is B1 _).mono ?_
            rintro e w' ⟨rfl, rfl⟩
            go_wp2
            go_roundw
            case rel => exact ⟨k + 1, by omega, by go_num, by rw [hl2.out], hnext.out, (Two.mk c0 c1 f0 f1).below (below1 _ _), hbel.alloc (by omega) _⟩
            case measure => simp [intOf]; omega
      · obtain rfl : k = n := by omega
        have hend := Lib.hid (Hat.out.all (by rw [hlen.out]; exact Nat.le_refl _))
        clear hlt
        go_wp2_with fail
        refine (good_any _).mono ?_
        rintro e w' ⟨rfl, hb⟩
        have hz := hb.size
        have f0 := (hb.frozen (p := ⟨w.heap.size, 0, none⟩) hs).trans f0
        have f1 := (hb.frozen (p := ⟨w.heap.size, 1, none⟩) hs).trans f1
        have c0 := (hb.cell (p := ⟨w.heap.size, 0, none⟩) hs).trans c0
        have c1 := (hb.cell (p := ⟨w.heap.size, 1, none⟩) hs).trans c1
        have S := set2 (.int .i64 0) (.int .i64 (-1)) c0 c1
        go_wp2
        exact bodyPost_ret (v := .agg #[.int .i64 0, .int .i64 (-1)]) (by simp [results, Tryd.results25, go_sem, S.1, S.2]) rfl ⟨by rw [hv.out, hend.out]; rfl, below_set2 _ _ (hbel.trans (hb.mono (by omega))) (Nat.le_refl _)⟩
end Go.Proofs.YtglemfdnfaemiaaDoor
