/- TokensRight of the reference says what tright says. -/
import Derived.Test.YtnaclpfcldoebaaDoorToks
namespace Go.Proofs.YtnaclpfcldoebaaDoor
open Go.RowKit As
set_option maxHeartbeats 2000000 in
set_option maxRecDepth 100000 in
theorem rtright_any (w : World) (n c : Nat) (A : Option Addr) (l : List Tok) (hl : Toks w w.heap.size A n l) (hn : n ≤ maxLen) :
    Calls Tryd.prog 42 #[.slice A n c] w fun e w' => e = .returned (faultV (tright l)) ∧ Below w.heap.size w w' := by
  unfold maxLen at hn
  have hlen := Lib.hid hl.len
  go_enter Tryd.func42, Tryd.ntmps42
  go_wp2
  go_loopw [3, 4, 5, 8] (fun m _ _ i wr => ∃ k p : Nat, k ≤ n ∧ i = .int .i64 k ∧ m = .int .i64 p ∧ TAt l k p ∧ Two wr w.heap.size 0 0 ∧ Below w.heap.size w wr) (fun _ _ _ i _ => n - (intOf i).toNat)
  case atStart => exact ⟨0, 0, by omega, rfl, rfl, TAt.zero l, Two.new _ _ _ _, below1 _ _⟩
  case round =>
    obtain ⟨k, p, hk, rfl, rfl, hat, hT, hbel⟩ := hrel
    have hp := hat.2
    have Hat := Lib.hid hat
    clear hat
    obtain ⟨g0, g1, f0, f1⟩ := hT
    have hs : w.heap.size < wr.heap.size := cell_lt g0
    by_cases hlt : k < n
    · obtain ⟨b, o, s, r, t, rfl, hb, hx, hf, c0, c1, c2⟩ := hl.at_ hlt
      have c0 := (hbel.cell (p := ⟨b, o + k * 3, none⟩) (by simp; omega)).trans c0
      have c1 := (hbel.cell (p := ⟨b, o + k * 3 + 1, none⟩) (by simp; omega)).trans c1
      have c2 := (hbel.cell (p := ⟨b, o + k * 3 + 2, none⟩) (by simp; omega)).trans c2
      have hX := Lib.hid hx
      obtain ⟨f3, f4, f5⟩ := hf
      simp only at f3 f4 f5
      clear hx
      by_cases ha : tokArg (s, r, t)
      · have hres := Lib.hid (Hat.out.arg hX.out ha)
        have hparts : (s.toList.isEmpty = true ∧ (t == 0) = true ∧ (r == 0) = true) ∨ (s.toList.isEmpty = false ∧ (t != 0) = true) ∨ (s.toList.isEmpty = false ∧ (t != 0) = false ∧ (r != 0) = true) := by
          unfold tokArg at ha
          simp only at ha
          rw [str_empty]
          simp only [decide_eq_true_eq, decide_eq_false_iff_not, bne_iff_ne, bne_eq_false_iff_eq, beq_iff_eq]
          omega
        clear ha
        have S := set2_alloc (.int .i64 1) (.int .i64 (k : Int)) (.cells #[.string s, .int .i64 r, .int .i64 t] 48) hs g0 g1
        rcases hparts with ⟨d0, d1, d2⟩ | ⟨d0, d1⟩ | ⟨d0, d1, d2⟩
        all_goals
          go_wp2_with fail
          exact bodyPost_ret (v := .agg #[.int .i64 1, .int .i64 (k : Int)]) (by simp [results, Tryd.results42, go_sem, S.1, S.2]) rfl ⟨by rw [hres.out]; rfl, (below_set2 _ _ hbel (Nat.le_refl _)).alloc (by simp; omega) _⟩
      · by_cases h1 : s.size = 0
        · have hparts : (s.toList.isEmpty = true ∧ (t == 0) = false) ∨ (s.toList.isEmpty = true ∧ (t == 0) = true ∧ (r == 0) = false) := by
            unfold tokArg at ha
            simp only at ha
            rw [str_empty]
            simp only [decide_eq_true_eq, beq_iff_eq, beq_eq_false_iff_ne]
            omega
          have Ha := Lib.hid ha
          have H1 := Lib.hid h1
          clear ha h1
          by_cases h2 : tokRange (s, r, t)
          · have hres := Lib.hid (Hat.out.range hX.out Ha.out H1.out h2)
            have hq : inB t 4 67 = false ∨ (inB t 4 67 = true ∧ inB r 1 1024 = false) := by
              unfold tokRange at h2
              unfold inB
              simp only at h2
              simp only [decide_eq_true_eq, decide_eq_false_iff_not]
              omega
            clear h2
            have S := set2_alloc (.int .i64 2) (.int .i64 (k : Int)) (.cells #[.string s, .int .i64 r, .int .i64 t] 48) hs g0 g1
            rcases hq with e0 | ⟨e0, e1⟩
            · have E0 := Lib.hid e0
              clear e0
              rcases hparts with ⟨d0, d1⟩ | ⟨d0, d1, d2⟩
              all_goals
                go_wp2_with fail
                refine (within_is E0 _).mono ?_
                rintro e w' ⟨rfl, rfl⟩
                go_wp2
                exact bodyPost_ret (v := .agg #[.int .i64 2, .int .i64 (k : Int)]) (by simp [results, Tryd.results42, go_sem, S.1, S.2]) rfl ⟨by rw [hres.out]; rfl, (below_set2 _ _ hbel (Nat.le_refl _)).alloc (by simp; omega) _⟩
            · have E0 := Lib.hid e0
              have E1 := Lib.hid e1
              clear e0 e1
              rcases hparts with ⟨d0, d1⟩ | ⟨d0, d1, d2⟩
              all_goals
                go_wp2_with fail
                refine (within_is E0 _).mono ?_
                rintro e w' ⟨rfl, rfl⟩
                go_wp2_with fail
                refine (within_is E1 _).mono ?_
                rintro e w' ⟨rfl, rfl⟩
                go_wp2
                exact bodyPost_ret (v := .agg #[.int .i64 2, .int .i64 (k : Int)]) (by simp [results, Tryd.results42, go_sem, S.1, S.2]) rfl ⟨by rw [hres.out]; rfl, (below_set2 _ _ hbel (Nat.le_refl _)).alloc (by simp; omega) _⟩
          · have ht : 4 ≤ t ∧ t ≤ 67 ∧ 1 ≤ r ∧ r ≤ 1024 := by unfold tokRange at h2; simp only at h2; omega
            have E0 := Lib.hid (show inB t 4 67 = true by unfold inB; simp; omega)
            have E1 := Lib.hid (show inB r 1 1024 = true by unfold inB; simp; omega)
            obtain ⟨q0, q1, q2, q3⟩ := ht
            have H2 := Lib.hid h2
            clear h2
            by_cases h3 : (p : Int) < r
            · have hres := Lib.hid (Hat.out.missing hX.out Ha.out H1.out H2.out h3)
              have e4 : decide ((p : Int) < r) = true := by simpa using h3
              clear h3
              have S := set2_alloc (.int .i64 7) (.int .i64 (k : Int)) (.cells #[.string s, .int .i64 r, .int .i64 t] 48) hs g0 g1
              rcases hparts with ⟨d0, d1⟩ | ⟨d0, d1, d2⟩
              all_goals
                go_wp2_with fail
                refine (within_is E0 _).mono ?_
                rintro e w' ⟨rfl, rfl⟩
                go_wp2_with fail
                refine (within_is E1 _).mono ?_
                rintro e w' ⟨rfl, rfl⟩
                go_wp2
                exact bodyPost_ret (v := .agg #[.int .i64 7, .int .i64 (k : Int)]) (by simp [results, Tryd.results42, go_sem, S.1, S.2]) rfl ⟨by rw [hres.out]; rfl, (below_set2 _ _ hbel (Nat.le_refl _)).alloc (by simp; omega) _⟩
            · have e4 : decide ((p : Int) < r) = false := by simpa using h3
              have H3 := Lib.hid h3
              clear h3
              by_cases h4 : 20000 < p + t.toNat
              · have hres := Lib.hid (Hat.out.big hX.out Ha.out H1.out H2.out H3.out h4)
                have e5 : decide (20000 < (p : Int) + t) = true := by simp; omega
                clear h4
                have S := set2_alloc (.int .i64 4) (.int .i64 (k : Int)) (.cells #[.string s, .int .i64 r, .int .i64 t] 48) hs g0 g1
                rcases hparts with ⟨d0, d1⟩ | ⟨d0, d1, d2⟩
                all_goals
                  go_wp2_with fail
                  refine (within_is E0 _).mono ?_
                  rintro e w' ⟨rfl, rfl⟩
                  go_wp2_with fail
                  refine (within_is E1 _).mono ?_
                  rintro e w' ⟨rfl, rfl⟩
                  go_wp2
                  exact bodyPost_ret (v := .agg #[.int .i64 4, .int .i64 (k : Int)]) (by simp [results, Tryd.results42, go_sem, S.1, S.2]) rfl ⟨by rw [hres.out]; rfl, (below_set2 _ _ hbel (Nat.le_refl _)).alloc (by simp; omega) _⟩
              · have hnext := Lib.hid (Hat.out.next hX.out Ha.out H1.out H2.out H3.out h4)
                have e5 : decide (20000 < (p : Int) + t) = false := by simp; omega
                have H4 := Lib.hid h4
                clear h4
                rcases hparts with ⟨d0, d1⟩ | ⟨d0, d1, d2⟩
                all_goals
                  go_wp2_with fail
                  refine (within_is E0 _).mono ?_
                  rintro e w' ⟨rfl, rfl⟩
                  go_wp2_with fail
                  refine (within_is E1 _).mono ?_
                  rintro e w' ⟨rfl, rfl⟩
                  go_wp2
                  go_roundw
                  case rel => exact ⟨k + 1, p + t.toNat, by omega, by go_num, valI (by omega), hnext.out, (Two.mk g0 g1 f0 f1).below (below1 _ _), hbel.alloc (by omega) _⟩
                  case measure => simp [intOf]; omega
        · have d0 : s.toList.isEmpty = false := str_yes h1
          have hz : t = 0 ∧ r = 0 := by unfold tokArg at ha; simp only at ha; omega
          obtain ⟨rfl, rfl⟩ := hz
          have Ha := Lib.hid ha
          have H1 := Lib.hid h1
          clear ha h1
          by_cases h2 : 20000 < p + s.size
          · have hres := Lib.hid (Hat.out.ownBig hX.out Ha.out H1.out h2)
            have e5 : decide (20000 < (p : Int) + (s.size : Int)) = true := by simp; omega
            clear h2
            have S := set2_alloc (.int .i64 4) (.int .i64 (k : Int)) (.cells #[.string s, .int .i64 0, .int .i64 0] 48) hs g0 g1
            go_wp2
            exact bodyPost_ret (v := .agg #[.int .i64 4, .int .i64 (k : Int)]) (by simp [results, Tryd.results42, go_sem, S.1, S.2]) rfl ⟨by rw [hres.out]; rfl, (below_set2 _ _ hbel (Nat.le_refl _)).alloc (by simp; omega) _⟩
          · have hnext := Lib.hid (Hat.out.ownNext hX.out Ha.out H1.out h2)
            have e5 : decide (20000 < (p : Int) + (s.size : Int)) = false := by simp; omega
            have e6 : s.size ≤ 20000 := by omega
            have e7 : wrap64 ((p : Int) + (s.size : Int)) = (p : Int) + (s.size : Int) := by unfold wrap64; omega
            go_wp2
            go_roundw
            case rel => exact ⟨k + 1, p + s.size, by omega, by go_num, by go_num, hnext.out, (Two.mk g0 g1 f0 f1).below (below1 _ _), hbel.alloc (by omega) _⟩
            case measure => simp [intOf]; omega
    · obtain rfl : k = n := by omega
      have hend := Lib.hid (Hat.out.all (by rw [hlen.out]; exact Nat.le_refl _))
      clear hlt
      go_wp2_with fail
      refine (good_any _).mono ?_
      rintro e w' ⟨rfl, hb⟩
      have f0 := (hb.frozen (p := ⟨w.heap.size, 0, none⟩) hs).trans f0
      have f1 := (hb.frozen (p := ⟨w.heap.size, 1, none⟩) hs).trans f1
      have g0 := (hb.cell (p := ⟨w.heap.size, 0, none⟩) hs).trans g0
      have g1 := (hb.cell (p := ⟨w.heap.size, 1, none⟩) hs).trans g1
      have S := set2 (.int .i64 0) (.int .i64 (-1)) g0 g1
      go_wp2
      exact bodyPost_ret (v := .agg #[.int .i64 0, .int .i64 (-1)]) (by simp [results, Tryd.results42, go_sem, S.1, S.2]) rfl ⟨by rw [hend.out]; rfl, below_set2 _ _ (hbel.trans (hb.mono (by omega))) (Nat.le_refl _)⟩
end Go.Proofs.YtnaclpfcldoebaaDoor
