/- Unchunk of the reference says what unchunk says. -/
import Derived.Test.YtglemfdnfaemiaaDoorChunkRead
namespace Go.Proofs.YtglemfdnfaemiaaDoor
set_option linter.unusedSimpArgs false
set_option linter.unusedVariables false
open Go.RowKit As
theorem first_of {t : ByteArray} (h : 0 < t.size) : (t.extract 0 1).data = #[t[0]] := by
  apply Array.ext
  · simp only [ByteArray.data_extract, Array.size_extract, List.size_toArray, List.length_singleton]
    have : t.data.size = t.size := rfl
    omega
  · intro i h1 h2
    obtain rfl : i = 0 := by simpa using h2
    simp only [ByteArray.data_extract, Array.getElem_extract]
    rfl
/-- Whether a text begins with C. -/
def isC (t : ByteArray) : Bool := decide (¬ (t.size = 0 ∨ byteAt t 0 ≠ 67))
set_option maxRecDepth 100000 in
theorem prefixC_any (t : ByteArray) (w : World) (ht : t.size ≤ 1000000) :
    Calls Tryd.prog 108 #[.string t, .string ⟨#[67]⟩] w fun e w' => e = .returned (.bool (isC t)) ∧ w = w' := by
  by_cases h0 : t.size = 0
  · have hr := Lib.hid (show isC t = false by unfold isC; rw [decide_eq_false]; intro h; exact h (.inl h0))
    have d0 : decide (1 ≤ t.size) = false := by simp only [decide_eq_false_iff_not]; omega
    have d1 : decide ((1 : Int) ≤ (t.size : Int)) = false := by simp only [decide_eq_false_iff_not]; omega
    clear h0
    go_enter Tryd.func108, Tryd.ntmps108
    go_wp2
    go_ret
    exact ⟨by rw [hr.out]; rfl, rfl⟩
  · have hp : 0 < t.size := by omega
    have d0 : decide (1 ≤ t.size) = true := by simp only [decide_eq_true_eq]; omega
    have d1 : decide ((1 : Int) ≤ (t.size : Int)) = true := by simp only [decide_eq_true_eq]; omega
    have i1 : (1 : Int) ≤ (t.size : Int) := by omega
    have hb := byteAt_eq t 0 hp
    have hf := first_of hp
    by_cases hc : byteAt t 0 = 67
    · have hr := Lib.hid (show isC t = true by unfold isC; rw [decide_eq_true]; intro h; rcases h with h | h <;> omega)
      have hE : t.extract 0 1 = ⟨#[67]⟩ := by
        apply ByteArray.ext
        rw [hf]
        have : t[0] = 67 := by apply UInt8.toNat_inj.1; rw [← hb, hc]; rfl
        rw [this]
      clear h0 hb hf hc
      go_enter Tryd.func108, Tryd.ntmps108
      go_wp2
      go_ret
      exact ⟨by rw [hr.out]; rfl, rfl⟩
    · have hr := Lib.hid (show isC t = false by unfold isC; rw [decide_eq_false]; intro h; exact h (.inr hc))
      have hE : t.extract 0 1 ≠ ⟨#[67]⟩ := by
        intro h
        rw [h] at hf
        have h67 : (67 : UInt8) = t[0] := by
          have := congrArg (fun a : Array UInt8 => a.toList) hf
          simpa using this
        exact hc (by rw [hb, ← h67]; rfl)
      have hne : ((t.extract 0 1).toList == [67]) = false := by
        rw [beq_eq_false_iff_ne, ByteArray.toList_eq]
        intro h
        apply hE
        apply ByteArray.ext
        apply Array.ext'
        rw [h]
      clear h0 hb hf hc hE
      go_enter Tryd.func108, Tryd.ntmps108
      go_wp2
      go_ret
      exact ⟨by rw [hr.out]; rfl, rfl⟩
/-- The name's bytes from above i on. -/
def nmF (t : ByteArray) (i : Nat) : Nat := if i = 4 then 0 else if i = 3 then byteAt t 4 else if i = 2 then byteAt t 3 + 256 * byteAt t 4 else if i = 1 then byteAt t 2 + 256 * (byteAt t 3 + 256 * byteAt t 4) else nameOf t
theorem nmF_step (t : ByteArray) {i : Nat} (h : i < 4) : nmF t i = nmF t (i + 1) * 256 + byteAt t (i + 1) ∧ nmF t i < 4294967296 ∧ nmF t (i + 1) * 256 < 4294967296 := by
  have h1 := byteAt_lt t 1
  have h2 := byteAt_lt t 2
  have h3 := byteAt_lt t 3
  have h4 := byteAt_lt t 4
  rcases (by omega : i = 0 ∨ i = 1 ∨ i = 2 ∨ i = 3) with rfl | rfl | rfl | rfl <;> simp [nmF, nameOf] <;> omega
set_option maxHeartbeats 4000000 in
set_option maxRecDepth 100000 in
theorem rcread_any (s : ByteArray) (w : World) (hs : s.size ≤ 1000000) :
    Calls Tryd.prog 73 #[.string s] w fun r w' => r = .returned (.tuple #[ckVal (unchunk s).1, .int .i64 (unchunk s).2]) ∧ Below w.heap.size w w' := by
  have hR := Ck.new w 0 0 0 ⟨#[]⟩
  have b0 := below1 w (ckO 0 0 0 ⟨#[]⟩)
  have hz0 := Lib.hid (show unchunk s = if (openOf s).2 ≠ 0 then (chk0, (openOf s).2) else uncut (openOf s).1 from rfl)
  have hsay := open_says s
  go_enter Tryd.func73, Tryd.ntmps73
  go_wp2_with fail
  generalize hWW : w.alloc (ckO 0 0 0 ⟨#[]⟩) = W at *
  clear hWW
  refine (ropen_any s _ hs).mono ?_
  rintro r w1 ⟨rfl, hb1⟩
  replace hR := hR.below hb1
  have b1 := b0.trans (hb1.mono b0.size)
  have lt1 := hR.lt
  clear b0 hb1
  generalize openOf s = y at *
  obtain ⟨t, e⟩ := y
  simp only at *
  by_cases he : e = 0
  · subst he
    have hr := Lib.hid (hz0.out.trans (if_neg (by simp)))
    clear hz0
    have hts : t.size ≤ 1000000 := by
      rcases hsay with h | h | h
      · omega
      · injection h with _ h; omega
      · injection h with _ h; omega
    clear hsay
    by_cases h0 : t.size = 0 ∨ byteAt t 0 ≠ 67
    · have hr2 := Lib.hid (hr.out.trans (uncut_name h0))
      have hC := Lib.hid (show isC t = false by unfold isC; rw [decide_eq_false]; intro h; exact h h0)
      have hZ := hR.put (m' := 0) (t' := 0) (a' := 0) (d' := ⟨#[]⟩)
      obtain ⟨u0, u1, u2, u3, j0, j1, j2, j3⟩ := hR
      clear h0 hr
      go_wp2_with fail
      refine (prefixC_any t _ hts).mono ?_
      rintro r w' ⟨rfl, rfl⟩
      rw [hC.out]
      go_wp2
      unfold put4 at hZ
      obtain ⟨z0, z1, z2, z3, _, _, _, _⟩ := hZ
      exact bodyPost_ret (v := .tuple #[.agg #[.int .u32 0, .int .i64 0, .int .i64 0, .string ⟨#[]⟩], .int .i64 5]) (by simp [results, Tryd.results73, go_sem, z0, z1, z2, z3]) rfl ⟨by rw [hr2.out]; rfl, below_put4 b1 (Nat.le_refl _)⟩
    · have hC := Lib.hid (show isC t = true by unfold isC; rw [decide_eq_true]; exact h0)
      go_wp2_with fail
      refine (prefixC_any t _ hts).mono ?_
      rintro r w' ⟨rfl, rfl⟩
      rw [hC.out]
      by_cases h5 : t.size < 5
      · have hr2 := Lib.hid (hr.out.trans (uncut_short h0 h5))
        have e5 : decide (t.size < 5) = true := by simpa using h5
        have e5' : decide ((t.size : Int) < 5) = true := by simp only [decide_eq_true_eq]; omega
        have hZ := hR.put (m' := 0) (t' := 0) (a' := 0) (d' := ⟨#[]⟩)
        obtain ⟨u0, u1, u2, u3, j0, j1, j2, j3⟩ := hR
        clear h0 hr h5
        go_wp2
        unfold put4 at hZ
        obtain ⟨z0, z1, z2, z3, _, _, _, _⟩ := hZ
        exact bodyPost_ret (v := .tuple #[.agg #[.int .u32 0, .int .i64 0, .int .i64 0, .string ⟨#[]⟩], .int .i64 7]) (by simp [results, Tryd.results73, go_sem, z0, z1, z2, z3]) rfl ⟨by rw [hr2.out]; rfl, below_put4 b1 (Nat.le_refl _)⟩
      · have e5 : decide (t.size < 5) = false := by simpa using h5
        have e5' : decide ((t.size : Int) < 5) = false := by simp only [decide_eq_false_iff_not]; omega
        have H0 := Lib.hid h0
        have H5 := Lib.hid h5
        have p5 : 5 ≤ t.size := by omega
        have hNew := Ck.new w1 0 0 0 ⟨#[]⟩
        have bN := below1 w1 (ckO 0 0 0 ⟨#[]⟩)
        have hRN := hR.below bN
        have bz := b1.trans (bN.mono b1.size)
        have hgR : w.heap.size ≠ w1.heap.size := by omega
        have hgL : w.heap.size < w1.heap.size := lt1
        have HNw := hNew
        obtain ⟨u0, u1, u2, u3, j0, j1, j2, j3⟩ := hNew
        clear h0 h5 hR
        generalize hG : w1.heap.size = g at *
        have h40 : ((nmF t 4 : Nat) : Int) = 0 := by simp [nmF]
        go_wp2
        go_loopw [7] (fun iv wr => ∃ i : Nat, i ≤ 4 ∧ iv = .int .i64 i ∧ Ck wr g (nmF t i : Nat) 0 0 ⟨#[]⟩ ∧ Ck wr w.heap.size 0 0 0 ⟨#[]⟩ ∧ Below w.heap.size w wr) (fun iv _ => (intOf iv).toNat)
        case atStart => exact ⟨4, by omega, rfl, by rw [h40]; exact HNw, hRN, bz⟩
        case round =>
          obtain ⟨i, hi, rfl, hC, hRr, hbel⟩ := hrel
          clear HNw hRN bz u0 u1 u2 u3 j0 j1 j2 j3 h40
          by_cases h1 : 1 ≤ i
          · obtain ⟨q1, q2, q3⟩ := nmF_step t (i := i - 1) (by omega)
            rw [show i - 1 + 1 = i by omega] at q1 q3
            have hit : i < t.size := by omega
            have hB := byteAt_eq t i hit
            have hBl := byteAt_lt t i
            obtain ⟨X, hX⟩ : ∃ X, X = nmF t i := ⟨_, rfl⟩
            obtain ⟨Y, hY⟩ : ∃ Y, Y = nmF t (i - 1) := ⟨_, rfl⟩
            rw [← hX] at q1 q3 hC
            rw [← hY] at q1 q2
            generalize byteAt t i = Bt at *
            have HY := Lib.hid hY
            clear hX hY
            have g0 : decide ((1 : Int) ≤ (i : Int)) = true := by simp only [decide_eq_true_eq]; omega
            have g0' : decide (1 ≤ i) = true := by simp only [decide_eq_true_eq]; omega
            have g1 : (0 : Int) ≤ (i : Int) := by omega
            have g2 : (i : Int) < (t.size : Int) := by omega
            have g3 : ((t[i].toNat : Nat) : Int) = (Bt : Int) := by rw [← hB]
            have g4 : IntKind.u32.wrap ((X : Int) * 256) = (X : Int) * 256 := u32_mul (n := X) (k := 256) (by omega)
            have g5 := u32_nat (n := Bt) (by omega)
            have g6 : IntKind.u32.wrap ((X : Int) * 256 + (Bt : Int)) = (Y : Int) := by
              have : (X : Int) * 256 + (Bt : Int) = (Y : Int) := by omega
              rw [this]; exact u32_nat q2
            have g7 : IntKind.i64.wrap ((i : Int) - 1) = ((i - 1 : Nat) : Int) := by
              have : (i : Int) - 1 = ((i - 1 : Nat) : Int) := by omega
              rw [this]; exact IntWalk.i64_in _ (by omega)
            have hCn := hC.nam (Y : Int)
            have hRn := hRr.other (C := g) (i := 0) (Ne.symm hgR) (.int .u32 (Y : Int))
            have bn := hbel.setCell (p := ⟨g, 0, none⟩) (Nat.le_of_lt hgL) (.int .u32 (Y : Int))
            obtain ⟨u0, u1, u2, u3, j0, j1, j2, j3⟩ := hC
            clear q1 q2 q3 hB hBl
            go_wp2
            go_region
            all_goals
              go_wp2
              go_roundw
            case rel => exact ⟨i - 1, by omega, by first | rfl | (rw [show ((i - 1 : Nat) : Int) = (i : Int) - 1 by omega]), by rw [← HY.out]; exact hCn.drew, hRn.drew, bn.drew⟩
            case measure => simp [intOf]; omega
          · obtain rfl : i = 0 := by omega
            have hNM : nmF t 0 = nameOf t := by simp [nmF]
            rw [hNM] at hC
            obtain ⟨NM, hNM'⟩ : ∃ x, x = nameOf t := ⟨_, rfl⟩
            rw [← hNM'] at hC
            have HNM := Lib.hid hNM'
            clear hNM hNM' h1
            obtain ⟨n, k, e, ha, hx⟩ := vat_of t 5 4096
            have lR : (t.extract 5 t.size).size = t.size - 5 := by rw [ByteArray.size_extract]; omega
            have hl : (t.extract 5 t.size).size ≤ maxLen := by unfold maxLen; omega
            have hv := Lib.hid (show vint (t.extract 5 t.size).data.toList 4096 = (n, k, e) from ha)
            have HA := Lib.hid ha
            have i5 : (5 : Int) ≤ (t.size : Int) := by omega
            clear ha
            go_wp2_with fail
            refine (rvint_any (t.extract 5 t.size) 4096 _ hl (by omega)).mono ?_
            rintro r w' ⟨rfl, rfl⟩
            rw [hv.out]
            simp only
            rcases hx with ⟨rfl, x1, x2, x3, x4⟩ | ⟨he, rfl, rfl⟩
            · obtain ⟨m, j, e, hb, hx⟩ := vat_of t (5 + k) 4096
              have lR2 : (t.extract (5 + k) t.size).size = t.size - (5 + k) := by rw [ByteArray.size_extract]; omega
              have hl2 : (t.extract (5 + k) t.size).size ≤ maxLen := by unfold maxLen; omega
              have hv2 := Lib.hid (show vint (t.extract (5 + k) t.size).data.toList 4096 = (m, j, e) from hb)
              have HB := Lib.hid hb
              have w5 : IntKind.i64.wrap (5 + (k : Int)) = ((5 + k : Nat) : Int) := IntWalk.i64_in _ (by omega)
              have i6 : (0 : Int) ≤ 5 + (k : Int) := by omega
              have i7 : 5 + (k : Int) ≤ (t.size : Int) := by omega
              have i8 : (5 + (k : Int)).toNat = 5 + k := by omega
              clear hb
              go_wp2_with fail
              try rw [i8]
              refine (rvint_any (t.extract (5 + k) t.size) 4096 _ hl2 (by omega)).mono ?_
              rintro r w' ⟨rfl, rfl⟩
              rw [hv2.out]
              simp only
              rcases hx with ⟨rfl, y1, y2, y3, y4⟩ | ⟨he, rfl, rfl⟩
              · have w6 : IntKind.i64.wrap (5 + (k : Int) + (j : Int)) = ((5 + k + j : Nat) : Int) := IntWalk.i64_in _ (by omega)
                have n6 : (0 : Int) ≤ 5 + (k : Int) + (j : Int) := by omega
                have n7 : 5 + (k : Int) + (j : Int) ≤ (t.size : Int) := by omega
                have n8 : (5 + (k : Int) + (j : Int)).toNat = 5 + k + j := by omega
                have lD : (t.extract (5 + k + j) t.size).size = t.size - (5 + k + j) := by rw [ByteArray.size_extract]; omega
                obtain ⟨D, hD⟩ : ∃ D, D = t.extract (5 + k + j) t.size := ⟨_, rfl⟩
                rw [← hD] at lD
                have lD2 : D.size ≤ 1000000000000 := by omega
                have hD' := hD.symm
                have HD := Lib.hid hD
                clear hD
                have hCd := ((hC.tot (n : Int)).place (m : Int)).dat D
                have hRd := ((hRr.other (C := g) (i := 1) (Ne.symm hgR) (.int .i64 (n : Int))).other (C := g) (i := 2) (Ne.symm hgR) (.int .i64 (m : Int))).other (C := g) (i := 3) (Ne.symm hgR) (.string D)
                have bd := ((hbel.setCell (p := ⟨g, 1, none⟩) (Nat.le_of_lt hgL) (.int .i64 (n : Int))).setCell (p := ⟨g, 2, none⟩) (Nat.le_of_lt hgL) (.int .i64 (m : Int))).setCell (p := ⟨g, 3, none⟩) (Nat.le_of_lt hgL) (.string D)
                obtain ⟨u0, u1, u2, u3, j0, j1, j2, j3⟩ := hC
                go_wp2
                go_region
                have HCd := hCd.drew
                have HRd := hRd.drew
                have Bd := bd.drew
                clear hCd hRd bd
                generalize (((wr.setCell ⟨g, 1, none⟩ (.int .i64 (n : Int))).setCell ⟨g, 2, none⟩ (.int .i64 (m : Int))).setCell ⟨g, 3, none⟩ (.string D)).drew = W at *
                have HCC := HCd
                obtain ⟨y0, y1, y2, y3, _, _, _, _⟩ := HCd
                go_wp2_with fail
                refine (rckright_any (NM : Int) (n : Int) (m : Int) D _ lD2).mono ?_
                rintro r w' ⟨rfl, hb'⟩
                rw [lD]
                have hRe := HRd.below hb'
                have hCe := HCC.below hb'
                have be := Bd.trans (hb'.mono Bd.size)
                by_cases hz : chkRight (n : Int) (m : Int) (t.size - (5 + k + j)) = 0
                · have hr2 := Lib.hid (hr.out.trans (uncut_good H0.out H5.out HA.out HB.out hz))
                  rw [hz]
                  clear hz
                  have hZ := hRe.put (m' := (NM : Int)) (t' := (n : Int)) (a' := (m : Int)) (d' := D)
                  obtain ⟨x0, x1, x2, x3, i0, i1, i2, i3⟩ := hRe
                  obtain ⟨v0, v1, v2, v3, _, _, _, _⟩ := hCe
                  go_wp2
                  unfold put4 at hZ
                  obtain ⟨z0, z1, z2, z3, _, _, _, _⟩ := hZ
                  exact bodyPost_ret (v := .tuple #[.agg #[.int .u32 (NM : Int), .int .i64 (n : Int), .int .i64 (m : Int), .string D], .int .i64 0]) (by simp [results, Tryd.results73, go_sem, z0, z1, z2, z3]) rfl ⟨by rw [hr2.out, HD.out, HNM.out]; rfl, below_put4 be (Nat.le_refl _)⟩
                · have hr2 := Lib.hid (hr.out.trans (uncut_bad H0.out H5.out HA.out HB.out hz))
                  have hne : (chkRight (n : Int) (m : Int) (t.size - (5 + k + j)) != 0) = true := by rw [bne_iff_ne]; exact hz
                  clear hz
                  generalize hE : chkRight (n : Int) (m : Int) (t.size - (5 + k + j)) = e at *
                  clear hE
                  have hZ := hRe.put (m' := 0) (t' := 0) (a' := 0) (d' := ⟨#[]⟩)
                  obtain ⟨x0, x1, x2, x3, i0, i1, i2, i3⟩ := hRe
                  go_wp2
                  unfold put4 at hZ
                  obtain ⟨z0, z1, z2, z3, _, _, _, _⟩ := hZ
                  exact bodyPost_ret (v := .tuple #[.agg #[.int .u32 0, .int .i64 0, .int .i64 0, .string ⟨#[]⟩], .int .i64 e]) (by simp [results, Tryd.results73, go_sem, z0, z1, z2, z3]) rfl ⟨by rw [hr2.out]; rfl, below_put4 be (Nat.le_refl _)⟩
              · have hr2 := Lib.hid (hr.out.trans (uncut_two H0.out H5.out HA.out HB.out he))
                have hne : (e != 0) = true := by rw [bne_iff_ne]; exact he
                clear he
                have hZ := hRr.put (m' := 0) (t' := 0) (a' := 0) (d' := ⟨#[]⟩)
                obtain ⟨x0, x1, x2, x3, i0, i1, i2, i3⟩ := hRr
                go_wp2
                unfold put4 at hZ
                obtain ⟨z0, z1, z2, z3, _, _, _, _⟩ := hZ
                exact bodyPost_ret (v := .tuple #[.agg #[.int .u32 0, .int .i64 0, .int .i64 0, .string ⟨#[]⟩], .int .i64 e]) (by simp [results, Tryd.results73, go_sem, z0, z1, z2, z3]) rfl ⟨by rw [hr2.out]; rfl, below_put4 hbel (Nat.le_refl _)⟩
            · have hr2 := Lib.hid (hr.out.trans (uncut_one H0.out H5.out HA.out he))
              have hne : (e != 0) = true := by rw [bne_iff_ne]; exact he
              clear he
              have hZ := hRr.put (m' := 0) (t' := 0) (a' := 0) (d' := ⟨#[]⟩)
              obtain ⟨x0, x1, x2, x3, i0, i1, i2, i3⟩ := hRr
              go_wp2
              unfold put4 at hZ
              obtain ⟨z0, z1, z2, z3, _, _, _, _⟩ := hZ
              exact bodyPost_ret (v := .tuple #[.agg #[.int .u32 0, .int .i64 0, .int .i64 0, .string ⟨#[]⟩], .int .i64 e]) (by simp [results, Tryd.results73, go_sem, z0, z1, z2, z3]) rfl ⟨by rw [hr2.out]; rfl, below_put4 hbel (Nat.le_refl _)⟩
  · have hr2 := Lib.hid (hz0.out.trans (if_pos he))
    have hne : (e != 0) = true := by rw [bne_iff_ne]; exact he
    have hZ := hR.put (m' := 0) (t' := 0) (a' := 0) (d' := ⟨#[]⟩)
    obtain ⟨u0, u1, u2, u3, j0, j1, j2, j3⟩ := hR
    clear he hz0 hsay
    go_wp2
    unfold put4 at hZ
    obtain ⟨z0, z1, z2, z3, _, _, _, _⟩ := hZ
    exact bodyPost_ret (v := .tuple #[.agg #[.int .u32 0, .int .i64 0, .int .i64 0, .string ⟨#[]⟩], .int .i64 e]) (by simp [results, Tryd.results73, go_sem, z0, z1, z2, z3]) rfl ⟨by rw [hr2.out]; rfl, below_put4 b1 (Nat.le_refl _)⟩
end Go.Proofs.YtglemfdnfaemiaaDoor
