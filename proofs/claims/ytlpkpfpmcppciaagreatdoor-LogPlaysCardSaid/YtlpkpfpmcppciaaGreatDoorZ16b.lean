/- BatchRight of the reference says what bright says. -/
import Derived.Test.YtlpkpfpmcppciaaGreatDoorZ15b
import Derived.Test.YtlpkpfpmcppciaaGreatDoorZ9
section
namespace Go.Proofs.YtlpkpfpmcppciaaGreatDoor
set_option linter.unusedSimpArgs false
open Go.RowKit As
set_option maxHeartbeats 4000000 in
set_option maxRecDepth 100000 in
theorem rbright_any (w : World) (x : BatArg) (hb : Bat w x) (hf : ∀ y ∈ x.f, entFits y) (hh : ∀ y ∈ x.h, entFits y) :
  Calls Tryz.prog 48 #[x.v] w fun e w' => e = .returned (faultV (bright x.f x.h x.l)) ∧ Below w.heap.size w w' := by
 have hbx := BxAt.new w x
 have b0 := below1 w (.cells #[.slice x.A x.n x.c, .slice x.A' x.n' x.c', .slice x.A'' x.n'' x.c''] 26)
 obtain ⟨A, n, c, A', n', c', A'', n'', c'', f, h, l⟩ := x
 obtain ⟨sf, sh, sl, nf, nh, nl⟩ := hb
 simp only at hbx b0 hf hh sf sh sl nf nh nl ⊢
 have ef : Ents w w.heap.size A n f := ⟨sf, hf⟩
 have eh : Ents w w.heap.size A' n' h := ⟨sh, hh⟩
 have hT0 := Two.new (w.alloc (.cells #[.slice A n c, .slice A' n' c', .slice A'' n'' c''] 26)) 0 0 44
 have bT := below1 (w.alloc (.cells #[.slice A n c, .slice A' n' c', .slice A'' n'' c''] 26)) (.cells #[.int .i64 0, .int .i64 0] 44)
 rw [World.size_alloc] at hT0
 replace hbx := hbx.below bT
 replace b0 := b0.trans (bT.mono b0.size)
 have ef0 := ef.grow b0
 have eh0 := eh.grow b0
 have sl0 := sl.grow b0
 have hll := slk_len wrCells 6 (by omega) (fun _ => rfl) sl
 clear sf sh hf hh sl ef eh
 unfold BatArg.v faultV
 simp only
 go_enter Tryz.func48, Tryz.ntmps48
 go_wp2_with fail
 generalize hW : (w.alloc (.cells #[.slice A n c, .slice A' n' c', .slice A'' n'' c''] 26)).alloc (.cells #[.int .i64 0, .int .i64 0] 44) = W at *
 refine (rvright_any _ n c A f ef0 nf).mono ?_
 rintro r w1 ⟨rfl, hb1⟩
 unfold faultV
 go_wp2_with fail
 have hk1 := below1 w1 (.cells #[.int .i64 (vright f).1, .int .i64 (vright f).2] 44)
 have T1 := Two.new w1 (vright f).1 (vright f).2 44
 refine (is_any (vright f) _).mono ?_
 rintro r w2 ⟨rfl, hb2⟩
 obtain ⟨g0, g1, _, _⟩ := T1.below hb2
 have hb11 := hb1.trans (hk1.mono hb1.size)
 have hb12 := hb11.trans (hb2.mono hb11.size)
 clear hk1 T1 hb2 hb1 hb11
 by_cases h1 : (vright f).1 = 0
 ·have e1 : ((vright f).1 == 0) = true := by simpa using h1
  rw [e1]
  clear e1
  clear g0 g1
  have d1 := (hbx.below hb12).c1
  simp only at d1
  go_wp2_with fail
  refine (rvright_any _ n' c' A' h (eh0.grow hb12) nh).mono ?_
  rintro r w3 ⟨rfl, hb3⟩
  unfold faultV
  go_wp2_with fail
  have hk3 := below1 w3 (.cells #[.int .i64 (vright h).1, .int .i64 (vright h).2] 44)
  have T3 := Two.new w3 (vright h).1 (vright h).2 44
  refine (is_any (vright h) _).mono ?_
  rintro r w4 ⟨rfl, hb4⟩
  obtain ⟨g0, g1, _, _⟩ := T3.below hb4
  have hb13 := hb12.trans (hb3.mono hb12.size)
  have hb13' := hb13.trans (hk3.mono hb13.size)
  have hb14 := hb13'.trans (hb4.mono hb13'.size)
  clear hk3 T3 hb3 hb4 hb13 hb13'
  by_cases h2 : (vright h).1 = 0
  ·have e1 : ((vright h).1 == 0) = true := by simpa using h2
   rw [e1]
   clear e1
   clear g0 g1 d1
   have d0 := (hbx.below hb14).c0
   have d1 := (hbx.below hb14).c1
   simp only at d0 d1
   go_wp2_with fail
   refine (rcovers_any _ n' c' n c A' A h f (eh0.grow hb14) (ef0.grow hb14) nh nf).mono ?_
   rintro r w5 ⟨rfl, hb5⟩
   have hb15 := hb14.trans (hb5.mono hb14.size)
   clear hb5
   cases hc : vcovers h f with
   | false =>
    have hr := Lib.hid (bright_c (l := l) h1 h2 hc)
    clear hc h1 h2
    go_wp2_with fail
    refine (bareF_any _ _).mono ?_
    rintro r w6 ⟨rfl, hbx⟩
    have hbw6 := hb15.trans (hbx.mono hb15.size)
    obtain ⟨c0, c1, f0, f1⟩ := hT0.below hbw6
    have S := set2 (.int .i64 13) (.int .i64 (-1)) c0 c1
    go_wp2
    exact bodyPost_ret (v := .agg #[.int .i64 13, .int .i64 (-1)]) (by simp [results, Tryz.results48, go_sem, S.1, S.2]) rfl ⟨by rw [hr.out], below_set2 _ _ (b0.trans (hbw6.mono b0.size)) (by omega)⟩
   | true =>
    have hll' : l.length = n'' := by omega
    have d2 := (hbx.below hb15).c2
    simp only at d2
    by_cases hl6 : 60 < n''
    ·have hr := Lib.hid (bright_l (l := l) h1 h2 hc (by omega))
     have e5 : decide ((60 : Int) < (n'' : Int)) = true := by simp; omega
     have e6 : decide (60 < n'') = true := by simp; omega
     clear hc h1 h2
     go_wp2_with fail
     refine (bareF_any _ _).mono ?_
     rintro r w6 ⟨rfl, hbx⟩
     have hbw6 := hb15.trans (hbx.mono hb15.size)
     obtain ⟨c0, c1, f0, f1⟩ := hT0.below hbw6
     have S := set2 (.int .i64 4) (.int .i64 (-1)) c0 c1
     go_wp2
     exact bodyPost_ret (v := .agg #[.int .i64 4, .int .i64 (-1)]) (by simp [results, Tryz.results48, go_sem, S.1, S.2]) rfl ⟨by rw [hr.out], below_set2 _ _ (b0.trans (hbw6.mono b0.size)) (by omega)⟩
    ·have hr := Lib.hid (bright_go (l := l) h1 h2 hc (by omega))
     have e5 : decide ((60 : Int) < (n'' : Int)) = false := by simp; omega
     have e6 : decide (60 < n'') = false := by simp; omega
     clear hc h1 h2
     have bl := below1 w5 (.cells #[.int .i64 0, .int .i64 0] 30)
     have TL := Two.new w5 0 0 30
     have d2 := (bl.cell (cell_lt d2)).trans d2
     go_wp2
     go_loopw [6, 7, 8, 43] (fun _ _ _ i wr => ∃ k : Nat, k ≤ n'' ∧ i = .int .i64 k ∧ Hid (BAt f h l k) ∧ Two wr w5.heap.size (lastId l k).1 (lastId l k).2 ∧ Below w5.heap.size w5 wr) (fun _ _ _ i _ => n'' - (intOf i).toNat)
     case atStart => exact ⟨0, by omega, rfl, Lib.hid BAt.zero, TL, bl⟩
     case round =>
      obtain ⟨k, hk, rfl, hat, hTL, hbel⟩ := hrel
      have hB := hbel.size
      have hbc := hb15.trans (hbel.mono hb15.size)
      by_cases hlt : k < n''
      ·obtain ⟨b, o, ⟨a0, a1, a2, d, e, m⟩, rfl, hbB, hx, hcl⟩ := wr_at (sl0.grow hbc) hlt
       have c0 : wr.cell? ⟨b, o + k * 6, none⟩ = some (.int .i64 a0) := hcl 0 _ rfl
       have c1 := hcl 1 _ rfl
       have c2 := hcl 2 _ rfl
       have c3 := hcl 3 _ rfl
       have c4 := hcl 4 _ rfl
       have c5 := hcl 5 _ rfl
       have hX := Lib.hid hx
       clear hcl hx
       have kb := below1 wr (wrO a0 a1 a2 d e m)
       have ka := WrAt.new wr a0 a1 a2 d e m
       generalize hla : lastId l k = la at *
       obtain ⟨la, lb⟩ := la
       have hla := Lib.hid hla
       simp only at hTL
       by_cases hz : wright (a0, a1, a2, d, e, m) = 0
       ·have hwr0 := Lib.hid hz
        clear hz
        go_wp2_with fail
        refine (rwright_any (a0, a1, a2, d, e, m) _).mono ?_
        rintro r w6 ⟨rfl, hb6⟩
        rw [hwr0.out]
        have hk6 := kb.trans (hb6.mono kb.size)
        have hbc6 := hbc.trans (hk6.mono hbc.size)
        obtain ⟨t0, t1, t2, t3⟩ := hTL.below hk6
        have q2 := (ka.below hb6).c0
        have q3 := (ka.below hb6).c1
        by_cases h0 : k = 0
        ·have hno := Lib.hid (show ¬ (0 < k ∧ 0 ≤ idCmp (lastId l k) (wid (a0, a1, a2, d, e, m))) by omega)
         have e8 : decide (0 < k) = false := by simp; omega
         have e9 : decide ((0 : Int) < (k : Int)) = false := by simp; omega
         clear h0
         have T6 := hTL.below hk6
         have g0 := (hbx.below hbc6).c0
         have g1 := (hbx.below hbc6).c1
         simp only at g0 g1
         cases hin : idWithin (a0, a1) f h with
         | true =>
          have hnx := Lib.hid (BAt.succ hat.out hX.out hwr0.out hno.out hin)
          have hls := Lib.hid (lastId_succ hX.out)
          go_wp2_with fail
          refine (rwithin_any a0 a1 n n' c c' A A' f h _ (ef0.grow hbc6) (eh0.grow hbc6) nf nh).mono ?_
          rintro r w8 ⟨rfl, hb8⟩
          rw [hin]
          clear hin g0 g1
          obtain ⟨t0, t1, t2, t3⟩ := T6.below hb8
          have q2 := (hb8.cell (cell_lt q2)).trans q2
          have q3 := (hb8.cell (cell_lt q3)).trans q3
          have hk8 := hk6.trans (hb8.mono hk6.size)
          have SL := set2 (.int .i64 a0) (.int .i64 a1) t0 t1
          go_wp2
          go_roundw
          case rel => exact ⟨k + 1, by omega, by go_num, hnx, by rw [hls.out]; exact ⟨SL.1, SL.2, by simpa using t2, by simpa using t3⟩, below_set2 _ _ (hbel.trans (hk8.mono hB)) (Nat.le_refl _)⟩
          case measure => simp [intOf]; omega
         | false =>
          have hres := Lib.hid (BAt.state hat.out hX.out hwr0.out hno.out hin)
          go_wp2_with fail
          refine (rwithin_any a0 a1 n n' c c' A A' f h _ (ef0.grow hbc6) (eh0.grow hbc6) nf nh).mono ?_
          rintro r w8 ⟨rfl, hb8⟩
          rw [hin]
          clear hin g0 g1
          have hbc8 := hbc6.trans (hb8.mono hbc6.size)
          obtain ⟨c0, c1, f0, f1⟩ := hT0.below hbc8
          have S := set2 (.int .i64 6) (.int .i64 (k : Int)) c0 c1
          go_wp2
          exact bodyPost_ret (v := .agg #[.int .i64 6, .int .i64 (k : Int)]) (by simp [results, Tryz.results48, go_sem, S.1, S.2]) rfl ⟨by rw [hr.out, hres.out], below_set2 _ _ (b0.trans (hbc8.mono b0.size)) (by omega)⟩
        ·have e8 : decide (0 < k) = true := by simp; omega
         have e9 : decide ((0 : Int) < (k : Int)) = true := by simp; omega
         have hk0 : 0 < k := by omega
         clear h0
         go_wp2_with fail
         refine (rcompare_any la lb a0 a1 _).mono ?_
         rintro r w7 ⟨rfl, hb7⟩
         have hk7 := hk6.trans (hb7.mono hk6.size)
         have hbc7 := hbc.trans (hk7.mono hbc.size)
         have q2 := (hb7.cell (cell_lt q2)).trans q2
         have q3 := (hb7.cell (cell_lt q3)).trans q3
         have T7 := hTL.below hk7
         by_cases hcmp : 0 ≤ idCmp (la, lb) (a0, a1)
         ·have hres := Lib.hid (BAt.order hat.out hX.out hwr0.out hk0 (by rw [hla.out]; exact hcmp))
          have e10 : decide (0 ≤ idCmp (la, lb) (a0, a1)) = true := by simpa using hcmp
          obtain ⟨c0, c1, f0, f1⟩ := hT0.below hbc7
          have S := set2 (.int .i64 10) (.int .i64 (k : Int)) c0 c1
          go_wp2
          exact bodyPost_ret (v := .agg #[.int .i64 10, .int .i64 (k : Int)]) (by simp [results, Tryz.results48, go_sem, S.1, S.2]) rfl ⟨by rw [hr.out, hres.out], below_set2 _ _ (b0.trans (hbc7.mono b0.size)) (by omega)⟩
         ·have hno := Lib.hid (show ¬ (0 < k ∧ 0 ≤ idCmp (lastId l k) (wid (a0, a1, a2, d, e, m))) by rw [hla.out]; exact fun hh => hcmp hh.2)
          have e10 : decide (0 ≤ idCmp (la, lb) (a0, a1)) = false := by simpa using hcmp
          have hc2 : idCmp (la, lb) (a0, a1) < 0 := by omega
          have g0 := (hbx.below hbc7).c0
          have g1 := (hbx.below hbc7).c1
          simp only at g0 g1
          cases hin : idWithin (a0, a1) f h with
          | true =>
           have hnx := Lib.hid (BAt.succ hat.out hX.out hwr0.out hno.out hin)
           have hls := Lib.hid (lastId_succ hX.out)
           go_wp2_with fail
           refine (rwithin_any a0 a1 n n' c c' A A' f h _ (ef0.grow hbc7) (eh0.grow hbc7) nf nh).mono ?_
           rintro r w8 ⟨rfl, hb8⟩
           rw [hin]
           clear hin g0 g1
           obtain ⟨t0, t1, t2, t3⟩ := T7.below hb8
           have q2 := (hb8.cell (cell_lt q2)).trans q2
           have q3 := (hb8.cell (cell_lt q3)).trans q3
           have hk8 := hk7.trans (hb8.mono hk7.size)
           have SL := set2 (.int .i64 a0) (.int .i64 a1) t0 t1
           go_wp2
           go_roundw
           case rel => exact ⟨k + 1, by omega, by go_num, hnx, by rw [hls.out]; exact ⟨SL.1, SL.2, by simpa using t2, by simpa using t3⟩, below_set2 _ _ (hbel.trans (hk8.mono hB)) (Nat.le_refl _)⟩
           case measure => simp [intOf]; omega
          | false =>
           have hres := Lib.hid (BAt.state hat.out hX.out hwr0.out hno.out hin)
           go_wp2_with fail
           refine (rwithin_any a0 a1 n n' c c' A A' f h _ (ef0.grow hbc7) (eh0.grow hbc7) nf nh).mono ?_
           rintro r w8 ⟨rfl, hb8⟩
           rw [hin]
           clear hin g0 g1
           have hbc8 := hbc7.trans (hb8.mono hbc7.size)
           obtain ⟨c0, c1, f0, f1⟩ := hT0.below hbc8
           have S := set2 (.int .i64 6) (.int .i64 (k : Int)) c0 c1
           go_wp2
           exact bodyPost_ret (v := .agg #[.int .i64 6, .int .i64 (k : Int)]) (by simp [results, Tryz.results48, go_sem, S.1, S.2]) rfl ⟨by rw [hr.out, hres.out], below_set2 _ _ (b0.trans (hbc8.mono b0.size)) (by omega)⟩
       ·have hres := Lib.hid (BAt.bad hat.out hX.out hz)
        generalize hwr : wright (a0, a1, a2, d, e, m) = q at *
        have hWR := Lib.hid hwr
        have e7 : (q != 0) = true := by simpa using hz
        clear hwr hz
        go_wp2_with fail
        refine (rwright_any (a0, a1, a2, d, e, m) _).mono ?_
        rintro r w6 ⟨rfl, hb6⟩
        rw [hWR.out]
        have hk6 := kb.trans (hb6.mono kb.size)
        have hbc6 := hbc.trans (hk6.mono hbc.size)
        obtain ⟨c0, c1, f0, f1⟩ := hT0.below hbc6
        have S := set2 (.int .i64 q) (.int .i64 (k : Int)) c0 c1
        go_wp2
        exact bodyPost_ret (v := .agg #[.int .i64 q, .int .i64 (k : Int)]) (by simp [results, Tryz.results48, go_sem, S.1, S.2]) rfl ⟨by rw [hr.out, hres.out], below_set2 _ _ (b0.trans (hbc6.mono b0.size)) (by omega)⟩
      ·obtain rfl : k = n'' := by omega
       have hres := Lib.hid (BAt.all hat.out (by omega))
       go_wp2_with fail
       refine (good_any _).mono ?_
       rintro r w6 ⟨rfl, hb6⟩
       have hbc6 := hbc.trans (hb6.mono hbc.size)
       obtain ⟨c0, c1, f0, f1⟩ := hT0.below hbc6
       have S := set2 (.int .i64 0) (.int .i64 (-1)) c0 c1
       go_wp2
       exact bodyPost_ret (v := .agg #[.int .i64 0, .int .i64 (-1)]) (by simp [results, Tryz.results48, go_sem, S.1, S.2]) rfl ⟨by rw [hr.out, hres.out], below_set2 _ _ (b0.trans (hbc6.mono b0.size)) (by omega)⟩
  ·have hr := Lib.hid (bright_h (l := l) h1 h2)
   have e1 : ((vright h).1 == 0) = false := by simpa using h2
   rw [e1]
   clear e1 h1 h2
   go_wp2_with fail
   refine (bareF_any _ _).mono ?_
   rintro r w5 ⟨rfl, hbx⟩
   have hbw5 := hb14.trans (hbx.mono hb14.size)
   obtain ⟨c0, c1, f0, f1⟩ := hT0.below hbw5
   have S := set2 (.int .i64 (vright h).1) (.int .i64 (-1)) c0 c1
   go_wp2
   exact bodyPost_ret (v := .agg #[.int .i64 (vright h).1, .int .i64 (-1)]) (by simp [results, Tryz.results48, go_sem, S.1, S.2]) rfl ⟨by rw [hr.out], below_set2 _ _ (b0.trans (hbw5.mono b0.size)) (by omega)⟩
 ·have hr := Lib.hid (bright_f (h := h) (l := l) h1)
  have e1 : ((vright f).1 == 0) = false := by simpa using h1
  rw [e1]
  clear e1 h1
  go_wp2_with fail
  refine (bareF_any _ _).mono ?_
  rintro r w3 ⟨rfl, hbx⟩
  have hbw3 := hb12.trans (hbx.mono hb12.size)
  obtain ⟨c0, c1, f0, f1⟩ := hT0.below hbw3
  have S := set2 (.int .i64 (vright f).1) (.int .i64 (-1)) c0 c1
  go_wp2
  exact bodyPost_ret (v := .agg #[.int .i64 (vright f).1, .int .i64 (-1)]) (by simp [results, Tryz.results48, go_sem, S.1, S.2]) rfl ⟨by rw [hr.out], below_set2 _ _ (b0.trans (hbw3.mono b0.size)) (by omega)⟩
end Go.Proofs.YtlpkpfpmcppciaaGreatDoor
end
