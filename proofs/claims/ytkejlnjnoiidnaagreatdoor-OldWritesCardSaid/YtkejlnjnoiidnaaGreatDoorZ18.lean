/- First of the reference says what firstOf says. Printed by gen_old.py.

Second of both says what secondOf says. Printed by gen_old2.py.

How the arguments of a law are opened: slices of structs, strings and numbers, and structs by value, as lists and tuples of mine. Any program.

Entries and ids as arguments.

Batches and writes as arguments.

Arguments opened with the form's own reach: no string and no slice of more than 2^47 bytes. Any program. -/
import Derived.Test.YtkejlnjnoiidnaaGreatDoorZ14
import Derived.Test.YtkejlnjnoiidnaaGreatDoorZ17
import Derived.Test.YtkejlnjnoiidnaaGreatDoorZ13
import Derived.Test.YtkejlnjnoiidnaaGreatDoorZ1
import Derived.ProofKit
import Derived.OpenShut
import Derived.Deep.Slices
import Derived.Deep.Fields
import Derived.Test.YtkejlnjnoiidnaaGreatDoorZ2
import Derived.Test.YtkejlnjnoiidnaaGreatDoorRows
import Derived.KernelRfl
import Derived.Test.YtkejlnjnoiidnaaGreatDoorZ8
import Derived.SizedLaws
section
namespace Go.Proofs.YtkejlnjnoiidnaaGreatDoor
set_option linter.unusedSimpArgs false
set_option linter.unusedVariables false
open Go.RowKit As
set_option maxHeartbeats 8000000 in
set_option maxRecDepth 100000 in
theorem rfirst_any (w : World) (x : BatArg) (hb : Bat w x) (hf : ∀ y ∈ x.f, entFits y) (hh : ∀ y ∈ x.h, entFits y) :
    Calls Tryz.prog 9 #[x.v] w fun e w' => e = .returned (.tuple #[.string (firstOf x.f x.h x.l).1, faultV (firstOf x.f x.h x.l).2]) ∧ Below w.heap.size w w' := by
  have hbx := BxAt.new w x
  have b0 := below1 w (.cells #[.slice x.A x.n x.c, .slice x.A' x.n' x.c', .slice x.A'' x.n'' x.c''] 25)
  obtain ⟨A, n, c, A', n', c', A'', n'', c'', f, h, l⟩ := x
  obtain ⟨sf, sh, sl, nf, nh, nl⟩ := hb
  simp only at hbx b0 hf hh sf sh sl nf nh nl ⊢
  have ef : Ents w w.heap.size A n f := ⟨sf, hf⟩
  have eh : Ents w w.heap.size A' n' h := ⟨sh, hh⟩
  have hT0 := Two.new (w.alloc (.cells #[.slice A n c, .slice A' n' c', .slice A'' n'' c''] 25)) 0 0 29
  have bT := below1 (w.alloc (.cells #[.slice A n c, .slice A' n' c', .slice A'' n'' c''] 25)) (.cells #[.int .i64 0, .int .i64 0] 29)
  rw [World.size_alloc] at hT0
  replace hbx := hbx.below bT
  replace b0 := b0.trans (bT.mono b0.size)
  have hB0 : Bat ((w.alloc (.cells #[.slice A n c, .slice A' n' c', .slice A'' n'' c''] 25)).alloc (.cells #[.int .i64 0, .int .i64 0] 29)) ⟨A, n, c, A', n', c', A'', n'', c'', f, h, l⟩ := ⟨(ef.grow b0).1, (eh.grow b0).1, sl.grow b0, nf, nh, nl⟩
  unfold BatArg.v
  simp only
  go_enter Tryz.func9, Tryz.ntmps9
  obtain ⟨q0, q1, q2⟩ := hbx
  simp only at q0 q1 q2
  go_wp2_with fail
  refine (rbright_any _ ⟨A, n, c, A', n', c', A'', n'', c'', f, h, l⟩ hB0 hf hh).mono ?_
  rintro r w1 ⟨rfl, hb1⟩
  unfold faultV
  simp only
  go_wp2_with fail
  have hk1 := below1 w1 (.cells #[.int .i64 (bright f h l).1, .int .i64 (bright f h l).2] 29)
  have T1 := Two.new w1 (bright f h l).1 (bright f h l).2 29
  refine (is_any (bright f h l) _).mono ?_
  rintro r W1 ⟨rfl, hb2⟩
  obtain ⟨g0, g1, _, _⟩ := T1.below hb2
  have hb11 := hb1.trans (hk1.mono hb1.size)
  have hb12 := hb11.trans (hb2.mono hb11.size)
  have b1 := b0.trans (hb12.mono b0.size)
  replace q0 := (hb12.cell (cell_lt q0)).trans q0
  replace q1 := (hb12.cell (cell_lt q1)).trans q1
  replace q2 := (hb12.cell (cell_lt q2)).trans q2
  have hT1 := hT0.below hb12
  by_cases hbad : (bright f h l).1 = 0
  · have e1 : ((bright f h l).1 == 0) = true := by simpa using hbad
    rw [e1]
    clear e1 g0 g1 hk1 T1 hb1 hb2 hb11 hb12 hT0 bT hB0
    have ef1 := ef.grow b1
    have eh1 := eh.grow b1
    obtain ⟨hbr, hvf, hvh, h60, hwr⟩ := bright_ok hbad
    have hll := slk_len wrCells 6 (by omega) (fun _ => rfl) sl
    have h60n : n'' ≤ 60 := by rw [← hll]; exact h60
    have HB := Lib.hid hbad
    have HF := Lib.hid hvf
    have HH := Lib.hid hvh
    have HW := Lib.hid (fun x hx => (hwr x hx).1)
    obtain ⟨t1, t2, t3, t4, t5⟩ := st_facts hvf hvh h60n
    obtain ⟨PF, hPF⟩ : ∃ S, S = strOf (pbytes f) := ⟨_, rfl⟩
    obtain ⟨PH, hPH⟩ : ∃ S, S = strOf (pbytes h) := ⟨_, rfl⟩
    obtain ⟨SN, hSN⟩ : ∃ S, S = strOf (vput n'') := ⟨_, rfl⟩
    have UN := u64_in (G := n'') (by omega)
    rw [← hPF] at t1
    rw [← hPF, ← hPH] at t2
    rw [← hPF, ← hPH, ← hSN] at t3 t4
    clear hbad hbr hvf hvh sf sh hf hh hwr h60
    clear b0 ef eh
    go_wp2_with fail
    refine Flow.wp_region_go (by kernel_rfl) (by kernel_rfl) (by kernel_rfl) 77 rfl (by kernel_rfl) (ofV w.heap.size A n c A' n' c' A'' n'' c'' PF PH SN) (fun _ _ wz => Below W1.heap.size W1 wz) (fun _ _ => False) (()) ((Below.refl _ _).drew) ⟨?_, ?_, ?_, ?_, ?_, ?_, ?_, ?_, ?_, ?_, ?_, ?_, ?_, ?_, ?_, trivial⟩ ?_ ?_
    · intro g L wz K ρ hc0 hf0 hF hO hU hcl hi hd hC hK
      have e1 : ρ (.tmp 1) = .pointer (some ⟨w.heap.size, 0, none⟩) := hO 1 (by kernel_rfl)
      simp [go_sem, Flow.ylP_value, Flow.ylP_skip, Flow.ylP_enter, Flow.ylP_panic, hc0, hf0, e1]
      exact hK g wz hC (fun _ _ => rfl)
    · intro g L wz K ρ hc0 hf0 hF hO hU hcl hi hd hC hK
      have d0 : L 0 = true := hd ⟨0, .data⟩ (by simp) rfl
      have e18 : ρ (.tmp 18) = .pointer (some ⟨w.heap.size, 0, none⟩) := hF 18 0 (by kernel_rfl) d0
      have cc := (hC.cell (cell_lt q0)).trans q0
      simp [go_sem, Flow.ylP_value, Flow.ylP_skip, Flow.ylP_enter, Flow.ylP_panic, hc0, hf0, e18, cc]
      exact hK g wz hC (fun _ _ => rfl)
    · intro g L wz K ρ hc0 hf0 hF hO hU hcl hi hd hC hK
      have d1 : L 1 = true := hd ⟨1, .data⟩ (by simp) rfl
      have e19 : ρ (.tmp 19) = .slice A n c := hF 19 1 (by kernel_rfl) d1
      simp [go_sem, Flow.ylP_value, Flow.ylP_skip, Flow.ylP_enter, Flow.ylP_panic, hc0, hf0, e19]
      refine (roplain_any wz n c A f (ef1.grow hC) HF.out).mono ?_
      rintro r wn ⟨rfl, hbn⟩
      rw [← hPF]
      exact ⟨_, rfl, hK () wn (hC.trans (hbn.mono hC.size)) (by intro j hj; unfold ofV; split <;> first | rfl | (rw [hi] at hj; cases hj) | (have hz := hcl _ 2 (by kernel_rfl) hj; rw [hi] at hz; cases hz))⟩
    · intro g L wz K ρ hc0 hf0 hF hO hU hcl hi hd hC hK
      have d2 : L 2 = true := hd ⟨2, .data⟩ (by simp) rfl
      have e20 : ρ (.tmp 20) = .string PF := hF 20 2 (by kernel_rfl) d2
      simp [go_sem, Flow.ylP_value, Flow.ylP_skip, Flow.ylP_enter, Flow.ylP_panic, hc0, hf0, e20, t1]
      exact hK g wz hC (fun _ _ => rfl)
    · intro g L wz K ρ hc0 hf0 hF hO hU hcl hi hd hC hK
      have e1 : ρ (.tmp 1) = .pointer (some ⟨w.heap.size, 0, none⟩) := hO 1 (by kernel_rfl)
      simp [go_sem, Flow.ylP_value, Flow.ylP_skip, Flow.ylP_enter, Flow.ylP_panic, hc0, hf0, e1]
      exact hK g wz hC (fun _ _ => rfl)
    · intro g L wz K ρ hc0 hf0 hF hO hU hcl hi hd hC hK
      have d4 : L 4 = true := hd ⟨4, .data⟩ (by simp) rfl
      have e22 : ρ (.tmp 22) = .pointer (some ⟨w.heap.size, 1, none⟩) := hF 22 4 (by kernel_rfl) d4
      have cc := (hC.cell (cell_lt q1)).trans q1
      simp [go_sem, Flow.ylP_value, Flow.ylP_skip, Flow.ylP_enter, Flow.ylP_panic, hc0, hf0, e22, cc]
      exact hK g wz hC (fun _ _ => rfl)
    · intro g L wz K ρ hc0 hf0 hF hO hU hcl hi hd hC hK
      have d5 : L 5 = true := hd ⟨5, .data⟩ (by simp) rfl
      have e23 : ρ (.tmp 23) = .slice A' n' c' := hF 23 5 (by kernel_rfl) d5
      simp [go_sem, Flow.ylP_value, Flow.ylP_skip, Flow.ylP_enter, Flow.ylP_panic, hc0, hf0, e23]
      refine (roplain_any wz n' c' A' h (eh1.grow hC) HH.out).mono ?_
      rintro r wn ⟨rfl, hbn⟩
      rw [← hPH]
      exact ⟨_, rfl, hK () wn (hC.trans (hbn.mono hC.size)) (by intro j hj; unfold ofV; split <;> first | rfl | (rw [hi] at hj; cases hj) | (have hz := hcl _ 6 (by kernel_rfl) hj; rw [hi] at hz; cases hz))⟩
    · intro g L wz K ρ hc0 hf0 hF hO hU hcl hi hd hC hK
      have d3 : L 3 = true := hd ⟨3, .data⟩ (by simp) rfl
      have e21 : ρ (.tmp 21) = .string ((⟨#[80, 84, 1]⟩ : ByteArray) ++ PF) := hF 21 3 (by kernel_rfl) d3
      have d6 : L 6 = true := hd ⟨6, .data⟩ (by simp) rfl
      have e24 : ρ (.tmp 24) = .string PH := hF 24 6 (by kernel_rfl) d6
      simp [go_sem, Flow.ylP_value, Flow.ylP_skip, Flow.ylP_enter, Flow.ylP_panic, hc0, hf0, e21, e24, t2]
      exact hK g wz hC (fun _ _ => rfl)
    · intro g L wz K ρ hc0 hf0 hF hO hU hcl hi hd hC hK
      have e1 : ρ (.tmp 1) = .pointer (some ⟨w.heap.size, 0, none⟩) := hO 1 (by kernel_rfl)
      simp [go_sem, Flow.ylP_value, Flow.ylP_skip, Flow.ylP_enter, Flow.ylP_panic, hc0, hf0, e1]
      exact hK g wz hC (fun _ _ => rfl)
    · intro g L wz K ρ hc0 hf0 hF hO hU hcl hi hd hC hK
      have d8 : L 8 = true := hd ⟨8, .data⟩ (by simp) rfl
      have e26 : ρ (.tmp 26) = .pointer (some ⟨w.heap.size, 2, none⟩) := hF 26 8 (by kernel_rfl) d8
      have cc := (hC.cell (cell_lt q2)).trans q2
      simp [go_sem, Flow.ylP_value, Flow.ylP_skip, Flow.ylP_enter, Flow.ylP_panic, hc0, hf0, e26, cc]
      exact hK g wz hC (fun _ _ => rfl)
    · intro g L wz K ρ hc0 hf0 hF hO hU hcl hi hd hC hK
      have d9 : L 9 = true := hd ⟨9, .data⟩ (by simp) rfl
      have e27 : ρ (.tmp 27) = .slice A'' n'' c'' := hF 27 9 (by kernel_rfl) d9
      simp [go_sem, Flow.ylP_value, Flow.ylP_skip, Flow.ylP_enter, Flow.ylP_panic, hc0, hf0, e27]
      exact hK g wz hC (fun _ _ => rfl)
    · intro g L wz K ρ hc0 hf0 hF hO hU hcl hi hd hC hK
      have d10 : L 10 = true := hd ⟨10, .data⟩ (by simp) rfl
      have e28 : ρ (.tmp 28) = .int .i64 (n'' : Int) := hF 28 10 (by kernel_rfl) d10
      simp [go_sem, Flow.ylP_value, Flow.ylP_skip, Flow.ylP_enter, Flow.ylP_panic, hc0, hf0, e28, UN]
      exact hK g wz hC (fun _ _ => rfl)
    · intro g L wz K ρ hc0 hf0 hF hO hU hcl hi hd hC hK
      have d11 : L 11 = true := hd ⟨11, .data⟩ (by simp) rfl
      have e29 : ρ (.tmp 29) = .int .u64 (n'' : Int) := hF 29 11 (by kernel_rfl) d11
      simp [go_sem, Flow.ylP_value, Flow.ylP_skip, Flow.ylP_enter, Flow.ylP_panic, hc0, hf0, e29]
      refine (rvary_any n'' wz (by omega)).mono ?_
      rintro r wn ⟨rfl, hbn⟩
      rw [show (⟨(vput n'').toArray⟩ : ByteArray) = strOf (vput n'') from rfl, ← hSN]
      exact ⟨_, rfl, hK () wn (hC.trans (hbn.mono hC.size)) (by intro j hj; unfold ofV; split <;> first | rfl | (rw [hi] at hj; cases hj) | (have hz := hcl _ 12 (by kernel_rfl) hj; rw [hi] at hz; cases hz))⟩
    · intro g L wz K ρ hc0 hf0 hF hO hU hcl hi hd hC hK
      have d7 : L 7 = true := hd ⟨7, .data⟩ (by simp) rfl
      have e25 : ρ (.tmp 25) = .string ((⟨#[80, 84, 1]⟩ : ByteArray) ++ PF ++ PH) := hF 25 7 (by kernel_rfl) d7
      have d12 : L 12 = true := hd ⟨12, .data⟩ (by simp) rfl
      have e30 : ρ (.tmp 30) = .string SN := hF 30 12 (by kernel_rfl) d12
      simp [go_sem, Flow.ylP_value, Flow.ylP_skip, Flow.ylP_enter, Flow.ylP_panic, hc0, hf0, e25, e30, t3]
      exact hK g wz hC (fun _ _ => rfl)
    · intro g L wz K ρ hc0 hf0 hF hO hU hcl hi hd hC hK
      have d13 : L 13 = true := hd ⟨13, .data⟩ (by simp) rfl
      have e31 : ρ (.tmp 31) = .string ((⟨#[80, 84, 1]⟩ : ByteArray) ++ PF ++ PH ++ SN) := hF 31 13 (by kernel_rfl) d13
      simp [go_sem, Flow.ylP_value, Flow.ylP_skip, Flow.ylP_enter, Flow.ylP_panic, hc0, hf0, e31]
      exact hK g wz hC (fun _ _ => rfl)
    · intro g L ch wz h; exact h.elim
    · intro g L wz hL hC
      have b4 := b1.trans (hC.mono b1.size)
      replace q2 := (hC.cell (cell_lt q2)).trans q2
      have sl4 := sl.grow b4
      have hT4 := hT1.below hC
      obtain ⟨F, hF'⟩ : ∃ F, F = fstart f h n'' := ⟨_, rfl⟩
      simp only [Flow.putAll, ofV]
      rw [t4, ← hF']
      rw [← hF'] at t5
      have HFS := Lib.hid hF'
      clear hF' hC ef1 eh1 sl t1 t2 t3 t4 UN hPF hPH hSN q0 q1
      generalize wz = w4 at *
      go_wp2
      go_loopw [5, 7, 8, 9, 10, 11, 35] (fun ov _ _ _ _ _ kv wr => ∃ k : Nat, k ≤ n'' ∧ kv = .int .i64 k ∧ ov = .string (strOf (F ++ (l.take k).flatMap wfirst)) ∧ Below w4.heap.size w4 wr) (fun _ _ _ _ _ _ kv _ => n'' - (intOf kv).toNat)
      case atStart => exact ⟨0, Nat.zero_le _, rfl, by simp, Below.refl _ _⟩
      case round =>
        obtain ⟨k, hk, rfl, rfl, hbel⟩ := hrel
        have hB := hbel.size
        by_cases hlt : k < n''
        · obtain ⟨b, o, y, rfl, hb, hx, hc⟩ := wr_at sl4 hlt
          obtain ⟨Y0, Y1, y2, y3, y4, y5, rfl, l0, l1, hy0, hy1, U8, hy3⟩ := wr_nat (HW.out _ (List.mem_of_getElem? hx))
          have c0 := (hbel.cell (p := ⟨b, _, none⟩) hb).trans (hc 0 _ rfl)
          have c1 := (hbel.cell (p := ⟨b, _, none⟩) hb).trans (hc 1 _ rfl)
          have c2 := (hbel.cell (p := ⟨b, _, none⟩) hb).trans (hc 2 _ rfl)
          have c3 := (hbel.cell (p := ⟨b, _, none⟩) hb).trans (hc 3 _ rfl)
          have c4 := (hbel.cell (p := ⟨b, _, none⟩) hb).trans (hc 4 _ rfl)
          have c5 := (hbel.cell (p := ⟨b, _, none⟩) hb).trans (hc 5 _ rfl)
          simp only [Nat.add_zero] at c0
          have HX := Lib.hid hx
          have hW := WrAt.new wr (Y0 : Int) (Y1 : Int) y2 y3 y4 y5
          have bA := below1 wr (wrO (Y0 : Int) (Y1 : Int) y2 y3 y4 y5)
          clear hc hx
          obtain ⟨k0, k1, k2, k3, k4, k5⟩ := hW
          go_wp2_with fail
          refine (rspan_any y3 _ hy3).mono ?_
          rintro e w5 ⟨rfl, hb5⟩
          have hb15 := bA.trans (hb5.mono bA.size)
          replace k0 := (hb5.cell (cell_lt k0)).trans k0
          replace k1 := (hb5.cell (cell_lt k1)).trans k1
          replace k2 := (hb5.cell (cell_lt k2)).trans k2
          replace k3 := (hb5.cell (cell_lt k3)).trans k3
          replace k4 := (hb5.cell (cell_lt k4)).trans k4
          replace k5 := (hb5.cell (cell_lt k5)).trans k5
          go_wp2_with fail
          refine (rtail_any ((Y0 : Int), (Y1 : Int), y2, y3, y4, y5) _).mono ?_
          rintro e w8 ⟨rfl, hb8'⟩
          have hb8 := hbel.trans ((hb15.trans (hb8'.mono hb15.size)).mono hB)
          replace k0 := (hb8'.cell (cell_lt k0)).trans k0
          replace k1 := (hb8'.cell (cell_lt k1)).trans k1
          replace k2 := (hb8'.cell (cell_lt k2)).trans k2
          obtain ⟨OUT, hOUT⟩ : ∃ S, S = strOf (F ++ (l.take k).flatMap wfirst) := ⟨_, rfl⟩
          obtain ⟨S5, hS5⟩ : ∃ S, S = strOf [UInt8.ofNat y2.toNat] := ⟨_, rfl⟩
          obtain ⟨ST, hST⟩ : ∃ S, S = strOf (vput Y0) := ⟨_, rfl⟩
          obtain ⟨SR, hSR⟩ : ∃ S, S = strOf (vput Y1) := ⟨_, rfl⟩
          obtain ⟨KEY, hKEY⟩ : ∃ S, S = (spanOf y3).1 := ⟨_, rfl⟩
          obtain ⟨TL, hTL⟩ : ∃ S, S = (wtail ((Y0 : Int), (Y1 : Int), y2, y3, y4, y5)).1 := ⟨_, rfl⟩
          obtain ⟨z1, z2, z3, z4, z5, z6⟩ := wf_facts HW.out HX.out t5 (by omega) hOUT hS5 hST hSR hKEY hTL
          have U0 := u64_in l0
          have U1 := u64_in l1
          have HS5 := Lib.hid hS5
          rw [← hOUT, ← hKEY, ← hTL]
          clear hOUT hS5 hKEY hTL hbel hb15 bA c0 c1 c2 c3 c4 c5 k3 k4 k5 hb5 hb8'
          go_wp2_with fail
          refine Flow.wp_region_go (by kernel_rfl) (by kernel_rfl) (by kernel_rfl) 77 rfl (by kernel_rfl) (owV wr.heap.size OUT S5 ST SR KEY TL y2 Y0 Y1) (fun g L wz => BI w8 y2 g true (L 4) false wz) (fun _ _ => False) (0) (⟨(Below.refl _ _).drew, fun h => (by cases h), fun h => (by cases h)⟩) ⟨?_, ?_, ?_, ?_, ?_, ?_, ?_, ?_, ?_, ?_, ?_, ?_, ?_, ?_, ?_, ?_, ?_, ?_, ?_, ?_, ?_, ?_, ?_, ?_, trivial⟩ ?_ ?_
          · intro g L wz K ρ hc0 hf0 hF hO hU hcl hi hd hC hK
            have e5 : ρ (.tmp 5) = .string OUT := hU 5 23 (by kernel_rfl) (by cases h : L 23 with | false => rfl | true => (have := hcl 23 0 (by kernel_rfl) h; rw [hi] at this; cases this))
            simp [go_sem, Flow.ylP_value, Flow.ylP_skip, Flow.ylP_enter, Flow.ylP_panic, hc0, hf0, e5]
            exact hK g wz hC (fun _ _ => rfl)
          · intro g L wz K ρ hc0 hf0 hF hO hU hcl hi hd hC hK
            have e7 : ρ (.tmp 7) = .pointer (some ⟨wr.heap.size, 0, none⟩) := hO 7 (by kernel_rfl)
            simp [go_sem, Flow.ylP_value, Flow.ylP_skip, Flow.ylP_enter, Flow.ylP_panic, hc0, hf0, e7]
            exact hK g wz hC (fun _ _ => rfl)
          · intro g L wz K ρ hc0 hf0 hF hO hU hcl hi hd hC hK
            have d1 : L 1 = true := hd ⟨1, .data⟩ (by simp) rfl
            have e51 : ρ (.tmp 51) = .pointer (some ⟨wr.heap.size, 2, none⟩) := hF 51 1 (by kernel_rfl) d1
            have cc := (hC.bel.cell (cell_lt k2)).trans k2
            simp [go_sem, Flow.ylP_value, Flow.ylP_skip, Flow.ylP_enter, Flow.ylP_panic, hc0, hf0, e51, cc]
            exact hK g wz hC (fun _ _ => rfl)
          · intro g L wz K ρ hc0 hf0 hF hO hU hcl hi hd hC hK
            have d2 : L 2 = true := hd ⟨2, .data⟩ (by simp) rfl
            have e52 : ρ (.tmp 52) = .int .i64 y2 := hF 52 2 (by kernel_rfl) d2
            simp [go_sem, Flow.ylP_value, Flow.ylP_skip, Flow.ylP_enter, Flow.ylP_panic, hc0, hf0, e52, U8]
            exact hK g wz hC (fun _ _ => rfl)
          · intro g L wz K ρ hc0 hf0 hF hO hU hcl hi hd hC hK
            have d3 : L 3 = true := hd ⟨3, .data⟩ (by simp) rfl
            have e53 : ρ (.tmp 53) = .int .u8 y2 := hF 53 3 (by kernel_rfl) d3
            simp [go_sem, Flow.ylP_value, Flow.ylP_skip, Flow.ylP_enter, Flow.ylP_panic, hc0, hf0, e53]
            rw [hi] at hC
            refine hK wz.heap.size _ hC.build (by intro j hj; unfold owV; split <;> first | rfl | (rw [hi] at hj; cases hj) | (have hz := hcl _ 4 (by kernel_rfl) hj; rw [hi] at hz; cases hz))
          · intro g L wz K ρ hc0 hf0 hF hO hU hcl hi hd hC hK
            have d4 : L 4 = true := hd ⟨4, .data⟩ (by simp) rfl
            have e54 : ρ (.tmp 54) = .slice (some ⟨g, 0, none⟩) 1 1 := hF 54 4 (by kernel_rfl) d4
            have hst := hC.str (P := Tryz.prog) d4 HS5.out hy0 hy1 61 5 9 Tryz.underlying61 Tryz.underlying5 Tryz.underlying9
            simp [go_sem, Flow.ylP_value, Flow.ylP_skip, Flow.ylP_enter, Flow.ylP_panic, hc0, hf0, e54, hst]
            exact hK g wz hC (fun _ _ => rfl)
          · intro g L wz K ρ hc0 hf0 hF hO hU hcl hi hd hC hK
            have e7 : ρ (.tmp 7) = .pointer (some ⟨wr.heap.size, 0, none⟩) := hO 7 (by kernel_rfl)
            simp [go_sem, Flow.ylP_value, Flow.ylP_skip, Flow.ylP_enter, Flow.ylP_panic, hc0, hf0, e7]
            exact hK g wz hC (fun _ _ => rfl)
          · intro g L wz K ρ hc0 hf0 hF hO hU hcl hi hd hC hK
            have d6 : L 6 = true := hd ⟨6, .data⟩ (by simp) rfl
            have e56 : ρ (.tmp 56) = .pointer (some ⟨wr.heap.size, 0, none⟩) := hF 56 6 (by kernel_rfl) d6
            simp [go_sem, Flow.ylP_value, Flow.ylP_skip, Flow.ylP_enter, Flow.ylP_panic, hc0, hf0, e56]
            exact hK g wz hC (fun _ _ => rfl)
          · intro g L wz K ρ hc0 hf0 hF hO hU hcl hi hd hC hK
            have d7 : L 7 = true := hd ⟨7, .data⟩ (by simp) rfl
            have e57 : ρ (.tmp 57) = .pointer (some ⟨wr.heap.size, 0, none⟩) := hF 57 7 (by kernel_rfl) d7
            have cc := (hC.bel.cell (cell_lt k0)).trans k0
            simp [go_sem, Flow.ylP_value, Flow.ylP_skip, Flow.ylP_enter, Flow.ylP_panic, hc0, hf0, e57, cc]
            exact hK g wz hC (fun _ _ => rfl)
          · intro g L wz K ρ hc0 hf0 hF hO hU hcl hi hd hC hK
            have d8 : L 8 = true := hd ⟨8, .data⟩ (by simp) rfl
            have e58 : ρ (.tmp 58) = .int .i64 (Y0 : Int) := hF 58 8 (by kernel_rfl) d8
            simp [go_sem, Flow.ylP_value, Flow.ylP_skip, Flow.ylP_enter, Flow.ylP_panic, hc0, hf0, e58, U0]
            exact hK g wz hC (fun _ _ => rfl)
          · intro g L wz K ρ hc0 hf0 hF hO hU hcl hi hd hC hK
            have d9 : L 9 = true := hd ⟨9, .data⟩ (by simp) rfl
            have e59 : ρ (.tmp 59) = .int .u64 (Y0 : Int) := hF 59 9 (by kernel_rfl) d9
            simp [go_sem, Flow.ylP_value, Flow.ylP_skip, Flow.ylP_enter, Flow.ylP_panic, hc0, hf0, e59]
            refine (rvary_any Y0 wz (by omega)).mono ?_
            rintro r wn ⟨rfl, hbn⟩
            rw [show (⟨(vput Y0).toArray⟩ : ByteArray) = strOf (vput Y0) from rfl, ← hST]
            exact ⟨_, rfl, hK g wn (hC.grow hbn) (by intro j hj; unfold owV; split <;> first | rfl | (rw [hi] at hj; cases hj) | (have hz := hcl _ 10 (by kernel_rfl) hj; rw [hi] at hz; cases hz))⟩
          · intro g L wz K ρ hc0 hf0 hF hO hU hcl hi hd hC hK
            have d5 : L 5 = true := hd ⟨5, .data⟩ (by simp) rfl
            have e55 : ρ (.tmp 55) = .string S5 := hF 55 5 (by kernel_rfl) d5
            have d10 : L 10 = true := hd ⟨10, .data⟩ (by simp) rfl
            have e60 : ρ (.tmp 60) = .string ST := hF 60 10 (by kernel_rfl) d10
            simp [go_sem, Flow.ylP_value, Flow.ylP_skip, Flow.ylP_enter, Flow.ylP_panic, hc0, hf0, e55, e60, z1]
            exact hK g wz hC (fun _ _ => rfl)
          · intro g L wz K ρ hc0 hf0 hF hO hU hcl hi hd hC hK
            have e7 : ρ (.tmp 7) = .pointer (some ⟨wr.heap.size, 0, none⟩) := hO 7 (by kernel_rfl)
            simp [go_sem, Flow.ylP_value, Flow.ylP_skip, Flow.ylP_enter, Flow.ylP_panic, hc0, hf0, e7]
            exact hK g wz hC (fun _ _ => rfl)
          · intro g L wz K ρ hc0 hf0 hF hO hU hcl hi hd hC hK
            have d12 : L 12 = true := hd ⟨12, .data⟩ (by simp) rfl
            have e62 : ρ (.tmp 62) = .pointer (some ⟨wr.heap.size, 0, none⟩) := hF 62 12 (by kernel_rfl) d12
            simp [go_sem, Flow.ylP_value, Flow.ylP_skip, Flow.ylP_enter, Flow.ylP_panic, hc0, hf0, e62]
            exact hK g wz hC (fun _ _ => rfl)
          · intro g L wz K ρ hc0 hf0 hF hO hU hcl hi hd hC hK
            have d13 : L 13 = true := hd ⟨13, .data⟩ (by simp) rfl
            have e63 : ρ (.tmp 63) = .pointer (some ⟨wr.heap.size, 1, none⟩) := hF 63 13 (by kernel_rfl) d13
            have cc := (hC.bel.cell (cell_lt k1)).trans k1
            simp [go_sem, Flow.ylP_value, Flow.ylP_skip, Flow.ylP_enter, Flow.ylP_panic, hc0, hf0, e63, cc]
            exact hK g wz hC (fun _ _ => rfl)
          · intro g L wz K ρ hc0 hf0 hF hO hU hcl hi hd hC hK
            have d14 : L 14 = true := hd ⟨14, .data⟩ (by simp) rfl
            have e64 : ρ (.tmp 64) = .int .i64 (Y1 : Int) := hF 64 14 (by kernel_rfl) d14
            simp [go_sem, Flow.ylP_value, Flow.ylP_skip, Flow.ylP_enter, Flow.ylP_panic, hc0, hf0, e64, U1]
            exact hK g wz hC (fun _ _ => rfl)
          · intro g L wz K ρ hc0 hf0 hF hO hU hcl hi hd hC hK
            have d15 : L 15 = true := hd ⟨15, .data⟩ (by simp) rfl
            have e65 : ρ (.tmp 65) = .int .u64 (Y1 : Int) := hF 65 15 (by kernel_rfl) d15
            simp [go_sem, Flow.ylP_value, Flow.ylP_skip, Flow.ylP_enter, Flow.ylP_panic, hc0, hf0, e65]
            refine (rvary_any Y1 wz (by omega)).mono ?_
            rintro r wn ⟨rfl, hbn⟩
            rw [show (⟨(vput Y1).toArray⟩ : ByteArray) = strOf (vput Y1) from rfl, ← hSR]
            exact ⟨_, rfl, hK g wn (hC.grow hbn) (by intro j hj; unfold owV; split <;> first | rfl | (rw [hi] at hj; cases hj) | (have hz := hcl _ 16 (by kernel_rfl) hj; rw [hi] at hz; cases hz))⟩
          · intro g L wz K ρ hc0 hf0 hF hO hU hcl hi hd hC hK
            have d11 : L 11 = true := hd ⟨11, .data⟩ (by simp) rfl
            have e61 : ρ (.tmp 61) = .string (S5 ++ ST) := hF 61 11 (by kernel_rfl) d11
            have d16 : L 16 = true := hd ⟨16, .data⟩ (by simp) rfl
            have e66 : ρ (.tmp 66) = .string SR := hF 66 16 (by kernel_rfl) d16
            simp [go_sem, Flow.ylP_value, Flow.ylP_skip, Flow.ylP_enter, Flow.ylP_panic, hc0, hf0, e61, e66, z2]
            exact hK g wz hC (fun _ _ => rfl)
          · intro g L wz K ρ hc0 hf0 hF hO hU hcl hi hd hC hK
            have e8 : ρ (.tmp 8) = .string KEY := hO 8 (by kernel_rfl)
            simp [go_sem, Flow.ylP_value, Flow.ylP_skip, Flow.ylP_enter, Flow.ylP_panic, hc0, hf0, e8]
            exact hK g wz hC (fun _ _ => rfl)
          · intro g L wz K ρ hc0 hf0 hF hO hU hcl hi hd hC hK
            have d17 : L 17 = true := hd ⟨17, .data⟩ (by simp) rfl
            have e67 : ρ (.tmp 67) = .string (S5 ++ ST ++ SR) := hF 67 17 (by kernel_rfl) d17
            have d18 : L 18 = true := hd ⟨18, .data⟩ (by simp) rfl
            have e68 : ρ (.tmp 68) = .string KEY := hF 68 18 (by kernel_rfl) d18
            simp [go_sem, Flow.ylP_value, Flow.ylP_skip, Flow.ylP_enter, Flow.ylP_panic, hc0, hf0, e67, e68, z3]
            exact hK g wz hC (fun _ _ => rfl)
          · intro g L wz K ρ hc0 hf0 hF hO hU hcl hi hd hC hK
            have e10 : ρ (.tmp 10) = .string TL := hO 10 (by kernel_rfl)
            simp [go_sem, Flow.ylP_value, Flow.ylP_skip, Flow.ylP_enter, Flow.ylP_panic, hc0, hf0, e10]
            exact hK g wz hC (fun _ _ => rfl)
          · intro g L wz K ρ hc0 hf0 hF hO hU hcl hi hd hC hK
            have d19 : L 19 = true := hd ⟨19, .data⟩ (by simp) rfl
            have e69 : ρ (.tmp 69) = .string (S5 ++ ST ++ SR ++ KEY) := hF 69 19 (by kernel_rfl) d19
            have d20 : L 20 = true := hd ⟨20, .data⟩ (by simp) rfl
            have e70 : ρ (.tmp 70) = .string TL := hF 70 20 (by kernel_rfl) d20
            simp [go_sem, Flow.ylP_value, Flow.ylP_skip, Flow.ylP_enter, Flow.ylP_panic, hc0, hf0, e69, e70, z4]
            exact hK g wz hC (fun _ _ => rfl)
          · intro g L wz K ρ hc0 hf0 hF hO hU hcl hi hd hC hK
            have d0 : L 0 = true := hd ⟨0, .data⟩ (by simp) rfl
            have e50 : ρ (.tmp 50) = .string OUT := hF 50 0 (by kernel_rfl) d0
            have d21 : L 21 = true := hd ⟨21, .data⟩ (by simp) rfl
            have e71 : ρ (.tmp 71) = .string (S5 ++ ST ++ SR ++ KEY ++ TL) := hF 71 21 (by kernel_rfl) d21
            simp [go_sem, Flow.ylP_value, Flow.ylP_skip, Flow.ylP_enter, Flow.ylP_panic, hc0, hf0, e50, e71, z5]
            exact hK g wz hC (fun _ _ => rfl)
          · intro g L wz K ρ hc0 hf0 hF hO hU hcl hi hd hC hK
            have d22 : L 22 = true := hd ⟨22, .data⟩ (by simp) rfl
            have e72 : ρ (.tmp 72) = .string (OUT ++ (S5 ++ ST ++ SR ++ KEY ++ TL)) := hF 72 22 (by kernel_rfl) d22
            simp [go_sem, Flow.ylP_value, Flow.ylP_skip, Flow.ylP_enter, Flow.ylP_panic, hc0, hf0, e72]
            exact hK g wz hC (fun _ _ => rfl)
          · intro g L ch wz h; exact h.elim
          · intro g L wz hL hC
            simp only [Flow.putAll, owV]
            go_wp2
            go_roundw
            case rel => exact ⟨k + 1, hlt, by go_num, by first | exact congrArg Value.string z6 | (rw [hST, hSR] at z6; exact congrArg Value.string z6), hb8.trans (hC.bel.mono hb8.size)⟩
            case measure => exact meas_next hlt
        · obtain rfl : k = n'' := Nat.le_antisymm hk (Nat.not_lt.1 hlt)
          have hlk : l.take k = l := List.take_of_length_le (by rw [hll]; exact Nat.le_refl _)
          have bF := b4.trans (hbel.mono b4.size)
          obtain ⟨BY, hBY⟩ : ∃ B, B = strOf (F ++ l.flatMap wfirst) := ⟨_, rfl⟩
          have hbs : BY.size ≤ 1000000 := by rw [hBY, HFS.out, ← hll]; exact fb_size HB.out
          have hrr : firstOf f h l = (sealOf BY, 0, -1) := by rw [first_good HB.out, hBY, HFS.out, ← hll]; rfl
          have HRR := Lib.hid hrr
          rw [hlk, ← hBY]
          clear hlk hBY hrr
          go_wp2_with fail
          refine (rseal_any BY _ hbs).mono ?_
          rintro r w9 ⟨rfl, hb9⟩
          have b9 := bF.trans (hb9.mono bF.size)
          have hT9 := (hT4.below hbel).below hb9
          go_wp2_with fail
          refine (good_any _).mono ?_
          rintro r w10 ⟨rfl, hb10⟩
          have b10 := b9.trans (hb10.mono b9.size)
          obtain ⟨u0, u1, u2, u3⟩ := hT9.below hb10
          have S := set2 (.int .i64 0) (.int .i64 (-1)) u0 u1
          go_wp2
          exact bodyPost_ret (v := .tuple #[.string (sealOf BY), .agg #[.int .i64 0, .int .i64 (-1)]]) (by simp [results, Tryz.results9, go_sem, S.1, S.2]) rfl ⟨by rw [HRR.out]; rfl, below_set2 _ _ b10 (Nat.le_succ _)⟩
  · have hr := Lib.hid (first_bad hbad)
    have e1 : ((bright f h l).1 == 0) = false := by simpa using hbad
    obtain ⟨t0, t1, t2, t3⟩ := hT1
    rw [e1]
    clear e1 hbad
    go_wp2_with fail
    go_region
    have S := set2 (.int .i64 (bright f h l).1) (.int .i64 (bright f h l).2) t0 t1
    go_wp2
    exact bodyPost_ret (v := .tuple #[.string ⟨#[]⟩, .agg #[.int .i64 (bright f h l).1, .int .i64 (bright f h l).2]]) (by simp [results, Tryz.results9, go_sem, S.1, S.2]) rfl ⟨by rw [hr.out]; rfl, (below_set2 _ _ b1 (by omega)).drew⟩
end Go.Proofs.YtkejlnjnoiidnaaGreatDoor
end

section
namespace Go.Proofs.YtkejlnjnoiidnaaGreatDoor
set_option linter.unusedSimpArgs false
set_option linter.unusedVariables false
open Go.RowKit As
set_option maxHeartbeats 2000000 in
set_option maxRecDepth 100000 in
theorem osecond_any (w : World) (x : BatArg) (hb : Bat w x) (hf : ∀ y ∈ x.f, entFits y) (hh : ∀ y ∈ x.h, entFits y) (hcf : x.n ≤ x.c) (hch : x.n' ≤ x.c') (hg : Handle w) :
    Calls Tryz.prog 12 #[x.v] w fun e w' => ∃ v, e = .returned (.tuple #[.string (secondOf (bwrite x.f x.h x.l)).1, v]) ∧ ErrOf w' v (secondOf (bwrite x.f x.h x.l)).2 ∧ Below w.heap.size w w' := by
  have hbx := BxAt.new w x
  have b0 := below1 w (.cells #[.slice x.A x.n x.c, .slice x.A' x.n' x.c', .slice x.A'' x.n'' x.c''] 25)
  have hb0 := hb.grow b0
  have hg0 := hg.below b0
  obtain ⟨⟨t, e, p⟩, hbw⟩ : ∃ z, bwrite x.f x.h x.l = z := ⟨_, rfl⟩
  obtain ⟨ht, hp⟩ := bwrite_size hbw
  have HBW := Lib.hid hbw
  rw [hbw]
  clear hbw
  have q0 := hbx.c0
  have q1 := hbx.c1
  have q2 := hbx.c2
  unfold BatArg.v
  go_enter Tryz.func12, Tryz.ntmps12
  go_wp2_with fail
  refine (bodywrite_any _ x hb0 hf hh hcf hch hg0).mono ?_
  rintro r w1 ⟨v1, rfl, hv1, hb1⟩
  rw [HBW.out] at hv1 ⊢
  have bb := b0.trans (hb1.mono b0.size)
  unfold ErrOf at hv1
  simp only at hv1 ⊢
  by_cases he : e = 0
  · subst he
    obtain rfl := ferr_nil hv1 rfl
    have hr := Lib.hid (second_good (t := t) (p := p))
    have HP := Lib.hid (hp rfl)
    have k1 : ¬ 9223372036854775807 < (⟨#[80, 84, 2]⟩ : ByteArray).size + t.size := by show ¬ _ < 3 + _; omega
    have k3 : ((⟨#[80, 84, 2]⟩ : ByteArray) ++ t).size ≤ 1000000 := by rw [ByteArray.size_append]; show 3 + _ ≤ _; omega
    clear hv1 hp
    go_wp2_with fail
    refine (seal_any _ _ k3).mono ?_
    rintro r w4 ⟨rfl, hb4⟩
    go_wp2
    go_ret2
    rw [hr.out, HP.out]
    exact ⟨_, rfl, .none, bb.trans (hb4.mono bb.size)⟩
  · have hr := Lib.hid (second_bad (t := t) (p := p) he)
    obtain ⟨a, u, rfl⟩ := ferr_some hv1 he
    clear he
    go_wp2
    go_ret2
    rw [hr.out]
    exact ⟨_, rfl, hv1, bb⟩
def osV (t : ByteArray) (p : Int) (g : Unit) : Nat → Value
  | 0 => .string t
  | 1 => .string ((⟨#[80, 84, 2]⟩ : ByteArray) ++ t)
  | 2 => .string (sealOf ((⟨#[80, 84, 2]⟩ : ByteArray) ++ t))
  | 3 => .agg #[.int .i64 0, .int .i64 p]
  | 4 => .string (sealOf ((⟨#[80, 84, 2]⟩ : ByteArray) ++ t))
  | _ => undef
set_option maxHeartbeats 4000000 in
set_option maxRecDepth 100000 in
theorem rsecond_any (w : World) (x : BatArg) (hb : Bat w x) (hf : ∀ y ∈ x.f, entFits y) (hh : ∀ y ∈ x.h, entFits y) :
    Calls Tryz.prog 11 #[x.v] w fun e w' => e = .returned (.tuple #[.string (secondOf (bwrite x.f x.h x.l)).1, faultV (secondOf (bwrite x.f x.h x.l)).2]) ∧ Below w.heap.size w w' := by
  have hbx := BxAt.new w x
  have b0 := below1 w (.cells #[.slice x.A x.n x.c, .slice x.A' x.n' x.c', .slice x.A'' x.n'' x.c''] 25)
  have hT0 := Two.new (w.alloc (.cells #[.slice x.A x.n x.c, .slice x.A' x.n' x.c', .slice x.A'' x.n'' x.c''] 25)) 0 0 29
  simp only [World.size_alloc] at hT0
  have bF := below1 (w.alloc (.cells #[.slice x.A x.n x.c, .slice x.A' x.n' x.c', .slice x.A'' x.n'' x.c''] 25)) (.cells #[.int .i64 0, .int .i64 0] 29)
  have hb0 := (hb.grow b0).grow bF
  have b1 := b0.trans (bF.mono b0.size)
  obtain ⟨⟨t, e, p⟩, hbw⟩ : ∃ z, bwrite x.f x.h x.l = z := ⟨_, rfl⟩
  obtain ⟨ht, hp⟩ := bwrite_size hbw
  have HBW := Lib.hid hbw
  rw [hbw]
  clear hbw
  have hbx2 := hbx.below bF
  have q0 := hbx2.c0
  have q1 := hbx2.c1
  have q2 := hbx2.c2
  unfold BatArg.v
  go_enter Tryz.func11, Tryz.ntmps11
  go_wp2_with fail
  refine (rbody_any _ x hb0 hf hh).mono ?_
  rintro r w1 ⟨rfl, hb1⟩
  rw [HBW.out]
  unfold faultV
  simp only
  have b2 := b1.trans (hb1.mono b1.size)
  have bG := below1 w1 (.cells #[.int .i64 e, .int .i64 p] 29)
  have hG := Two.new w1 e p 29
  have F1 := (hT0.below hb1).below bG
  have b3 := b2.trans (bG.mono b2.size)
  have nFG : w.heap.size + 1 ≠ w1.heap.size := by have := cell_lt (hT0.below hb1).c0; simp only at this; omega
  have lF : w.heap.size ≤ w.heap.size + 1 := by omega
  generalize w.heap.size + 1 = F at *
  go_wp2_with fail
  refine (is_any (e, p) _).mono ?_
  rintro r w2 ⟨rfl, hb2⟩
  have F2 := F1.below hb2
  have G2 := hG.below hb2
  have b4 := b3.trans (hb2.mono b3.size)
  generalize w1.heap.size = G at *
  clear hT0 hbx hbx2 q0 q1 q2 bF b0 hb0 b1 hb1 b2 bG hG F1 b3 hb2
  by_cases he : e = 0
  · subst he
    have hr := Lib.hid (second_good (t := t) (p := p))
    have e1 : (((0, p) : Int × Int).1 == 0) = true := rfl
    have k1 : ¬ 9223372036854775807 < 3 + t.size := by omega
    have k3 : ((⟨#[80, 84, 2]⟩ : ByteArray) ++ t).size ≤ 1000000 := by rw [ByteArray.size_append]; show 3 + _ ≤ _; omega
    rw [e1]
    go_wp2_with fail
    refine Flow.wp_region_go (by kernel_rfl) (by kernel_rfl) (by kernel_rfl) 19 rfl (by kernel_rfl) (osV t p) (fun _ L wz => Below w.heap.size w wz ∧ Two wz F 0 (cond (L 5) p 0) ∧ Two wz G 0 p) (fun _ _ => False) (()) (⟨b4.drew, F2.below (Below.refl _ _).drew, G2.below (Below.refl _ _).drew⟩) ⟨?_, ?_, ?_, ?_, ?_, ?_, trivial⟩ ?_ ?_
    · intro g L wz K ρ hc0 hf0 hF hO hU hcl hi hd hC hK
      have e4 : ρ (.tmp 4) = .string t := hO 4 (by kernel_rfl)
      simp [go_sem, Flow.ylP_value, Flow.ylP_skip, Flow.ylP_enter, Flow.ylP_panic, hc0, hf0, e4]
      exact hK g wz hC (fun _ _ => rfl)
    · intro g L wz K ρ hc0 hf0 hF hO hU hcl hi hd hC hK
      have d0 : L 0 = true := hd ⟨0, .data⟩ (by simp) rfl
      have e15 : ρ (.tmp 15) = .string t := hF 15 0 (by kernel_rfl) d0
      simp [go_sem, Flow.ylP_value, Flow.ylP_skip, Flow.ylP_enter, Flow.ylP_panic, hc0, hf0, e15, k1]
      exact hK g wz hC (fun _ _ => rfl)
    · intro g L wz K ρ hc0 hf0 hF hO hU hcl hi hd hC hK
      have d1 : L 1 = true := hd ⟨1, .data⟩ (by simp) rfl
      have e16 : ρ (.tmp 16) = .string ((⟨#[80, 84, 2]⟩ : ByteArray) ++ t) := hF 16 1 (by kernel_rfl) d1
      simp [go_sem, Flow.ylP_value, Flow.ylP_skip, Flow.ylP_enter, Flow.ylP_panic, hc0, hf0, e16]
      refine (rseal_any _ wz k3).mono ?_
      rintro r wn ⟨rfl, hbn⟩
      exact ⟨_, rfl, hK () wn ⟨hC.1.trans (hbn.mono hC.1.size), hC.2.1.below hbn, hC.2.2.below hbn⟩ (by intro j hj; unfold osV; split <;> first | rfl | (rw [hi] at hj; cases hj) | (have hz := hcl _ 2 (by kernel_rfl) hj; rw [hi] at hz; cases hz))⟩
    · intro g L wz K ρ hc0 hf0 hF hO hU hcl hi hd hC hK
      have e5 : ρ (.tmp 5) = .pointer (some ⟨G, 0, none⟩) := hO 5 (by kernel_rfl)
      have a0 := hC.2.2.c0
      have a1 := hC.2.2.c1
      simp [go_sem, Flow.ylP_value, Flow.ylP_skip, Flow.ylP_enter, Flow.ylP_panic, hc0, hf0, e5, a0, a1]
      exact hK () wz hC (fun _ _ => rfl)
    · intro g L wz K ρ hc0 hf0 hF hO hU hcl hi hd hC hK
      have d2 : L 2 = true := hd ⟨2, .data⟩ (by simp) rfl
      have e17 : ρ (.tmp 17) = .string (sealOf ((⟨#[80, 84, 2]⟩ : ByteArray) ++ t)) := hF 17 2 (by kernel_rfl) d2
      simp [go_sem, Flow.ylP_value, Flow.ylP_skip, Flow.ylP_enter, Flow.ylP_panic, hc0, hf0, e17]
      exact hK g wz hC (fun _ _ => rfl)
    · intro g L wz K ρ hc0 hf0 hF hO hU hcl hi hd hC hK
      have e3 : ρ (.tmp 3) = .pointer (some ⟨F, 0, none⟩) := hO 3 (by kernel_rfl)
      have d3 : L 3 = true := hd ⟨3, .data⟩ (by simp) rfl
      have e18 : ρ (.tmp 18) = .agg #[.int .i64 0, .int .i64 p] := hF 18 3 (by kernel_rfl) d3
      rw [hi] at hC
      obtain ⟨hb0, hF0, hG0⟩ := hC
      have a0 := hF0.c0
      have a1 : (wz.setCell ⟨F, 0, none⟩ (.int .i64 0)).cell? ⟨F, 1, none⟩ = some (.int .i64 0) := by rw [World.cell?_setCell_other _ _ _ _ (by simp)]; exact hF0.c1
      have g0 := hF0.f0
      have g1 := hF0.f1
      simp [go_sem, Flow.ylP_value, Flow.ylP_skip, Flow.ylP_enter, Flow.ylP_panic, hc0, hf0, e3, e18, a0, a1, g0, g1]
      exact hK () _ ⟨(hb0.setCell (p := ⟨F, 0, none⟩) lF _).setCell (p := ⟨F, 1, none⟩) lF _, hF0.set2 0 p, hG0.oth2 nFG 0 p⟩ (fun _ _ => rfl)
    · intro g L ch wz h; exact h.elim
    · intro g L wz hL hC
      rw [hL 5 (by decide)] at hC
      obtain ⟨hb9, hF9, _⟩ := hC
      have z0 := hF9.c0
      have z1 : wz.cell? ⟨F, 1, none⟩ = some (.int .i64 p) := hF9.c1
      simp only [Flow.putAll, osV]
      go_wp2
      exact bodyPost_ret (v := .tuple #[.string (sealOf ((⟨#[80, 84, 2]⟩ : ByteArray) ++ t)), .agg #[.int .i64 0, .int .i64 p]]) (by simp [results, Tryz.results11, go_sem, z0, z1]) rfl ⟨by rw [hr.out]; rfl, hb9⟩
  · have hr := Lib.hid (second_bad (t := t) (p := p) he)
    have e1 : (((e, p) : Int × Int).1 == 0) = false := beq_eq_false_iff_ne.2 he
    rw [e1]
    obtain ⟨c0, c1, f0, f1⟩ := F2
    obtain ⟨d0, d1, g0, g1⟩ := G2
    go_wp2_with fail
    go_region
    have S := set2 (.int .i64 e) (.int .i64 p) c0 c1
    go_wp2
    exact bodyPost_ret (v := .tuple #[.string ⟨#[]⟩, .agg #[.int .i64 e, .int .i64 p]]) (by simp [results, Tryz.results11, go_sem, S.1, S.2]) rfl ⟨by rw [hr.out]; rfl, (below_set2 _ _ b4 lF).drew⟩
end Go.Proofs.YtkejlnjnoiidnaaGreatDoor
end

section
namespace Go.Proofs.YtkejlnjnoiidnaaGreatDoor
open Go.ChangeShapes Go.WideShapes Go.ChangeAt Go.RowKit
open Go.ChangeMaps (open_string)
section
variable {H : Type} {enc : TypeId × Value → H} {P : Program} {w : World} {base : Nat} {spare : Nat → Bool} {held : Bool}

/-- A slice whose elements' cells are k each: every element's cells are those of an x of mine. -/
theorem open_cells {α : Type} (f : α → List Value) (k : Nat) (hk0 : 0 < k) (hf : ∀ x, (f x).length = k) (ok : α → Prop) {t e fuel : Nat} {cs : List Value} {y : DataW H × List MemPlace}
    (ht : P.underlying t = some (.slice e)) (hk : P.cellsOf e = k)
    (helem : ∀ (cs : List Value) (m : Nat) (y : DataW H × List MemPlace), DataW.trod enc P w base spare held m e cs = some y → ∃ x, cs = f x ∧ ok x)
    (hfu : DataW.trod enc P w base spare held fuel t cs = some y) :
    ∃ (A : Option Addr) (n c : Nat) (l : List α), cs = [.slice A n c] ∧ n ≤ maxLen ∧ l.length = n ∧ Sl w w.heap.size k A n (l.flatMap f) ∧ ∀ x ∈ l, ok x := by
  rcases Go.Deep.open_slice ht hfu with ⟨hcs, _⟩ | ⟨a, n, c, m, n', D, Pl, hcs, _, hl, hm, hmm, _, hi⟩
  · exact ⟨none, 0, 0, [], hcs, Nat.zero_le _, rfl, Sl.nil, fun x hx => by simp at hx⟩
  · have hlm : n ≤ m := by rw [hmm]; split <;> omega
    obtain ⟨l, hll, hP⟩ := exists_list n (fun i x => (∀ j, j < k → w.cell? (a.add (i * k + j)) = (f x)[j]?) ∧ ok x) (fun i him => by
      obtain ⟨cs', hc, ht'⟩ := hi i (by omega)
      obtain ⟨x, rfl, hx⟩ := helem cs' n' _ ht'
      obtain ⟨_, hcl, hat⟩ := World.cells?_some hc
      rw [hk] at hat
      exact ⟨x, fun j hj => by rw [← Go.Deep.add_add]; exact hat j hj, hx⟩)
    refine ⟨some a, n, c, l, hcs, Nat.le_trans hl hm, hll, ⟨by rw [flat_len f k hf, hll], fun hn => ?_⟩, fun x hx => ?_⟩
    · have h0 := (hP 0 _ (List.getElem?_eq_getElem (by omega : 0 < l.length))).1 0 hk0
      rw [List.getElem?_eq_getElem (by rw [hf]; exact hk0)] at h0
      have hspot := World.cell?_spot h0
      obtain ⟨b, o, sp⟩ := a
      have hsp : sp = none := by simpa [Addr.add] using hspot
      subst hsp
      have hadd : ∀ j, (⟨b, o, none⟩ : Addr).add j = ⟨b, o + j, none⟩ := fun j => by unfold Addr.add; split <;> simp_all
      refine ⟨b, o, rfl, ?_, fun j u hu => ?_⟩
      · have := cell_lt h0
        rw [hadd] at this
        exact this
      · obtain ⟨i, j', x, rfl, hj', hx, hu'⟩ := flat_at f k hf l j u hu
        have := (hP i x hx).1 j' hj'
        rw [hadd] at this
        rw [this, hu']
    · obtain ⟨i, hi', rfl⟩ := List.mem_iff_getElem.1 hx
      exact (hP i _ (List.getElem?_eq_getElem hi')).2
theorem open_elems {α : Type} (f : α → List Value) (k : Nat) (hk0 : 0 < k) (hf : ∀ x, (f x).length = k) (ok : α → Prop) {r : Reach} {b0 : Nat} {t e : TypeId} {v : Value} {d : DataW H} {p : List MemPlace}
    (ht : P.underlying t = some (.slice e)) (hk : P.cellsOf e = k)
    (helem : ∀ (cs : List Value) (m : Nat) (y : DataW H × List MemPlace), DataW.trod enc P w base spare held m e cs = some y → ∃ x, cs = f x ∧ ok x)
    (hv : Value.okWide P w r b0 t v) (h : DataW.Trod enc P w base spare held t v d p) :
    ∃ (A : Option Addr) (n c : Nat) (l : List α), v = .slice A n c ∧ n ≤ maxLen ∧ l.length = n ∧ Sl w w.heap.size k A n (l.flatMap f) ∧ ∀ x ∈ l, ok x := by
  obtain ⟨A, n, c, rfl⟩ := okWide_slice ht hv
  obtain ⟨fuel, hfu⟩ := h
  obtain ⟨A', n', c', l, hcs, r⟩ := open_cells f k hk0 hf ok ht hk helem hfu
  simp [Value.cells] at hcs
  obtain ⟨rfl, rfl, rfl⟩ := hcs
  exact ⟨A, n, c, l, rfl, r⟩

/-- A struct's field of one cell. -/
theorem field1 {fs : Array Field} {cs : List Value} {xs : List (DataW H × List MemPlace)} {m : Nat} (hlen : xs.length = fs.size)
    (hg : ∀ (i : Nat) (f : Field), fs[i]? = some f → DataW.trod enc P w base spare held m f.type ((cs.drop f.offset).take (P.cellsOf f.type)) = xs[i]?) (i : Nat) (f : Field) (hf : fs[i]? = some f) :
    ∃ y, DataW.trod enc P w base spare held m f.type ((cs.drop f.offset).take (P.cellsOf f.type)) = some y := by
  have hi : i < xs.length := by rw [hlen]; exact (Array.getElem?_eq_some_iff.1 hf).1
  exact ⟨xs[i], by rw [hg i f hf, List.getElem?_eq_getElem hi]⟩
theorem take1 {cs : List Value} {o : Nat} {v : Value} (h : (cs.drop o).take 1 = [v]) : cs[o]? = some v := by
  have e : ((cs.drop o).take 1)[0]? = some v := by rw [h]; rfl
  rw [List.getElem?_take_of_lt (by omega), List.getElem?_drop] at e
  simpa using e
/-- What a struct's reading says of all its fields. -/
def Fielded (P : Program) (w : World) (base : Nat) (spare : Nat → Bool) (held : Bool) (enc : TypeId × Value → H) (fs : Array Field) (cs : List Value) : Prop :=
  ∃ m, ∀ (i : Nat) (f : Field), fs[i]? = some f → ∃ y, DataW.trod enc P w base spare held m f.type ((cs.drop f.offset).take (P.cellsOf f.type)) = some y
theorem fielded {t : TypeId} {fs : Array Field} {m : Nat} {cs : List Value} {x : DataW H × List MemPlace} (ht : P.underlying t = some (.struct fs)) (h : DataW.trod enc P w base spare held m t cs = some x) :
    cs.length = P.cellsOf t ∧ Fielded P w base spare held enc fs cs := by
  obtain ⟨xs, n, _, _, hcl, hlen, hg⟩ := DataW.trod_struct ht h
  exact ⟨hcl, n, fun i f hf => field1 hlen hg i f hf⟩
theorem field_sub {fs : Array Field} {cs : List Value} (h : Fielded P w base spare held enc fs cs) (i o T k : Nat) {f : Field} (hf : fs[i]? = some f) (hT : f.type = T) (ho : f.offset = o) (hc : P.cellsOf T = k) :
    ∃ m y, DataW.trod enc P w base spare held m T ((cs.drop o).take k) = some y := by
  obtain ⟨m, hg⟩ := h
  obtain ⟨y, hy⟩ := hg i f hf
  subst hT ho hc
  exact ⟨m, y, hy⟩
theorem field_int {fs : Array Field} {cs : List Value} (h : Fielded P w base spare held enc fs cs) (i o T : Nat) {f : Field} {k : IntKind} (hf : fs[i]? = some f) (hT : f.type = T) (ho : f.offset = o) (hu : P.underlying T = some (.int k)) (hc : P.cellsOf T = 1) :
    ∃ n, cs[o]? = some (.int k n) ∧ (Lit.int k n).wf = true := by
  obtain ⟨m, y, hy⟩ := field_sub h i o T 1 hf hT ho hc
  obtain ⟨n, e, _, wn⟩ := DataW.trod_int hu hy
  exact ⟨n, take1 e, wn⟩
theorem field_bool {fs : Array Field} {cs : List Value} (h : Fielded P w base spare held enc fs cs) (i o T : Nat) {f : Field} (hf : fs[i]? = some f) (hT : f.type = T) (ho : f.offset = o) (hu : P.underlying T = some .bool) (hc : P.cellsOf T = 1) :
    ∃ b, cs[o]? = some (.bool b) := by
  obtain ⟨m, y, hy⟩ := field_sub h i o T 1 hf hT ho hc
  obtain ⟨n, e, _⟩ := DataW.trod_bool hu hy
  exact ⟨n, take1 e⟩
theorem field_string {fs : Array Field} {cs : List Value} (h : Fielded P w base spare held enc fs cs) (i o T : Nat) {f : Field} (hf : fs[i]? = some f) (hT : f.type = T) (ho : f.offset = o) (hu : P.underlying T = some .string) (hc : P.cellsOf T = 1) :
    ∃ s : ByteArray, cs[o]? = some (.string s) ∧ s.size ≤ maxLen := by
  obtain ⟨m, y, hy⟩ := field_sub h i o T 1 hf hT ho hc
  obtain ⟨n, e, _, wn⟩ := DataW.trod_string hu hy
  exact ⟨n, take1 e, wn⟩
theorem str_eq (s : ByteArray) : (⟨s.data.toList.toArray⟩ : ByteArray) = s := by simp
end
end Go.Proofs.YtkejlnjnoiidnaaGreatDoor
end

section
namespace Go.Proofs.YtkejlnjnoiidnaaGreatDoor
set_option maxRecDepth 100000
open Go.ChangeShapes Go.WideShapes Go.ChangeAt Go.RowKit
section
variable {H : Type} {enc : TypeId × Value → H} {w : World} {base : Nat} {spare : Nat → Bool} {held : Bool}
theorem cellsEnt : Tryz.prog.cellsOf 79 = 2 := by kernel_rfl
theorem cellsInt : Tryz.prog.cellsOf 3 = 1 := by kernel_rfl
theorem open_ent (cs : List Value) (m : Nat) (y : DataW H × List MemPlace) (h : DataW.trod enc Tryz.prog w base spare held m 79 cs = some y) : ∃ x : Ent, cs = entCells x ∧ entFits x := by
  obtain ⟨hcl, hg⟩ := fielded Tryz.underlying79 h
  rw [cellsEnt] at hcl
  obtain ⟨r, g0, w0⟩ := field_int hg 0 0 3 rfl rfl rfl Tryz.underlying3 cellsInt
  obtain ⟨t, g1, w1⟩ := field_int hg 1 1 3 rfl rfl rfl Tryz.underlying3 cellsInt
  refine ⟨(r, t), ?_, bounds_i64 w0, bounds_i64 w1⟩
  match cs, hcl with
  | [a, b], _ =>
    simp at g0 g1
    subst g0 g1
    rfl
theorem open_ents {r : Reach} {b0 : Nat} {v : Value} {d : DataW H} {p : List MemPlace} (hv : Value.okWide Tryz.prog w r b0 22 v) (h : DataW.Trod enc Tryz.prog w base spare held 22 v d p) :
    ∃ a : EntArg, v = .slice a.A a.n a.c ∧ (Ents w w.heap.size a.A a.n a.l ∧ a.n ≤ maxLen) := by
  obtain ⟨A, n, c, l, rfl, hn, hl, hs, ho⟩ := open_elems entCells 2 (by omega) entCells_len entFits Tryz.underlying22 cellsEnt open_ent hv h
  exact ⟨⟨A, n, c, l⟩, rfl, ⟨hs, ho⟩, hn⟩
theorem open_id {r : Reach} {b0 : Nat} {v : Value} {d : DataW H} {p : List MemPlace} (hv : Value.okWide Tryz.prog w r b0 51 v) (h : DataW.Trod enc Tryz.prog w base spare held 51 v d p) :
    ∃ x : Ent, v = .agg #[.int .i64 x.1, .int .i64 x.2] ∧ entFits x := by
  obtain ⟨cs, rfl, hsz⟩ := okWide_struct Tryz.underlying51 hv
  obtain ⟨fuel, hf⟩ := h
  obtain ⟨_, hg⟩ := fielded Tryz.underlying51 hf
  obtain ⟨r, g0, w0⟩ := field_int hg 0 0 3 rfl rfl rfl Tryz.underlying3 cellsInt
  obtain ⟨t, g1, w1⟩ := field_int hg 1 1 3 rfl rfl rfl Tryz.underlying3 cellsInt
  refine ⟨(r, t), ?_, bounds_i64 w0, bounds_i64 w1⟩
  have hc : cs.size = 2 := hsz.trans (by kernel_rfl)
  obtain ⟨l⟩ := cs
  match l, hc with
  | [a, b], _ =>
    simp [Value.cells] at g0 g1
    subst g0 g1
    rfl
end
end Go.Proofs.YtkejlnjnoiidnaaGreatDoor
end

section
namespace Go.Proofs.YtkejlnjnoiidnaaGreatDoor
set_option maxRecDepth 100000
open Go.ChangeShapes Go.WideShapes Go.ChangeAt Go.RowKit
section
variable {H : Type} {enc : TypeId × Value → H} {w : World} {base : Nat} {spare : Nat → Bool} {held : Bool}
theorem cellsWr : Tryz.prog.cellsOf 53 = 6 := by kernel_rfl
theorem cellsIdT : Tryz.prog.cellsOf 51 = 2 := by kernel_rfl
theorem cellsStrT : Tryz.prog.cellsOf 9 = 1 := by kernel_rfl
theorem cellsEntsT : Tryz.prog.cellsOf 22 = 1 := by kernel_rfl
theorem cellsWrsT : Tryz.prog.cellsOf 23 = 1 := by kernel_rfl
theorem cellsBat : Tryz.prog.cellsOf 25 = 3 := by kernel_rfl
def i64Fits (n : Int) : Prop := -9223372036854775808 ≤ n ∧ n ≤ 9223372036854775807
def wrFits (x : Wr) : Prop := i64Fits x.1 ∧ i64Fits x.2.1 ∧ i64Fits x.2.2.1 ∧ x.2.2.2.1.size ≤ maxLen ∧ x.2.2.2.2.1.size ≤ maxLen ∧ i64Fits x.2.2.2.2.2
theorem six {cs : List Value} (h : cs.length = 6) {a b c d e f : Value} (h0 : cs[0]? = some a) (h1 : cs[1]? = some b) (h2 : cs[2]? = some c) (h3 : cs[3]? = some d) (h4 : cs[4]? = some e) (h5 : cs[5]? = some f) : cs = [a, b, c, d, e, f] := by
  match cs, h with
  | [_, _, _, _, _, _], _ =>
    simp at h0 h1 h2 h3 h4 h5
    subst h0 h1 h2 h3 h4 h5
    rfl
theorem open_wr (cs : List Value) (m : Nat) (y : DataW H × List MemPlace) (h : DataW.trod enc Tryz.prog w base spare held m 53 cs = some y) : ∃ x : Wr, cs = wrCells x ∧ wrFits x := by
  obtain ⟨hcl, hg⟩ := fielded Tryz.underlying53 h
  rw [cellsWr] at hcl
  obtain ⟨m', y', hid⟩ := field_sub hg 0 0 51 2 rfl rfl rfl cellsIdT
  obtain ⟨_, hgi⟩ := fielded Tryz.underlying51 hid
  obtain ⟨a, g0, w0⟩ := field_int hgi 0 0 3 rfl rfl rfl Tryz.underlying3 cellsInt
  obtain ⟨b, g1, w1⟩ := field_int hgi 1 1 3 rfl rfl rfl Tryz.underlying3 cellsInt
  obtain ⟨c, g2, w2⟩ := field_int hg 1 2 3 rfl rfl rfl Tryz.underlying3 cellsInt
  obtain ⟨d, g3, w3⟩ := field_string hg 2 3 9 rfl rfl rfl Tryz.underlying9 cellsStrT
  obtain ⟨e, g4, w4⟩ := field_string hg 3 4 9 rfl rfl rfl Tryz.underlying9 cellsStrT
  obtain ⟨f, g5, w5⟩ := field_int hg 4 5 3 rfl rfl rfl Tryz.underlying3 cellsInt
  rw [List.getElem?_take_of_lt (by omega), List.drop_zero] at g0 g1
  exact ⟨(a, b, c, d, e, f), six hcl g0 g1 g2 g3 g4 g5, bounds_i64 w0, bounds_i64 w1, bounds_i64 w2, w3, w4, bounds_i64 w5⟩
/-- What a batch among the arguments holds fits. -/
structure BatFits (b : BatArg) : Prop where
  f : ∀ x ∈ b.f, entFits x
  h : ∀ x ∈ b.h, entFits x
  l : ∀ x ∈ b.l, wrFits x
theorem open_bat {r : Reach} {b0 : Nat} {v : Value} {d : DataW H} {p : List MemPlace} (hv : Value.okWide Tryz.prog w r b0 25 v) (h : DataW.Trod enc Tryz.prog w base spare held 25 v d p) :
    ∃ b : BatArg, v = b.v ∧ (Bat w b ∧ BatFits b) := by
  obtain ⟨cs, rfl, hsz⟩ := okWide_struct Tryz.underlying25 hv
  obtain ⟨fuel, hf⟩ := h
  obtain ⟨hcl, hg⟩ := fielded Tryz.underlying25 hf
  rw [cellsBat] at hsz
  obtain ⟨m0, y0, t0⟩ := field_sub hg 0 0 22 1 rfl rfl rfl cellsEntsT
  obtain ⟨m1, y1, t1⟩ := field_sub hg 1 1 22 1 rfl rfl rfl cellsEntsT
  obtain ⟨m2, y2, t2⟩ := field_sub hg 2 2 23 1 rfl rfl rfl cellsWrsT
  obtain ⟨A, n, c, f, e0, a0, _, s0, f0⟩ := open_cells entCells 2 (by omega) entCells_len entFits Tryz.underlying22 cellsEnt open_ent t0
  obtain ⟨A', n', c', h, e1, a1, _, s1, f1⟩ := open_cells entCells 2 (by omega) entCells_len entFits Tryz.underlying22 cellsEnt open_ent t1
  obtain ⟨A'', n'', c'', l, e2, a2, _, s2, f2⟩ := open_cells wrCells 6 (by omega) (fun _ => rfl) wrFits Tryz.underlying23 cellsWr open_wr t2
  refine ⟨⟨A, n, c, A', n', c', A'', n'', c'', f, h, l⟩, ?_, ⟨s0, s1, s2, a0, a1, a2⟩, ⟨f0, f1, f2⟩⟩
  obtain ⟨l⟩ := cs
  match l, hsz with
  | [x, y, z], _ =>
    simp [Value.cells] at e0 e1 e2
    subst e0 e1 e2
    rfl
end
end Go.Proofs.YtkejlnjnoiidnaaGreatDoor
end

section
namespace Go.Proofs.YtkejlnjnoiidnaaGreatDoor
open Go.ChangeShapes Go.WideShapes Go.ChangeAt Go.RowKit
/-- The reach: 2^47 - 4096 bytes. -/
def Small {H : Type} (P : Program) (t : TypeId) (d : DataW H) : Prop := ∀ n ∈ d.weights P t, n ≤ 140737488351232
theorem small_each {H : Type} {P : Program} {ts : List TypeId} {ds : List (DataW H)} (h : (DataW.weightsEach P ts ds).all (· ≤ reachBytes) = true) {j : Nat} {t : TypeId} {d : DataW H} (ht : ts[j]? = some t) (hd : ds[j]? = some d) : Small P t d := by
  intro n hn
  have := List.all_eq_true.1 h _ (DataW.weights_mem_each ht hd n hn)
  have := of_decide_eq_true this
  unfold reachBytes at this
  omega
section
variable {H : Type} {enc : TypeId × Value → H} {P : Program} {w : World} {base : Nat} {spare : Nat → Bool} {held : Bool}
theorem weightsAll_mem {e : TypeId} : ∀ {l : List (DataW H)} {d : DataW H}, d ∈ l → ∀ n ∈ d.weights P e, n ∈ DataW.weightsAll P e l
  | x :: l, d, h, n, hn => by
    simp only [DataW.weightsAll, List.mem_append]
    rcases List.mem_cons.1 h with rfl | h
    · exact .inl hn
    · exact .inr (weightsAll_mem h n hn)
theorem small_elem {t e : TypeId} {elems sp : List (DataW H)} {d : DataW H} (ht : P.underlying t = some (.slice e)) (h : Small P t (.slice elems sp)) (hd : d ∈ elems ∨ d ∈ sp) : Small P e d := by
  intro n hn
  apply h
  simp only [DataW.weights, ht, List.mem_cons, List.mem_append]
  rcases hd with hd | hd
  · exact .inr (.inl (weightsAll_mem hd n hn))
  · exact .inr (.inr (weightsAll_mem hd n hn))
theorem small_len {t e : TypeId} {elems sp : List (DataW H)} (ht : P.underlying t = some (.slice e)) (h : Small P t (.slice elems sp)) : elems.length * P.bytesOf e ≤ 140737488351232 := by
  have := h ((elems.length + sp.length) * P.bytesOf e) (by simp only [DataW.weights, ht, List.mem_cons, true_or])
  refine Nat.le_trans (Nat.mul_le_mul_right _ (by omega)) this
theorem small_string {t : TypeId} {l : List UInt8} (h : Small (H := H) P t (.lit (.string l))) : l.length ≤ 140737488351232 := h _ (by simp [DataW.weights])
theorem str_small {t : TypeId} {s : ByteArray} (h : Small (H := H) P t (.lit (.string s.data.toList))) : s.size ≤ 140737488351232 := by
  have := small_string h
  simpa using this
theorem open_cells_r {α : Type} (f : α → List Value) (k : Nat) (hk0 : 0 < k) (hf : ∀ x, (f x).length = k) (ok : α → Prop) {t e fuel : Nat} {cs : List Value} {y : DataW H × List MemPlace} (by_ : Nat)
    (ht : P.underlying t = some (.slice e)) (hk : P.cellsOf e = k) (hby : P.bytesOf e = by_) (hsm : Small P t y.1)
    (helem : ∀ (cs : List Value) (m : Nat) (y : DataW H × List MemPlace), DataW.trod enc P w base spare held m e cs = some y → Small P e y.1 → ∃ x, cs = f x ∧ ok x)
    (hfu : DataW.trod enc P w base spare held fuel t cs = some y) :
    ∃ (A : Option Addr) (n c : Nat) (l : List α), cs = [.slice A n c] ∧ n * by_ ≤ 140737488351232 ∧ l.length = n ∧ Sl w w.heap.size k A n (l.flatMap f) ∧ ∀ x ∈ l, ok x := by
  rcases Go.Deep.open_slice ht hfu with ⟨hcs, _⟩ | ⟨a, n, c, m, n', D, Pl, hcs, _, hl, hm, hmm, hy, hi⟩
  · exact ⟨none, 0, 0, [], hcs, by simp, rfl, Sl.nil, fun x hx => by simp at hx⟩
  · have hlm : n ≤ m := by rw [hmm]; split <;> omega
    subst hy
    have hb := small_len ht hsm
    rw [List.length_map, List.length_range, hby] at hb
    obtain ⟨l, hll, hP⟩ := exists_list n (fun i x => (∀ j, j < k → w.cell? (a.add (i * k + j)) = (f x)[j]?) ∧ ok x) (fun i him => by
      obtain ⟨cs', hc, ht'⟩ := hi i (by omega)
      obtain ⟨x, rfl, hx⟩ := helem cs' n' _ ht' (small_elem ht hsm (.inl (List.mem_map.2 ⟨i, List.mem_range.2 him, rfl⟩)))
      obtain ⟨_, hcl, hat⟩ := World.cells?_some hc
      rw [hk] at hat
      exact ⟨x, fun j hj => by rw [← Go.Deep.add_add]; exact hat j hj, hx⟩)
    refine ⟨some a, n, c, l, hcs, hb, hll, ⟨by rw [flat_len f k hf, hll], fun hn => ?_⟩, fun x hx => ?_⟩
    · have h0 := (hP 0 _ (List.getElem?_eq_getElem (by omega : 0 < l.length))).1 0 hk0
      rw [List.getElem?_eq_getElem (by rw [hf]; exact hk0)] at h0
      have hspot := World.cell?_spot h0
      obtain ⟨b, o, sp⟩ := a
      have hsp : sp = none := by simpa [Addr.add] using hspot
      subst hsp
      have hadd : ∀ j, (⟨b, o, none⟩ : Addr).add j = ⟨b, o + j, none⟩ := fun j => by unfold Addr.add; split <;> simp_all
      refine ⟨b, o, rfl, ?_, fun j u hu => ?_⟩
      · have := cell_lt h0
        rw [hadd] at this
        exact this
      · obtain ⟨i, j', x, rfl, hj', hx, hu'⟩ := flat_at f k hf l j u hu
        have := (hP i x hx).1 j' hj'
        rw [hadd] at this
        rw [this, hu']
    · obtain ⟨i, hi', rfl⟩ := List.mem_iff_getElem.1 hx
      exact (hP i _ (List.getElem?_eq_getElem hi')).2
theorem open_elems_r {α : Type} (f : α → List Value) (k : Nat) (hk0 : 0 < k) (hf : ∀ x, (f x).length = k) (ok : α → Prop) {r : Reach} {b0 : Nat} {t e : TypeId} {v : Value} {d : DataW H} {p : List MemPlace} (by_ : Nat)
    (ht : P.underlying t = some (.slice e)) (hk : P.cellsOf e = k) (hby : P.bytesOf e = by_) (hsm : Small P t d)
    (helem : ∀ (cs : List Value) (m : Nat) (y : DataW H × List MemPlace), DataW.trod enc P w base spare held m e cs = some y → Small P e y.1 → ∃ x, cs = f x ∧ ok x)
    (hv : Value.okWide P w r b0 t v) (h : DataW.Trod enc P w base spare held t v d p) :
    ∃ (A : Option Addr) (n c : Nat) (l : List α), v = .slice A n c ∧ n * by_ ≤ 140737488351232 ∧ l.length = n ∧ Sl w w.heap.size k A n (l.flatMap f) ∧ ∀ x ∈ l, ok x := by
  obtain ⟨A, n, c, rfl⟩ := okWide_slice ht hv
  obtain ⟨fuel, hfu⟩ := h
  obtain ⟨A', n', c', l, hcs, r⟩ := open_cells_r f k hk0 hf ok by_ ht hk hby hsm helem hfu
  simp [Value.cells] at hcs
  obtain ⟨rfl, rfl, rfl⟩ := hcs
  exact ⟨A, n, c, l, rfl, r⟩
/-- What a struct's reading says of all its fields, with the reach. -/
def FieldedR (P : Program) (w : World) (base : Nat) (spare : Nat → Bool) (held : Bool) (enc : TypeId × Value → H) (fs : Array Field) (cs : List Value) : Prop :=
  ∃ m, ∀ (i : Nat) (f : Field), fs[i]? = some f → ∃ y, DataW.trod enc P w base spare held m f.type ((cs.drop f.offset).take (P.cellsOf f.type)) = some y ∧ Small P f.type y.1
theorem fielded_r {t : TypeId} {fs : Array Field} {m : Nat} {cs : List Value} {x : DataW H × List MemPlace} (ht : P.underlying t = some (.struct fs)) (h : DataW.trod enc P w base spare held m t cs = some x) (hsm : Small P t x.1) :
    cs.length = P.cellsOf t ∧ FieldedR P w base spare held enc fs cs := by
  obtain ⟨xs, n, _, rfl, hcl, hlen, hg⟩ := DataW.trod_struct ht h
  refine ⟨hcl, n, fun i f hf => ?_⟩
  obtain ⟨y, hy⟩ := field1 hlen hg i f hf
  refine ⟨y, hy, fun k hk => hsm k ?_⟩
  simp only [DataW.weights, ht]
  have hi : xs[i]? = some y := by rw [← hg i f hf]; exact hy
  exact DataW.weights_mem_each (j := i) (t := f.type) (d := y.1) (by rw [List.getElem?_map, Array.getElem?_toList, hf]; rfl) (by rw [List.getElem?_map, hi]; rfl) k hk
theorem FieldedR.all {fs : Array Field} {cs : List Value} (h : FieldedR P w base spare held enc fs cs) : Fielded P w base spare held enc fs cs := by
  obtain ⟨m, hg⟩ := h
  exact ⟨m, fun i f hf => by obtain ⟨y, hy, _⟩ := hg i f hf; exact ⟨y, hy⟩⟩
theorem field_sub_r {fs : Array Field} {cs : List Value} (h : FieldedR P w base spare held enc fs cs) (i o T k : Nat) {f : Field} (hf : fs[i]? = some f) (hT : f.type = T) (ho : f.offset = o) (hc : P.cellsOf T = k) :
    ∃ m y, DataW.trod enc P w base spare held m T ((cs.drop o).take k) = some y ∧ Small P T y.1 := by
  obtain ⟨m, hg⟩ := h
  obtain ⟨y, hy, hs⟩ := hg i f hf
  subst hT ho hc
  exact ⟨m, y, hy, hs⟩
theorem field_string_r {fs : Array Field} {cs : List Value} (h : FieldedR P w base spare held enc fs cs) (i o T : Nat) {f : Field} (hf : fs[i]? = some f) (hT : f.type = T) (ho : f.offset = o) (hu : P.underlying T = some .string) (hc : P.cellsOf T = 1) :
    ∃ s : ByteArray, cs[o]? = some (.string s) ∧ s.size ≤ 140737488351232 := by
  obtain ⟨m, y, hy, hs⟩ := field_sub_r h i o T 1 hf hT ho hc
  obtain ⟨n, e, rfl, wn⟩ := DataW.trod_string hu hy
  refine ⟨n, take1 e, ?_⟩
  have := small_string hs
  simpa using this
end
end Go.Proofs.YtkejlnjnoiidnaaGreatDoor
end
