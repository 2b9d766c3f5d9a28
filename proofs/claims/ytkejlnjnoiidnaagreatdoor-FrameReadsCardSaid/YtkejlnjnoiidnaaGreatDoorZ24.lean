/- Body of the reference says what bwrite says.

Frame of the reference says what frameOf says. Printed by gen_rframe.py out of rframe.src. -/
import Derived.Test.YtkejlnjnoiidnaaGreatDoorZ11
import Derived.Test.YtkejlnjnoiidnaaGreatDoorZ20
import Derived.Test.YtkejlnjnoiidnaaGreatDoorZ22
import Derived.Test.YtkejlnjnoiidnaaGreatDoorZ23
import Derived.Test.YtkejlnjnoiidnaaGreatDoorZ18
import Derived.Test.YtkejlnjnoiidnaaGreatDoorZ14
section
namespace Go.Proofs.YtkejlnjnoiidnaaGreatDoor
set_option linter.unusedSimpArgs false
open Go.RowKit As
def rbodyV (bw : Nat) (OUT S5 SG SP SA TL : ByteArray) (y0 y2 tm : Int) (G PL AT ab ao k cap5 i g : Nat) : Nat → Value
 | 0 => .string OUT
 | 1 => .pointer (some ⟨bw, 2, none⟩)
 | 2 => .int .i64 y2
 | 3 => .int .u8 y2
 | 4 => .slice (some ⟨g, 0, none⟩) 1 1
 | 5 => .string S5
 | 6 => .pointer (some ⟨bw, 0, none⟩)
 | 7 => .pointer (some ⟨bw, 0, none⟩)
 | 8 => .int .i64 y0
 | 9 => .int .i64 tm
 | 10 => .int .i64 (G : Int)
 | 11 => .int .u64 (G : Int)
 | 12 => .string SG
 | 13 => .string (S5 ++ SG)
 | 14 => .int .i64 (PL : Int)
 | 15 => .int .u64 (PL : Int)
 | 16 => .string SP
 | 17 => .string (S5 ++ SG ++ SP)
 | 18 => .slice (some ⟨ab, ao, none⟩) k cap5
 | 19 => .int .i64 (i : Int)
 | 20 => .pointer (some ⟨ab, ao + i, none⟩)
 | 21 => .int .i64 (AT : Int)
 | 22 => .int .u64 (AT : Int)
 | 23 => .string SA
 | 24 => .string (S5 ++ SG ++ SP ++ SA)
 | 25 => .string TL
 | 26 => .string (S5 ++ SG ++ SP ++ SA ++ TL)
 | 27 => .string (OUT ++ (S5 ++ SG ++ SP ++ SA ++ TL))
 | 28 => .string (OUT ++ (S5 ++ SG ++ SP ++ SA ++ TL))
 | _ => undef
set_option maxHeartbeats 8000000 in
set_option maxRecDepth 100000 in
theorem rbody_any (w : World) (x : BatArg) (hb : Bat w x) (hf : ∀ y ∈ x.f, entFits y) (hh : ∀ y ∈ x.h, entFits y) :
  Calls Tryz.prog 42 #[x.v] w fun e w' => e = .returned (.tuple #[.string (bwrite x.f x.h x.l).1, faultV (bwrite x.f x.h x.l).2]) ∧ Below w.heap.size w w' := by
 obtain ⟨i0, hi, hz0, hz1, hz2⟩ := info_parts Keys.strInfo
 have hmf : ∀ (fn : Fn) (first cap : Array Value) (w : World), (Instr.makeFunc fn first cap).run Tryz.prog w = .ok (.func fn first cap) w := fun _ _ _ _ => rfl
 have hbx := BxAt.new w x
 have b0 := below1 w (.cells #[.slice x.A x.n x.c, .slice x.A' x.n' x.c', .slice x.A'' x.n'' x.c''] 25)
 obtain ⟨A, n, c, A', n', c', A'', n'', c'', f, h, l⟩ := x
 obtain ⟨sf, sh, sl, nf, nh, nl⟩ := hb
 simp only at hbx b0 hf hh sf sh sl nf nh nl ⊢
 have ef : Ents w w.heap.size A n f := ⟨sf, hf⟩
 have eh : Ents w w.heap.size A' n' h := ⟨sh, hh⟩
 have hT0 := Two.new (w.alloc (.cells #[.slice A n c, .slice A' n' c', .slice A'' n'' c''] 25)) 0 0 29
 have bT := below1 (w.alloc (.cells #[.slice A n c, .slice A' n' c', .slice A'' n'' c''] 25)) (.cells #[.int .i64 0, .int .i64 0] 29)
 rw [World.size_alloc] at hT0
 replace hbx := hbx.below bT
 replace b0 := b0.trans (bT.mono b0.size)
 have hB0 : Bat ((w.alloc (.cells #[.slice A n c, .slice A' n' c', .slice A'' n'' c''] 25)).alloc (.cells #[.int .i64 0, .int .i64 0] 29)) ⟨A, n, c, A', n', c', A'', n'', c'', f, h, l⟩ := ⟨(ef.grow b0).1, (eh.grow b0).1, sl.grow b0, nf, nh, nl⟩
 unfold BatArg.v
 simp only
 go_enter Tryz.func42, Tryz.ntmps42
 obtain ⟨q0, q1, q2⟩ := hbx
 simp only at q0 q1 q2
 go_wp2_with fail
 refine (rbright_any _ ⟨A, n, c, A', n', c', A'', n'', c'', f, h, l⟩ hB0 hf hh).mono ?_
 rintro r w1 ⟨rfl, hb1⟩
 unfold faultV
 simp only
 go_wp2_with fail
 have hk1 := below1 w1 (.cells #[.int .i64 (bright f h l).1, .int .i64 (bright f h l).2] 29)
 have T1 := Two.new w1 (bright f h l).1 (bright f h l).2 29
 refine (is_any (bright f h l) _).mono ?_
 rintro r w2 ⟨rfl, hb2⟩
 obtain ⟨g0, g1, _, _⟩ := T1.below hb2
 have hb11 := hb1.trans (hk1.mono hb1.size)
 have hb12 := hb11.trans (hb2.mono hb11.size)
 have b2 := b0.trans (hb12.mono b0.size)
 replace q0 := (hb12.cell (cell_lt q0)).trans q0
 replace q1 := (hb12.cell (cell_lt q1)).trans q1
 replace q2 := (hb12.cell (cell_lt q2)).trans q2
 have hT2 := hT0.below hb12
 by_cases hbad : (bright f h l).1 = 0
 ·have e1 : ((bright f h l).1 == 0) = true := by simpa using hbad
  rw [e1]
  clear e1 g0 g1 hk1 T1 hb1 hb2 hb11 hb12 hT0 bT hB0
  obtain ⟨hbr, hvf, hvh, h60, _⟩ := bright_ok hbad
  have hll := slk_len wrCells 6 (by omega) (fun _ => rfl) sl
  have h60n : n'' ≤ 60 := by rw [← hll]; exact h60
  have BA := Lib.hid (fun (k : Nat) (w : Wr) (hx : l[k]? = some w) => body_at hbad hx)
  have HB := Lib.hid hbad
  have VF := Lib.hid (vwrite_good hvf)
  have VH := Lib.hid (vwrite_good hvh)
  have sl3 := sl.grow b2
  have eh3 := eh.grow b2
  have ef3 := ef.grow b2
  clear hbad hbr hvf hvh sf sh hf hh b0 ef eh sl
  go_wp2
  go_loopw [5, 7, 33] (fun nv _ kv wr => ∃ k : Nat, k ≤ n'' ∧ kv = .int .i64 k ∧ wr.ownsRow w2.heap.size 9 1 nv (keysOf (l.take k)).length ((keysOf (l.take k)).map Value.string) ∧ Below w2.heap.size w2 wr) (fun _ _ kv _ => n'' - (intOf kv).toNat)
  case atStart => exact ⟨0, Nat.zero_le _, rfl, World.ownsRow_nil _ _ _ _, Below.refl _ _⟩
  case round =>
   obtain ⟨k, hk, rfl, hT, hbel⟩ := hrel
   have hB := hbel.size
   by_cases hlt : k < n''
   ·obtain ⟨b, o, y, rfl, hb, hx, hc⟩ := wr_at sl3 hlt
    obtain ⟨y0, y1, y2, y3, y4, y5⟩ := y
    have c0 := (hbel.cell (p := ⟨b, _, none⟩) hb).trans (hc 0 _ rfl)
    have c1 := (hbel.cell (p := ⟨b, _, none⟩) hb).trans (hc 1 _ rfl)
    have c2 := (hbel.cell (p := ⟨b, _, none⟩) hb).trans (hc 2 _ rfl)
    have c3 := (hbel.cell (p := ⟨b, _, none⟩) hb).trans (hc 3 _ rfl)
    have c4 := (hbel.cell (p := ⟨b, _, none⟩) hb).trans (hc 4 _ rfl)
    have c5 := (hbel.cell (p := ⟨b, _, none⟩) hb).trans (hc 5 _ rfl)
    simp only [Nat.add_zero] at c0
    have hnk := Lib.hid (keysOf_take hx)
    have hkl : (keysOf (l.take k)).length = k := by unfold keysOf; rw [List.length_map, List.length_take]; exact Nat.min_eq_left (Nat.le_trans hk (by rw [hll]; exact Nat.le_refl _))
    have hkl2 : (keysOf (l.take k)).length + 1 ≤ 100 := by rw [hkl]; exact Nat.le_trans (Nat.succ_le_succ (Nat.le_trans hk h60n)) (by decide)
    obtain ⟨K, hK⟩ : ∃ K, K = keysOf (l.take k) := ⟨_, rfl⟩
    rw [← hK] at hT hkl hkl2 hnk
    clear hc hx hK hkl
    have hTA := hT.alloc (.cells #[.int .i64 y0, .int .i64 y1, .int .i64 y2, .string y3, .string y4, .int .i64 y5] 53)
    have hbA := hbel.alloc hB (.cells #[.int .i64 y0, .int .i64 y1, .int .i64 y2, .string y3, .string y4, .int .i64 y5] 53)
    go_wp2_with (first
     | (at_builtin; refine wpList_append_own _ rfl (.tmp 37) (.tmp 40) 116 rfl w2.heap.size 9 i0 (.string ⟨#[]⟩) 1 16 Tryz.underlying116 hi hz0 hz1 hz2 rfl (by decide) u5 K.length (K.map Value.string) rfl (hTA.alloc _) ⟨wr.heap.size + 1, 0, none⟩ 1 1 [.string y3] rfl (by simp) (by have h := cells_new1 (wr.alloc (.cells #[.int .i64 y0, .int .i64 y1, .int .i64 y2, .string y3, .string y4, .int .i64 y5] 53)) (.string y3) 9; simpa using h) (by intro u hu; simp at hu; subst hu; rfl) (Nat.le_trans hkl2 (by decide)) (Nat.le_trans (Nat.mul_le_mul_right 16 hkl2) (by decide)) (Nat.le_trans hbA.size (by simp)) ?_; intro v9 wE hT3 hg2 _; have hbE := grown_own (hbA.alloc hbA.size _) hg2 (Nat.le_trans hbA.size (by simp)) (hTA.alloc _); have hT4 := strsnoc rfl hT3))
    go_roundw
    case rel => exact ⟨k + 1, hlt, by go_num, by rw [hnk.out]; exact hT4, hbE⟩
    case measure => exact meas_next hlt
   ·obtain rfl : k = n'' := Nat.le_antisymm hk (Nat.not_lt.1 hlt)
    have hTl : l.take k = l := List.take_of_length_le (by rw [hll]; exact Nat.le_refl _)
    rw [hTl] at hT
    have hKl : (keysOf l).length = k := by unfold keysOf; rw [List.length_map]; exact hll
    rw [hKl] at hT
    obtain ⟨A9, c9, rfl⟩ := own_form hT
    have hS9 := Strs.of_own hT
    have hwr : ∀ x ∈ l, wright x = 0 := fun x hx => by
     obtain ⟨j, hj, e⟩ := List.mem_iff_getElem.1 hx
     exact (BA.out j x (by rw [List.getElem?_eq_getElem hj, e])).1
    have hK9 : k ≤ 1000 := Nat.le_trans h60n (by decide)
    have hks := Lib.hid (keys_small hwr)
    clear hwr
    obtain ⟨jd1, jd2⟩ := lt_no (Nat.lt_irrefl k)
    have b3 := b2.trans (hbel.mono b2.size)
    have hT3 := hT2.below hbel
    replace q0 := (hbel.cell (cell_lt q0)).trans q0
    replace q1 := (hbel.cell (cell_lt q1)).trans q1
    replace q2 := (hbel.cell (cell_lt q2)).trans q2
    go_wp2_with fail
    refine (Keys.rtable_any k c9 A9 (keysOf l) _ hS9 hK9).mono ?_
    rintro e w4 ⟨v4, v5, rfl, ho4, ho5, hb4⟩
    have b4 := b3.trans (hb4.mono b3.size)
    have hT4 := hT3.below hb4
    replace q0 := (hb4.cell (cell_lt q0)).trans q0
    replace q1 := (hb4.cell (cell_lt q1)).trans q1
    replace q2 := (hb4.cell (cell_lt q2)).trans q2
    have sl4 := (sl3.grow hbel).grow hb4
    have eh4 := (eh3.grow hbel).grow hb4
    have ef4 := (ef3.grow hbel).grow hb4
    have htl := Keys.tab_len (keysOf l)
    obtain ⟨T, hTT⟩ : ∃ T, T = (Keys.tab (keysOf l)).1 := ⟨_, rfl⟩
    obtain ⟨I, hII⟩ : ∃ I, I = (Keys.tab (keysOf l)).2 := ⟨_, rfl⟩
    have hBB := Lib.hid (bbytes_is (f := f) (h := h) hTT hII)
    rw [← hTT] at ho4 htl hks
    rw [← hII] at ho5 htl
    obtain ⟨t1, t2, _, _⟩ := htl
    rw [hKl] at t1 t2
    have HI := Lib.hid hII
    clear hTT hII hT hS9 hb4 hbel sl3 eh3 ef3 hTl jd1 jd2 b3 hKl hT2 hT3
    obtain ⟨A4, cap4, rfl⟩ := own_form ho4
    obtain ⟨A5, cap5, rfl⟩ := own_form ho5
    have s4 := Strs.of_own ho4
    have s5 := Ints.of_own ho5
    clear ho4 ho5
    go_wp2_with fail
    refine (rvwrite_any _ n c A f ef4 nf).mono ?_
    rintro e w5 ⟨rfl, hb5⟩
    rw [VF.out]
    unfold faultV
    simp only
    have bB := below1 w5 (.cells #[.int .i64 0, .int .i64 (-1)] 29)
    have hb5' := hb5.trans (bB.mono hb5.size)
    replace q1 := (hb5'.cell (cell_lt q1)).trans q1
    replace q2 := (hb5'.cell (cell_lt q2)).trans q2
    have b5 := b4.trans (hb5'.mono b4.size)
    have hT5 := hT4.below hb5'
    have sl5 := sl4.grow hb5'
    have eh5 := eh4.grow hb5'
    replace s4 := Sl.grow s4 hb5'
    replace s5 := Sl.grow s5 hb5'
    clear q0 hb5 hb5' bB b4 hT4 sl4 eh4 ef4
    go_wp2_with fail
    refine (rvwrite_any _ n' c' A' h eh5 nh).mono ?_
    rintro e w6 ⟨rfl, hb6⟩
    rw [VH.out]
    unfold faultV
    simp only
    have bB := below1 w6 (.cells #[.int .i64 0, .int .i64 (-1)] 29)
    have hb6' := hb6.trans (bB.mono hb6.size)
    replace q1 := (hb6'.cell (cell_lt q1)).trans q1
    replace q2 := (hb6'.cell (cell_lt q2)).trans q2
    have b6 := b5.trans (hb6'.mono b5.size)
    have hT6 := hT5.below hb6'
    have sl6 := sl5.grow hb6'
    have eh6 := eh5.grow hb6'
    replace s4 := Sl.grow s4 hb6'
    replace s5 := Sl.grow s5 hb6'
    clear hb6 hb6' bB b5 hT5 sl5 eh5
    have hT60 : T.length ≤ 60 := Nat.le_trans t1 h60n
    have U4 := u64_in (G := T.length) (Nat.le_trans hT60 (by decide))
    go_wp2_with fail
    refine (rvary_any T.length _ (Nat.lt_of_le_of_lt hT60 (by decide))).mono ?_
    rintro y w7 ⟨rfl, hb7⟩
    rw [show (⟨(vput T.length).toArray⟩ : ByteArray) = strOf (vput T.length) from rfl]
    have lf := vbytes_len (show (vright f).1 = 0 from (bright_ok HB.out).2.1)
    have lh := vbytes_len (show (vright h).1 = 0 from (bright_ok HB.out).2.2.1)
    have l3 := vput_len10 (n := T.length) (Nat.lt_of_le_of_lt hT60 (by decide))
    have hO1 : (vbytes h ++ vput T.length).length ≤ 660 := by rw [List.length_append]; exact Nat.add_le_add lh l3
    have f1 := cat_big (A := vbytes h) (B := vput T.length) (Nat.le_trans lh (by decide)) (Nat.le_trans l3 (by decide))
    have f2 := strOf_app (vbytes h) (vput T.length)
    have f3 := cat_big (A := vbytes f) (B := vbytes h ++ vput T.length) (Nat.le_trans lf (by decide)) (Nat.le_trans hO1 (by decide))
    have f4 : strOf (vbytes f) ++ strOf (vbytes h ++ vput T.length) = strOf (vbytes f ++ vbytes h ++ vput T.length) := by rw [strOf_app, List.append_assoc]
    obtain ⟨O, hO⟩ : ∃ O, O = vbytes f ++ vbytes h ++ vput T.length := ⟨_, rfl⟩
    have hOl : O.length ≤ 1310 := by rw [hO, List.append_assoc, List.length_append]; exact Nat.add_le_add lf hO1
    rw [← hO] at f4 hBB
    have b7 := b6.trans (hb7.mono b6.size)
    replace q1 := (hb7.cell (cell_lt q1)).trans q1
    replace q2 := (hb7.cell (cell_lt q2)).trans q2
    have hT7 := hT6.below hb7
    have sl7 := sl6.grow hb7
    have eh7 := eh6.grow hb7
    replace s4 := Sl.grow s4 hb7
    replace s5 := Sl.grow s5 hb7
    clear hb7 hT6 sl6 eh6 b6 hO1 l3 U4 lf lh hO
    go_wp2_with fail
    try rw [f4]
    clear f1 f2 f3 f4
    go_loopw [10, 15, 16, 17, 70] (fun ov _ _ _ jv wx => ∃ j : Nat, j ≤ T.length ∧ jv = .int .i64 j ∧ ov = .string (strOf (O ++ kbytes (T.take j))) ∧ Below w7.heap.size w7 wx) (fun _ _ _ _ jv _ => T.length - (intOf jv).toNat)
    case atStart => exact ⟨0, Nat.zero_le _, rfl, by simp [kbytes], Below.refl _ _⟩
    case round =>
     obtain ⟨j, hj, rfl, rfl, hbx⟩ := hrel
     have hBx := hbx.size
     by_cases hjm : j < T.length
     ·obtain ⟨tb, tq, x, rfl, htb, hx, hc⟩ := sl1_at Value.string s4 rfl hjm
      have c0 := (hbx.cell (p := ⟨tb, tq + j, none⟩) htb).trans hc
      have hx40 := hks.out x (List.mem_of_getElem? hx)
      have hkt := Lib.hid (kbytes_take hx)
      obtain ⟨f1, f2, f3, f4⟩ := key_facts (O := O) (T := T) (j := j) hks.out hT60 hOl hx40
      have jn : (0 : Int) ≤ (j : Int) ∧ (j : Int) < (T.length : Int) := ⟨Int.natCast_nonneg j, Int.ofNat_lt.2 hjm⟩
      obtain ⟨jw1, jw2⟩ := j_facts' (j := j) (Nat.le_trans hj hT60)
      obtain ⟨jd1, jd2⟩ := lt_dec hjm
      have F1 := Lib.hid f1
      clear hx hc f1
      go_wp2_with fail
      refine (rspan_any x _ f4).mono ?_
      rintro e w8 ⟨rfl, hb8⟩
      rw [F1.out]
      have hbx8 := hbx.trans (hb8.mono hBx)
      go_wp2_with fail
      go_roundw
      case rel => exact ⟨j + 1, hjm, by first | rfl | (congr 1), by first | (rw [hkt.out, ← List.append_assoc]; done) | (rw [hkt.out, ← List.append_assoc, f3]), hbx8⟩
      case measure => exact meas_next hjm
     ·obtain rfl : j = T.length := Nat.le_antisymm hj (Nat.not_lt.1 hjm)
      rw [List.take_length]
      replace q1 := (hbx.cell (cell_lt q1)).trans q1
      replace q2 := (hbx.cell (cell_lt q2)).trans q2
      have b8 := b7.trans (hbx.mono b7.size)
      have hT8 := hT7.below hbx
      have sl8 := sl7.grow hbx
      have eh8 := eh7.grow hbx
      have s8 := Sl.grow s5 hbx
      have U5 := u64_in (G := k) (Nat.le_trans h60n (by decide))
      obtain ⟨jd1, jd2⟩ := lt_no (Nat.lt_irrefl T.length)
      have lK := kbytes_len hks.out
      clear hbx sl7 eh7 s5 s4 b7 hT7
      go_wp2_with fail
      refine (rvary_any k _ (Nat.lt_of_le_of_lt h60n (by decide))).mono ?_
      rintro y w9 ⟨rfl, hb9⟩
      rw [show (⟨(vput k).toArray⟩ : ByteArray) = strOf (vput k) from rfl]
      obtain ⟨f5, f6, lO2⟩ := o2_facts hT60 hOl lK h60n
      obtain ⟨O2, hO2⟩ : ∃ O2, O2 = O ++ kbytes T ++ vput k := ⟨_, rfl⟩
      rw [← hO2] at f6 lO2
      have HO2 := Lib.hid hO2
      replace q1 := (hb9.cell (cell_lt q1)).trans q1
      replace q2 := (hb9.cell (cell_lt q2)).trans q2
      have b9 := b8.trans (hb9.mono b8.size)
      have hT9 := hT8.below hb9
      have sl9 := sl8.grow hb9
      have eh9 := eh8.grow hb9
      have s9 := Sl.grow s8 hb9
      have hpw := Lib.hid (rises_of (show (vright h).1 = 0 from (bright_ok HB.out).2.2.1)).2
      have n16 : n' ≤ 16 := by rw [← eh9.len]; exact vright_ok_len (bright_ok HB.out).2.2.1
      clear hb9 sl8 eh8 s8 b8 hT8 U5 jd1 jd2 lK hO2
      go_wp2_with fail
      try rw [f6]
      clear f5 f6
      go_loopw [10, 18, 19, 20, 21, 22, 23, 93] (fun ov tv _ _ _ _ _ iv wx => ∃ i : Nat, i ≤ k ∧ iv = .int .i64 i ∧ ov = .string (strOf (O2 ++ wsbytes h I (l.take i) 0 0)) ∧ tv = .int .i64 (prevT l i) ∧ Hid ((wsbytes h I (l.take i) 0 0).length ≤ 400 * i) ∧ Below w9.heap.size w9 wx) (fun _ _ _ _ _ _ _ iv _ => k - (intOf iv).toNat)
      case atStart => exact ⟨0, Nat.zero_le _, rfl, by simp [wsbytes], by simp [prevT, lastId], Lib.hid (by simp [wsbytes]), Below.refl _ _⟩
      case round =>
       obtain ⟨i, hi2, rfl, rfl, rfl, hwl, hbx⟩ := hrel
       have HWL := Lib.hid hwl.out
       have hBx := hbx.size
       by_cases hik : i < k
       ·obtain ⟨wb, wo, y, rfl, hwb, hx, hc⟩ := wr_at sl9 hik
        obtain ⟨y0, y1, y2, y3, y4, y5⟩ := y
        have c0 := (hbx.cell (p := ⟨wb, _, none⟩) hwb).trans (hc 0 _ rfl)
        have c1 := (hbx.cell (p := ⟨wb, _, none⟩) hwb).trans (hc 1 _ rfl)
        have c2 := (hbx.cell (p := ⟨wb, _, none⟩) hwb).trans (hc 2 _ rfl)
        have c3 := (hbx.cell (p := ⟨wb, _, none⟩) hwb).trans (hc 3 _ rfl)
        have c4 := (hbx.cell (p := ⟨wb, _, none⟩) hwb).trans (hc 4 _ rfl)
        have c5 := (hbx.cell (p := ⟨wb, _, none⟩) hwb).trans (hc 5 _ rfl)
        simp only [Nat.add_zero] at c0
        have HX := Lib.hid hx
        have hW := WrAt.new wr y0 y1 y2 y3 y4 y5
        have bA := below1 wr (wrO y0 y1 y2 y3 y4 y5)
        have hbA := hbx.trans (bA.mono hBx)
        obtain ⟨hwt, ⟨tt, hmem⟩, p0, p1⟩ := BA.out i _ HX.out
        simp only at hmem p1
        have q1A := (hbA.cell (cell_lt q1)).trans q1
        have HWT := Lib.hid hwt
        have hsr := search_any _ n' c' A' h y1 tt w.heap.size wr.heap.size (eh9.grow hbA) n16 q1A hW.c1 hmem hpw.out
        clear hc hx hwt
        go_wp2_with fail
        refine hsr.mono ?_
        rintro r wS ⟨rfl, qq, rfl⟩
        obtain ⟨PL, hPL⟩ : ∃ PL, PL = placeOf h y1 := ⟨_, rfl⟩
        rw [← hPL]
        have HPL := Lib.hid hPL
        clear hPL
        have hWS := hW.drewN qq
        have hbS := below_drewN hbA qq
        obtain ⟨k0, k1, k2, k3, k4, k5⟩ := hWS
        have hWS := hW.drewN qq
        clear hsr
        go_wp2_with fail
        refine (rtail_any (y0, y1, y2, y3, y4, y5) _).mono ?_
        rintro r wT ⟨rfl, hbt⟩
        have hbT := hbS.trans (hbt.mono hbS.size)
        clear k0 k1 k2 k3 k4 k5
        obtain ⟨k0, k1, k2, k3, k4, k5⟩ := hWS.below hbt
        obtain ⟨tm, htm⟩ : ∃ tm, tm = prevT l i := ⟨_, rfl⟩
        rw [← htm] at p0 p1 ⊢
        have HTM := Lib.hid htm
        clear htm
        obtain ⟨ab, ao, at_, rfl, hab, hxa, hca⟩ := sl1_at (Value.int .i64) s9 rfl (by rw [t2]; exact hik)
        obtain ⟨OUT, hOUT⟩ : ∃ OUT, OUT = strOf (O2 ++ wsbytes h I (l.take i) 0 0) := ⟨_, rfl⟩
        obtain ⟨S5, hS5⟩ : ∃ S, S = strOf [UInt8.ofNat y2.toNat] := ⟨_, rfl⟩
        obtain ⟨G, hG1⟩ := Int.eq_ofNat_of_zero_le (show 0 ≤ y0 - tm from Int.sub_nonneg_of_le p1)
        have hAI := tab_idx (keysOf l) at_ (by rw [← HI.out]; exact List.mem_of_getElem? hxa)
        have hA60 : at_ ≤ 60 := Int.le_trans hAI.2 (by rw [keys_len, hll]; exact Int.ofNat_le.2 h60n)
        obtain ⟨AT, hAT⟩ := Int.eq_ofNat_of_zero_le hAI.1
        subst hAT
        have hwt := HWT.out
        obtain ⟨⟨lG, lP, lA⟩, ⟨UG, UP, UA⟩, wG, U8, hy0, hy1⟩ := wr_facts hwt p0 hG1 HPL.out hmem (vright_ok_len (bright_ok HB.out).2.2.1) hA60
        have iN : (0 : Int) ≤ (i : Int) ∧ (i : Int) < (k : Int) := ⟨Int.natCast_nonneg i, Int.ofNat_lt.2 hik⟩
        obtain ⟨SG, hSG⟩ : ∃ S, S = (⟨(vput G).toArray⟩ : ByteArray) := ⟨_, rfl⟩
        obtain ⟨SP, hSP⟩ : ∃ S, S = (⟨(vput PL).toArray⟩ : ByteArray) := ⟨_, rfl⟩
        obtain ⟨SA, hSA⟩ : ∃ S, S = (⟨(vput AT).toArray⟩ : ByteArray) := ⟨_, rfl⟩
        obtain ⟨TL, hTL⟩ : ∃ T, T = (wtail (y0, y1, y2, y3, y4, y5)).1 := ⟨_, rfl⟩
        obtain ⟨z1, z2, z3, z4, z5⟩ := z_facts hwt lG lP lA hOUT hS5 hSG hSP hSA hTL lO2 (Nat.le_trans hwl.out (Nat.mul_le_mul_left 400 (Nat.le_trans hi2 h60n)))
        have ac := (hbT.cell (p := ⟨ab, ao + i, none⟩) hab).trans hca
        have HXA := Lib.hid hxa
        have HCA := Lib.hid hA60
        clear hca hwt hxa hA60 hAI hwl
        rw [← hOUT, ← hTL]
        have HOUT := Lib.hid hOUT
        have HS5 := Lib.hid hS5
        have HTL := Lib.hid hTL
        clear hOUT hTL
        go_wp2_with fail
        -- FLOWB
        refine Flow.wp_region_flow2' (by kernel_rfl) (by kernel_rfl) (by kernel_rfl) 146 rfl (by kernel_rfl) (rbodyV wr.heap.size OUT S5 SG SP SA TL y0 y2 tm G PL AT ab ao k cap5 i) (fun g L wz => BI wT y2 g (L 0) (L 4) (L 28) wz) 0 ⟨(Below.refl _ _).drew, fun h => (by cases h), fun h => (by cases h)⟩ ⟨?_, ?_, ?_, ?_, ?_, ?_, ?_, ?_, ?_, ?_, ?_, ?_, ?_, ?_, ?_, ?_, ?_, ?_, ?_, ?_, ?_, ?_, ?_, ?_, ?_, ?_, ?_, ?_, ?_, trivial⟩ ?_
        ·intro g L wz K ρ hc0 hf0 hF hO hNo hi hd hC hK
         have h33 : L 28 = false := hC.no33 hi
         have e10 : ρ (.tmp 10) = .string OUT := hNo 10 28 (by kernel_rfl) h33
         simp [go_sem, Flow.yl_value, Flow.yl_skip, Flow.yl_enter, hc0, hf0, e10]
         exact hK g wz ⟨hC.bel, hC.tmp, fun _ => rfl⟩ (fun _ _ => rfl)
        ·intro g L wz K ρ hc0 hf0 hF hO hNo hi hd hC hK
         have e20 : ρ (.tmp 20) = .pointer (some ⟨wr.heap.size, 0, none⟩) := hO 20 (by kernel_rfl)
         simp [go_sem, Flow.yl_value, Flow.yl_skip, Flow.yl_enter, hc0, hf0, e20]
         exact hK g wz hC (fun _ _ => rfl)
        ·intro g L wz K ρ hc0 hf0 hF hO hNo hi hd hC hK
         have d1 : L 1 = true := hd ⟨1, .data⟩ (by simp) rfl
         have e109 : ρ (.tmp 109) = .pointer (some ⟨wr.heap.size, 2, none⟩) := hF 109 1 (by kernel_rfl) d1
         have cc := (hC.bel.cell (cell_lt k2)).trans k2
         simp [go_sem, Flow.yl_value, Flow.yl_skip, Flow.yl_enter, hc0, hf0, e109, cc]
         exact hK g wz hC (fun _ _ => rfl)
        ·intro g L wz K ρ hc0 hf0 hF hO hNo hi hd hC hK
         have d2 : L 2 = true := hd ⟨2, .data⟩ (by simp) rfl
         have e110 : ρ (.tmp 110) = .int .i64 y2 := hF 110 2 (by kernel_rfl) d2
         simp [go_sem, Flow.yl_value, Flow.yl_skip, Flow.yl_enter, hc0, hf0, e110, U8]
         exact hK g wz hC (fun _ _ => rfl)
        ·intro g L wz K ρ hc0 hf0 hF hO hNo hi hd hC hK
         have d3 : L 3 = true := hd ⟨3, .data⟩ (by simp) rfl
         have e111 : ρ (.tmp 111) = .int .u8 y2 := hF 111 3 (by kernel_rfl) d3
         simp [go_sem, Flow.yl_value, Flow.yl_skip, Flow.yl_enter, hc0, hf0, e111]
         refine hK wz.heap.size _ ?_ ?_
         ·exact hC.build
         ·intro j hj; unfold rbodyV; split <;> first | rfl | (rw [hi] at hj; cases hj)
        ·intro g L wz K ρ hc0 hf0 hF hO hNo hi hd hC hK
         have d4 : L 4 = true := hd ⟨4, .data⟩ (by simp) rfl
         have e112 : ρ (.tmp 112) = .slice (some ⟨g, 0, none⟩) 1 1 := hF 112 4 (by kernel_rfl) d4
         have hst := hC.str (P := Tryz.prog) d4 HS5.out hy0 hy1 61 5 9 Tryz.underlying61 Tryz.underlying5 Tryz.underlying9
         simp [go_sem, Flow.yl_value, Flow.yl_skip, Flow.yl_enter, hc0, hf0, e112, hst]
         exact hK g wz hC (fun _ _ => rfl)
        ·intro g L wz K ρ hc0 hf0 hF hO hNo hi hd hC hK
         have e20 : ρ (.tmp 20) = .pointer (some ⟨wr.heap.size, 0, none⟩) := hO 20 (by kernel_rfl)
         simp [go_sem, Flow.yl_value, Flow.yl_skip, Flow.yl_enter, hc0, hf0, e20]
         exact hK g wz hC (fun _ _ => rfl)
        ·intro g L wz K ρ hc0 hf0 hF hO hNo hi hd hC hK
         have d6 : L 6 = true := hd ⟨6, .data⟩ (by simp) rfl
         have e114 : ρ (.tmp 114) = .pointer (some ⟨wr.heap.size, 0, none⟩) := hF 114 6 (by kernel_rfl) d6
         simp [go_sem, Flow.yl_value, Flow.yl_skip, Flow.yl_enter, hc0, hf0, e114]
         exact hK g wz hC (fun _ _ => rfl)
        ·intro g L wz K ρ hc0 hf0 hF hO hNo hi hd hC hK
         have d7 : L 7 = true := hd ⟨7, .data⟩ (by simp) rfl
         have e115 : ρ (.tmp 115) = .pointer (some ⟨wr.heap.size, 0, none⟩) := hF 115 7 (by kernel_rfl) d7
         have cc := (hC.bel.cell (cell_lt k0)).trans k0
         simp [go_sem, Flow.yl_value, Flow.yl_skip, Flow.yl_enter, hc0, hf0, e115, cc]
         exact hK g wz hC (fun _ _ => rfl)
        ·intro g L wz K ρ hc0 hf0 hF hO hNo hi hd hC hK
         have e18 : ρ (.tmp 18) = .int .i64 tm := hO 18 (by kernel_rfl)
         simp [go_sem, Flow.yl_value, Flow.yl_skip, Flow.yl_enter, hc0, hf0, e18]
         exact hK g wz hC (fun _ _ => rfl)
        ·intro g L wz K ρ hc0 hf0 hF hO hNo hi hd hC hK
         have d8 : L 8 = true := hd ⟨8, .data⟩ (by simp) rfl
         have d9 : L 9 = true := hd ⟨9, .data⟩ (by simp) rfl
         have e116 : ρ (.tmp 116) = .int .i64 y0 := hF 116 8 (by kernel_rfl) d8
         have e117 : ρ (.tmp 117) = .int .i64 tm := hF 117 9 (by kernel_rfl) d9
         simp [go_sem, Flow.yl_value, Flow.yl_skip, Flow.yl_enter, hc0, hf0, e116, e117, hG1, wG]
         exact hK g wz hC (fun _ _ => rfl)
        ·intro g L wz K ρ hc0 hf0 hF hO hNo hi hd hC hK
         have d10 : L 10 = true := hd ⟨10, .data⟩ (by simp) rfl
         have e118 : ρ (.tmp 118) = .int .i64 (G : Int) := hF 118 10 (by kernel_rfl) d10
         simp [go_sem, Flow.yl_value, Flow.yl_skip, Flow.yl_enter, hc0, hf0, e118, UG]
         exact hK g wz hC (fun _ _ => rfl)
        ·intro g L wz K ρ hc0 hf0 hF hO hNo hi hd hC hK
         have d11 : L 11 = true := hd ⟨11, .data⟩ (by simp) rfl
         have e119 : ρ (.tmp 119) = .int .u64 (G : Int) := hF 119 11 (by kernel_rfl) d11
         simp [go_sem, Flow.yl_value, Flow.yl_skip, Flow.yl_enter, hc0, hf0, e119]
         refine (rvary_any G wz lG).mono ?_
         rintro r wn ⟨rfl, hbn⟩
         rw [← hSG]
         exact ⟨_, rfl, hK g wn (hC.grow hbn) (fun _ _ => rfl)⟩
        ·intro g L wz K ρ hc0 hf0 hF hO hNo hi hd hC hK
         have d5 : L 5 = true := hd ⟨5, .data⟩ (by simp) rfl
         have d12 : L 12 = true := hd ⟨12, .data⟩ (by simp) rfl
         have e113 : ρ (.tmp 113) = .string S5 := hF 113 5 (by kernel_rfl) d5
         have e120 : ρ (.tmp 120) = .string SG := hF 120 12 (by kernel_rfl) d12
         simp [go_sem, Flow.yl_value, Flow.yl_skip, Flow.yl_enter, hc0, hf0, e113, e120, z1]
         exact hK g wz hC (fun _ _ => rfl)
        ·intro g L wz K ρ hc0 hf0 hF hO hNo hi hd hC hK
         have e21 : ρ (.tmp 21) = .int .i64 (PL : Int) := hO 21 (by kernel_rfl)
         simp [go_sem, Flow.yl_value, Flow.yl_skip, Flow.yl_enter, hc0, hf0, e21]
         exact hK g wz hC (fun _ _ => rfl)
        ·intro g L wz K ρ hc0 hf0 hF hO hNo hi hd hC hK
         have d14 : L 14 = true := hd ⟨14, .data⟩ (by simp) rfl
         have e122 : ρ (.tmp 122) = .int .i64 (PL : Int) := hF 122 14 (by kernel_rfl) d14
         simp [go_sem, Flow.yl_value, Flow.yl_skip, Flow.yl_enter, hc0, hf0, e122, UP]
         exact hK g wz hC (fun _ _ => rfl)
        ·intro g L wz K ρ hc0 hf0 hF hO hNo hi hd hC hK
         have d15 : L 15 = true := hd ⟨15, .data⟩ (by simp) rfl
         have e123 : ρ (.tmp 123) = .int .u64 (PL : Int) := hF 123 15 (by kernel_rfl) d15
         simp [go_sem, Flow.yl_value, Flow.yl_skip, Flow.yl_enter, hc0, hf0, e123]
         refine (rvary_any PL wz lP).mono ?_
         rintro r wn ⟨rfl, hbn⟩
         rw [← hSP]
         exact ⟨_, rfl, hK g wn (hC.grow hbn) (fun _ _ => rfl)⟩
        ·intro g L wz K ρ hc0 hf0 hF hO hNo hi hd hC hK
         have d13 : L 13 = true := hd ⟨13, .data⟩ (by simp) rfl
         have d16 : L 16 = true := hd ⟨16, .data⟩ (by simp) rfl
         have e121 : ρ (.tmp 121) = .string (S5 ++ SG) := hF 121 13 (by kernel_rfl) d13
         have e124 : ρ (.tmp 124) = .string SP := hF 124 16 (by kernel_rfl) d16
         simp [go_sem, Flow.yl_value, Flow.yl_skip, Flow.yl_enter, hc0, hf0, e121, e124, z2]
         exact hK g wz hC (fun _ _ => rfl)
        ·intro g L wz K ρ hc0 hf0 hF hO hNo hi hd hC hK
         have e9 : ρ (.tmp 9) = .slice (some ⟨ab, ao, none⟩) k cap5 := hO 9 (by kernel_rfl)
         simp [go_sem, Flow.yl_value, Flow.yl_skip, Flow.yl_enter, hc0, hf0, e9]
         exact hK g wz hC (fun _ _ => rfl)
        ·intro g L wz K ρ hc0 hf0 hF hO hNo hi hd hC hK
         have e19 : ρ (.tmp 19) = .int .i64 (i : Int) := hO 19 (by kernel_rfl)
         simp [go_sem, Flow.yl_value, Flow.yl_skip, Flow.yl_enter, hc0, hf0, e19]
         exact hK g wz hC (fun _ _ => rfl)
        ·intro g L wz K ρ hc0 hf0 hF hO hNo hi hd hC hK
         have d18 : L 18 = true := hd ⟨18, .data⟩ (by simp) rfl
         have d19 : L 19 = true := hd ⟨19, .data⟩ (by simp) rfl
         have e126 : ρ (.tmp 126) = .slice (some ⟨ab, ao, none⟩) k cap5 := hF 126 18 (by kernel_rfl) d18
         have e127 : ρ (.tmp 127) = .int .i64 (i : Int) := hF 127 19 (by kernel_rfl) d19
         simp [go_sem, Flow.yl_value, Flow.yl_skip, Flow.yl_enter, hc0, hf0, e126, e127, iN]
         exact hK g wz hC (fun _ _ => rfl)
        ·intro g L wz K ρ hc0 hf0 hF hO hNo hi hd hC hK
         have d20 : L 20 = true := hd ⟨20, .data⟩ (by simp) rfl
         have e128 : ρ (.tmp 128) = .pointer (some ⟨ab, ao + i, none⟩) := hF 128 20 (by kernel_rfl) d20
         have cc := (hC.bel.cell (cell_lt ac)).trans ac
         simp [go_sem, Flow.yl_value, Flow.yl_skip, Flow.yl_enter, hc0, hf0, e128, cc]
         exact hK g wz hC (fun _ _ => rfl)
        ·intro g L wz K ρ hc0 hf0 hF hO hNo hi hd hC hK
         have d21 : L 21 = true := hd ⟨21, .data⟩ (by simp) rfl
         have e129 : ρ (.tmp 129) = .int .i64 (AT : Int) := hF 129 21 (by kernel_rfl) d21
         simp [go_sem, Flow.yl_value, Flow.yl_skip, Flow.yl_enter, hc0, hf0, e129, UA]
         exact hK g wz hC (fun _ _ => rfl)
        ·intro g L wz K ρ hc0 hf0 hF hO hNo hi hd hC hK
         have d22 : L 22 = true := hd ⟨22, .data⟩ (by simp) rfl
         have e130 : ρ (.tmp 130) = .int .u64 (AT : Int) := hF 130 22 (by kernel_rfl) d22
         simp [go_sem, Flow.yl_value, Flow.yl_skip, Flow.yl_enter, hc0, hf0, e130]
         refine (rvary_any AT wz lA).mono ?_
         rintro r wn ⟨rfl, hbn⟩
         rw [← hSA]
         exact ⟨_, rfl, hK g wn (hC.grow hbn) (fun _ _ => rfl)⟩
        ·intro g L wz K ρ hc0 hf0 hF hO hNo hi hd hC hK
         have d17 : L 17 = true := hd ⟨17, .data⟩ (by simp) rfl
         have d23 : L 23 = true := hd ⟨23, .data⟩ (by simp) rfl
         have e125 : ρ (.tmp 125) = .string (S5 ++ SG ++ SP) := hF 125 17 (by kernel_rfl) d17
         have e131 : ρ (.tmp 131) = .string SA := hF 131 23 (by kernel_rfl) d23
         simp [go_sem, Flow.yl_value, Flow.yl_skip, Flow.yl_enter, hc0, hf0, e125, e131, z3]
         exact hK g wz hC (fun _ _ => rfl)
        ·intro g L wz K ρ hc0 hf0 hF hO hNo hi hd hC hK
         have e22 : ρ (.tmp 22) = .string TL := hO 22 (by kernel_rfl)
         simp [go_sem, Flow.yl_value, Flow.yl_skip, Flow.yl_enter, hc0, hf0, e22]
         exact hK g wz hC (fun _ _ => rfl)
        ·intro g L wz K ρ hc0 hf0 hF hO hNo hi hd hC hK
         have d24 : L 24 = true := hd ⟨24, .data⟩ (by simp) rfl
         have d25 : L 25 = true := hd ⟨25, .data⟩ (by simp) rfl
         have e132 : ρ (.tmp 132) = .string (S5 ++ SG ++ SP ++ SA) := hF 132 24 (by kernel_rfl) d24
         have e133 : ρ (.tmp 133) = .string TL := hF 133 25 (by kernel_rfl) d25
         simp [go_sem, Flow.yl_value, Flow.yl_skip, Flow.yl_enter, hc0, hf0, e132, e133, z4]
         exact hK g wz hC (fun _ _ => rfl)
        ·intro g L wz K ρ hc0 hf0 hF hO hNo hi hd hC hK
         have d0 : L 0 = true := hd ⟨0, .data⟩ (by simp) rfl
         have d26 : L 26 = true := hd ⟨26, .data⟩ (by simp) rfl
         have e108 : ρ (.tmp 108) = .string OUT := hF 108 0 (by kernel_rfl) d0
         have e134 : ρ (.tmp 134) = .string (S5 ++ SG ++ SP ++ SA ++ TL) := hF 134 26 (by kernel_rfl) d26
         simp [go_sem, Flow.yl_value, Flow.yl_skip, Flow.yl_enter, hc0, hf0, e108, e134, z5]
         exact hK g wz hC (fun _ _ => rfl)
        ·intro g L wz K ρ hc0 hf0 hF hO hNo hi hd hC hK
         have d27 : L 27 = true := hd ⟨27, .data⟩ (by simp) rfl
         have d0 : L 0 = true := hd ⟨0, .phase⟩ (by simp) rfl
         have e135 : ρ (.tmp 135) = .string (OUT ++ (S5 ++ SG ++ SP ++ SA ++ TL)) := hF 135 27 (by kernel_rfl) d27
         simp [go_sem, Flow.yl_value, Flow.yl_skip, Flow.yl_enter, hc0, hf0, e135]
         exact hK g wz ⟨hC.bel, hC.tmp, fun _ => d0⟩ (fun _ _ => rfl)
        ·intro g L wz hL hC
         have hbF := hC.bel
         simp only [Flow.putAll, rbodyV]
         have k0' := (hC.bel.cell (cell_lt k0)).trans k0
         go_wp2
         go_roundw
         case rel => exact ⟨i + 1, hik, by go_num, by rw [HOUT.out, HTL.out]; exact congrArg Value.string (fin_str HX.out HWT.out HTM.out hG1 HPL.out HXA.out), by rw [prevT_succ HX.out], Lib.hid (ws_len HX.out HWT.out hmem (vright_ok_len (bright_ok HB.out).2.2.1) HXA.out HCA.out (by rw [← HTM.out]; exact p0) HWL.out), hbT.trans (hbF.mono hbT.size)⟩
         case measure => exact meas_next hik
        -- ENDB
       ·obtain rfl : i = k := Nat.le_antisymm hi2 (Nat.not_lt.1 hik)
        have hTk : l.take i = l := List.take_of_length_le (by rw [hll]; exact Nat.le_refl _)
        have hE : O2 ++ wsbytes h I l 0 0 = bbytes f h l := by rw [hBB.out, HO2.out, hll]
        rw [hTk, hE]
        obtain ⟨jd1, jd2⟩ := lt_no (Nat.lt_irrefl i)
        have bF := b9.trans (hbx.mono b9.size)
        have hTF := hT9.below hbx
        have hs : (strOf (bbytes f h l)).size = (bbytes f h l).length := strOf_size _
        clear hTk hE
        obtain ⟨BY, hBY⟩ : ∃ B, B = strOf (bbytes f h l) := ⟨_, rfl⟩
        rw [← hBY] at hs ⊢
        have HBY := Lib.hid hBY
        clear hBY
        by_cases hbig : 20000 < (bbytes f h l).length
        ·have hr := Lib.hid (bwrite_big HB.out hbig)
         obtain ⟨d0, d1⟩ := big_yes (hs ▸ hbig)
         clear hs hbig
         go_wp2_with fail
         refine (bareF_any _ _).mono ?_
         rintro r wF ⟨rfl, hbF⟩
         have bG := bF.trans (hbF.mono bF.size)
         obtain ⟨u0, u1, u2, u3⟩ := hTF.below hbF
         have S := set2 (.int .i64 4) (.int .i64 (-1)) u0 u1
         go_wp2
         exact bodyPost_ret (v := .tuple #[.string ⟨#[]⟩, .agg #[.int .i64 4, .int .i64 (-1)]]) (by simp [results, Tryz.results42, go_sem, S.1, S.2]) rfl ⟨by rw [hr.out]; rfl, below_set2 _ _ bG (Nat.le_succ _)⟩
        ·have hr := Lib.hid (bwrite_good HB.out hbig)
         obtain ⟨d0, d1⟩ := big_no (hs ▸ hbig)
         clear hs hbig
         go_wp2_with fail
         refine (good_any _).mono ?_
         rintro r wF ⟨rfl, hbF⟩
         have bG := bF.trans (hbF.mono bF.size)
         obtain ⟨u0, u1, u2, u3⟩ := hTF.below hbF
         have S := set2 (.int .i64 0) (.int .i64 (-1)) u0 u1
         go_wp2
         exact bodyPost_ret (v := .tuple #[.string BY, .agg #[.int .i64 0, .int .i64 (-1)]]) (by simp [results, Tryz.results42, go_sem, S.1, S.2]) rfl ⟨by rw [hr.out, HBY.out]; rfl, below_set2 _ _ bG (Nat.le_succ _)⟩
 ·have hr := Lib.hid (bwrite_bad hbad)
  have e1 : ((bright f h l).1 == 0) = false := by simpa using hbad
  obtain ⟨t0, t1, t2, t3⟩ := hT2
  rw [e1]
  clear e1 hbad
  go_wp2_with fail
  go_region
  have S := set2 (.int .i64 (bright f h l).1) (.int .i64 (bright f h l).2) t0 t1
  go_wp2
  exact bodyPost_ret (v := .tuple #[.string ⟨#[]⟩, .agg #[.int .i64 (bright f h l).1, .int .i64 (bright f h l).2]]) (by simp [results, Tryz.results42, go_sem, S.1, S.2]) rfl ⟨by rw [hr.out]; rfl, (below_set2 _ _ b2 (by omega)).drew⟩
end Go.Proofs.YtkejlnjnoiidnaaGreatDoor
end

section
namespace Go.Proofs.YtkejlnjnoiidnaaGreatDoor
set_option linter.unusedSimpArgs false
set_option linter.unusedVariables false
open Go.RowKit As Tokens
theorem pt1 : ((⟨#[80, 84, 3]⟩ : ByteArray) ++ ⟨#[1]⟩) = ⟨#[80, 84, 3, 1]⟩ := rfl
theorem pt0 : ((⟨#[80, 84, 3]⟩ : ByteArray) ++ ⟨#[0]⟩) = ⟨#[80, 84, 3, 0]⟩ := rfl
theorem Two.set2 {w : World} {F : Nat} {a b : Int} (h : Two w F a b) (x y : Int) : Two ((w.setCell ⟨F, 0, none⟩ (.int .i64 x)).setCell ⟨F, 1, none⟩ (.int .i64 y)) F x y :=
 ⟨by rw [World.cell?_setCell_other _ _ _ _ (by simp)]; exact World.cell?_setCell_same _ _ _ h.c0, World.cell?_setCell_same _ _ _ (by rw [World.cell?_setCell_other _ _ _ _ (by simp)]; exact h.c1), by simpa using h.f0, by simpa using h.f1⟩
theorem Two.oth2 {w : World} {F G : Nat} {a b : Int} (h : Two w G a b) (hn : F ≠ G) (x y : Int) : Two ((w.setCell ⟨F, 0, none⟩ (.int .i64 x)).setCell ⟨F, 1, none⟩ (.int .i64 y)) G a b :=
 ⟨by rw [World.cell?_setCell_other _ _ _ _ (by intro h; injection h with h1 h2; first | exact hn h1 | exact hn h1.symm), World.cell?_setCell_other _ _ _ _ (by intro h; injection h with h1 h2; first | exact hn h1 | exact hn h1.symm)]; exact h.c0, by rw [World.cell?_setCell_other _ _ _ _ (by intro h; injection h with h1 h2; first | exact hn h1 | exact hn h1.symm), World.cell?_setCell_other _ _ _ _ (by intro h; injection h with h1 h2; first | exact hn h1 | exact hn h1.symm)]; exact h.c1, by simpa using h.f0, by simpa using h.f1⟩
def frV (h : ByteArray) (n : Nat) (q : ByteArray) (p : Int) (g : Unit) : Nat → Value
 | 0 => .string ⟨(vput n).toArray⟩
 | 1 => .string (h ++ ⟨(vput n).toArray⟩)
 | 2 => .string q
 | 3 => .string ((h ++ ⟨(vput n).toArray⟩) ++ q)
 | 4 => .string (sealOf ((h ++ ⟨(vput n).toArray⟩) ++ q))
 | 5 => .agg #[.int .i64 0, .int .i64 p]
 | 6 => .string (sealOf ((h ++ ⟨(vput n).toArray⟩) ++ q))
 | _ => undef
set_option maxHeartbeats 4000000 in
set_option maxRecDepth 100000 in
theorem rframe_any (w : World) (x : BatArg) (hb : Bat w x) (hf : ∀ y ∈ x.f, entFits y) (hh : ∀ y ∈ x.h, entFits y) :
  Calls Tryz.prog 14 #[x.v] w fun e w' => e = .returned (.tuple #[.string (frameOf (bwrite x.f x.h x.l)).1, faultV (frameOf (bwrite x.f x.h x.l)).2]) ∧ Below w.heap.size w w' := by
 have hbx := BxAt.new w x
 have b0 := below1 w (.cells #[.slice x.A x.n x.c, .slice x.A' x.n' x.c', .slice x.A'' x.n'' x.c''] 25)
 have hT0 := Two.new (w.alloc (.cells #[.slice x.A x.n x.c, .slice x.A' x.n' x.c', .slice x.A'' x.n'' x.c''] 25)) 0 0 29
 simp only [World.size_alloc] at hT0
 have bF := below1 (w.alloc (.cells #[.slice x.A x.n x.c, .slice x.A' x.n' x.c', .slice x.A'' x.n'' x.c''] 25)) (.cells #[.int .i64 0, .int .i64 0] 29)
 have hb0 := (hb.grow b0).grow bF
 have b1 := b0.trans (bF.mono b0.size)
 obtain ⟨⟨t, e, p⟩, hbw⟩ : ∃ z, bwrite x.f x.h x.l = z := ⟨_, rfl⟩
 obtain ⟨ht, hp⟩ := bwrite_size hbw
 have HBW := Lib.hid hbw
 rw [hbw]
 clear hbw
 have hbx2 := hbx.below bF
 have q0 := hbx2.c0
 have q1 := hbx2.c1
 have q2 := hbx2.c2
 unfold BatArg.v
 go_enter Tryz.func14, Tryz.ntmps14
 go_wp2_with fail
 refine (rbody_any _ x hb0 hf hh).mono ?_
 rintro r w1 ⟨rfl, hb1⟩
 rw [HBW.out]
 unfold faultV
 simp only
 have b2 := b1.trans (hb1.mono b1.size)
 have bG := below1 w1 (.cells #[.int .i64 e, .int .i64 p] 29)
 have hG := Two.new w1 e p 29
 have F1 := (hT0.below hb1).below bG
 have b3 := b2.trans (bG.mono b2.size)
 have nFG : w.heap.size + 1 ≠ w1.heap.size := by have := cell_lt (hT0.below hb1).c0; simp only at this; omega
 have lF : w.heap.size ≤ w.heap.size + 1 := by omega
 generalize w.heap.size + 1 = F at *
 go_wp2_with fail
 refine (is_any (e, p) _).mono ?_
 rintro r w2 ⟨rfl, hb2⟩
 have F2 := F1.below hb2
 have G2 := hG.below hb2
 have b4 := b3.trans (hb2.mono b3.size)
 generalize w1.heap.size = G at *
 clear hT0 hbx hbx2 q0 q1 q2 bF b0 hb0 b1 hb1 b2 bG hG F1 b3 hb2
 by_cases he : e = 0
 ·subst he
  have HSQ := Lib.hid (squeeze_right ht)
  have hr := Lib.hid (frame_good (t := t) (p := p))
  have e1 : (((0, p) : Int × Int).1 == 0) = true := rfl
  rw [e1]
  go_wp2_with fail
  refine (rsqueeze_any t _ (by omega)).mono ?_
  rintro r w3 ⟨rfl, hb3⟩
  rw [HSQ.out]
  unfold faultV
  simp only
  have b5 := b4.trans (hb3.mono b4.size)
  have bH := below1 w3 (.cells #[.int .i64 0, .int .i64 (-1)] 29)
  have b6 := b5.trans (bH.mono b5.size)
  have F3 := (F2.below hb3).below bH
  have G3 := (G2.below hb3).below bH
  have wS : IntKind.u64.wrap (t.size : Int) = (t.size : Int) := by rw [IntKind.wrap_u64]; omega
  have hvs := fr_size ht
  generalize hq : (squeezeOf t).1 = q at *
  have HQ := Lib.hid hq
  clear hq b4 b5 hb3 bH F2 G2
  go_wp2_with fail
  refine (rvary_any t.size _ (by omega)).mono ?_
  rintro r w4 ⟨rfl, hb4⟩
  have b7 := b6.trans (hb4.mono b6.size)
  have F4 := F3.below hb4
  have G4 := G3.below hb4
  clear b6 hb4 F3 G3
  by_cases hlt : q.size < t.size
  ·have d1 : decide ((q.size : Int) < (t.size : Int)) = true := by simp only [decide_eq_true_eq]; omega
   have d1' : decide (q.size < t.size) = true := by simpa using hlt
   have HT := Lib.hid (frText_less (by rw [HQ.out]; exact hlt))
   have hv10 : (vput t.size).length ≤ 10 := vput_len10 (by omega)
   have k1 : ¬ 9223372036854775807 < 4 + (vput t.size).length := by omega
   have k2 : ¬ 9223372036854775807 < 4 + (vput t.size).length + q.size := by omega
   have k3 : (((⟨#[80, 84, 3, 1]⟩ : ByteArray) ++ ⟨(vput t.size).toArray⟩) ++ q).size ≤ 1000000 := by rw [ByteArray.size_append, ByteArray.size_append]; show 4 + _ + _ ≤ _; omega
   clear hlt
   go_wp2_with fail
   refine Flow.wp_region_go (by kernel_rfl) (by kernel_rfl) (by kernel_rfl) 44 rfl (by kernel_rfl) (frV ⟨#[80, 84, 3, 1]⟩ t.size q p) (fun _ L wz => Below w.heap.size w wz ∧ Two wz F 0 (cond (L 7) p 0) ∧ Two wz G 0 p) (fun _ _ => False) (()) (⟨b7.drew, F4.below (Below.refl _ _).drew, G4.below (Below.refl _ _).drew⟩) ⟨?_, ?_, ?_, ?_, ?_, ?_, ?_, ?_, trivial⟩ ?_ ?_
   ·intro g L wz K ρ hc0 hf0 hF hO hU hcl hi hd hC hK
    have e8 : ρ (.tmp 8) = .string ⟨(vput t.size).toArray⟩ := hO 8 (by kernel_rfl)
    simp [go_sem, Flow.ylP_value, Flow.ylP_skip, Flow.ylP_enter, Flow.ylP_panic, hc0, hf0, e8]
    exact hK g wz hC (fun _ _ => rfl)
   ·intro g L wz K ρ hc0 hf0 hF hO hU hcl hi hd hC hK
    have d0 : L 0 = true := hd ⟨0, .data⟩ (by simp) rfl
    have e32 : ρ (.tmp 32) = .string ⟨(vput t.size).toArray⟩ := hF 32 0 (by kernel_rfl) d0
    simp [go_sem, Flow.ylP_value, Flow.ylP_skip, Flow.ylP_enter, Flow.ylP_panic, hc0, hf0, e32, k1]
    exact hK g wz hC (fun _ _ => rfl)
   ·intro g L wz K ρ hc0 hf0 hF hO hU hcl hi hd hC hK
    have e6 : ρ (.tmp 6) = .string q := hO 6 (by kernel_rfl)
    simp [go_sem, Flow.ylP_value, Flow.ylP_skip, Flow.ylP_enter, Flow.ylP_panic, hc0, hf0, e6]
    exact hK g wz hC (fun _ _ => rfl)
   ·intro g L wz K ρ hc0 hf0 hF hO hU hcl hi hd hC hK
    have d1 : L 1 = true := hd ⟨1, .data⟩ (by simp) rfl
    have e33 : ρ (.tmp 33) = .string ((⟨#[80, 84, 3, 1]⟩ : ByteArray) ++ ⟨(vput t.size).toArray⟩) := hF 33 1 (by kernel_rfl) d1
    have d2 : L 2 = true := hd ⟨2, .data⟩ (by simp) rfl
    have e34 : ρ (.tmp 34) = .string q := hF 34 2 (by kernel_rfl) d2
    simp [go_sem, Flow.ylP_value, Flow.ylP_skip, Flow.ylP_enter, Flow.ylP_panic, hc0, hf0, e33, e34, k2]
    exact hK g wz hC (fun _ _ => rfl)
   ·intro g L wz K ρ hc0 hf0 hF hO hU hcl hi hd hC hK
    have d3 : L 3 = true := hd ⟨3, .data⟩ (by simp) rfl
    have e35 : ρ (.tmp 35) = .string (((⟨#[80, 84, 3, 1]⟩ : ByteArray) ++ ⟨(vput t.size).toArray⟩) ++ q) := hF 35 3 (by kernel_rfl) d3
    simp [go_sem, Flow.ylP_value, Flow.ylP_skip, Flow.ylP_enter, Flow.ylP_panic, hc0, hf0, e35]
    refine (rseal_any _ wz k3).mono ?_
    rintro r wn ⟨rfl, hbn⟩
    exact ⟨_, rfl, hK () wn ⟨hC.1.trans (hbn.mono hC.1.size), hC.2.1.below hbn, hC.2.2.below hbn⟩ (by intro j hj; unfold frV; split <;> first | rfl | (rw [hi] at hj; cases hj) | (have hz := hcl _ 4 (by kernel_rfl) hj; rw [hi] at hz; cases hz))⟩
   ·intro g L wz K ρ hc0 hf0 hF hO hU hcl hi hd hC hK
    have e5 : ρ (.tmp 5) = .pointer (some ⟨G, 0, none⟩) := hO 5 (by kernel_rfl)
    have a0 := hC.2.2.c0
    have a1 := hC.2.2.c1
    simp [go_sem, Flow.ylP_value, Flow.ylP_skip, Flow.ylP_enter, Flow.ylP_panic, hc0, hf0, e5, a0, a1]
    exact hK () wz hC (fun _ _ => rfl)
   ·intro g L wz K ρ hc0 hf0 hF hO hU hcl hi hd hC hK
    have d4 : L 4 = true := hd ⟨4, .data⟩ (by simp) rfl
    have e36 : ρ (.tmp 36) = .string (sealOf (((⟨#[80, 84, 3, 1]⟩ : ByteArray) ++ ⟨(vput t.size).toArray⟩) ++ q)) := hF 36 4 (by kernel_rfl) d4
    simp [go_sem, Flow.ylP_value, Flow.ylP_skip, Flow.ylP_enter, Flow.ylP_panic, hc0, hf0, e36]
    exact hK g wz hC (fun _ _ => rfl)
   ·intro g L wz K ρ hc0 hf0 hF hO hU hcl hi hd hC hK
    have e3 : ρ (.tmp 3) = .pointer (some ⟨F, 0, none⟩) := hO 3 (by kernel_rfl)
    have d5 : L 5 = true := hd ⟨5, .data⟩ (by simp) rfl
    have e37 : ρ (.tmp 37) = .agg #[.int .i64 0, .int .i64 p] := hF 37 5 (by kernel_rfl) d5
    rw [hi] at hC
    obtain ⟨hb0, hF0, hG0⟩ := hC
    have a0 := hF0.c0
    have a1 : (wz.setCell ⟨F, 0, none⟩ (.int .i64 0)).cell? ⟨F, 1, none⟩ = some (.int .i64 0) := by rw [World.cell?_setCell_other _ _ _ _ (by simp)]; exact hF0.c1
    have g0 := hF0.f0
    have g1 := hF0.f1
    simp [go_sem, Flow.ylP_value, Flow.ylP_skip, Flow.ylP_enter, Flow.ylP_panic, hc0, hf0, e3, e37, a0, a1, g0, g1]
    exact hK () _ ⟨(hb0.setCell (p := ⟨F, 0, none⟩) lF _).setCell (p := ⟨F, 1, none⟩) lF _, hF0.set2 0 p, hG0.oth2 nFG 0 p⟩ (fun _ _ => rfl)
   ·intro g L ch wz h; exact h.elim
   ·intro g L wz hL hC
    rw [hL 7 (by decide)] at hC
    obtain ⟨hb9, hF9, _⟩ := hC
    have z0 := hF9.c0
    have z1 : wz.cell? ⟨F, 1, none⟩ = some (.int .i64 p) := hF9.c1
    simp only [Flow.putAll, frV]
    go_wp2
    exact bodyPost_ret (v := .tuple #[.string (sealOf (((⟨#[80, 84, 3, 1]⟩ : ByteArray) ++ ⟨(vput t.size).toArray⟩) ++ q)), .agg #[.int .i64 0, .int .i64 p]]) (by simp [results, Tryz.results14, go_sem, z0, z1]) rfl ⟨by rw [hr.out, HT.out, HQ.out, pt1]; rfl, hb9⟩
  ·have d1 : decide ((q.size : Int) < (t.size : Int)) = false := by simp only [decide_eq_false_iff_not]; omega
   have d1' : decide (q.size < t.size) = false := by simpa using hlt
   have HT := Lib.hid (frText_more (by rw [HQ.out]; exact hlt))
   have hv10 : (vput t.size).length ≤ 10 := vput_len10 (by omega)
   have k1 : ¬ 9223372036854775807 < 4 + (vput t.size).length := by omega
   have k2 : ¬ 9223372036854775807 < 4 + (vput t.size).length + t.size := by omega
   have k3 : (((⟨#[80, 84, 3, 0]⟩ : ByteArray) ++ ⟨(vput t.size).toArray⟩) ++ t).size ≤ 1000000 := by rw [ByteArray.size_append, ByteArray.size_append]; show 4 + _ + _ ≤ _; omega
   clear hlt
   go_wp2_with fail
   refine Flow.wp_region_go (by kernel_rfl) (by kernel_rfl) (by kernel_rfl) 44 rfl (by kernel_rfl) (frV ⟨#[80, 84, 3, 0]⟩ t.size t p) (fun _ L wz => Below w.heap.size w wz ∧ Two wz F 0 (cond (L 7) p 0) ∧ Two wz G 0 p) (fun _ _ => False) (()) (⟨b7.drew, F4.below (Below.refl _ _).drew, G4.below (Below.refl _ _).drew⟩) ⟨?_, ?_, ?_, ?_, ?_, ?_, ?_, ?_, trivial⟩ ?_ ?_
   ·intro g L wz K ρ hc0 hf0 hF hO hU hcl hi hd hC hK
    have e8 : ρ (.tmp 8) = .string ⟨(vput t.size).toArray⟩ := hO 8 (by kernel_rfl)
    simp [go_sem, Flow.ylP_value, Flow.ylP_skip, Flow.ylP_enter, Flow.ylP_panic, hc0, hf0, e8]
    exact hK g wz hC (fun _ _ => rfl)
   ·intro g L wz K ρ hc0 hf0 hF hO hU hcl hi hd hC hK
    have d0 : L 0 = true := hd ⟨0, .data⟩ (by simp) rfl
    have e38 : ρ (.tmp 38) = .string ⟨(vput t.size).toArray⟩ := hF 38 0 (by kernel_rfl) d0
    simp [go_sem, Flow.ylP_value, Flow.ylP_skip, Flow.ylP_enter, Flow.ylP_panic, hc0, hf0, e38, k1]
    exact hK g wz hC (fun _ _ => rfl)
   ·intro g L wz K ρ hc0 hf0 hF hO hU hcl hi hd hC hK
    have e4 : ρ (.tmp 4) = .string t := hO 4 (by kernel_rfl)
    simp [go_sem, Flow.ylP_value, Flow.ylP_skip, Flow.ylP_enter, Flow.ylP_panic, hc0, hf0, e4]
    exact hK g wz hC (fun _ _ => rfl)
   ·intro g L wz K ρ hc0 hf0 hF hO hU hcl hi hd hC hK
    have d1 : L 1 = true := hd ⟨1, .data⟩ (by simp) rfl
    have e39 : ρ (.tmp 39) = .string ((⟨#[80, 84, 3, 0]⟩ : ByteArray) ++ ⟨(vput t.size).toArray⟩) := hF 39 1 (by kernel_rfl) d1
    have d2 : L 2 = true := hd ⟨2, .data⟩ (by simp) rfl
    have e40 : ρ (.tmp 40) = .string t := hF 40 2 (by kernel_rfl) d2
    simp [go_sem, Flow.ylP_value, Flow.ylP_skip, Flow.ylP_enter, Flow.ylP_panic, hc0, hf0, e39, e40, k2]
    exact hK g wz hC (fun _ _ => rfl)
   ·intro g L wz K ρ hc0 hf0 hF hO hU hcl hi hd hC hK
    have d3 : L 3 = true := hd ⟨3, .data⟩ (by simp) rfl
    have e41 : ρ (.tmp 41) = .string (((⟨#[80, 84, 3, 0]⟩ : ByteArray) ++ ⟨(vput t.size).toArray⟩) ++ t) := hF 41 3 (by kernel_rfl) d3
    simp [go_sem, Flow.ylP_value, Flow.ylP_skip, Flow.ylP_enter, Flow.ylP_panic, hc0, hf0, e41]
    refine (rseal_any _ wz k3).mono ?_
    rintro r wn ⟨rfl, hbn⟩
    exact ⟨_, rfl, hK () wn ⟨hC.1.trans (hbn.mono hC.1.size), hC.2.1.below hbn, hC.2.2.below hbn⟩ (by intro j hj; unfold frV; split <;> first | rfl | (rw [hi] at hj; cases hj) | (have hz := hcl _ 4 (by kernel_rfl) hj; rw [hi] at hz; cases hz))⟩
   ·intro g L wz K ρ hc0 hf0 hF hO hU hcl hi hd hC hK
    have e5 : ρ (.tmp 5) = .pointer (some ⟨G, 0, none⟩) := hO 5 (by kernel_rfl)
    have a0 := hC.2.2.c0
    have a1 := hC.2.2.c1
    simp [go_sem, Flow.ylP_value, Flow.ylP_skip, Flow.ylP_enter, Flow.ylP_panic, hc0, hf0, e5, a0, a1]
    exact hK () wz hC (fun _ _ => rfl)
   ·intro g L wz K ρ hc0 hf0 hF hO hU hcl hi hd hC hK
    have d4 : L 4 = true := hd ⟨4, .data⟩ (by simp) rfl
    have e42 : ρ (.tmp 42) = .string (sealOf (((⟨#[80, 84, 3, 0]⟩ : ByteArray) ++ ⟨(vput t.size).toArray⟩) ++ t)) := hF 42 4 (by kernel_rfl) d4
    simp [go_sem, Flow.ylP_value, Flow.ylP_skip, Flow.ylP_enter, Flow.ylP_panic, hc0, hf0, e42]
    exact hK g wz hC (fun _ _ => rfl)
   ·intro g L wz K ρ hc0 hf0 hF hO hU hcl hi hd hC hK
    have e3 : ρ (.tmp 3) = .pointer (some ⟨F, 0, none⟩) := hO 3 (by kernel_rfl)
    have d5 : L 5 = true := hd ⟨5, .data⟩ (by simp) rfl
    have e43 : ρ (.tmp 43) = .agg #[.int .i64 0, .int .i64 p] := hF 43 5 (by kernel_rfl) d5
    rw [hi] at hC
    obtain ⟨hb0, hF0, hG0⟩ := hC
    have a0 := hF0.c0
    have a1 : (wz.setCell ⟨F, 0, none⟩ (.int .i64 0)).cell? ⟨F, 1, none⟩ = some (.int .i64 0) := by rw [World.cell?_setCell_other _ _ _ _ (by simp)]; exact hF0.c1
    have g0 := hF0.f0
    have g1 := hF0.f1
    simp [go_sem, Flow.ylP_value, Flow.ylP_skip, Flow.ylP_enter, Flow.ylP_panic, hc0, hf0, e3, e43, a0, a1, g0, g1]
    exact hK () _ ⟨(hb0.setCell (p := ⟨F, 0, none⟩) lF _).setCell (p := ⟨F, 1, none⟩) lF _, hF0.set2 0 p, hG0.oth2 nFG 0 p⟩ (fun _ _ => rfl)
   ·intro g L ch wz h; exact h.elim
   ·intro g L wz hL hC
    rw [hL 7 (by decide)] at hC
    obtain ⟨hb9, hF9, _⟩ := hC
    have z0 := hF9.c0
    have z1 : wz.cell? ⟨F, 1, none⟩ = some (.int .i64 p) := hF9.c1
    simp only [Flow.putAll, frV]
    go_wp2
    exact bodyPost_ret (v := .tuple #[.string (sealOf (((⟨#[80, 84, 3, 0]⟩ : ByteArray) ++ ⟨(vput t.size).toArray⟩) ++ t)), .agg #[.int .i64 0, .int .i64 p]]) (by simp [results, Tryz.results14, go_sem, z0, z1]) rfl ⟨by rw [hr.out, HT.out, pt0]; rfl, hb9⟩
 ·have hr := Lib.hid (frame_bad (t := t) (p := p) he)
  have e1 : (((e, p) : Int × Int).1 == 0) = false := beq_eq_false_iff_ne.2 he
  rw [e1]
  obtain ⟨c0, c1, f0, f1⟩ := F2
  obtain ⟨d0, d1, g0, g1⟩ := G2
  go_wp2_with fail
  go_region
  have S := set2 (.int .i64 e) (.int .i64 p) c0 c1
  go_wp2
  exact bodyPost_ret (v := .tuple #[.string ⟨#[]⟩, .agg #[.int .i64 e, .int .i64 p]]) (by simp [results, Tryz.results14, go_sem, S.1, S.2]) rfl ⟨by rw [hr.out]; rfl, (below_set2 _ _ b4 lF).drew⟩
end Go.Proofs.YtkejlnjnoiidnaaGreatDoor
end
