/- Vary of the reference makes what vput says.

vary.Get and Unvary of the reference say what vget says.

span.Put, span.Get and Span, Unspan of the reference say what spanOf and unspan say.

append to a slice of the call's own, as one step of a region that draws its order. Any program.

span.All and Spans of the reference say what spansOf says.

TokensWrite of the reference says what twrite says.

Plain facts on repetitions in a text: how many bytes two places have alike; the longest, and of those as long the nearest. No program in sight. -/
import Derived.Test.YtkejlnjnoiidnaaGreatDoorZ3
import Derived.Test.YtkejlnjnoiidnaaGreatDoorZ2
import Derived.Test.YtkejlnjnoiidnaaGreatDoorShelfLen
import Derived.OwnWalk
import Derived.Test.YtkejlnjnoiidnaaGreatDoorZ1
import Derived.WalkKit
import Derived.WalkLawsBesides
import Derived.WalkSpells
import Derived.Outline
import Derived.Lib.Hide
import Derived.Laws.BitsAllLaws
import Derived.Deep.RegionLaw
import Derived.Test.YtkejlnjnoiidnaaGreatDoorShelfJoin
import Derived.Deep.RegionHeld3
section
namespace Go.Proofs.YtkejlnjnoiidnaaGreatDoor
open Go.RowKit
theorem rpow_any (k : Nat) (w : World) (hk : k ≤ 9) :
  Calls Tryz.prog 76 #[.int .u64 128, .int .i64 (k : Int)] w fun e w' => e = .returned (.int .u64 ((128 ^ k : Nat) : Int)) ∧ w = w' := by
 go_enter Tryz.func76, Tryz.ntmps76
 go_wp2
 go_loop [5, 7] (fun v i => ∃ j : Nat, j ≤ k ∧ i = .int .i64 j ∧ v = .int .u64 ((128 ^ j : Nat) : Int)) (fun _ i => k - (intOf i).toNat)
 case atStart => exact ⟨0, by omega, rfl, rfl⟩
 case round =>
  obtain ⟨j, hj, rfl, rfl⟩ := hrel
  by_cases hlt : j < k
  ·have hp := pow128_le (k := j) (by omega)
   have hq := pow128_le (k := j + 1) (by omega)
   have hs := Lib.hid (Nat.pow_succ (n := 128) (m := j))
   obtain ⟨x, hx⟩ : ∃ x, x = 128 ^ j := ⟨_, rfl⟩
   have HX := Lib.hid hx
   rw [← hx] at hp ⊢
   clear hx
   go_wp2
   go_round
   case rel =>
    refine ⟨j + 1, by omega, by go_num, valI ?_⟩
    have := hs.out
    rw [← HX.out] at this
    rw [this]
    rw [IntKind.wrap_u64]
    omega
   case measure => simp [intOf]; omega
  ·obtain rfl : j = k := by omega
   go_wp2
   go_ret
   exact ⟨rfl, rfl⟩
set_option maxHeartbeats 1000000 in
set_option maxRecDepth 100000 in
theorem rvary_any (n : Nat) (w : World) (hn : n < 18446744073709551616) :
    Calls Tryz.prog 31 #[.int .u64 (n : Int)] w fun e w' => e = .returned (.string ⟨(vput n).toArray⟩) ∧ Below w.heap.size w w' := by
  obtain ⟨i0, hi, hz0, hz1, hz2⟩ := info_parts byteInfo
  have hlen := vput_len10 hn
  have hpos := vput_pos n
  have hsz := vput_size 10 n (by have e : (128 : Nat) ^ 10 = 1180591620717411303424 := by decide
                                 omega) hn
  have hb64 : Lib.bitLen n ≤ 70 := by omega
  go_enter Tryz.func31, Tryz.ntmps31
  go_wp2_with fail
  refine (Tryz.bits_Len64 (n : Int) w (by omega) (by omega)).mono ?_
  rintro e w' ⟨rfl, rfl⟩
  simp only [Int.toNat_natCast]
  have hmx : max 1 (((Lib.bitLen n : Int) + 6) / 7) = ((vput n).length : Int) := by omega
  clear hsz
  have hE := Lib.hid (vpart_end n)
  have hZ := Lib.hid (vpart_zero n)
  have hSet := Lib.hid (vpart_set n)
  have hL := Lib.hid (vpart_len n)
  obtain ⟨m, hm⟩ : ∃ m, m = (vput n).length := ⟨_, rfl⟩
  rw [← hm] at hmx hlen hpos
  have HM := Lib.hid hm
  clear hm
  go_wp2_with fail
  obtain ⟨W, hrun, hT, hg⟩ := run_make_full (P := Tryz.prog) w' w'.heap.size 61 5 i0 (.int .u8 0) 1 Tryz.underlying61 hi hz0 hz1 .i64 .i64 m (by rw [hz2]; omega) (by unfold maxLen; omega) (Nat.le_refl _)
  have hb : Below w'.heap.size w' W := (Below.refl _ _).grown hg (Nat.le_refl _) (fun k hk => by cases hk)
  have hT0 : W.ownsRow w'.heap.size 5 1 (.slice (some ⟨w'.heap.size, 0, none⟩) m m) m (bytesV (vpart n 0)) := by
    have e : (madeCells (Value.int .u8 0).cells (m * 1)).toList = bytesV (vpart n 0) := by
      rw [hZ.out, Nat.mul_one, ← HM.out]
      show (madeCells #[Value.int .u8 0] m).toList = _
      rw [toList_madeCells_one]
      simp [bytesV, byteV]
    rw [e] at hT
    exact hT
  clear hT
  rw [hrun]
  clear hrun hmx hg
  go_wp2
  go_loopw [5, 15] (fun _ i wr => ∃ k : Nat, k ≤ m ∧ i = .int .i64 k ∧ wr.ownsRow w'.heap.size 5 1 (.slice (some ⟨w'.heap.size, 0, none⟩) m m) m (bytesV (vpart n k)) ∧ Below w'.heap.size w' wr) (fun _ i _ => m - (intOf i).toNat)
  case atStart => exact ⟨0, by omega, rfl, hT0, hb⟩
  case round =>
    clear hT0 hb
    obtain ⟨k, hk, rfl, hT, hbel⟩ := hrel
    by_cases hlt : k < m
    · have hlp := hL.out k (by rw [← HM.out]; omega)
      rw [← HM.out] at hlp
      have c0 : wr.cell? ⟨w'.heap.size, k, none⟩ = some (byteV ((vpart n k).getD k 0)) := by
        rw [hT.cellAt k (by omega), List.getElem?_map, List.getElem?_eq_getElem (by omega), getD_at _ _ _ (by omega)]; rfl
      have f0 : wr.frozen? ⟨w'.heap.size, k, none⟩ = false := hT.frozenAt k
      have hset := hSet.out k (by rw [← HM.out]; exact hlt)
      rw [← HM.out] at hset
      have HS := Lib.hid hset
      have HLP := Lib.hid hlp
      clear hset hlp
      obtain ⟨q, hq⟩ : ∃ q, q = n / 128 ^ k := ⟨_, rfl⟩
      have hqn : q ≤ n := by rw [hq]; exact Nat.div_le_self _ _
      have hw1 : IntKind.u64.wrap ((n : Int) / 128 ^ k) = (q : Int) := by
        have e : ((n / 128 ^ k : Nat) : Int) = (n : Int) / 128 ^ k := by simp
        rw [← e, ← hq, IntKind.wrap_u64]; omega
      have HQ := Lib.hid hq
      clear hq
      have hnz : ¬ ((128 : Int) ^ k = 0) := Int.pow_ne_zero (by omega)
      have hnz' : ((128 : Int) ^ k == 0) = false := beq_eq_false_iff_ne.2 hnz
      by_cases hlast : k + 1 < m
      · have hb1 : vbyte n k (decide (m = k + 1)) = UInt8.ofNat (q % 128 + 128) := by
          rw [decide_eq_false (by omega)]
          unfold vbyte
          rw [HQ.out]
          rfl
        have HB := Lib.hid hb1
        clear hb1
        go_wp2_with (go_at_call 76; refine (rpow_any k _ (by omega)).mono ?_; rintro e w2 ⟨rfl, rfl⟩)
        go_roundw
        case measure => simp [intOf]; omega
        case rel =>
          refine ⟨k + 1, by omega, by go_num, ?_, (hbel.setCell (Nat.le_refl _) _).setCell (Nat.le_refl _) _⟩
          have h1 := ((hT.stored k (.int .u8 ((q : Int) % 128))).1.stored k (byteV (UInt8.ofNat (q % 128 + 128)))).1
          rw [List.set_set, ← List.map_set, ← HB.out, HS.out] at h1
          have e2 : byteV (vbyte n k (decide (m = k + 1))) = Value.int .u8 ((q : Int) % 128 + 128) := by
            rw [HB.out]
            exact valI (by simp; omega)
          rw [e2] at h1
          exact h1
      · have hb1 : vbyte n k (decide (m = k + 1)) = UInt8.ofNat (q % 128) := by
          rw [decide_eq_true (by omega)]
          unfold vbyte
          rw [HQ.out]
          rfl
        have HB := Lib.hid hb1
        clear hb1
        go_wp2_with (go_at_call 76; refine (rpow_any k _ (by omega)).mono ?_; rintro e w2 ⟨rfl, rfl⟩)
        go_roundw
        case measure => simp [intOf]; omega
        case rel =>
          refine ⟨k + 1, by omega, by go_num, ?_, hbel.setCell (Nat.le_refl _) _⟩
          have h1 := (hT.stored k (byteV (UInt8.ofNat (q % 128)))).1
          rw [← List.map_set, ← HB.out, HS.out] at h1
          have e2 : byteV (vbyte n k (decide (m = k + 1))) = Value.int .u8 ((q : Int) % 128) := by
            rw [HB.out]
            exact valI (by simp; omega)
          rw [e2] at h1
          exact h1
    · obtain rfl : k = m := by omega
      rw [HM.out, hE.out, ← HM.out] at hT
      have hs1 := string_own (P := Tryz.prog) 61 5 9 Tryz.underlying61 Tryz.underlying5 Tryz.underlying9 hT HM.out.symm hpos
      go_wp2
      go_ret
      exact ⟨rfl, hbel⟩
end Go.Proofs.YtkejlnjnoiidnaaGreatDoor
end

section
namespace Go.Proofs.YtkejlnjnoiidnaaGreatDoor
open Go.RowKit As
theorem sbyte (s : ByteArray) (k : Nat) (h : k < s.size) : s.data.toList[k]'(by simpa using h) = s[k] := rfl
theorem u64_byte (b : UInt8) : IntKind.u64.wrap (b.toNat : Int) = (b.toNat : Int) := by
 have := b.toNat_lt
 rw [IntKind.wrap_u64]; omega
/-- A byte's seven bits taken in. -/
theorem vor {a b k : Nat} (ha : a < 2 ^ (7 * k)) (hb : b < 256) (hf : a + b % 128 * 2 ^ (7 * k) < 18446744073709551616) :
  bits BinOp.or IntKind.u64 (a : Int) (IntKind.u64.wrap (bits BinOp.and IntKind.u64 (b : Int) 127 * 2 ^ (7 * k))) = ((a + b % 128 * 2 ^ (7 * k) : Nat) : Int) := by
 have e1 : bits BinOp.and IntKind.u64 (b : Int) 127 = ((b % 128 : Nat) : Int) := by
  have e := u64_and_nat b 127 (by omega) (by omega)
  rw [nat_mask7] at e
  exact e
 have hp : b % 128 * 2 ^ (7 * k) < 18446744073709551616 := by omega
 have e2 : ((b % 128 : Nat) : Int) * 2 ^ (7 * k) = ((b % 128 * 2 ^ (7 * k) : Nat) : Int) := by simp
 rw [e1, e2, IntKind.wrap_u64, Int.emod_eq_of_lt (by omega) (by omega), u64_or_nat a _ (by omega) hp, Nat.or_comm, nat_join (7 * k) _ _ (Nat.mul_mod_left _ _) ha, Nat.add_comm]
theorem vor_at (s : ByteArray) (k : Nat) (h : k < s.size) (h9 : k ≤ 9) (hb : ¬ (k = 9 ∧ 1 < s[k].toNat)) :
  bits BinOp.or IntKind.u64 (vval (s.data.toList.take k) : Int) (IntKind.u64.wrap (bits BinOp.and IntKind.u64 (s[k].toNat : Int) 127 * 2 ^ (7 * k))) = (vval (s.data.toList.take (k + 1)) : Int) := by
 have hl : k < s.data.toList.length := by simpa using h
 have hn := vval_next hl
 have hfit := vval_fits hl h9 (by rw [sbyte s k h]; exact hb)
 rw [sbyte s k h] at hn
 rw [hn] at hfit
 rw [hn, pow128]
 rw [pow128] at hfit
 have hlt := vval_take_lt s.data.toList k (by omega)
 rw [pow128] at hlt
 exact vor hlt s[k].toNat_lt hfit
theorem retT3 {n n' k k' : Int} {v v' : Value} {t t' : IntKind} (h1 : n = n') (h2 : k = k') (h3 : v = v') : Ending.returned (.tuple #[.int t n, .int t' k, v]) = .returned (.tuple #[.int t n', .int t' k', v']) := by rw [h1, h2, h3]
set_option maxHeartbeats 1000000 in
set_option maxRecDepth 100000 in
theorem vget_any (s : ByteArray) (w : World) (hs : s.size ≤ maxLen) :
  Calls Tryz.prog 113 #[.string s] w fun e w' => e = .returned (.tuple #[.int .u64 ((vget s.data.toList).1 : Int), .int .i64 ((vget s.data.toList).2.1 : Int), errV (vget s.data.toList).2.2]) ∧ w = w' := by
 unfold maxLen at hs
 go_enter Tryz.func113, Tryz.ntmps113
 go_wp2
 go_loop [5, 6, 7, 10] (fun n _ _ i => ∃ k : Nat, k ≤ s.size ∧ i = .int .i64 k ∧ n = .int .u64 (vval (s.data.toList.take k) : Int) ∧ VG s.data.toList k) (fun _ _ _ i => s.size - (intOf i).toNat)
 case atStart => exact ⟨0, by omega, rfl, rfl, VG.zero _⟩
 case round =>
  obtain ⟨k, hk, rfl, rfl, hvg⟩ := hrel
  have HV := Lib.hid hvg
  have h9 := hvg.2.1
  clear hvg
  by_cases hlt : k < s.size
  ·have hlt' : k < s.data.toList.length := by simpa using hlt
   have hsb := Lib.hid (sbyte s k hlt)
   have hb256 := s[k].toNat_lt
   have hw := u64_byte s[k]
   by_cases c1 : k = 9 ∧ 1 < s[k].toNat
   ·have hres := Lib.hid (HV.out.limit hlt' c1.1 (by rw [hsb.out]; exact c1.2))
    have d1 : ((k : Int) == 9) = true := by simp; omega
    have d2 : decide (1 < (s[k].toNat : Int)) = true := by simp; omega
    clear c1
    go_wp2
    go_ret3
    exact ⟨by rw [hres.out]; rfl, rfl⟩
   ·have hvor := Lib.hid (vor_at s k hlt h9 c1)
    by_cases c2 : s[k].toNat = 0 ∧ 0 < k
    ·have hres := Lib.hid (HV.out.form hlt' c2.2 (by rw [hsb.out]; exact c2.1))
     have d1 : decide (1 < (s[k].toNat : Int)) = false := by simp; omega
     have d2 : decide ((s[k].toNat : Int) < 128) = true := by simp; omega
     have d3 : ((s[k].toNat : Int) == 0) = true := by simp; omega
     have d4 : decide (0 < k) = true := by simp; omega
     clear c1 c2
     by_cases e9 : k = 9
     ·have d5 : ((k : Int) == 9) = true := by simp; omega
      clear e9
      go_wp2
      go_ret3
      exact ⟨by rw [hres.out]; rfl, rfl⟩
     ·have d5 : ((k : Int) == 9) = false := by simp; omega
      clear e9
      go_wp2
      go_ret3
      exact ⟨by rw [hres.out]; rfl, rfl⟩
    ·by_cases c3 : s[k].toNat < 128
     ·have hres := Lib.hid (HV.out.done hlt' (by rw [hsb.out]; exact c1) (by rw [hsb.out]; exact c3) (by rw [hsb.out]; exact c2))
      have d2 : decide ((s[k].toNat : Int) < 128) = true := by simp; omega
      by_cases e0 : s[k].toNat = 0
      ·have d3 : ((s[k].toNat : Int) == 0) = true := by simp; omega
       have d4 : decide (0 < k) = false := by simp; omega
       have d5 : ((k : Int) == 9) = false := by simp; omega
       clear c1 c2 c3 e0
       go_wp2
       go_ret3
       exact ⟨by rw [hres.out]; exact retT3 hvor.out (by go_num) rfl, rfl⟩
      ·have d3 : ((s[k].toNat : Int) == 0) = false := by simp; omega
       by_cases e9 : k = 9
       ·have d5 : ((k : Int) == 9) = true := by simp; omega
        have d1 : decide (1 < (s[k].toNat : Int)) = false := by simp; omega
        clear c1 c2 c3 e0 e9
        go_wp2
        go_ret3
        exact ⟨by rw [hres.out]; exact retT3 hvor.out (by go_num) rfl, rfl⟩
       ·have d5 : ((k : Int) == 9) = false := by simp; omega
        clear c1 c2 c3 e0 e9
        go_wp2
        go_ret3
        exact ⟨by rw [hres.out]; exact retT3 hvor.out (by go_num) rfl, rfl⟩
     ·have hnext := Lib.hid (HV.out.succ hlt' (by rw [hsb.out]; exact c1) (by rw [hsb.out]; exact c3))
      have d2 : decide ((s[k].toNat : Int) < 128) = false := by simp; omega
      have d5 : ((k : Int) == 9) = false := by simp; omega
      clear c1 c2 c3
      go_wp2
      go_round
      case rel => exact ⟨k + 1, by omega, by go_num, valI hvor.out, hnext.out⟩
      case measure => simp [intOf]; omega
  ·obtain rfl : k = s.size := by omega
   have hres := Lib.hid (HV.out.out (by simp))
   clear hlt
   go_wp2
   go_ret3
   exact ⟨by rw [hres.out]; rfl, rfl⟩
set_option maxHeartbeats 1000000 in
set_option maxRecDepth 100000 in
theorem runvary_any (s : ByteArray) (w : World) (hs : s.size ≤ maxLen) :
  Calls Tryz.prog 100 #[.string s] w fun e w' => e = .returned (.tuple #[.int .u64 ((vget s.data.toList).1 : Int), .int .i64 ((vget s.data.toList).2.1 : Int), .int .i64 (vget s.data.toList).2.2]) ∧ w = w' := by
 unfold maxLen at hs
 go_enter Tryz.func100, Tryz.ntmps100
 go_wp2
 go_loop [5] (fun i => ∃ k : Nat, k ≤ s.size ∧ i = .int .i64 k ∧ VG s.data.toList k) (fun i => s.size - (intOf i).toNat)
 case atStart => exact ⟨0, by omega, rfl, VG.zero _⟩
 case round =>
  obtain ⟨k, hk, rfl, hvg⟩ := hrel
  have HV := Lib.hid hvg
  have h9 := hvg.2.1
  clear hvg
  by_cases hlt : k < s.size
  ·have hlt' : k < s.data.toList.length := by simpa using hlt
   have hsb := Lib.hid (sbyte s k hlt)
   have hb256 := s[k].toNat_lt
   have d0 : ((k : Int) == (s.size : Int)) = false := by simp; omega
   by_cases c1 : k = 9 ∧ 1 < s[k].toNat
   ·have hres := Lib.hid (HV.out.limit hlt' c1.1 (by rw [hsb.out]; exact c1.2))
    have d1 : ((k : Int) == 9) = true := by simp; omega
    have d2 : decide (1 < (s[k].toNat : Int)) = true := by simp; omega
    clear c1
    go_wp2
    go_ret3
    exact ⟨by rw [hres.out]; rfl, rfl⟩
   ·by_cases c2 : s[k].toNat = 0 ∧ 0 < k
    ·have hres := Lib.hid (HV.out.form hlt' c2.2 (by rw [hsb.out]; exact c2.1))
     have d1 : decide (1 < (s[k].toNat : Int)) = false := by simp; omega
     have d3 : ((s[k].toNat : Int) == 0) = true := by simp; omega
     have d4 : decide (0 < k) = true := by simp; omega
     clear c1 c2
     by_cases e9 : k = 9
     ·have d5 : ((k : Int) == 9) = true := by simp; omega
      clear e9
      go_wp2
      go_ret3
      exact ⟨by rw [hres.out]; rfl, rfl⟩
     ·have d5 : ((k : Int) == 9) = false := by simp; omega
      clear e9
      go_wp2
      go_ret3
      exact ⟨by rw [hres.out]; rfl, rfl⟩
    ·have hC1 := Lib.hid c1
     by_cases c3 : s[k].toNat < 128
     ·have hres := Lib.hid (HV.out.done hlt' (by rw [hsb.out]; exact c1) (by rw [hsb.out]; exact c3) (by rw [hsb.out]; exact c2))
      have hfit := vval_fits hlt' h9 (by rw [hsb.out]; exact c1)
      have d2 : decide ((s[k].toNat : Int) < 128) = true := by simp; omega
      have hd : (((s[k].toNat : Int) == 0) = true ∧ decide (0 < k) = false ∧ ((k : Int) == 9) = false) ∨ (((s[k].toNat : Int) == 0) = false ∧ ((k : Int) == 9) = true ∧ decide (1 < (s[k].toNat : Int)) = false) ∨ (((s[k].toNat : Int) == 0) = false ∧ ((k : Int) == 9) = false) := by
       simp only [beq_iff_eq, beq_eq_false_iff_ne, decide_eq_false_iff_not]
       omega
      clear c1 c2 c3
      rcases hd with ⟨d3, d4, d5⟩ | ⟨d3, d5, d6⟩ | ⟨d3, d5⟩
      all_goals
       go_wp2
       go_loop [6, 7] (fun n j => ∃ m : Nat, m ≤ k + 1 ∧ j = .int .i64 ((m : Int) - 1) ∧ n = .int .u64 (vtail s.data.toList (k + 1) m : Int)) (fun _ j => (intOf j + 1).toNat)
       case atStart => exact ⟨k + 1, by omega, by go_num, by rw [vtail_end]; rfl⟩
       case round =>
        obtain ⟨m, hm, rfl, rfl⟩ := hrel
        cases m with
        | zero =>
         have ej : (((0 : Nat) : Int) - 1) = -1 := by omega
         rw [ej]
         clear ej
         go_wp2
         go_ret3
         exact ⟨by rw [hres.out]; exact retT3 rfl (by go_num) rfl, rfl⟩
        | succ m =>
         have ej : (((m + 1 : Nat) : Int) - 1) = (m : Int) := by omega
         rw [ej]
         clear ej
         have hms : m < s.size := by omega
         have hn := vtail_prev (l := s.data.toList) (i := k + 1) (k := m) (by omega) (by omega)
         rw [sbyte s m hms] at hn
         have hle := vtail_le s.data.toList (k + 1) m
         have hbm := s[m].toNat_lt
         have hN := Lib.hid hn
         have hV : vtail s.data.toList (k + 1) m < 18446744073709551616 := by omega
         clear hn
         go_wp2
         go_round
         case rel =>
          refine ⟨m, by omega, rfl, valI ?_⟩
          have hn := hN.out
          simp only [IntKind.wrap_u64]
          omega
         case measure => simp [intOf]
     ·have hnext := Lib.hid (HV.out.succ hlt' (by rw [hsb.out]; exact c1) (by rw [hsb.out]; exact c3))
      have d2 : decide ((s[k].toNat : Int) < 128) = false := by simp; omega
      have d3 : ((s[k].toNat : Int) == 0) = false := by simp; omega
      have d5 : ((k : Int) == 9) = false := by simp; omega
      clear c1 c2 c3
      go_wp2
      go_round
      case rel => exact ⟨k + 1, by omega, by go_num, hnext.out⟩
      case measure => simp [intOf]; omega
  ·obtain rfl : k = s.size := by omega
   have hres := Lib.hid (HV.out.out (by simp))
   clear hlt
   go_wp2
   go_ret3
   exact ⟨by rw [hres.out]; rfl, rfl⟩
/-- int of a number that fits. -/
theorem i64_small {n : Nat} (h : n < 9223372036854775808) : IntKind.i64.wrap (n : Int) = (n : Int) := IntWalk.i64_in _ (by omega)
set_option maxHeartbeats 1000000 in
set_option maxRecDepth 100000 in
theorem vint_any (s : ByteArray) (most : Int) (w : World) (hs : s.size ≤ maxLen) (hm : most ≤ 9223372036854775807) :
  Calls Tryz.prog 66 #[.string s, .int .i64 most] w fun e w' => e = .returned (.tuple #[.int .i64 ((vint s.data.toList most).1 : Int), .int .i64 ((vint s.data.toList most).2.1 : Int), errV (vint s.data.toList most).2.2]) ∧ w = w' := by
 have H := Lib.hid (show vint s.data.toList most = _ from rfl)
 unfold vint at H
 obtain ⟨x, hx⟩ : ∃ x, x = vint s.data.toList most := ⟨_, rfl⟩
 obtain ⟨g, hg⟩ : ∃ g, g = vget s.data.toList := ⟨_, rfl⟩
 have hX : x = if g.2.2 ≠ 0 then (0, 0, g.2.2) else if most < 0 ∨ most < (g.1 : Int) then (0, 0, 2) else g := by rw [hx, hg]; rfl
 have hsay := vget_says s.data.toList
 rw [← hg] at hsay
 have HG := Lib.hid hg
 rw [← hx]
 clear hx hg H
 obtain ⟨n, k, e⟩ := g
 simp only at hX hsay
 by_cases he : e = 0
 ·subst he
  have hn : n < 18446744073709551616 := by
   rcases hsay with h | h | h | h
   ·exact h.2.1
   all_goals (injection h with h _; omega)
  clear hsay
  rw [if_neg (by simp)] at hX
  by_cases h1 : most < 0
  ·rw [if_pos (.inl h1)] at hX
   subst hX
   go_enter Tryz.func66, Tryz.ntmps66
   go_wp2_with fail
   refine (vget_any s w hs).mono ?_
   rintro e w' ⟨rfl, rfl⟩
   rw [← HG.out]
   simp only [errV_zero]
   go_wp2
   go_ret3
   exact ⟨rfl, rfl⟩
  ·have hw : IntKind.u64.wrap most = most := by rw [IntKind.wrap_u64]; omega
   by_cases h2 : most < (n : Int)
   ·rw [if_pos (.inr h2)] at hX
    subst hX
    go_enter Tryz.func66, Tryz.ntmps66
    go_wp2_with fail
    refine (vget_any s w hs).mono ?_
    rintro e w' ⟨rfl, rfl⟩
    rw [← HG.out]
    simp only [errV_zero]
    go_wp2
    go_ret3
    exact ⟨rfl, rfl⟩
   ·rw [if_neg (by omega)] at hX
    subst hX
    have hi : IntKind.i64.wrap (n : Int) = (n : Int) := i64_small (by omega)
    go_enter Tryz.func66, Tryz.ntmps66
    go_wp2_with fail
    refine (vget_any s w hs).mono ?_
    rintro e w' ⟨rfl, rfl⟩
    rw [← HG.out]
    simp only [errV_zero]
    go_wp2
    go_ret3
    exact ⟨rfl, rfl⟩
 ·rw [if_pos he] at hX
  subst hX
  have hv := Lib.hid (errV_of he)
  go_enter Tryz.func66, Tryz.ntmps66
  go_wp2_with fail
  refine (vget_any s w hs).mono ?_
  rintro e w' ⟨rfl, rfl⟩
  rw [← HG.out]
  simp only [hv.out]
  go_wp2
  go_ret3
  exact ⟨retT3 rfl rfl hv.out.symm, rfl⟩
set_option maxHeartbeats 1000000 in
set_option maxRecDepth 100000 in
theorem rvint_any (s : ByteArray) (most : Int) (w : World) (hs : s.size ≤ maxLen) (hm : most ≤ 9223372036854775807) :
  Calls Tryz.prog 64 #[.string s, .int .i64 most] w fun e w' => e = .returned (.tuple #[.int .i64 ((vint s.data.toList most).1 : Int), .int .i64 ((vint s.data.toList most).2.1 : Int), .int .i64 (vint s.data.toList most).2.2]) ∧ w = w' := by
 have H := Lib.hid (show vint s.data.toList most = _ from rfl)
 unfold vint at H
 obtain ⟨x, hx⟩ : ∃ x, x = vint s.data.toList most := ⟨_, rfl⟩
 obtain ⟨g, hg⟩ : ∃ g, g = vget s.data.toList := ⟨_, rfl⟩
 have hX : x = if g.2.2 ≠ 0 then (0, 0, g.2.2) else if most < 0 ∨ most < (g.1 : Int) then (0, 0, 2) else g := by rw [hx, hg]; rfl
 have hsay := vget_says s.data.toList
 rw [← hg] at hsay
 have HG := Lib.hid hg
 rw [← hx]
 clear hx hg H
 obtain ⟨n, k, e⟩ := g
 simp only at hX hsay
 by_cases he : e = 0
 ·subst he
  have hn : n < 18446744073709551616 := by
   rcases hsay with h | h | h | h
   ·exact h.2.1
   all_goals (injection h with h _; omega)
  clear hsay
  rw [if_neg (by simp)] at hX
  by_cases h1 : most < 0
  ·rw [if_pos (.inl h1)] at hX
   subst hX
   go_enter Tryz.func64, Tryz.ntmps64
   go_wp2_with fail
   refine (runvary_any s w hs).mono ?_
   rintro e w' ⟨rfl, rfl⟩
   rw [← HG.out]
   go_wp2
   go_ret3
   exact ⟨rfl, rfl⟩
  ·have hw : IntKind.u64.wrap most = most := by rw [IntKind.wrap_u64]; omega
   by_cases h2 : most < (n : Int)
   ·rw [if_pos (.inr h2)] at hX
    subst hX
    go_enter Tryz.func64, Tryz.ntmps64
    go_wp2_with fail
    refine (runvary_any s w hs).mono ?_
    rintro e w' ⟨rfl, rfl⟩
    rw [← HG.out]
    go_wp2
    go_ret3
    exact ⟨rfl, rfl⟩
   ·rw [if_neg (by omega)] at hX
    subst hX
    have hi : IntKind.i64.wrap (n : Int) = (n : Int) := i64_small (by omega)
    go_enter Tryz.func64, Tryz.ntmps64
    go_wp2_with fail
    refine (runvary_any s w hs).mono ?_
    rintro e w' ⟨rfl, rfl⟩
    rw [← HG.out]
    go_wp2
    go_ret3
    exact ⟨rfl, rfl⟩
 ·rw [if_pos he] at hX
  subst hX
  have hne : (e != 0) = true := by rw [bne_iff_ne]; exact he
  go_enter Tryz.func64, Tryz.ntmps64
  go_wp2_with fail
  refine (runvary_any s w hs).mono ?_
  rintro e w' ⟨rfl, rfl⟩
  rw [← HG.out]
  go_wp2
  go_ret3
  exact ⟨rfl, rfl⟩
end Go.Proofs.YtkejlnjnoiidnaaGreatDoor
end

section
namespace Go.Proofs.YtkejlnjnoiidnaaGreatDoor
open Go.RowKit As
theorem strOf_size (l : List UInt8) : (strOf l).size = l.length := by show l.toArray.size = _; simp
theorem retT3' {v v' u u' x x' : Value} (h1 : v = v') (h2 : u = u') (h3 : x = x') : Ending.returned (.tuple #[v, u, x]) = .returned (.tuple #[v', u', x']) := by rw [h1, h2, h3]
set_option maxRecDepth 100000 in
theorem spanput_any (s : ByteArray) (w : World) (hs : s.size ≤ maxLen) :
  Calls Tryz.prog 39 #[.string s] w fun e w' => e = .returned (.tuple #[.string (spanOf s).1, errV (spanOf s).2]) ∧ Below w.heap.size w w' := by
 unfold maxLen at hs
 by_cases hbig : 2000 < s.size
 ·have H : spanOf s = (strOf [], 4) := by unfold spanOf; rw [if_pos hbig]
  have HS := Lib.hid H
  clear H
  have hd : decide (2000 < s.size) = true := by simpa using hbig
  go_enter Tryz.func39, Tryz.ntmps39
  go_wp2
  go_ret2
  exact ⟨by rw [HS.out]; rfl, Below.refl _ _⟩
 ·have H : spanOf s = (strOf (vput s.size) ++ s, 0) := by unfold spanOf; rw [if_neg hbig]
  have HS := Lib.hid H
  clear H
  have hd : decide (2000 < s.size) = false := by simpa using hbig
  have hl := vput_len10 (n := s.size) (by omega)
  rw [← strOf_size] at hl
  go_enter Tryz.func39, Tryz.ntmps39
  go_wp2_with fail
  refine (vput_any s.size w (by omega)).mono ?_
  rintro e w' ⟨rfl, hb⟩
  obtain ⟨t, ht⟩ : ∃ t, t = strOf (vput s.size) := ⟨_, rfl⟩
  rw [← ht] at hl
  have hE : (⟨(vput s.size).toArray⟩ : ByteArray) = t := ht.symm
  rw [hE]
  have HT := Lib.hid ht
  clear ht hE
  have hcat : t.size + s.size ≤ 9223372036854775807 := by omega
  go_wp2_with fail
  go_ret2
  exact ⟨by rw [HS.out, HT.out]; rfl, hb⟩
set_option maxRecDepth 100000 in
theorem rspan_any (s : ByteArray) (w : World) (hs : s.size ≤ maxLen) :
  Calls Tryz.prog 32 #[.string s] w fun e w' => e = .returned (.tuple #[.string (spanOf s).1, .int .i64 (spanOf s).2]) ∧ Below w.heap.size w w' := by
 unfold maxLen at hs
 by_cases hbig : 2000 < s.size
 ·have H : spanOf s = (strOf [], 4) := by unfold spanOf; rw [if_pos hbig]
  have HS := Lib.hid H
  clear H
  have hd : decide (2000 < s.size) = true := by simpa using hbig
  go_enter Tryz.func32, Tryz.ntmps32
  go_wp2
  go_ret2
  exact ⟨by rw [HS.out]; rfl, Below.refl _ _⟩
 ·have H : spanOf s = (strOf (vput s.size) ++ s, 0) := by unfold spanOf; rw [if_neg hbig]
  have HS := Lib.hid H
  clear H
  have hd : decide (2000 < s.size) = false := by simpa using hbig
  have hl := vput_len10 (n := s.size) (by omega)
  rw [← strOf_size] at hl
  go_enter Tryz.func32, Tryz.ntmps32
  go_wp2_with fail
  refine (rvary_any s.size w (by omega)).mono ?_
  rintro e w' ⟨rfl, hb⟩
  obtain ⟨t, ht⟩ : ∃ t, t = strOf (vput s.size) := ⟨_, rfl⟩
  rw [← ht] at hl
  have hE : (⟨(vput s.size).toArray⟩ : ByteArray) = t := ht.symm
  rw [hE]
  have HT := Lib.hid ht
  clear ht hE
  have hcat : t.size + s.size ≤ 9223372036854775807 := by omega
  go_wp2_with fail
  go_ret2
  exact ⟨by rw [HS.out, HT.out]; rfl, hb⟩
set_option maxRecDepth 100000 in
theorem runspan_any (s : ByteArray) (w : World) (hs : s.size ≤ maxLen) :
  Calls Tryz.prog 55 #[.string s] w fun e w' => e = .returned (.tuple #[.string (unspan s).1, .int .i64 ((unspan s).2.1 : Int), .int .i64 (unspan s).2.2]) ∧ w = w' := by
 have hS := Lib.hid hs
 unfold maxLen at hs
 have hsay := vget_says s.data.toList
 have hU : unspan s = unspan s := rfl
 obtain ⟨u, hu⟩ : ∃ u, u = unspan s := ⟨_, rfl⟩
 rw [← hu]
 unfold unspan at hu
 clear hU
 obtain ⟨g, hg⟩ : ∃ g, g = vget s.data.toList := ⟨_, rfl⟩
 rw [← hg] at hu hsay
 have HG := Lib.hid hg
 clear hg
 obtain ⟨n, k, e⟩ := g
 simp only at hu hsay
 by_cases he : e = 0
 ·subst he
  have hb : n < 18446744073709551616 ∧ 0 < k ∧ k ≤ 10 ∧ k ≤ s.size := by
   rcases hsay with h | h | h | h
   ·simpa using h
   all_goals (injection h with h1 h2; injection h2 with h2 h3; omega)
  obtain ⟨hn, hk0, hk10, hks⟩ := hb
  clear hsay
  rw [if_neg (by simp)] at hu
  by_cases h1 : 2000 < n
  ·rw [if_pos h1] at hu
   subst hu
   go_enter Tryz.func55, Tryz.ntmps55
   go_wp2_with fail
   refine (runvary_any s w hS.out).mono ?_
   rintro r w' ⟨rfl, rfl⟩
   rw [← HG.out]
   go_wp2
   go_ret3
   exact ⟨rfl, rfl⟩
  ·rw [if_neg h1] at hu
   by_cases h2 : s.size < n + k
   ·rw [if_pos h2] at hu
    subst hu
    go_enter Tryz.func55, Tryz.ntmps55
    go_wp2_with fail
    refine (runvary_any s w hS.out).mono ?_
    rintro r w' ⟨rfl, rfl⟩
    rw [← HG.out]
    go_wp2
    go_ret3
    exact ⟨rfl, rfl⟩
   ·rw [if_neg h2] at hu
    subst hu
    go_enter Tryz.func55, Tryz.ntmps55
    go_wp2_with fail
    refine (runvary_any s w hS.out).mono ?_
    rintro r w' ⟨rfl, rfl⟩
    rw [← HG.out]
    go_wp2
    go_ret3
    exact ⟨rfl, rfl⟩
 ·rw [if_pos he] at hu
  subst hu
  go_enter Tryz.func55, Tryz.ntmps55
  have hne : (e != 0) = true := by rw [bne_iff_ne]; exact he
  go_wp2_with fail
  refine (runvary_any s w hS.out).mono ?_
  rintro r w' ⟨rfl, rfl⟩
  rw [← HG.out]
  go_wp2
  go_ret3
  exact ⟨rfl, rfl⟩
set_option maxHeartbeats 1000000 in
set_option maxRecDepth 100000 in
theorem spanget_any (s : ByteArray) (w : World) (hs : s.size ≤ maxLen) (hg : Handle w) :
  Calls Tryz.prog 105 #[.string s] w fun e w' => e = .returned (.tuple #[.string (unspan s).1, .int .i64 ((unspan s).2.1 : Int), errV (unspan s).2.2]) ∧ Below w.heap.size w w' := by
 have hS := Lib.hid hs
 unfold maxLen at hs
 have hsay := vget_says s.data.toList
 obtain ⟨u, hu⟩ : ∃ u, u = unspan s := ⟨_, rfl⟩
 rw [← hu]
 unfold unspan at hu
 obtain ⟨v, hv⟩ : ∃ v, v = vint s.data.toList 2000 := ⟨_, rfl⟩
 have HV := Lib.hid hv
 unfold vint at hv
 generalize vget s.data.toList = g at *
 obtain ⟨n, k, e⟩ := g
 simp only at hu hsay hv
 by_cases he : e = 0
 ·subst he
  have hb : n < 18446744073709551616 ∧ 0 < k ∧ k ≤ 10 ∧ k ≤ s.size := by
   rcases hsay with h | h | h | h
   ·simpa using h
   all_goals (injection h with h1 h2; injection h2 with h2 h3; omega)
  obtain ⟨hn, hk0, hk10, hks⟩ := hb
  clear hsay
  rw [if_neg (by simp)] at hu hv
  by_cases h1 : 2000 < n
  ·rw [if_pos h1] at hu
   rw [if_pos (by right; omega)] at hv
   subst hu hv
   go_enter Tryz.func105, Tryz.ntmps105
   go_wp2_with fail
   refine (vint_any s 2000 w hS.out (by omega)).mono ?_
   rintro r w' ⟨rfl, rfl⟩
   rw [← HV.out]
   go_wp2_with fail
   refine (tell_any (errV_is w 2) hg).mono ?_
   rintro r w1 ⟨rfl, hb⟩
   go_wp2
   go_ret3
   exact ⟨rfl, hb⟩
  ·rw [if_neg h1] at hu
   rw [if_neg (by omega)] at hv
   subst hv
   by_cases h2 : s.size < n + k
   ·rw [if_pos h2] at hu
    subst hu
    go_enter Tryz.func105, Tryz.ntmps105
    go_wp2_with fail
    refine (vint_any s 2000 w hS.out (by omega)).mono ?_
    rintro r w' ⟨rfl, rfl⟩
    rw [← HV.out]
    simp only [errV_zero]
    go_wp2_with fail
    refine (tell_nil w).mono ?_
    rintro r w1 ⟨rfl, rfl⟩
    go_wp2
    go_ret3
    exact ⟨rfl, Below.refl _ _⟩
   ·rw [if_neg h2] at hu
    subst hu
    go_enter Tryz.func105, Tryz.ntmps105
    go_wp2_with fail
    refine (vint_any s 2000 w hS.out (by omega)).mono ?_
    rintro r w' ⟨rfl, rfl⟩
    rw [← HV.out]
    simp only [errV_zero]
    go_wp2_with fail
    refine (tell_nil w).mono ?_
    rintro r w1 ⟨rfl, rfl⟩
    go_wp2
    go_ret3
    exact ⟨rfl, Below.refl _ _⟩
 ·rw [if_pos he] at hu hv
  subst hu hv
  have he2 : e ≠ 2 := by
   rcases hsay with h | h | h | h
   ·exact absurd h.1 he
   all_goals (injection h with h1 h2; injection h2 with h2 h3; omega)
  have hne : (e == 2) = false := beq_eq_false_iff_ne.2 he2
  clear hsay
  have hE := Lib.hid (errV_of he)
  go_enter Tryz.func105, Tryz.ntmps105
  go_wp2_with fail
  refine (vint_any s 2000 w hS.out (by omega)).mono ?_
  rintro r w' ⟨rfl, rfl⟩
  rw [← HV.out]
  simp only [hE.out]
  go_wp2_with fail
  refine (tell_errno e w hg).mono ?_
  rintro r w1 ⟨rfl, hb⟩
  go_wp2
  go_ret3
  exact ⟨retT3' rfl rfl hE.out.symm, hb⟩
end Go.Proofs.YtkejlnjnoiidnaaGreatDoor
end

section
namespace Go.Proofs.YtkejlnjnoiidnaaGreatDoor
open Go Go.RowKit
theorem step_append_own {P : Program} {ops : Array Oper} {o : Oper} {a : Act} {w : World} {K : Act → World → Prop} {Q : Exit → Act → World → Prop} {E : Prop}
  (hg : o.guard = none) (s x : Operand) (t : TypeId) (ho : o.op = Op.call { callee := Callee.builtin Builtin.append, args := #[s, x], argTypes := #[t, t] })
  (base : Nat) (e : TypeId) (i : TypeInfo) (z : Value) (size bytes : Nat) (ht : P.underlying t = some (.slice e)) (hi : P.info? e = some i) (hz : i.zero = some z)
  (hsize : i.size = size) (hby : i.bytes = bytes) (hzs : z.cells.size = size) (hsz : 0 < size)
  (v : Value) (n : Nat) (xs : List Value) (hs : a.eval s = v) (hown : w.ownsRow base e size v n xs)
  (ad : Addr) (m c : Nat) (news : List Value) (hx : a.eval x = .slice (some ad) m c) (hl : news.length = m * size) (hnews : ∀ j u, news[j]? = some u → w.cell? (ad.add j) = some u) (h1 : ∀ u ∈ news, u.oneCell' = true)
  (h63 : n + m ≤ maxLen) (hbytes : (n + m) * bytes ≤ 140737488355328) (hbase : base ≤ w.heap.size)
  (h : ∀ v' w', w'.ownsRow base e size v' (n + m) (xs ++ news) → w.grownBy w' v.ownBlock → K (a.put o.dst v') w') :
  if Region.wanted o (yielded ops a.tmps) = true then Oper.wp P o a w K Q else E := by
 rw [if_pos (by simp [Region.wanted, hg])]
 exact wp_append_own w s x t ho base e i z size bytes ht hi hz hsize hby hzs hsz v n xs hs hown ad m c news hx hl hnews h1 h63 hbytes hbase fun v' w' h2 h3 _ => h v' w' h2 h3
theorem own_set {w : World} {base : Nat} {e : TypeId} {size n : Nat} {v : Value} {xs : List Value} {s j : Nat} (x : Value) (h : w.ownsRow base e size v n xs) (hs : s < base) : (w.setCell ⟨s, j, none⟩ x).ownsRow base e size v n xs := by
 refine h.kept (row := some s) ⟨rfl, rfl, rfl, by simp, fun k _ hk => heap_setCell_other w ⟨s, j, none⟩ k x (fun e => hk (by simp [e]))⟩ ?_
 cases hv : v.ownBlock with
 | none => exact .inl rfl
 | some k =>
  have := (h.lt k hv).1
  exact .inr (by simp; omega)
theorem own_less {w : World} {base base' : Nat} {e : TypeId} {size n : Nat} {v : Value} {xs : List Value} (h : w.ownsRow base e size v n xs) (hb : base' ≤ base) : w.ownsRow base' e size v n xs := by
 refine ⟨h.1, ?_⟩
 rcases h.2 with hn | ⟨g, cap, cur, hv, hbg, r⟩
 ·exact .inl hn
 ·exact .inr ⟨g, cap, cur, hv, Nat.le_trans hb hbg, r⟩
end Go.Proofs.YtkejlnjnoiidnaaGreatDoor
end

section
namespace Go.Proofs.YtkejlnjnoiidnaaGreatDoor
open Go.RowKit As
theorem strInfo : (Tryz.prog.info? 9).map (fun i => (i.zero, i.size, i.bytes)) = some (some (.string ⟨#[]⟩), 1, 16) := by kernel_rfl
theorem ownStr_snoc {w : World} {base : Nat} {E : TypeId} {v : Value} {l : List ByteArray} {b : ByteArray} {n : Nat} (hn : l.length = n) (h : w.ownsRow base E 1 v (n + 1) (l.map Value.string ++ [Value.string b])) : w.ownsRow base E 1 v (l ++ [b]).length ((l ++ [b]).map Value.string) := by
 subst hn; simpa using h
/-- A row of the call's own stands behind a call that leaves all that was there. -/
theorem ownsRow_below {w w' : World} {base : Nat} {e : TypeId} {size n : Nat} {v : Value} {xs : List Value} (h : w.ownsRow base e size v n xs) (hb : Below w.heap.size w w') (_ : base ≤ w.heap.size) : w'.ownsRow base e size v n xs := by
 refine h.kept (row := none) ⟨hb.os, hb.tape, hb.output, hb.size, fun i hi _ => hb.block i hi⟩ ?_
 cases v.ownBlock with
 | none => exact .inl rfl
 | some k => exact .inr (by simp)
end Go.Proofs.YtkejlnjnoiidnaaGreatDoor
end

section
namespace Go.Proofs.YtkejlnjnoiidnaaGreatDoor
open Go.RowKit As
/-- A token as two texts. -/
def tparts (t : Tok) : List ByteArray := if t.1.size ≠ 0 then [strOf (vput (2 * t.1.size)), t.1] else [strOf (vput (2 * (t.2.2 - 4).toNat + 1)), strOf (vput (t.2.1 - 1).toNat)]
def psofar (l : List Tok) (k : Nat) : List ByteArray := (l.take k).flatMap tparts
theorem psofar_succ {l : List Tok} {k : Nat} {t : Tok} (h : l[k]? = some t) : psofar l (k + 1) = psofar l k ++ tparts t := by
 obtain ⟨hk, e⟩ := List.getElem?_eq_some_iff.1 h
 unfold psofar
 rw [List.take_succ_eq_append_getElem hk, e, List.flatMap_append]; simp
theorem tparts_bytes (t : Tok) : ((tparts t).map fun x => x.data.toList).flatten = tbytes t := by
 unfold tparts tbytes
 split <;> simp [strOf]
theorem psofar_bytes (l : List Tok) : ∀ k, ((psofar l k).map fun x => x.data.toList).flatten = bsofar l k := by
 intro k
 unfold psofar bsofar
 induction l.take k with
 | nil => rfl
 | cons t l ih => simp only [List.flatMap_cons, List.map_append, List.flatten_append, ih, tparts_bytes]
theorem join_none (xs : List (List UInt8)) : Lib.join xs [] = xs.flatten := by
 unfold Lib.join
 induction xs with
 | nil => rfl
 | cons x xs ih =>
  cases xs with
  | nil => simp [List.intercalate]
  | cons y ys =>
   have e : List.intercalate [] (x :: y :: ys) = x ++ ([] ++ List.intercalate [] (y :: ys)) := by
    simp [List.intercalate, List.intersperse]
   rw [e, ih]; simp
theorem cells_new2 (w : World) (a b : Value) (t : TypeId) : ∀ j u, ([a, b] : List Value)[j]? = some u → (w.alloc (.cells #[a, b] t)).cell? ((⟨w.heap.size, 0, none⟩ : Addr).add j) = some u := by
 intro j u hu
 have hadd : (⟨w.heap.size, 0, none⟩ : Addr).add j = ⟨w.heap.size, j, none⟩ := by unfold Addr.add; split <;> simp_all
 rw [hadd, World.cell?_alloc_new]
 simpa using hu
theorem ownStr_two {w : World} {base : Nat} {E : TypeId} {v : Value} {l : List ByteArray} {a b : ByteArray} {n : Nat} (hn : l.length = n) (h : w.ownsRow base E 1 v (n + 2) (l.map Value.string ++ [Value.string a, Value.string b])) : w.ownsRow base E 1 v (l ++ [a, b]).length ((l ++ [a, b]).map Value.string) := by
 subst hn; simpa using h
theorem rvary_is {n : Nat} {V : ByteArray} (hV : Hid (V = strOf (vput n))) (hn : n < 18446744073709551616) (w : World) : Calls Tryz.prog 31 #[.int .u64 (n : Int)] w fun e w' => e = .returned (.string V) ∧ Below w.heap.size w w' :=
 (rvary_any n w hn).mono fun _ _ h => ⟨by rw [hV.out]; exact h.1, h.2⟩
set_option maxHeartbeats 4000000 in
set_option maxRecDepth 100000 in
theorem rtwrite_any (w : World) (n c : Nat) (A : Option Addr) (l : List Tok) (hl : Toks w w.heap.size A n l) (hn : n * 32 ≤ 140737488351232) :
  Calls Tryz.prog 93 #[.slice A n c] w fun e w' => e = .returned (.tuple #[.string (twrite l).1, faultV (twrite l).2]) ∧ Below w.heap.size w w' := by
 obtain ⟨i0, hi, hz0, hz1, hz2⟩ := info_parts strInfo
 have hlen := Lib.hid hl.len
 have hnM : n ≤ maxLen := by unfold maxLen; omega
 by_cases hbad : (tright l).1 ≠ 0
 ·have HB := Lib.hid hbad
  have hR := Lib.hid (twrite_bad hbad)
  clear hbad
  go_enter Tryz.func93, Tryz.ntmps93
  go_wp2_with fail
  refine (rtright_any _ n c A l (hl.grow (below1 _ _)) hnM).mono ?_
  rintro e w1 ⟨rfl, hb⟩
  unfold faultV
  have hbad := HB.out
  generalize hF : tright l = f at *
  clear hF
  obtain ⟨e1, p1⟩ := f
  simp only at hbad
  go_wp2_with fail
  refine (is_any (e1, p1) _).mono ?_
  rintro r w2 ⟨rfl, hb2⟩
  have hne : (e1 == 0) = false := beq_eq_false_iff_ne.2 hbad
  have T0 := (((Two.new w 0 0 29).below hb).below (below1 w1 (.cells #[.int .i64 e1, .int .i64 p1] 29))).below hb2
  have T1 := (Two.new w1 e1 p1 29).below hb2
  have hz := hb.size
  simp only [World.size_alloc] at hz
  have hbb : Below w.heap.size w w2 := ((below1 _ _).trans (hb.mono (by simp))).trans (((below1 w1 _).trans (hb2.mono (by simp))).mono (by omega))
  obtain ⟨c0, c1, f0, f1⟩ := T0
  obtain ⟨d0, d1, g0, g1⟩ := T1
  simp only [hne]
  go_wp2_with fail
  go_region
  have S := set2 (.int .i64 e1) (.int .i64 p1) c0 c1
  go_wp2
  exact bodyPost_ret (v := .tuple #[.string ⟨#[]⟩, .agg #[.int .i64 e1, .int .i64 p1]]) (by simp [results, Tryz.results93, go_sem, S.1, S.2]) rfl ⟨by rw [hR.out]; rfl, (below_set2 _ _ hbb (Nat.le_refl _)).drew⟩
 ·have h0 : (tright l).1 = 0 := by omega
  have hok := Lib.hid (tright_ok h0)
  have hP := Lib.hid (tright_place h0)
  have hR := Lib.hid (twrite_good h0)
  clear hbad h0
  go_enter Tryz.func93, Tryz.ntmps93
  go_wp2_with fail
  refine (rtright_any _ n c A l (hl.grow (below1 _ _)) hnM).mono ?_
  rintro e w1 ⟨rfl, hb⟩
  rw [hP.out]
  unfold faultV
  go_wp2_with fail
  refine (is_any (0, -1) _).mono ?_
  rintro r w2 ⟨rfl, hb2⟩
  have hne : ((0 : Int) == 0) = true := rfl
  have T0 := (((Two.new w 0 0 29).below hb).below (below1 w1 (.cells #[.int .i64 0, .int .i64 (-1)] 29))).below hb2
  have hz := hb.size
  simp only [World.size_alloc] at hz
  have hbb : Below w.heap.size w w2 := ((below1 _ _).trans (hb.mono (by simp))).trans (((below1 w1 _).trans (hb2.mono (by simp))).mono (by omega))
  have hl2 := hl.grow hbb
  have hw0 : w.heap.size < w2.heap.size := T0.lt
  simp only [hne]
  clear hb hb2 hz hl
  go_wp2
  go_loopw [5, 7, 16] (fun v _ i wr => ∃ k q : Nat, k ≤ n ∧ i = .int .i64 k ∧ TOk (l.drop k) q ∧ k ≤ q ∧ Hid ((bsofar l k).length ≤ q + 30 * k) ∧ wr.ownsRow w2.heap.size 9 1 v (psofar l k).length ((psofar l k).map Value.string) ∧ Hid ((psofar l k).length ≤ 2 * k) ∧ Below w2.heap.size w2 wr) (fun _ _ i _ => n - (intOf i).toNat)
  case atStart => exact ⟨0, 0, by omega, rfl, hok.out, by omega, Lib.hid (by simp [bsofar]), World.ownsRow_nil _ _ _ _, Lib.hid (by simp [psofar]), Below.refl _ _⟩
  case round =>
   obtain ⟨k, q, hk, rfl, hto, hkq, hbl, hT, hpl, hbel⟩ := hrel
   have hB := hbel.size
   have hle := hto.le
   have hpl2 := hpl.out
   by_cases hlt : k < n
   ·obtain ⟨b, o, s, r, t, rfl, hb', hx, hf, c0, c1, c2⟩ := hl2.at_ hlt
    have c0 := (hbel.cell (p := ⟨b, o + k * 3, none⟩) (by simp; omega)).trans c0
    have c1 := (hbel.cell (p := ⟨b, o + k * 3 + 1, none⟩) (by simp; omega)).trans c1
    have c2 := (hbel.cell (p := ⟨b, o + k * 3 + 2, none⟩) (by simp; omega)).trans c2
    have hsf := Lib.hid (psofar_succ hx)
    have hsb := Lib.hid (bsofar_succ hx)
    obtain ⟨L, hL⟩ : ∃ L, L = psofar l k := ⟨_, rfl⟩
    rw [← hL] at hT hpl2 hsf
    have HL := Lib.hid hL
    clear hL
    by_cases h1 : s.size = 0
    ·obtain ⟨q0, q1, q2, q3, q4, q5⟩ := tok_rep hto hx h1
     simp only at q0 q1 q2 q3 q4 q5
     have htb := Lib.hid (tbytes_rep (t := (s, r, t)) h1)
     obtain ⟨z, rfl⟩ := Int.eq_ofNat_of_zero_le (show 0 ≤ t by omega)
     obtain ⟨y, rfl⟩ := Int.eq_ofNat_of_zero_le (show 0 ≤ r by omega)
     have hz0' : ((z : Int) == 0) = false := by rw [beq_eq_false_iff_ne]; omega
     have a1 : ((z : Int) - 4).toNat = z - 4 := by omega
     have a2 : ((y : Int) - 1).toNat = y - 1 := by omega
     have htb2 := Lib.hid (show tbytes (s, (y : Int), (z : Int)) = vput (2 * (z - 4) + 1) ++ vput (y - 1) by rw [htb.out]; simp only [a1, a2])
     have htp := Lib.hid (show tparts (s, (y : Int), (z : Int)) = [strOf (vput (2 * (z - 4) + 1)), strOf (vput (y - 1))] by unfold tparts; rw [if_neg (by simpa using h1)]; simp only [a1, a2])
     obtain ⟨Z, hZ⟩ : ∃ Z, Z = z - 4 := ⟨_, rfl⟩
     obtain ⟨N1, hN1⟩ : ∃ N1, N1 = 2 * (z - 4) + 1 := ⟨_, rfl⟩
     obtain ⟨N2, hN2⟩ : ∃ N2, N2 = y - 1 := ⟨_, rfl⟩
     rw [← hN1, ← hN2] at htb2 htp
     have e1 : IntKind.i64.wrap ((z : Int) - 4) = (Z : Int) := by rw [IntWalk.i64_in _ (by omega)]; omega
     have e2 : IntKind.i64.wrap ((y : Int) - 1) = (N2 : Int) := by rw [IntWalk.i64_in _ (by omega)]; omega
     have hu1 := Lib.hid (show IntKind.u64.wrap (IntKind.i64.wrap (2 * (Z : Int) + 1)) = (N1 : Int) by rw [IntWalk.i64_in _ (by omega), IntKind.wrap_u64]; omega)
     have hu2 := Lib.hid (show IntKind.u64.wrap (N2 : Int) = (N2 : Int) by rw [IntKind.wrap_u64]; omega)
     have e3 : IntKind.i64.wrap (2 * (Z : Int)) = 2 * (Z : Int) := by rw [IntWalk.i64_in _ (by omega)]
     have hZs : Z ≤ 67 := by omega
     have X := Lib.hid hx
     have Q5 := Lib.hid q5
     have hlt1 : N1 < 18446744073709551616 := by omega
     have hlt2 : N2 < 18446744073709551616 := by omega
     clear hZ hN1 hN2
     obtain ⟨V, hV⟩ : ∃ V, Hid (V = strOf (vput N1)) := ⟨_, Lib.hid rfl⟩
     obtain ⟨U, hU⟩ : ∃ U, Hid (U = strOf (vput N2)) := ⟨_, Lib.hid rfl⟩
     have HBL := Lib.hid hbl.out
     clear hto hx hf q5 hpl hbl a1 a2
     go_wp2
     have k0 : (wr.alloc (.cells #[.string s, .int .i64 y, .int .i64 z] 174)).cell? ⟨wr.heap.size, 1, none⟩ = some (.int .i64 y) := by rw [World.cell?_alloc_new]; rfl
     have k1 : (wr.alloc (.cells #[.string s, .int .i64 y, .int .i64 z] 174)).cell? ⟨wr.heap.size, 2, none⟩ = some (.int .i64 z) := by rw [World.cell?_alloc_new]; rfl
     go_region_held3 (fun wx => wx.cell? ⟨wr.heap.size, 1, none⟩ = some (.int .i64 y) ∧ wx.cell? ⟨wr.heap.size, 2, none⟩ = some (.int .i64 z)) (first | with_reducible exact k4 | with_reducible exact k5 | with_reducible exact k6 | with_reducible exact k7 | go_keep)
      (first
       | (go_at_call 31; rw [hu1.out]; refine (rvary_is hV hlt1 _).mono ?_; rintro e w3 ⟨rfl, hb3⟩; have hb4 : Below (wr.alloc (.cells #[.string s, .int .i64 y, .int .i64 z] 174)).heap.size (wr.alloc (.cells #[.string s, .int .i64 y, .int .i64 z] 174)) w3 := (Below.refl _ _).drew.trans hb3; have k4 : w3.cell? ⟨wr.heap.size, 1, none⟩ = some (.int .i64 y) ∧ w3.cell? ⟨wr.heap.size, 2, none⟩ = some (.int .i64 z) := ⟨(hb4.cell (cell_lt k0)).trans k0, (hb4.cell (cell_lt k1)).trans k1⟩)
       | (go_at_call 31; rw [hu2.out]; refine (rvary_is hU hlt2 _).mono ?_; rintro e w4 ⟨rfl, hb5⟩; have hb6 := hb4.trans (hb5.mono hb4.size); have k5 : w4.cell? ⟨wr.heap.size, 1, none⟩ = some (.int .i64 y) ∧ w4.cell? ⟨wr.heap.size, 2, none⟩ = some (.int .i64 z) := ⟨(hb6.cell (cell_lt k0)).trans k0, (hb6.cell (cell_lt k1)).trans k1⟩; have hTW := ownsRow_below (hT.alloc _) hb6 (by simp; omega); have hbW := hbel.trans (((below1 wr _).trans (hb6.mono (by simp))).mono hB); have hsW := hbW.size; have k6 : (w4.alloc (.cells #[.string V, .string U] 9)).cell? ⟨wr.heap.size, 1, none⟩ = some (.int .i64 y) ∧ (w4.alloc (.cells #[.string V, .string U] 9)).cell? ⟨wr.heap.size, 2, none⟩ = some (.int .i64 z) := ⟨(World.cell?_alloc_lt w4 _ ⟨wr.heap.size, 1, none⟩ (cell_lt k5.1)).trans k5.1, (World.cell?_alloc_lt w4 _ ⟨wr.heap.size, 2, none⟩ (cell_lt k5.2)).trans k5.2⟩)
       | (refine step_append_own rfl (.tmp 34) (.tmp 47) 116 rfl w2.heap.size 9 i0 (.string ⟨#[]⟩) 1 16 Tryz.underlying116 hi hz0 hz1 hz2 rfl (by decide) u5 L.length (L.map Value.string) rfl (hTW.alloc _) ⟨w4.heap.size, 0, none⟩ 2 2 [.string V, .string U] rfl rfl (cells_new2 _ _ _ _) (by intro u hu; simp at hu; rcases hu with rfl | rfl <;> rfl) (by unfold maxLen; omega) (by omega) (by simp; omega) ?_; intro v1 wE hT2 hg2; have hbE := (grown_own (hbW.alloc hsW _) hg2 (by simp; omega) (hTW.alloc _)); have hT3 := ownStr_two rfl hT2; have k7 : wE.cell? ⟨wr.heap.size, 1, none⟩ = some (.int .i64 y) ∧ wE.cell? ⟨wr.heap.size, 2, none⟩ = some (.int .i64 z) := ⟨hg2.cell k6.1 (fun e => absurd (hT.lt _ e.symm).2 (Nat.lt_irrefl _)), hg2.cell k6.2 (fun e => absurd (hT.lt _ e.symm).2 (Nat.lt_irrefl _))⟩))
     all_goals
      clear e1 e2 e3
      go_wp2
      go_roundw
      case rel => exact ⟨k + 1, q + z, by omega, by go_num, Q5.out, by omega, Lib.hid (by rw [hsb.out, htb2.out]; simp only [List.length_append]; have := vput_len10 hlt1; have := vput_len10 hlt2; have := HBL.out; omega), by rw [hsf.out, htp.out, ← hV.out, ← hU.out]; exact hT3, Lib.hid (by rw [hsf.out, htp.out, List.length_append]; simp only [List.length_cons, List.length_nil]; omega), hbE⟩
      case measure => simp [intOf]; omega
    ·obtain ⟨q0, q1, q2, q3⟩ := tok_own hto hx h1
     simp only at q0 q1 q2 q3
     subst q0 q1
     have htb := Lib.hid (tbytes_own (t := (s, 0, 0)) h1)
     have htp := Lib.hid (show tparts (s, 0, 0) = [strOf (vput (2 * s.size)), s] by unfold tparts; rw [if_pos h1])
     have Q3 := Lib.hid q3
     have X := Lib.hid hx
     have hlt64 : 2 * s.size < 18446744073709551616 := by omega
     have e1 : IntKind.i64.wrap (2 * (s.size : Int)) = ((2 * s.size : Nat) : Int) := by rw [IntWalk.i64_in _ (by omega)]; omega
     obtain ⟨V, hV⟩ : ∃ V, Hid (V = strOf (vput (2 * s.size))) := ⟨_, Lib.hid rfl⟩
     have HBL := Lib.hid hbl.out
     clear hto hx hf q3 hpl hbl
     go_wp2
     have k0 : (wr.alloc (.cells #[.string s, .int .i64 0, .int .i64 0] 174)).cell? ⟨wr.heap.size, 0, none⟩ = some (.string s) := by rw [World.cell?_alloc_new]; rfl
     have hu64 := Lib.hid (show IntKind.u64.wrap (2 * (s.size : Int)) = ((2 * s.size : Nat) : Int) by rw [IntKind.wrap_u64]; omega)
     go_region_held3 (fun wx => wx.cell? ⟨wr.heap.size, 0, none⟩ = some (.string s)) (first | go_keep | exact k4 | exact k5 | exact k6)
      (first
       | (go_at_call 31; rw [hu64.out]; refine (rvary_is hV hlt64 _).mono ?_; rintro e w3 ⟨rfl, hb3⟩; have hb4 : Below (wr.alloc (.cells #[.string s, .int .i64 0, .int .i64 0] 174)).heap.size (wr.alloc (.cells #[.string s, .int .i64 0, .int .i64 0] 174)) w3 := (Below.refl _ _).drew.trans hb3; have k4 := (hb4.cell (cell_lt k0)).trans k0; have hTW := ownsRow_below (hT.alloc _) hb4 (by simp; omega); have hbW := hbel.trans (((below1 wr _).trans (hb4.mono (by simp))).mono hB); have hsW := hbW.size; have k5 := (World.cell?_alloc_lt w3 (.cells #[.string V, .string s] 9) ⟨wr.heap.size, 0, none⟩ (cell_lt k4)).trans k4)
       | (refine step_append_own rfl (.tmp 23) (.tmp 32) 116 rfl w2.heap.size 9 i0 (.string ⟨#[]⟩) 1 16 Tryz.underlying116 hi hz0 hz1 hz2 rfl (by decide) u5 L.length (L.map Value.string) rfl (hTW.alloc _) ⟨w3.heap.size, 0, none⟩ 2 2 [.string V, .string s] rfl rfl (cells_new2 _ _ _ _) (by intro u hu; simp at hu; rcases hu with rfl | rfl <;> rfl) (by unfold maxLen; omega) (by omega) (by simp; omega) ?_; intro v1 wE hT2 hg2; have hbE := (grown_own (hbW.alloc hsW _) hg2 (by simp; omega) (hTW.alloc _)); have hT3 := ownStr_two rfl hT2; have k6 := hg2.cell k5 (fun e => absurd (hT.lt _ e.symm).2 (Nat.lt_irrefl _))))
     clear e1
     go_wp2
     go_roundw
     case rel => exact ⟨k + 1, q + s.size, by omega, by go_num, Q3.out, by omega, Lib.hid (by rw [hsb.out, htb.out]; simp only [List.length_append, size_len]; have := vput_len10 hlt64; have := HBL.out; omega), by rw [hsf.out, htp.out, ← hV.out]; exact hT3, Lib.hid (by rw [hsf.out, htp.out, List.length_append]; simp only [List.length_cons, List.length_nil]; omega), hbE⟩
     case measure => simp [intOf]; omega
   ·obtain rfl : k = n := by omega
    have hend := Lib.hid (show bsofar l k = l.flatMap tbytes by unfold bsofar; rw [List.take_of_length_le (by rw [hlen.out]; exact Nat.le_refl _)])
    have hbl2 := hbl.out
    have hjn := Lib.hid (show Lib.join ((psofar l k).map (·.data.toList)) (⟨#[]⟩ : ByteArray).data.toList = bsofar l k by rw [show (⟨#[]⟩ : ByteArray).data.toList = [] from rfl, join_none]; exact psofar_bytes l k)
    have hs0 := hT
    obtain ⟨L, hL⟩ : ∃ L, L = psofar l k := ⟨_, rfl⟩
    rw [← hL] at hT hpl2
    have HL := Lib.hid hL
    clear hL hs0 hlt
    obtain ⟨A1, cp, rfl⟩ := own_form hT
    have hjoin : ∀ wx : World, wx = wr → Calls Tryz.prog 128 #[.slice A1 L.length cp, .string ⟨#[]⟩] wx fun e w' => e = .returned (.string (strOf (bsofar l k))) ∧ Below wx.heap.size wx w' := by
     rintro wx rfl
     rcases Nat.eq_zero_or_pos L.length with h0 | h0
     ·rw [h0]
      refine (Tryz.strings_Join_none A1 cp ⟨#[]⟩ wx).mono ?_
      rintro e w' ⟨rfl, rfl⟩
      have hL0 : psofar l k = [] := by rw [← HL.out]; exact List.length_eq_zero_iff.1 h0
      refine ⟨?_, Below.refl _ _⟩
      have hj := hjn.out
      rw [hL0] at hj
      rw [← hj]; rfl
     ·obtain ⟨g, cp2, hv, hg0, hg1⟩ := own_some' hT h0
      injection hv with hv1 hv2 hv3
      subst hv1
      refine (Tryz.strings_Join g 0 cp L ⟨#[]⟩ wx ?_ hg1 (by omega) ?_ ?_).mono ?_
      ·intro j x hx
       have hj : j < L.length := (List.getElem?_eq_some_iff.1 hx).1
       rw [Nat.zero_add, hT.cellAt j (by omega), List.getElem?_map, hx]; rfl
      ·rcases hT.2 with ⟨h, _⟩ | ⟨g', cap, cur, h, _, _, hc, _⟩
       ·cases h
       ·injection h with _ _ h3; omega
      ·rw [HL.out, hjn.out]; omega
      ·rintro e w' ⟨rfl, hb⟩
       exact ⟨by rw [HL.out, hjn.out], hb⟩
    go_wp2_with (go_at_call 128; refine (hjoin _ rfl).mono ?_; rintro e w3 ⟨rfl, hb3⟩)
    refine (good_any _).mono ?_
    rintro e w4 ⟨rfl, hb4⟩
    have hb5 := hb3.trans (hb4.mono hb3.size)
    have hb6 := hbb.trans ((hbel.trans (hb5.mono hB)).mono hbb.size)
    obtain ⟨c0, c1, f0, f1⟩ := T0.keep (hbel.trans (hb5.mono hB)) hw0
    have S := set2 (.int .i64 0) (.int .i64 (-1)) c0 c1
    go_wp2
    exact bodyPost_ret (v := .tuple #[.string (strOf (bsofar l k)), .agg #[.int .i64 0, .int .i64 (-1)]]) (by simp [results, Tryz.results93, go_sem, S.1, S.2]) rfl ⟨by rw [hR.out, hend.out]; rfl, below_set2 _ _ hb6 (Nat.le_refl _)⟩
end Go.Proofs.YtkejlnjnoiidnaaGreatDoor
end

section
namespace Go.Proofs.YtkejlnjnoiidnaaGreatDoor.Match

/-- From n on, f rounds at most: the first place that does not hold. -/
def upto (P : Nat → Bool) : Nat → Nat → Nat
 | 0, n => n
 | f + 1, n => if P n then upto P f (n + 1) else n
theorem upto_eq (P : Nat → Bool) (f n m : Nat) (h1 : ∀ j, n ≤ j → j < m → P j = true) (hn : n ≤ m) (hm : m ≤ n + f) (h2 : m = n + f ∨ P m = false) : upto P f n = m := by
 induction f generalizing n with
 | zero => simp only [upto]; omega
 | succ f ih =>
  simp only [upto]
  by_cases hnm : n = m
  ·subst hnm
   rcases h2 with h2 | h2
   ·omega
   ·rw [h2]; rfl
  ·rw [h1 n (Nat.le_refl _) (by omega)]
   exact ih (n + 1) (fun j hj hjm => h1 j (by omega) hjm) (by omega) (by omega) (h2.imp (by omega) id)
theorem upto_le (P : Nat → Bool) (f n : Nat) : upto P f n ≤ n + f := by
 induction f generalizing n with
 | zero => simp [upto]
 | succ f ih =>
  simp only [upto]
  split
  ·have := ih (n + 1); omega
  ·omega
theorem upto_holds (P : Nat → Bool) (f n : Nat) : ∀ j, n ≤ j → j < upto P f n → P j = true := by
 induction f generalizing n with
 | zero => intro j h1 h2; simp only [upto] at h2; omega
 | succ f ih =>
  intro j h1 h2
  simp only [upto] at h2
  by_cases hp : P n = true
  ·rw [if_pos hp] at h2
   by_cases hj : j = n
   ·subst hj; exact hp
   ·exact ih (n + 1) j (by omega) h2
  ·rw [if_neg hp] at h2; omega
/-- How many bytes the places a and b have alike, 67 at most. -/
def same (l : List UInt8) (a b j : Nat) : Bool := decide (b + j < l.length) && l.getD (a + j) 0 == l.getD (b + j) 0
def alike (l : List UInt8) (a b : Nat) : Nat := upto (same l a b) 67 0
theorem alike_le (l : List UInt8) (a b : Nat) : alike l a b ≤ 67 := by have := upto_le (same l a b) 67 0; unfold alike; omega

/-- The best of those above lo, up to hi. -/
def Best (A : Nat → Nat) (lo hi far best : Nat) : Prop :=
 (far = 0 ∧ best = 0 ∧ ∀ k, lo < k → k ≤ hi → A k < 4) ∨
 (lo < far ∧ far ≤ hi ∧ A far = best ∧ 4 ≤ best ∧ (∀ k, lo < k → k ≤ hi → A k ≤ best) ∧ ∀ k, lo < k → k < far → A k < best)
theorem Best.start (A : Nat → Nat) (k : Nat) : Best A k k 0 0 := .inl ⟨rfl, rfl, fun j h1 h2 => by omega⟩
theorem Best.uniq {A : Nat → Nat} {lo hi f b f' b' : Nat} (h : Best A lo hi f b) (h' : Best A lo hi f' b') : f = f' ∧ b = b' := by
 rcases h with ⟨h1, h2, h3⟩ | ⟨h1, h2, h3, h4, h5, h6⟩ <;> rcases h' with ⟨g1, g2, g3⟩ | ⟨g1, g2, g3, g4, g5, g6⟩
 ·omega
 ·have := h3 f' g1 g2; omega
 ·have := g3 f h1 h2; omega
 ·have e1 := h5 f' g1 g2
  have e2 := g5 f h1 h2
  have hb : b = b' := by omega
  refine ⟨?_, hb⟩
  rcases Nat.lt_trichotomy f f' with h | h | h
  ·have := g6 f h1 h; omega
  ·exact h
  ·have := h6 f' g1 h; omega
/-- A round upwards. -/
theorem Best.up_yes {A : Nat → Nat} {lo hi f b : Nat} (h : Best A lo hi f b) (hl : lo ≤ hi) (h4 : 4 ≤ A (hi + 1)) (hb : b < A (hi + 1)) : Best A lo (hi + 1) (hi + 1) (A (hi + 1)) := by
 refine .inr ⟨by omega, Nat.le_refl _, rfl, h4, ?_, ?_⟩
 ·intro k k1 k2
  by_cases hk : k = hi + 1
  ·subst hk; exact Nat.le_refl _
  ·rcases h with ⟨_, _, h3⟩ | ⟨_, _, _, _, h5, _⟩
   ·have := h3 k k1 (by omega); omega
   ·have := h5 k k1 (by omega); omega
 ·intro k k1 k2
  rcases h with ⟨_, _, h3⟩ | ⟨_, _, _, _, h5, _⟩
  ·have := h3 k k1 (by omega); omega
  ·have := h5 k k1 (by omega); omega
theorem Best.up_no {A : Nat → Nat} {lo hi f b : Nat} (h : Best A lo hi f b) (hn : ¬ (4 ≤ A (hi + 1) ∧ b < A (hi + 1))) : Best A lo (hi + 1) f b := by
 rcases h with ⟨h1, h2, h3⟩ | ⟨h1, h2, h3, h4, h5, h6⟩
 ·refine .inl ⟨h1, h2, fun k k1 k2 => ?_⟩
  by_cases hk : k = hi + 1
  ·subst hk; omega
  ·exact h3 k k1 (by omega)
 ·refine .inr ⟨h1, by omega, h3, h4, fun k k1 k2 => ?_, h6⟩
  by_cases hk : k = hi + 1
  ·subst hk; omega
  ·exact h5 k k1 (by omega)
/-- A round downwards. -/
theorem Best.down_yes {A : Nat → Nat} {lo hi f b : Nat} (h : Best A (lo + 1) hi f b) (hl : lo < hi) (h4 : 4 ≤ A (lo + 1)) (hb : b ≤ A (lo + 1)) : Best A lo hi (lo + 1) (A (lo + 1)) := by
 refine .inr ⟨by omega, hl, rfl, h4, ?_, fun k k1 k2 => by omega⟩
 intro k k1 k2
 by_cases hk : k = lo + 1
 ·subst hk; exact Nat.le_refl _
 ·rcases h with ⟨_, _, h3⟩ | ⟨_, _, _, _, h5, _⟩
  ·have := h3 k (by omega) (by omega); omega
  ·have := h5 k (by omega) (by omega); omega
theorem Best.down_no {A : Nat → Nat} {lo hi f b : Nat} (h : Best A (lo + 1) hi f b) (_hl : lo < hi) (hn : ¬ (b ≤ A (lo + 1) ∧ 4 ≤ A (lo + 1))) : Best A lo hi f b := by
 rcases h with ⟨h1, h2, h3⟩ | ⟨h1, h2, h3, h4, h5, h6⟩
 ·refine .inl ⟨h1, h2, fun k k1 k2 => ?_⟩
  by_cases hk : k = lo + 1
  ·subst hk; omega
  ·exact h3 k (by omega) (by omega)
 ·refine .inr ⟨by omega, h2, h3, h4, fun k k1 k2 => ?_, fun k k1 k2 => ?_⟩
  ·by_cases hk : k = lo + 1
   ·subst hk; omega
   ·exact h5 k (by omega) (by omega)
  ·by_cases hk : k = lo + 1
   ·subst hk; omega
   ·exact h6 k (by omega) (by omega)
/-- What Find computes, in rounds upwards. -/
def findTo (l : List UInt8) (at_ : Nat) : Nat → Nat × Nat
 | 0 => (0, 0)
 | k + 1 => if 4 ≤ alike l (at_ - (k + 1)) at_ ∧ (findTo l at_ k).2 < alike l (at_ - (k + 1)) at_ then (k + 1, alike l (at_ - (k + 1)) at_) else findTo l at_ k
theorem findTo_best (l : List UInt8) (at_ k : Nat) : Best (fun k => alike l (at_ - k) at_) 0 k (findTo l at_ k).1 (findTo l at_ k).2 := by
 induction k with
 | zero => exact Best.start _ 0
 | succ k ih =>
  simp only [findTo]
  split
  ·rename_i h; exact ih.up_yes (Nat.zero_le _) h.1 h.2
  ·rename_i h; exact ih.up_no h
def find (l : List UInt8) (i : Nat) : Nat × Nat := if i < l.length then findTo l i (min i 1024) else (0, 0)
theorem findTo_le (l : List UInt8) (i k : Nat) : (findTo l i k).1 ≤ k ∧ (findTo l i k).2 ≤ 67 := by
 induction k with
 | zero => exact ⟨Nat.le_refl _, Nat.zero_le _⟩
 | succ k ih =>
  simp only [findTo]
  split
  ·exact ⟨Nat.le_refl _, alike_le _ _ _⟩
  ·exact ⟨by omega, ih.2⟩
end Go.Proofs.YtkejlnjnoiidnaaGreatDoor.Match
end
