/- The Go functions Turn of package link and of the reference, and pow, compute what the plain functions of TurnLaw say.

The Go functions pow and Turn of the reference compute what the plain functions of TurnLaw say.

The program's link: Step, by kinds. Printed by gen_links.py. -/
import Derived.Test.YtfefpcdgflgaeaaGreatDoorProg
import Derived.Test.YtfefpcdgflgaeaaGreatDoorZ1
import Derived.Test.YtfefpcdgflgaeaaGreatDoorZ2
import Derived.WalkKit
import Derived.WalkLawsBesides
import Derived.WalkSpells
import Derived.Outline
import Derived.Lib.Hide
import Derived.Laws.BitsAllLaws
import Derived.RegionTactic
import Derived.StillTailTactics
import Derived.IntWalk
import Derived.Test.YtfefpcdgflgaeaaGreatDoorZ15
section
namespace Go.Proofs.YtfefpcdgflgaeaaGreatDoor.Turn
open Go.RowKit
theorem two_lt (r : Nat) (hr : r < 8) : 2 ^ r < 256 := by
 have : 2 ^ r ≤ 2 ^ 7 := Nat.pow_le_pow_right (by omega) (by omega)
 omega
theorem byte_lt (b : UInt8) (r : Nat) (hr : r < 8) : b.toNat ^^^ 2 ^ r < 256 := Nat.xor_lt_two_pow (n := 8) b.toNat_lt (two_lt r hr)
theorem byte_xor (b : UInt8) (r : Nat) (hr : r < 8) : bits BinOp.xor IntKind.u8 (b.toNat : Int) (IntKind.u8.wrap (2 ^ r)) = ((b.toNat ^^^ 2 ^ r : Nat) : Int) := by
 have hp := two_lt r hr
 have e : IntKind.u8.wrap ((2 : Int) ^ r) = ((2 ^ r : Nat) : Int) := by
  have e0 : ((2 ^ r : Nat) : Int) = (2 : Int) ^ r := by simp
  rw [← e0, IntKind.wrap_u8']
  generalize 2 ^ r = q at hp
  omega
 rw [e, u8_xor_nat _ _ b.toNat_lt hp]
theorem bit_eq (m k : Nat) (hm : m ≤ 18446744073709551615) : bits BinOp.and IntKind.u64 ((m : Int) / 2 ^ k) 1 = ((m / 2 ^ k % 2 : Nat) : Int) := by
 have h : m / 2 ^ k ≤ m := Nat.div_le_self _ _
 have e0 : ((m / 2 ^ k : Nat) : Int) = (m : Int) / 2 ^ k := by simp
 have e := u64_and_nat (m / 2 ^ k) 1 (by omega) (by omega)
 rw [nat_mask1, e0] at e
 exact e
theorem turn_eq (l : List UInt8) (m : Nat) (h : 4 ≤ l.length) : turn l m = tos l m (m / 4294967296 % (8 * l.length - 31)) 32 := by unfold turn; rw [if_neg (by omega)]
set_option maxRecDepth 100000 in
theorem turn_any (s : ByteArray) (m : Nat) (w : World) (hs : s.size ≤ 500) (hm1 : m ≤ 18446744073709551615) (h4 : 4 ≤ s.size) :
  Calls Tryz.prog 59 #[.string s, .int .u64 (m : Int)] w fun e w' => e = .returned (.string ⟨(turn s.data.toList m).toArray⟩) ∧ Below w.heap.size w w' := by
 obtain ⟨C, W, hcv, hB, hbel⟩ := bytes_of (P := Tryz.prog) w 9 69 5 s Tryz.underlying9 Tryz.underlying69 Tryz.underlying5
 obtain ⟨a, ha⟩ : ∃ a, a = m / 4294967296 % (8 * s.size - 31) := ⟨_, rfl⟩
 have haL : a < 8 * s.size - 31 := by rw [ha]; exact Nat.mod_lt _ (by omega)
 have hA : (m : Int) / 4294967296 % (8 * (s.size : Int) - 31) = (a : Int) := by
  rw [ha, Int.natCast_emod, Int.natCast_ediv]
  congr 1
  omega
 have HA := Lib.hid ha
 clear ha
 have d4 : decide ((s.size : Int) < 4) = false := by simp; omega
 go_enter Tryz.func59, Tryz.ntmps59
 go_wp2
 go_loopw [7, 23] (fun _ i wr => (∃ k : Nat, k ≤ 32 ∧ i = .int .i64 k ∧ BytesAt wr w.heap.size (tos s.data.toList m a k)) ∧ Below w.heap.size w wr) (fun _ i _ => 32 - (intOf i).toNat)
 case atStart => exact ⟨⟨0, by omega, rfl, hB⟩, hbel⟩
 case round =>
  obtain ⟨⟨k, hk, rfl, hb⟩, hbw⟩ := hrel
  have hlen := Lib.hid (to_len s.data.toList m a k)
  clear hA
  by_cases hlt : k < 32
  ·have hbit := Lib.hid (bit_eq m k)
   by_cases h1 : m / 2 ^ k % 2 = 1
   ·have hs1 := Lib.hid (to_yes s.data.toList m a k h1)
    have ht : (bits BinOp.and IntKind.u64 ((m : Int) / 2 ^ k) 1 == 1) = true := by rw [hbit.out hm1, h1]; rfl
    have hj : (a + k) / 8 < (tos s.data.toList m a k).length := by rw [hlen.out]; simp; omega
    obtain ⟨hc, hf⟩ := hb _ hj
    have hset := Lib.hid (hb.set_nat _ (((tos s.data.toList m a k).getD ((a + k) / 8) 0).toNat ^^^ 2 ^ ((a + k) % 8)) (byte_lt _ _ (Nat.mod_lt _ (by omega))) hj)
    have e1 : IntKind.i64.wrap ((a : Int) + (k : Int)) = (a : Int) + (k : Int) := IntWalk.i64_in _ (by omega)
    obtain ⟨q, hq⟩ : ∃ q, q = (a + k) / 8 := ⟨_, rfl⟩
    obtain ⟨r, hr⟩ : ∃ r, r = (a + k) % 8 := ⟨_, rfl⟩
    have hr8 : r < 8 := by omega
    have e2 : IntKind.i64.wrap (((a : Int) + (k : Int)).tdiv 8) = (q : Int) := by rw [Int.tdiv_eq_ediv_of_nonneg (by omega), IntWalk.i64_in _ (by omega)]; omega
    have e3 : ((a : Int) + (k : Int)).tmod 8 = (r : Int) := by rw [Int.tmod_eq_emod_of_nonneg (by omega)]; omega
    have e4 : IntKind.i64.wrap (r : Int) = (r : Int) := IntWalk.i64_in _ (by omega)
    have hqs : q < s.size := by omega
    have hqi : (q : Int) < (s.size : Int) := by omega
    rw [← hq] at hc hf
    have HQ := Lib.hid hq
    have HR := Lib.hid hr
    clear hq hr
    have hv := Lib.hid (byte_xor ((tos s.data.toList m a k).getD q 0) r hr8)
    go_wp2_with fail
    go_still_tail 14, (by kernel_rfl)
    change wpList _ _ _ _ _ wr.drew
    have hv' := hv.out
    simp only [List.getD_eq_getElem?_getD] at hv'
    rw [hv']
    clear hv'
    go_wp2
    go_roundw
    case rel =>
     refine ⟨⟨k + 1, by omega, by go_num, ?_⟩, (hbw.setCell (Nat.le_refl _) _).drew⟩
     rw [hs1.out, HQ.out, HR.out]
     have h2 := hset.out
     simp only [List.getD_eq_getElem?_getD] at h2
     exact h2
    case measure => simp [intOf]; omega
   ·have hs1 := Lib.hid (to_no s.data.toList m a k h1)
    have ht : (bits BinOp.and IntKind.u64 ((m : Int) / 2 ^ k) 1 == 1) = false := by rw [hbit.out hm1, beq_eq_false_iff_ne]; omega
    go_wp2_with fail
    go_roundw
    case rel => exact ⟨⟨k + 1, by omega, by go_num, by rw [hs1.out]; exact hb⟩, hbw⟩
    case measure => simp [intOf]; omega
  ·obtain rfl : k = 32 := by omega
   have hstr := Lib.hid (string_of (P := Tryz.prog) wr 69 5 9 w.heap.size C _ Tryz.underlying69 Tryz.underlying5 Tryz.underlying9 hb)
   have hst2 := hstr.out
   rw [hlen.out] at hst2
   have hz : s.data.toList.length = s.size := by simp
   rw [hz] at hst2
   go_wp2_with fail
   go_ret
   exact ⟨by rw [turn_eq _ _ (by simpa using h4), hz, ← HA.out]; rfl, hbw⟩
end Go.Proofs.YtfefpcdgflgaeaaGreatDoor.Turn
end

section
namespace Go.Proofs.YtfefpcdgflgaeaaGreatDoor.Turn
open Go.RowKit
theorem pow_any (n k : Nat) (w : World) (hn : 1 ≤ n) (hk : k ≤ 1000) (h : n ^ k < 18446744073709551616) :
  Calls Tryz.prog 71 #[.int .u64 (n : Int), .int .i64 (k : Int)] w fun e w' => e = .returned (.int .u64 ((n ^ k : Nat) : Int)) ∧ w' = w := by
 obtain ⟨z, hz⟩ : ∃ z, z = n ^ k := ⟨_, rfl⟩
 rw [← hz] at h ⊢
 have Hz := Lib.hid hz
 clear hz
 go_enter Tryz.func71, Tryz.ntmps71
 go_wp2
 go_loop [5, 7] (fun v i => ∃ j x : Nat, j ≤ k ∧ i = .int .i64 j ∧ v = .int .u64 x ∧ x = n ^ j) (fun _ i => k - (intOf i).toNat)
 case atStart => exact ⟨0, 1, by omega, rfl, rfl, rfl⟩
 case round =>
  obtain ⟨j, x, hj, rfl, rfl, hx⟩ := hrel
  have Hx := Lib.hid hx
  clear hx
  by_cases hlt : j < k
  ·have hle : x * n ≤ z := by
    rw [Hx.out, Hz.out, ← Nat.pow_succ]
    exact Nat.pow_le_pow_right hn hlt
   have hlt2 : (x : Int) * (n : Int) ≤ 18446744073709551615 := by
    have : ((x * n : Nat) : Int) ≤ (z : Int) := by omega
    rw [Int.natCast_mul] at this
    omega
   have h0 : (0 : Int) ≤ (x : Int) * (n : Int) := by rw [← Int.natCast_mul]; omega
   go_wp2
   go_round
   case rel => exact ⟨j + 1, x * n, by omega, by go_num, valI (by simp), by rw [Nat.pow_succ, Hx.out]⟩
   case measure => simp [intOf]; omega
  ·obtain rfl : j = k := by omega
   go_wp2
   go_ret
   exact ⟨by rw [Hz.out, ← Hx.out]; rfl, rfl⟩
theorem pow_32 (w : World) : Calls Tryz.prog 71 #[.int .u64 2, .int .i64 32] w fun e w' => e = .returned (.int .u64 4294967296) ∧ w' = w := by
 have h := pow_any 2 32 w (by omega) (by omega) (by decide)
 have e : (((2 : Nat) ^ 32 : Nat) : Int) = 4294967296 := by decide
 rw [e] at h
 exact h
set_option maxRecDepth 100000 in
theorem rturn_any (s : ByteArray) (m : Nat) (w : World) (hs : s.size ≤ 500) (hm1 : m ≤ 18446744073709551615) (h4 : 4 ≤ s.size) :
  Calls Tryz.prog 57 #[.string s, .int .u64 (m : Int)] w fun e w' => e = .returned (.string ⟨(turn s.data.toList m).toArray⟩) ∧ Below w.heap.size w w' := by
 obtain ⟨a, ha⟩ : ∃ a, a = m / 4294967296 % (8 * s.size - 31) := ⟨_, rfl⟩
 obtain ⟨lo, hlo⟩ : ∃ lo, lo = m % 4294967296 := ⟨_, rfl⟩
 have haL : a < 8 * s.size - 31 := by rw [ha]; exact Nat.mod_lt _ (by omega)
 have hA : (m : Int) / 4294967296 % (8 * (s.size : Int) - 31) = (a : Int) := by
  rw [ha, Int.natCast_emod, Int.natCast_ediv]
  congr 1
  omega
 have hL : (m : Int) % 4294967296 = (lo : Int) := by omega
 have HA := Lib.hid ha
 have HL := Lib.hid hlo
 clear ha hlo
 have d4 : decide ((s.size : Int) < 4) = false := by simp; omega
 go_enter Tryz.func57, Tryz.ntmps57
 go_wp2
 go_quiet ((go_at_call 71; exact Calls.quiet_of_same (pow_32 _)))
 obtain ⟨C, W, hcv, hB, hbel0⟩ := bytes_of (P := Tryz.prog) (w.drewN nq) 9 69 5 s Tryz.underlying9 Tryz.underlying69 Tryz.underlying5
 have hbel : Below w.heap.size w W := (below_drewN (Below.refl _ w) nq).trans hbel0
 change (convert _ _ _).run _ _ = .ok (.slice (some ⟨w.heap.size, 0, none⟩) s.size C) W at hcv
 change BytesAt W w.heap.size _ at hB
 clear hbel0
 go_wp2
 clear hA
 go_loopw [5, 8, 9] (fun v i _ wr => (∃ k x : Nat, k ≤ 32 ∧ i = .int .i64 k ∧ v = .int .u64 x ∧ x = m % 4294967296 / 2 ^ k ∧ BytesAt wr w.heap.size (tos s.data.toList m a k)) ∧ Below w.heap.size w wr) (fun _ i _ _ => 33 - (intOf i).toNat)
 case atStart => exact ⟨⟨0, m % 4294967296, by omega, rfl, valI (by omega), by simp, hB⟩, hbel⟩
 case round =>
  obtain ⟨⟨k, x, hk, rfl, rfl, hx, hb⟩, hbw⟩ := hrel
  have hlen := Lib.hid (to_len s.data.toList m a k)
  have HX := Lib.hid hx
  have hx32 : x < 4294967296 := by rw [hx]; exact Nat.lt_of_le_of_lt (Nat.div_le_self _ _) (Nat.mod_lt _ (by omega))
  clear hL
  by_cases hlt : 0 < x
  ·have hk32 : k < 32 := by
    rcases Nat.lt_or_ge k 32 with h | h
    ·exact h
    ·obtain rfl : k = 32 := by omega
     rw [hx, low_zero] at hlt
     omega
   have hbit : x % 2 = m / 2 ^ k % 2 := by rw [hx, low_bit m k hk32]
   have hhalf : x / 2 = m % 4294967296 / 2 ^ (k + 1) := by rw [hx, Nat.div_div_eq_div_mul, Nat.pow_succ]
   have HH := Lib.hid hhalf
   clear hx hhalf
   by_cases h1 : m / 2 ^ k % 2 = 1
   ·have hs1 := Lib.hid (to_yes s.data.toList m a k h1)
    have ht : ((x : Int) % 2 == 1) = true := beq_iff_eq.2 (by omega)
    clear hbit
    have hj : (a + k) / 8 < (tos s.data.toList m a k).length := by rw [hlen.out]; simp; omega
    obtain ⟨hc, hf⟩ := hb _ hj
    have hset := Lib.hid (hb.set_nat _ (((tos s.data.toList m a k).getD ((a + k) / 8) 0).toNat ^^^ 2 ^ ((a + k) % 8)) (byte_lt _ _ (Nat.mod_lt _ (by omega))) hj)
    have e1 : IntKind.i64.wrap ((a : Int) + (k : Int)) = (a : Int) + (k : Int) := IntWalk.i64_in _ (by omega)
    obtain ⟨q, hq⟩ : ∃ q, q = (a + k) / 8 := ⟨_, rfl⟩
    obtain ⟨r, hr⟩ : ∃ r, r = (a + k) % 8 := ⟨_, rfl⟩
    have hr8 : r < 8 := by omega
    have e2 : IntKind.i64.wrap (((a : Int) + (k : Int)).tdiv 8) = (q : Int) := by rw [Int.tdiv_eq_ediv_of_nonneg (by omega), IntWalk.i64_in _ (by omega)]; omega
    have e3 : ((a : Int) + (k : Int)).tmod 8 = (r : Int) := by rw [Int.tmod_eq_emod_of_nonneg (by omega)]; omega
    have e4 : IntKind.i64.wrap (r : Int) = (r : Int) := IntWalk.i64_in _ (by omega)
    have hqs : q < s.size := by omega
    have hqi : (q : Int) < (s.size : Int) := by omega
    rw [← hq] at hc hf
    have HQ := Lib.hid hq
    have HR := Lib.hid hr
    clear hq hr
    have hv := Lib.hid (byte_xor ((tos s.data.toList m a k).getD q 0) r hr8)
    go_wp2_with fail
    refine wp_region_still_tail 11 (by kernel_rfl) (by kernel_rfl) ?_
    simp only [List.take_succ_cons, List.take_zero, List.drop_succ_cons, List.drop_zero]
    iterate 7 still_step
    still_call (pow_any 2 r _ (by omega) (by omega) (Nat.lt_trans (two_lt r hr8) (by omega)))
    repeat still_step
    refine wpStill_nil ?_
    change wpList _ _ _ _ _ wr.drew
    have hv' := hv.out
    simp only [List.getD_eq_getElem?_getD] at hv'
    rw [hv']
    clear hv'
    go_wp2
    go_roundw
    case rel =>
     refine ⟨⟨k + 1, x / 2, by omega, by go_num, valI (by omega), HH.out, ?_⟩, (hbw.setCell (Nat.le_refl _) _).drew⟩
     rw [hs1.out, HQ.out, HR.out]
     have h2 := hset.out
     simp only [List.getD_eq_getElem?_getD] at h2
     exact h2
    case measure => simp [intOf]; omega
   ·have hs1 := Lib.hid (to_no s.data.toList m a k h1)
    have ht : ((x : Int) % 2 == 1) = false := beq_eq_false_iff_ne.2 (by omega)
    clear hbit
    go_wp2_with fail
    go_roundw
    case rel => exact ⟨⟨k + 1, x / 2, by omega, by go_num, valI (by omega), HH.out, by rw [hs1.out]; exact hb⟩, hbw⟩
    case measure => simp [intOf]; omega
  ·obtain rfl : x = 0 := by omega
   have hend := Lib.hid (to_low_end s.data.toList m a k hk HX.out.symm)
   clear hx
   have hstr := Lib.hid (string_of (P := Tryz.prog) wr 69 5 9 w.heap.size C _ Tryz.underlying69 Tryz.underlying5 Tryz.underlying9 hb)
   have hst2 := hstr.out
   rw [hlen.out] at hst2
   have hz : s.data.toList.length = s.size := by simp
   rw [hz] at hst2
   go_wp2_with fail
   go_ret
   exact ⟨by rw [turn_eq _ _ (by simpa using h4), hz, ← HA.out, ← hend.out]; rfl, hbw⟩
end Go.Proofs.YtfefpcdgflgaeaaGreatDoor.Turn
end

section
namespace Go.Proofs.YtfefpcdgflgaeaaGreatDoor
set_option linter.unusedSimpArgs false
set_option linter.unusedVariables false
open Go.RowKit As Go.Maps
set_option maxHeartbeats 1000000 in
set_option maxRecDepth 100000 in
theorem pstep2_any {w : World} {B K : Nat} {Q : LkC} {ps : List ByteArray} {x y : Lst} {G : Nat → Prop} (h : Lk w B K Q ps x y G) (N : Int) (m : Nat) (hE : K + 5 ≤ 1000000) : Calls Tryz.prog 28 #[.pointer (some ⟨Q.lp, 0, none⟩), .agg #[.int .i64 2, .int .i64 N, .int .u64 (m : Int)]] w fun e w' => e = .returned (.nilIface) ∧ LkTo w B (K + 5) Q ps ⟨x.f, x.s.save.flush.mark.flush⟩ y G w' := by
 have hS := St.start h (stVs 2 N m) 56
 simp only [stVs] at hS
 clear h
 go_enter Tryz.func28, Tryz.ntmps28
 iterate 5 go_step
 generalize w.alloc (.cells #[.int .i64 2, .int .i64 N, .int .u64 (m : Int)] 56) = w1 at *
 generalize w.heap.size = sb at *

 have c0 := (hS.lk.pc 0 _ rfl).1
 have k0 := (hS.rc 0 _ rfl).1
 go_wp2_with fail
 refine (both_psave hS.lk.both (by omega)).mono ?_
 rintro e w2 ⟨rfl, hb, h2, ht⟩
 replace hS := hS.to hb h2 ht
 clear hb h2 ht c0 k0
 have c0 := (hS.lk.pc 0 _ rfl).1
 have k0 := (hS.rc 0 _ rfl).1
 go_wp2_with fail
 refine (both_pflush hS.lk.both (by omega)).mono ?_
 rintro e w2 ⟨rfl, hb, h2, ht⟩
 replace hS := hS.to hb h2 ht
 clear hb h2 ht c0 k0
 have c0 := (hS.lk.pc 0 _ rfl).1
 have k0 := (hS.rc 0 _ rfl).1
 go_wp2_with fail
 refine (both_pmark hS.lk.both (by omega)).mono ?_
 rintro e w2 ⟨rfl, hb, h2, ht⟩
 replace hS := hS.to hb h2 ht
 clear hb h2 ht c0 k0
 have c0 := (hS.lk.pc 0 _ rfl).1
 have k0 := (hS.rc 0 _ rfl).1
 go_wp2_with fail
 refine (both_pflush hS.lk.both (by omega)).mono ?_
 rintro e w2 ⟨rfl, hb, h2, ht⟩
 replace hS := hS.to hb h2 ht
 clear hb h2 ht c0 k0
 have c0 := (hS.lk.pc 0 _ rfl).1
 have k0 := (hS.rc 0 _ rfl).1
 go_wp2
 go_ret
 exact ⟨rfl, hS.done (by omega) hE⟩
set_option maxHeartbeats 1000000 in
set_option maxRecDepth 100000 in
theorem pstep4_any {w : World} {B K : Nat} {Q : LkC} {ps : List ByteArray} {x y : Lst} {G : Nat → Prop} (h : Lk w B K Q ps x y G) (N : Int) (m : Nat) (hE : K + 5 ≤ 1000000) : Calls Tryz.prog 28 #[.pointer (some ⟨Q.lp, 0, none⟩), .agg #[.int .i64 4, .int .i64 N, .int .u64 (m : Int)]] w fun e w' => e = .returned (.nilIface) ∧ LkTo w B (K + 5) Q ps ⟨x.s.offer, x.s⟩ y G w' := by
 have hS := St.start h (stVs 4 N m) 56
 simp only [stVs] at hS
 clear h
 go_enter Tryz.func28, Tryz.ntmps28
 iterate 5 go_step
 generalize w.alloc (.cells #[.int .i64 4, .int .i64 N, .int .u64 (m : Int)] 56) = w1 at *
 generalize w.heap.size = sb at *

 have c0 := (hS.lk.pc 0 _ rfl).1
 have k0 := (hS.rc 0 _ rfl).1
 have c3 := (hS.lk.pc 3 _ rfl).1
 have f3 := (hS.lk.pc 3 _ rfl).2
 have hS2 := hS.setp x.s.offer (offer_fit hS.lk.both).1
 go_wp2_with fail
 refine (both_poffer hS.lk.both).mono ?_
 rintro e w2 ⟨rfl, rfl⟩
 obtain ⟨q, hq⟩ : ∃ q, q = x.s.offer := ⟨_, rfl⟩
 rw [← hq] at hS2 ⊢
 have HQ := Lib.hid hq
 clear hq
 go_wp2
 go_ret
 refine ⟨rfl, ?_⟩
 rw [← HQ.out]
 exact hS2.done (by omega) hE
def pcrV (Q : LkC) (sb m v : Nat) (g : Unit) : Nat → Value
 | 0 => .pointer (some ⟨Q.lp, 0, none⟩)
 | 1 => .pointer (some ⟨Q.lp, 0, none⟩)
 | 2 => .pointer (some ⟨Q.lp, 0, none⟩)
 | 3 => .pointer (some ⟨Q.p, 0, none⟩)
 | 4 => .pointer (some ⟨sb, 2, none⟩)
 | 5 => .int .u64 (m : Int)
 | 6 => .int .i64 (v : Int)
 | _ => undef
set_option maxHeartbeats 1000000 in
set_option maxRecDepth 100000 in
theorem pstep30_any {w : World} {B K : Nat} {Q : LkC} {ps : List ByteArray} {x y : Lst} {G : Nat → Prop} (h : Lk w B K Q ps x y G) (N : Int) (m : Nat) (hm : m < 18446744073709551616) (hn : numOf N % 4 = 0) (hE : K + 5 ≤ 1000000) : Calls Tryz.prog 28 #[.pointer (some ⟨Q.lp, 0, none⟩), .agg #[.int .i64 3, .int .i64 N, .int .u64 (m : Int)]] w fun e w' => e = .returned (.nilIface) ∧ LkTo w B (K + 5) Q ps ⟨x.f, (x.s).crash m⟩ y G w' := by
 obtain ⟨M, hM⟩ : ∃ M, M = numOf N := ⟨_, rfl⟩
 have M1 : IntKind.u64.wrap N = (M : Int) := by rw [hM]; exact num_wrap N
 have M2 : Int.tmod (M : Int) 4 = 0 := by rw [Int.tmod_eq_emod_of_nonneg (by omega)]; omega
 have M3 : (M : Int) % 4 = 0 := by omega
 clear hM hn
 have hS := St.start h (stVs 3 N m) 56
 simp only [stVs] at hS
 clear h
 go_enter Tryz.func28, Tryz.ntmps28
 iterate 5 go_step
 generalize w.alloc (.cells #[.int .i64 3, .int .i64 N, .int .u64 (m : Int)] 56) = w1 at *
 generalize w.heap.size = sb at *

 have c0 := (hS.lk.pc 0 _ rfl).1
 have k0 := (hS.rc 0 _ rfl).1
 have k1 := (hS.rc 1 _ rfl).1
 go_wp2
 obtain ⟨v, hv⟩ : ∃ v, v = ((x.s).crash m).sf := ⟨_, rfl⟩
 have HV0 := Lib.hid hv.symm
 clear hv M1 M2 M3 c0 k0 k1
 refine Flow.wp_region_go (by kernel_rfl) (by kernel_rfl) (by kernel_rfl) 106 rfl (by kernel_rfl) (pcrV Q sb m v) (fun _ L wz => St w wz B (cond (L 6) (K + 1) (K)) Q ps ⟨x.f, cond (L 6) ((x.s).crash m) (x.s)⟩ y G sb [.int .i64 3, .int .i64 N, .int .u64 (m : Int)]) (fun _ _ => False) (()) (hS.below (Below.refl _ _).drew) ⟨?_, ?_, ?_, ?_, ?_, ?_, ?_, trivial⟩ ?_ ?_
 ·intro g L wz K ρ hc0 hf0 hF hO hU hcl hi hd hC hK
  have e0 : ρ (.tmp 0) = .pointer (some ⟨Q.lp, 0, none⟩) := hO 0 (by kernel_rfl)
  simp [go_sem, Flow.ylP_value, Flow.ylP_skip, Flow.ylP_enter, Flow.ylP_panic, hc0, hf0, e0]
  exact hK g wz hC (fun _ _ => rfl)
 ·intro g L wz K ρ hc0 hf0 hF hO hU hcl hi hd hC hK
  have d0 : L 0 = true := hd ⟨0, .data⟩ (by simp) rfl
  have e89 : ρ (.tmp 89) = .pointer (some ⟨Q.lp, 0, none⟩) := hF 89 0 (by kernel_rfl) d0
  simp [go_sem, Flow.ylP_value, Flow.ylP_skip, Flow.ylP_enter, Flow.ylP_panic, hc0, hf0, e89]
  exact hK g wz hC (fun _ _ => rfl)
 ·intro g L wz K ρ hc0 hf0 hF hO hU hcl hi hd hC hK
  have d1 : L 1 = true := hd ⟨1, .data⟩ (by simp) rfl
  have e90 : ρ (.tmp 90) = .pointer (some ⟨Q.lp, 0, none⟩) := hF 90 1 (by kernel_rfl) d1
  simp [go_sem, Flow.ylP_value, Flow.ylP_skip, Flow.ylP_enter, Flow.ylP_panic, hc0, hf0, e90]
  exact hK g wz hC (fun _ _ => rfl)
 ·intro g L wz K ρ hc0 hf0 hF hO hU hcl hi hd hC hK
  have d2 : L 2 = true := hd ⟨2, .data⟩ (by simp) rfl
  have e91 : ρ (.tmp 91) = .pointer (some ⟨Q.lp, 0, none⟩) := hF 91 2 (by kernel_rfl) d2
  have cc := (hC.lk.pc 0 _ rfl).1
  simp [go_sem, Flow.ylP_value, Flow.ylP_skip, Flow.ylP_enter, Flow.ylP_panic, hc0, hf0, e91, cc]
  exact hK g wz hC (fun _ _ => rfl)
 ·intro g L wz K ρ hc0 hf0 hF hO hU hcl hi hd hC hK
  have e3 : ρ (.tmp 3) = .pointer (some ⟨sb, 0, none⟩) := hO 3 (by kernel_rfl)
  simp [go_sem, Flow.ylP_value, Flow.ylP_skip, Flow.ylP_enter, Flow.ylP_panic, hc0, hf0, e3]
  exact hK g wz hC (fun _ _ => rfl)
 ·intro g L wz K ρ hc0 hf0 hF hO hU hcl hi hd hC hK
  have d4 : L 4 = true := hd ⟨4, .data⟩ (by simp) rfl
  have e93 : ρ (.tmp 93) = .pointer (some ⟨sb, 2, none⟩) := hF 93 4 (by kernel_rfl) d4
  have cc := (hC.rc 2 _ rfl).1
  simp [go_sem, Flow.ylP_value, Flow.ylP_skip, Flow.ylP_enter, Flow.ylP_panic, hc0, hf0, e93, cc]
  exact hK g wz hC (fun _ _ => rfl)
 ·intro g L wz K ρ hc0 hf0 hF hO hU hcl hi hd hC hK
  have d3 : L 3 = true := hd ⟨3, .data⟩ (by simp) rfl
  have e92 : ρ (.tmp 92) = .pointer (some ⟨Q.p, 0, none⟩) := hF 92 3 (by kernel_rfl) d3
  have d5 : L 5 = true := hd ⟨5, .data⟩ (by simp) rfl
  have e94 : ρ (.tmp 94) = .int .u64 (m : Int) := hF 94 5 (by kernel_rfl) d5
  simp [go_sem, Flow.ylP_value, Flow.ylP_skip, Flow.ylP_enter, Flow.ylP_panic, hc0, hf0, e92, e94]
  simp only [hi, cond_false] at hC
  refine (both_pcrash hC.lk.both hm (by omega)).mono ?_
  rintro r wn ⟨rfl, hb, h2, ht⟩
  rw [HV0.out]
  exact ⟨_, rfl, hK () wn (hC.to hb h2 ht) (by intro j hj; unfold pcrV; split <;> first | rfl | (rw [hi] at hj; cases hj) | (have hz := hcl _ 6 (by kernel_rfl) hj; rw [hi] at hz; cases hz))⟩
 ·intro g L ch wz h; exact h.elim
 ·intro g L wz hL hC
  rw [hL 6 (by decide)] at hC
  simp only [Flow.putAll, pcrV]
  simp [Act.put]
  clear hS HV0
  simp only [cond_true] at hC
  have hS := hC
  clear hC
  have k0 := (hS.rc 0 _ rfl).1
  go_wp2
  go_ret
  exact ⟨rfl, hS.done (by omega) hE⟩
set_option maxHeartbeats 1000000 in
set_option maxRecDepth 100000 in
theorem pstep31_any {w : World} {B K : Nat} {Q : LkC} {ps : List ByteArray} {x y : Lst} {G : Nat → Prop} (h : Lk w B K Q ps x y G) (N : Int) (m : Nat) (hm : m < 18446744073709551616) (hn : numOf N % 4 = 1) (hE : K + 5 ≤ 1000000) : Calls Tryz.prog 28 #[.pointer (some ⟨Q.lp, 0, none⟩), .agg #[.int .i64 3, .int .i64 N, .int .u64 (m : Int)]] w fun e w' => e = .returned (.nilIface) ∧ LkTo w B (K + 5) Q ps ⟨x.f, (x.s.save).crash m⟩ y G w' := by
 obtain ⟨M, hM⟩ : ∃ M, M = numOf N := ⟨_, rfl⟩
 have M1 : IntKind.u64.wrap N = (M : Int) := by rw [hM]; exact num_wrap N
 have M2 : Int.tmod (M : Int) 4 = 1 := by rw [Int.tmod_eq_emod_of_nonneg (by omega)]; omega
 have M3 : (M : Int) % 4 = 1 := by omega
 clear hM hn
 have hS := St.start h (stVs 3 N m) 56
 simp only [stVs] at hS
 clear h
 go_enter Tryz.func28, Tryz.ntmps28
 iterate 5 go_step
 generalize w.alloc (.cells #[.int .i64 3, .int .i64 N, .int .u64 (m : Int)] 56) = w1 at *
 generalize w.heap.size = sb at *

 have c0 := (hS.lk.pc 0 _ rfl).1
 have k0 := (hS.rc 0 _ rfl).1
 have k1 := (hS.rc 1 _ rfl).1
 go_wp2_with fail
 refine (both_psave hS.lk.both (by omega)).mono ?_
 rintro e w2 ⟨rfl, hb, h2, ht⟩
 replace hS := hS.to hb h2 ht
 clear hb h2 ht c0 k0 k1
 have c0 := (hS.lk.pc 0 _ rfl).1
 have k0 := (hS.rc 0 _ rfl).1
 have k1 := (hS.rc 1 _ rfl).1
 go_wp2
 obtain ⟨v, hv⟩ : ∃ v, v = ((x.s.save).crash m).sf := ⟨_, rfl⟩
 have HV0 := Lib.hid hv.symm
 clear hv M1 M2 M3 c0 k0 k1
 refine Flow.wp_region_go (by kernel_rfl) (by kernel_rfl) (by kernel_rfl) 106 rfl (by kernel_rfl) (pcrV Q sb m v) (fun _ L wz => St w wz B (cond (L 6) (K + 1 + 1) (K + 1)) Q ps ⟨x.f, cond (L 6) ((x.s.save).crash m) (x.s.save)⟩ y G sb [.int .i64 3, .int .i64 N, .int .u64 (m : Int)]) (fun _ _ => False) (()) (hS.below (Below.refl _ _).drew) ⟨?_, ?_, ?_, ?_, ?_, ?_, ?_, trivial⟩ ?_ ?_
 ·intro g L wz K ρ hc0 hf0 hF hO hU hcl hi hd hC hK
  have e0 : ρ (.tmp 0) = .pointer (some ⟨Q.lp, 0, none⟩) := hO 0 (by kernel_rfl)
  simp [go_sem, Flow.ylP_value, Flow.ylP_skip, Flow.ylP_enter, Flow.ylP_panic, hc0, hf0, e0]
  exact hK g wz hC (fun _ _ => rfl)
 ·intro g L wz K ρ hc0 hf0 hF hO hU hcl hi hd hC hK
  have d0 : L 0 = true := hd ⟨0, .data⟩ (by simp) rfl
  have e89 : ρ (.tmp 89) = .pointer (some ⟨Q.lp, 0, none⟩) := hF 89 0 (by kernel_rfl) d0
  simp [go_sem, Flow.ylP_value, Flow.ylP_skip, Flow.ylP_enter, Flow.ylP_panic, hc0, hf0, e89]
  exact hK g wz hC (fun _ _ => rfl)
 ·intro g L wz K ρ hc0 hf0 hF hO hU hcl hi hd hC hK
  have d1 : L 1 = true := hd ⟨1, .data⟩ (by simp) rfl
  have e90 : ρ (.tmp 90) = .pointer (some ⟨Q.lp, 0, none⟩) := hF 90 1 (by kernel_rfl) d1
  simp [go_sem, Flow.ylP_value, Flow.ylP_skip, Flow.ylP_enter, Flow.ylP_panic, hc0, hf0, e90]
  exact hK g wz hC (fun _ _ => rfl)
 ·intro g L wz K ρ hc0 hf0 hF hO hU hcl hi hd hC hK
  have d2 : L 2 = true := hd ⟨2, .data⟩ (by simp) rfl
  have e91 : ρ (.tmp 91) = .pointer (some ⟨Q.lp, 0, none⟩) := hF 91 2 (by kernel_rfl) d2
  have cc := (hC.lk.pc 0 _ rfl).1
  simp [go_sem, Flow.ylP_value, Flow.ylP_skip, Flow.ylP_enter, Flow.ylP_panic, hc0, hf0, e91, cc]
  exact hK g wz hC (fun _ _ => rfl)
 ·intro g L wz K ρ hc0 hf0 hF hO hU hcl hi hd hC hK
  have e3 : ρ (.tmp 3) = .pointer (some ⟨sb, 0, none⟩) := hO 3 (by kernel_rfl)
  simp [go_sem, Flow.ylP_value, Flow.ylP_skip, Flow.ylP_enter, Flow.ylP_panic, hc0, hf0, e3]
  exact hK g wz hC (fun _ _ => rfl)
 ·intro g L wz K ρ hc0 hf0 hF hO hU hcl hi hd hC hK
  have d4 : L 4 = true := hd ⟨4, .data⟩ (by simp) rfl
  have e93 : ρ (.tmp 93) = .pointer (some ⟨sb, 2, none⟩) := hF 93 4 (by kernel_rfl) d4
  have cc := (hC.rc 2 _ rfl).1
  simp [go_sem, Flow.ylP_value, Flow.ylP_skip, Flow.ylP_enter, Flow.ylP_panic, hc0, hf0, e93, cc]
  exact hK g wz hC (fun _ _ => rfl)
 ·intro g L wz K ρ hc0 hf0 hF hO hU hcl hi hd hC hK
  have d3 : L 3 = true := hd ⟨3, .data⟩ (by simp) rfl
  have e92 : ρ (.tmp 92) = .pointer (some ⟨Q.p, 0, none⟩) := hF 92 3 (by kernel_rfl) d3
  have d5 : L 5 = true := hd ⟨5, .data⟩ (by simp) rfl
  have e94 : ρ (.tmp 94) = .int .u64 (m : Int) := hF 94 5 (by kernel_rfl) d5
  simp [go_sem, Flow.ylP_value, Flow.ylP_skip, Flow.ylP_enter, Flow.ylP_panic, hc0, hf0, e92, e94]
  simp only [hi, cond_false] at hC
  refine (both_pcrash hC.lk.both hm (by omega)).mono ?_
  rintro r wn ⟨rfl, hb, h2, ht⟩
  rw [HV0.out]
  exact ⟨_, rfl, hK () wn (hC.to hb h2 ht) (by intro j hj; unfold pcrV; split <;> first | rfl | (rw [hi] at hj; cases hj) | (have hz := hcl _ 6 (by kernel_rfl) hj; rw [hi] at hz; cases hz))⟩
 ·intro g L ch wz h; exact h.elim
 ·intro g L wz hL hC
  rw [hL 6 (by decide)] at hC
  simp only [Flow.putAll, pcrV]
  simp [Act.put]
  clear hS HV0
  simp only [cond_true] at hC
  have hS := hC
  clear hC
  have k0 := (hS.rc 0 _ rfl).1
  go_wp2
  go_ret
  exact ⟨rfl, hS.done (by omega) hE⟩
set_option maxHeartbeats 1000000 in
set_option maxRecDepth 100000 in
theorem pstep32_any {w : World} {B K : Nat} {Q : LkC} {ps : List ByteArray} {x y : Lst} {G : Nat → Prop} (h : Lk w B K Q ps x y G) (N : Int) (m : Nat) (hm : m < 18446744073709551616) (hn : numOf N % 4 = 2) (hE : K + 5 ≤ 1000000) : Calls Tryz.prog 28 #[.pointer (some ⟨Q.lp, 0, none⟩), .agg #[.int .i64 3, .int .i64 N, .int .u64 (m : Int)]] w fun e w' => e = .returned (.nilIface) ∧ LkTo w B (K + 5) Q ps ⟨x.f, (x.s.save.flush.mark).crash m⟩ y G w' := by
 obtain ⟨M, hM⟩ : ∃ M, M = numOf N := ⟨_, rfl⟩
 have M1 : IntKind.u64.wrap N = (M : Int) := by rw [hM]; exact num_wrap N
 have M2 : Int.tmod (M : Int) 4 = 2 := by rw [Int.tmod_eq_emod_of_nonneg (by omega)]; omega
 have M3 : (M : Int) % 4 = 2 := by omega
 clear hM hn
 have hS := St.start h (stVs 3 N m) 56
 simp only [stVs] at hS
 clear h
 go_enter Tryz.func28, Tryz.ntmps28
 iterate 5 go_step
 generalize w.alloc (.cells #[.int .i64 3, .int .i64 N, .int .u64 (m : Int)] 56) = w1 at *
 generalize w.heap.size = sb at *

 have c0 := (hS.lk.pc 0 _ rfl).1
 have k0 := (hS.rc 0 _ rfl).1
 have k1 := (hS.rc 1 _ rfl).1
 go_wp2_with fail
 refine (both_psave hS.lk.both (by omega)).mono ?_
 rintro e w2 ⟨rfl, hb, h2, ht⟩
 replace hS := hS.to hb h2 ht
 clear hb h2 ht c0 k0 k1
 have c0 := (hS.lk.pc 0 _ rfl).1
 have k0 := (hS.rc 0 _ rfl).1
 have k1 := (hS.rc 1 _ rfl).1
 go_wp2_with fail
 refine (both_pflush hS.lk.both (by omega)).mono ?_
 rintro e w2 ⟨rfl, hb, h2, ht⟩
 replace hS := hS.to hb h2 ht
 clear hb h2 ht c0 k0 k1
 have c0 := (hS.lk.pc 0 _ rfl).1
 have k0 := (hS.rc 0 _ rfl).1
 have k1 := (hS.rc 1 _ rfl).1
 go_wp2_with fail
 refine (both_pmark hS.lk.both (by omega)).mono ?_
 rintro e w2 ⟨rfl, hb, h2, ht⟩
 replace hS := hS.to hb h2 ht
 clear hb h2 ht c0 k0 k1
 have c0 := (hS.lk.pc 0 _ rfl).1
 have k0 := (hS.rc 0 _ rfl).1
 have k1 := (hS.rc 1 _ rfl).1
 go_wp2
 obtain ⟨v, hv⟩ : ∃ v, v = ((x.s.save.flush.mark).crash m).sf := ⟨_, rfl⟩
 have HV0 := Lib.hid hv.symm
 clear hv M1 M2 M3 c0 k0 k1
 refine Flow.wp_region_go (by kernel_rfl) (by kernel_rfl) (by kernel_rfl) 106 rfl (by kernel_rfl) (pcrV Q sb m v) (fun _ L wz => St w wz B (cond (L 6) (K + 1 + 1 + 1 + 1) (K + 1 + 1 + 1)) Q ps ⟨x.f, cond (L 6) ((x.s.save.flush.mark).crash m) (x.s.save.flush.mark)⟩ y G sb [.int .i64 3, .int .i64 N, .int .u64 (m : Int)]) (fun _ _ => False) (()) (hS.below (Below.refl _ _).drew) ⟨?_, ?_, ?_, ?_, ?_, ?_, ?_, trivial⟩ ?_ ?_
 ·intro g L wz K ρ hc0 hf0 hF hO hU hcl hi hd hC hK
  have e0 : ρ (.tmp 0) = .pointer (some ⟨Q.lp, 0, none⟩) := hO 0 (by kernel_rfl)
  simp [go_sem, Flow.ylP_value, Flow.ylP_skip, Flow.ylP_enter, Flow.ylP_panic, hc0, hf0, e0]
  exact hK g wz hC (fun _ _ => rfl)
 ·intro g L wz K ρ hc0 hf0 hF hO hU hcl hi hd hC hK
  have d0 : L 0 = true := hd ⟨0, .data⟩ (by simp) rfl
  have e89 : ρ (.tmp 89) = .pointer (some ⟨Q.lp, 0, none⟩) := hF 89 0 (by kernel_rfl) d0
  simp [go_sem, Flow.ylP_value, Flow.ylP_skip, Flow.ylP_enter, Flow.ylP_panic, hc0, hf0, e89]
  exact hK g wz hC (fun _ _ => rfl)
 ·intro g L wz K ρ hc0 hf0 hF hO hU hcl hi hd hC hK
  have d1 : L 1 = true := hd ⟨1, .data⟩ (by simp) rfl
  have e90 : ρ (.tmp 90) = .pointer (some ⟨Q.lp, 0, none⟩) := hF 90 1 (by kernel_rfl) d1
  simp [go_sem, Flow.ylP_value, Flow.ylP_skip, Flow.ylP_enter, Flow.ylP_panic, hc0, hf0, e90]
  exact hK g wz hC (fun _ _ => rfl)
 ·intro g L wz K ρ hc0 hf0 hF hO hU hcl hi hd hC hK
  have d2 : L 2 = true := hd ⟨2, .data⟩ (by simp) rfl
  have e91 : ρ (.tmp 91) = .pointer (some ⟨Q.lp, 0, none⟩) := hF 91 2 (by kernel_rfl) d2
  have cc := (hC.lk.pc 0 _ rfl).1
  simp [go_sem, Flow.ylP_value, Flow.ylP_skip, Flow.ylP_enter, Flow.ylP_panic, hc0, hf0, e91, cc]
  exact hK g wz hC (fun _ _ => rfl)
 ·intro g L wz K ρ hc0 hf0 hF hO hU hcl hi hd hC hK
  have e3 : ρ (.tmp 3) = .pointer (some ⟨sb, 0, none⟩) := hO 3 (by kernel_rfl)
  simp [go_sem, Flow.ylP_value, Flow.ylP_skip, Flow.ylP_enter, Flow.ylP_panic, hc0, hf0, e3]
  exact hK g wz hC (fun _ _ => rfl)
 ·intro g L wz K ρ hc0 hf0 hF hO hU hcl hi hd hC hK
  have d4 : L 4 = true := hd ⟨4, .data⟩ (by simp) rfl
  have e93 : ρ (.tmp 93) = .pointer (some ⟨sb, 2, none⟩) := hF 93 4 (by kernel_rfl) d4
  have cc := (hC.rc 2 _ rfl).1
  simp [go_sem, Flow.ylP_value, Flow.ylP_skip, Flow.ylP_enter, Flow.ylP_panic, hc0, hf0, e93, cc]
  exact hK g wz hC (fun _ _ => rfl)
 ·intro g L wz K ρ hc0 hf0 hF hO hU hcl hi hd hC hK
  have d3 : L 3 = true := hd ⟨3, .data⟩ (by simp) rfl
  have e92 : ρ (.tmp 92) = .pointer (some ⟨Q.p, 0, none⟩) := hF 92 3 (by kernel_rfl) d3
  have d5 : L 5 = true := hd ⟨5, .data⟩ (by simp) rfl
  have e94 : ρ (.tmp 94) = .int .u64 (m : Int) := hF 94 5 (by kernel_rfl) d5
  simp [go_sem, Flow.ylP_value, Flow.ylP_skip, Flow.ylP_enter, Flow.ylP_panic, hc0, hf0, e92, e94]
  simp only [hi, cond_false] at hC
  refine (both_pcrash hC.lk.both hm (by omega)).mono ?_
  rintro r wn ⟨rfl, hb, h2, ht⟩
  rw [HV0.out]
  exact ⟨_, rfl, hK () wn (hC.to hb h2 ht) (by intro j hj; unfold pcrV; split <;> first | rfl | (rw [hi] at hj; cases hj) | (have hz := hcl _ 6 (by kernel_rfl) hj; rw [hi] at hz; cases hz))⟩
 ·intro g L ch wz h; exact h.elim
 ·intro g L wz hL hC
  rw [hL 6 (by decide)] at hC
  simp only [Flow.putAll, pcrV]
  simp [Act.put]
  clear hS HV0
  simp only [cond_true] at hC
  have hS := hC
  clear hC
  have k0 := (hS.rc 0 _ rfl).1
  go_wp2
  go_ret
  exact ⟨rfl, hS.done (by omega) hE⟩
set_option maxHeartbeats 1000000 in
set_option maxRecDepth 100000 in
theorem pstep33_any {w : World} {B K : Nat} {Q : LkC} {ps : List ByteArray} {x y : Lst} {G : Nat → Prop} (h : Lk w B K Q ps x y G) (N : Int) (m : Nat) (hm : m < 18446744073709551616) (hn : numOf N % 4 = 3) (hE : K + 5 ≤ 1000000) : Calls Tryz.prog 28 #[.pointer (some ⟨Q.lp, 0, none⟩), .agg #[.int .i64 3, .int .i64 N, .int .u64 (m : Int)]] w fun e w' => e = .returned (.nilIface) ∧ LkTo w B (K + 5) Q ps ⟨x.f, (x.s.mark).crash m⟩ y G w' := by
 obtain ⟨M, hM⟩ : ∃ M, M = numOf N := ⟨_, rfl⟩
 have M1 : IntKind.u64.wrap N = (M : Int) := by rw [hM]; exact num_wrap N
 have M2 : Int.tmod (M : Int) 4 = 3 := by rw [Int.tmod_eq_emod_of_nonneg (by omega)]; omega
 have M3 : (M : Int) % 4 = 3 := by omega
 clear hM hn
 have hS := St.start h (stVs 3 N m) 56
 simp only [stVs] at hS
 clear h
 go_enter Tryz.func28, Tryz.ntmps28
 iterate 5 go_step
 generalize w.alloc (.cells #[.int .i64 3, .int .i64 N, .int .u64 (m : Int)] 56) = w1 at *
 generalize w.heap.size = sb at *

 have c0 := (hS.lk.pc 0 _ rfl).1
 have k0 := (hS.rc 0 _ rfl).1
 have k1 := (hS.rc 1 _ rfl).1
 go_wp2_with fail
 refine (both_pmark hS.lk.both (by omega)).mono ?_
 rintro e w2 ⟨rfl, hb, h2, ht⟩
 replace hS := hS.to hb h2 ht
 clear hb h2 ht c0 k0 k1
 have c0 := (hS.lk.pc 0 _ rfl).1
 have k0 := (hS.rc 0 _ rfl).1
 have k1 := (hS.rc 1 _ rfl).1
 go_wp2
 obtain ⟨v, hv⟩ : ∃ v, v = ((x.s.mark).crash m).sf := ⟨_, rfl⟩
 have HV0 := Lib.hid hv.symm
 clear hv M1 M2 M3 c0 k0 k1
 refine Flow.wp_region_go (by kernel_rfl) (by kernel_rfl) (by kernel_rfl) 106 rfl (by kernel_rfl) (pcrV Q sb m v) (fun _ L wz => St w wz B (cond (L 6) (K + 1 + 1) (K + 1)) Q ps ⟨x.f, cond (L 6) ((x.s.mark).crash m) (x.s.mark)⟩ y G sb [.int .i64 3, .int .i64 N, .int .u64 (m : Int)]) (fun _ _ => False) (()) (hS.below (Below.refl _ _).drew) ⟨?_, ?_, ?_, ?_, ?_, ?_, ?_, trivial⟩ ?_ ?_
 ·intro g L wz K ρ hc0 hf0 hF hO hU hcl hi hd hC hK
  have e0 : ρ (.tmp 0) = .pointer (some ⟨Q.lp, 0, none⟩) := hO 0 (by kernel_rfl)
  simp [go_sem, Flow.ylP_value, Flow.ylP_skip, Flow.ylP_enter, Flow.ylP_panic, hc0, hf0, e0]
  exact hK g wz hC (fun _ _ => rfl)
 ·intro g L wz K ρ hc0 hf0 hF hO hU hcl hi hd hC hK
  have d0 : L 0 = true := hd ⟨0, .data⟩ (by simp) rfl
  have e89 : ρ (.tmp 89) = .pointer (some ⟨Q.lp, 0, none⟩) := hF 89 0 (by kernel_rfl) d0
  simp [go_sem, Flow.ylP_value, Flow.ylP_skip, Flow.ylP_enter, Flow.ylP_panic, hc0, hf0, e89]
  exact hK g wz hC (fun _ _ => rfl)
 ·intro g L wz K ρ hc0 hf0 hF hO hU hcl hi hd hC hK
  have d1 : L 1 = true := hd ⟨1, .data⟩ (by simp) rfl
  have e90 : ρ (.tmp 90) = .pointer (some ⟨Q.lp, 0, none⟩) := hF 90 1 (by kernel_rfl) d1
  simp [go_sem, Flow.ylP_value, Flow.ylP_skip, Flow.ylP_enter, Flow.ylP_panic, hc0, hf0, e90]
  exact hK g wz hC (fun _ _ => rfl)
 ·intro g L wz K ρ hc0 hf0 hF hO hU hcl hi hd hC hK
  have d2 : L 2 = true := hd ⟨2, .data⟩ (by simp) rfl
  have e91 : ρ (.tmp 91) = .pointer (some ⟨Q.lp, 0, none⟩) := hF 91 2 (by kernel_rfl) d2
  have cc := (hC.lk.pc 0 _ rfl).1
  simp [go_sem, Flow.ylP_value, Flow.ylP_skip, Flow.ylP_enter, Flow.ylP_panic, hc0, hf0, e91, cc]
  exact hK g wz hC (fun _ _ => rfl)
 ·intro g L wz K ρ hc0 hf0 hF hO hU hcl hi hd hC hK
  have e3 : ρ (.tmp 3) = .pointer (some ⟨sb, 0, none⟩) := hO 3 (by kernel_rfl)
  simp [go_sem, Flow.ylP_value, Flow.ylP_skip, Flow.ylP_enter, Flow.ylP_panic, hc0, hf0, e3]
  exact hK g wz hC (fun _ _ => rfl)
 ·intro g L wz K ρ hc0 hf0 hF hO hU hcl hi hd hC hK
  have d4 : L 4 = true := hd ⟨4, .data⟩ (by simp) rfl
  have e93 : ρ (.tmp 93) = .pointer (some ⟨sb, 2, none⟩) := hF 93 4 (by kernel_rfl) d4
  have cc := (hC.rc 2 _ rfl).1
  simp [go_sem, Flow.ylP_value, Flow.ylP_skip, Flow.ylP_enter, Flow.ylP_panic, hc0, hf0, e93, cc]
  exact hK g wz hC (fun _ _ => rfl)
 ·intro g L wz K ρ hc0 hf0 hF hO hU hcl hi hd hC hK
  have d3 : L 3 = true := hd ⟨3, .data⟩ (by simp) rfl
  have e92 : ρ (.tmp 92) = .pointer (some ⟨Q.p, 0, none⟩) := hF 92 3 (by kernel_rfl) d3
  have d5 : L 5 = true := hd ⟨5, .data⟩ (by simp) rfl
  have e94 : ρ (.tmp 94) = .int .u64 (m : Int) := hF 94 5 (by kernel_rfl) d5
  simp [go_sem, Flow.ylP_value, Flow.ylP_skip, Flow.ylP_enter, Flow.ylP_panic, hc0, hf0, e92, e94]
  simp only [hi, cond_false] at hC
  refine (both_pcrash hC.lk.both hm (by omega)).mono ?_
  rintro r wn ⟨rfl, hb, h2, ht⟩
  rw [HV0.out]
  exact ⟨_, rfl, hK () wn (hC.to hb h2 ht) (by intro j hj; unfold pcrV; split <;> first | rfl | (rw [hi] at hj; cases hj) | (have hz := hcl _ 6 (by kernel_rfl) hj; rw [hi] at hz; cases hz))⟩
 ·intro g L ch wz h; exact h.elim
 ·intro g L wz hL hC
  rw [hL 6 (by decide)] at hC
  simp only [Flow.putAll, pcrV]
  simp [Act.put]
  clear hS HV0
  simp only [cond_true] at hC
  have hS := hC
  clear hC
  have k0 := (hS.rc 0 _ rfl).1
  go_wp2
  go_ret
  exact ⟨rfl, hS.done (by omega) hE⟩
set_option maxHeartbeats 1000000 in
set_option maxRecDepth 100000 in
theorem pstep0_any {w : World} {B K : Nat} {Q : LkC} {ps : List ByteArray} {x y : Lst} {G : Nat → Prop} (h : Lk w B K Q ps x y G) {kd : Int} (N : Int) (m : Nat) (n1 : kd ≠ 1) (n2 : kd ≠ 2) (n3 : kd ≠ 3) (n4 : kd ≠ 4) (n5 : kd ≠ 5) (hE : K + 5 ≤ 1000000) : Calls Tryz.prog 28 #[.pointer (some ⟨Q.lp, 0, none⟩), .agg #[.int .i64 kd, .int .i64 N, .int .u64 (m : Int)]] w fun e w' => e = .returned (errV (1)) ∧ LkTo w B (K + 5) Q ps ⟨x.f, x.s⟩ y G w' := by
 have T1 := beq_eq_false_iff_ne.2 n1
 have T2 := beq_eq_false_iff_ne.2 n2
 have T3 := beq_eq_false_iff_ne.2 n3
 have T4 := beq_eq_false_iff_ne.2 n4
 have T5 := beq_eq_false_iff_ne.2 n5
 have hS := St.start h (stVs kd N m) 56
 simp only [stVs] at hS
 clear h
 go_enter Tryz.func28, Tryz.ntmps28
 iterate 5 go_step
 generalize w.alloc (.cells #[.int .i64 kd, .int .i64 N, .int .u64 (m : Int)] 56) = w1 at *
 generalize w.heap.size = sb at *

 have c0 := (hS.lk.pc 0 _ rfl).1
 have k0 := (hS.rc 0 _ rfl).1
 go_wp2
 go_ret
 exact ⟨rfl, hS.done (by omega) hE⟩
set_option maxHeartbeats 1000000 in
set_option maxRecDepth 100000 in
theorem pstep1_any {w : World} {B K : Nat} {Q : LkC} {ps : List ByteArray} {x y : Lst} {G : Nat → Prop} (h : Lk w B K Q ps x y G) (N : Int) (m : Nat) (hm : m < 18446744073709551616) (hE : K + 5 ≤ 1000000) : Calls Tryz.prog 28 #[.pointer (some ⟨Q.lp, 0, none⟩), .agg #[.int .i64 1, .int .i64 N, .int .u64 (m : Int)]] w fun e w' => e = .returned (errV (sentE 1 x.s m (pick1 ps Q.z x.f N))) ∧ LkTo w B (K + 5) Q ps ⟨x.f, sentS 1 x.s m (pick1 ps Q.z x.f N)⟩ y G w' := by
 have hS := St.start h (stVs 1 N m) 56
 simp only [stVs] at hS
 clear h
 go_enter Tryz.func28, Tryz.ntmps28
 iterate 5 go_step
 generalize w.alloc (.cells #[.int .i64 1, .int .i64 N, .int .u64 (m : Int)] 56) = w1 at *
 generalize w.heap.size = sb at *

 have c0 := (hS.lk.pc 0 _ rfl).1
 have k0 := (hS.rc 0 _ rfl).1
 have k1 := (hS.rc 1 _ rfl).1
 have k2 := (hS.rc 2 _ rfl).1
 go_wp2_with fail
 refine (ppiece_any hS.lk N).mono ?_
 rintro e w2 ⟨rfl, hb⟩
 replace hS := hS.below hb
 clear hb c0 k0 k1 k2
 have c0 := (hS.lk.pc 0 _ rfl).1
 have k0 := (hS.rc 0 _ rfl).1
 have k1 := (hS.rc 1 _ rfl).1
 have k2 := (hS.rc 2 _ rfl).1
 cases hp : pick1 ps Q.z x.f N with
 | none =>
  simp only [pieceV]
  have HT := Lib.hid hp
  clear hp
  go_wp2
  go_ret
  rw [HT.out]
  exact ⟨rfl, hS.done (by omega) hE⟩
 | some t =>
  simp only [pieceV]
  have HT := Lib.hid hp
  obtain ⟨hz1, hz2⟩ := hS.lk.sz t (pick1_mem hp)
  clear hp
  obtain ⟨tt, htt⟩ : ∃ tt, tt = t := ⟨_, rfl⟩
  have HTT := Lib.hid htt
  have HT5 : Hid (tt.size ≤ 1000000) := Lib.hid (by rw [htt]; omega)
  rw [← htt]
  clear htt hz1 hz2
  go_wp2_with fail
  refine (both_ptake tt hS.lk.both HT5.out (by omega)).mono ?_
  rintro e w2 ⟨rfl, hb, h2, ht⟩
  replace hS := hS.to hb h2 ht
  clear hb h2 ht c0 k0 k1 k2
  go_wp2
  go_ret
  rw [HT.out]
  have eT : sentT 1 t m = tt := by rw [HTT.out]; unfold sentT; rw [if_neg (by decide)]
  simp only [sentE, sentS, eT]
  exact ⟨rfl, hS.done (by omega) hE⟩
set_option maxHeartbeats 1000000 in
set_option maxRecDepth 100000 in
theorem pstep5_any {w : World} {B K : Nat} {Q : LkC} {ps : List ByteArray} {x y : Lst} {G : Nat → Prop} (h : Lk w B K Q ps x y G) (N : Int) (m : Nat) (hm : m < 18446744073709551616) (hE : K + 5 ≤ 1000000) : Calls Tryz.prog 28 #[.pointer (some ⟨Q.lp, 0, none⟩), .agg #[.int .i64 5, .int .i64 N, .int .u64 (m : Int)]] w fun e w' => e = .returned (errV (sentE 5 x.s m (pick1 ps Q.z x.f N))) ∧ LkTo w B (K + 5) Q ps ⟨x.f, sentS 5 x.s m (pick1 ps Q.z x.f N)⟩ y G w' := by
 have hS := St.start h (stVs 5 N m) 56
 simp only [stVs] at hS
 clear h
 go_enter Tryz.func28, Tryz.ntmps28
 iterate 5 go_step
 generalize w.alloc (.cells #[.int .i64 5, .int .i64 N, .int .u64 (m : Int)] 56) = w1 at *
 generalize w.heap.size = sb at *

 have c0 := (hS.lk.pc 0 _ rfl).1
 have k0 := (hS.rc 0 _ rfl).1
 have k1 := (hS.rc 1 _ rfl).1
 have k2 := (hS.rc 2 _ rfl).1
 go_wp2_with fail
 refine (ppiece_any hS.lk N).mono ?_
 rintro e w2 ⟨rfl, hb⟩
 replace hS := hS.below hb
 clear hb c0 k0 k1 k2
 have c0 := (hS.lk.pc 0 _ rfl).1
 have k0 := (hS.rc 0 _ rfl).1
 have k1 := (hS.rc 1 _ rfl).1
 have k2 := (hS.rc 2 _ rfl).1
 cases hp : pick1 ps Q.z x.f N with
 | none =>
  simp only [pieceV]
  have HT := Lib.hid hp
  clear hp
  go_wp2
  go_ret
  rw [HT.out]
  exact ⟨rfl, hS.done (by omega) hE⟩
 | some t =>
  simp only [pieceV]
  have HT := Lib.hid hp
  obtain ⟨hz1, hz2⟩ := hS.lk.sz t (pick1_mem hp)
  clear hp
  go_wp2_with fail
  refine (Turn.turn_any t m _ (by omega) (by omega) hz1).mono ?_
  rintro e w3 ⟨rfl, hb⟩
  replace hS := hS.below hb
  clear hb c0 k0 k1 k2
  have c0 := (hS.lk.pc 0 _ rfl).1
  have k0 := (hS.rc 0 _ rfl).1
  have k1 := (hS.rc 1 _ rfl).1
  have k2 := (hS.rc 2 _ rfl).1
  obtain ⟨tt, htt⟩ : ∃ tt, tt = turnB t m := ⟨_, rfl⟩
  have HTT := Lib.hid htt
  have HT5 : Hid (tt.size ≤ 1000000) := Lib.hid (by rw [htt, turnB_size]; omega)
  rw [show (⟨(Turn.turn t.data.toList m).toArray⟩ : ByteArray) = tt from htt.symm]
  clear htt hz1 hz2
  go_wp2_with fail
  refine (both_ptake tt hS.lk.both HT5.out (by omega)).mono ?_
  rintro e w2 ⟨rfl, hb, h2, ht⟩
  replace hS := hS.to hb h2 ht
  clear hb h2 ht c0 k0 k1 k2
  go_wp2
  go_ret
  rw [HT.out]
  have eT : sentT 5 t m = tt := by rw [HTT.out]; unfold sentT; rw [if_pos rfl]
  simp only [sentE, sentS, eT]
  exact ⟨rfl, hS.done (by omega) hE⟩
/-- Step, any kind. -/
theorem pstep_any {w : World} {B K : Nat} {Q : LkC} {ps : List ByteArray} {x y : Lst} {G : Nat → Prop} (h : Lk w B K Q ps x y G) (kd N : Int) (m : Nat) (hm : m < 18446744073709551616) (hE : K + 5 ≤ 1000000) : Calls Tryz.prog 28 #[.pointer (some ⟨Q.lp, 0, none⟩), .agg #[.int .i64 kd, .int .i64 N, .int .u64 (m : Int)]] w fun e w' => e = .returned (errV (stepE ps Q.z x kd N m)) ∧ LkTo w B (K + 5) Q ps (stepL ps Q.z x kd N m) y G w' := by
 unfold stepE stepL
 by_cases n1 : kd = 1
 ·subst n1
  rw [if_pos (.inl rfl), if_pos (.inl rfl)]
  exact pstep1_any h N m hm hE
 by_cases n5 : kd = 5
 ·subst n5
  rw [if_pos (.inr rfl), if_pos (.inr rfl)]
  exact pstep5_any h N m hm hE
 have n15 : ¬ (kd = 1 ∨ kd = 5) := by omega
 rw [if_neg n15, if_neg n15]
 by_cases n2 : kd = 2
 ·subst n2
  rw [if_pos (.inl rfl), if_pos rfl]
  exact pstep2_any h N m hE
 by_cases n3 : kd = 3
 ·subst n3
  rw [if_pos (.inr (.inl rfl)), if_neg (by decide), if_pos rfl]
  have h4 : numOf N % 4 < 4 := Nat.mod_lt _ (by decide)
  by_cases m0 : numOf N % 4 = 0
  ·rw [show preS x.s (numOf N % 4) = x.s by unfold preS; rw [if_neg (by omega), if_neg (by omega), if_neg (by omega)]]
   exact pstep30_any h N m hm m0 hE
  by_cases m1 : numOf N % 4 = 1
  ·rw [show preS x.s (numOf N % 4) = x.s.save by unfold preS; rw [if_pos m1]]
   exact pstep31_any h N m hm m1 hE
  by_cases m2 : numOf N % 4 = 2
  ·rw [show preS x.s (numOf N % 4) = x.s.save.flush.mark by unfold preS; rw [if_neg m1, if_pos m2]]
   exact pstep32_any h N m hm m2 hE
  ·have m3 : numOf N % 4 = 3 := by omega
   rw [show preS x.s (numOf N % 4) = x.s.mark by unfold preS; rw [if_neg m1, if_neg m2, if_pos m3]]
   exact pstep33_any h N m hm m3 hE
 by_cases n4 : kd = 4
 ·subst n4
  rw [if_pos (.inr (.inr rfl)), if_neg (by decide), if_neg (by decide), if_pos rfl]
  exact pstep4_any h N m hE
 have n234 : ¬ (kd = 2 ∨ kd = 3 ∨ kd = 4) := by omega
 rw [if_neg n234, if_neg n2, if_neg n3, if_neg n4]
 exact pstep0_any h N m n1 n2 n3 n4 n5 hE
end Go.Proofs.YtfefpcdgflgaeaaGreatDoor
end
