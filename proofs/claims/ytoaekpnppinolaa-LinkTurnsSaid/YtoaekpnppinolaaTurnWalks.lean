/- The Go functions Turn of package link and of the reference, and pow, compute what the plain functions of TurnLaw say. -/
import Derived.Test.YtoaekpnppinolaaProg
import Derived.Test.YtoaekpnppinolaaBytes
import Derived.Test.YtoaekpnppinolaaTurnLaw
import Derived.WalkKit
import Derived.WalkLawsBesides
import Derived.WalkSpells
import Derived.Outline
import Derived.Lib.Hide
import Derived.Laws.BitsAllLaws
import Derived.RegionTactic
import Derived.StillTailTactics
import Derived.IntWalk
namespace Go.Proofs.Ytoaekpnppinolaa.Turn
open Go.RowKit
theorem turn_small (s : ByteArray) (m : Int) (w : World) (h4 : s.size < 4) :
    Calls Try.prog 16 #[.string s, .int .u64 m] w fun e w' => e = .returned (.string s) ∧ w = w' := by
  go_enter Try.func16, Try.ntmps16
  go_wp2
  go_ret
  exact ⟨rfl, rfl⟩
theorem two_lt (r : Nat) (hr : r < 8) : 2 ^ r < 256 := by
  have : 2 ^ r ≤ 2 ^ 7 := Nat.pow_le_pow_right (by omega) (by omega)
  omega
theorem byte_lt (b : UInt8) (r : Nat) (hr : r < 8) : b.toNat ^^^ 2 ^ r < 256 := Nat.xor_lt_two_pow (n := 8) b.toNat_lt (two_lt r hr)
theorem byte_xor (b : UInt8) (r : Nat) (hr : r < 8) : bits BinOp.xor IntKind.u8 (b.toNat : Int) (IntKind.u8.wrap (2 ^ r)) = ((b.toNat ^^^ 2 ^ r : Nat) : Int) := by
  have hp := two_lt r hr
  have e : IntKind.u8.wrap ((2 : Int) ^ r) = ((2 ^ r : Nat) : Int) := by
    have e0 : ((2 ^ r : Nat) : Int) = (2 : Int) ^ r := by simp
    rw [← e0, IntKind.wrap_u8']
    generalize 2 ^ r = q at hp
    omega
  rw [e, u8_xor_nat _ _ b.toNat_lt hp]
theorem bit_eq (m k : Nat) (hm : m ≤ 18446744073709551615) : bits BinOp.and IntKind.u64 ((m : Int) / 2 ^ k) 1 = ((m / 2 ^ k % 2 : Nat) : Int) := by
  have h : m / 2 ^ k ≤ m := Nat.div_le_self _ _
  have e0 : ((m / 2 ^ k : Nat) : Int) = (m : Int) / 2 ^ k := by simp
  have e := u64_and_nat (m / 2 ^ k) 1 (by omega) (by omega)
  rw [nat_mask1, e0] at e
  exact e
theorem turn_eq (l : List UInt8) (m : Nat) (h : 4 ≤ l.length) : turn l m = to l m (m / 4294967296 % (8 * l.length - 31)) 32 := by unfold turn; rw [if_neg (by omega)]
set_option maxRecDepth 100000 in
theorem turn_any (s : ByteArray) (m : Nat) (w : World) (hs : s.size ≤ 500) (hm1 : m ≤ 18446744073709551615) (h4 : 4 ≤ s.size) :
    Calls Try.prog 16 #[.string s, .int .u64 (m : Int)] w fun e w' => e = .returned (.string ⟨(turn s.data.toList m).toArray⟩) ∧ Below w.heap.size w w' := by
  obtain ⟨C, W, hcv, hB, hbel⟩ := bytes_of (P := Try.prog) w 9 63 5 s Try.underlying9 Try.underlying63 Try.underlying5
  obtain ⟨a, ha⟩ : ∃ a, a = m / 4294967296 % (8 * s.size - 31) := ⟨_, rfl⟩
  have haL : a < 8 * s.size - 31 := by rw [ha]; exact Nat.mod_lt _ (by omega)
  have hA : (m : Int) / 4294967296 % (8 * (s.size : Int) - 31) = (a : Int) := by
    rw [ha, Int.natCast_emod, Int.natCast_ediv]
    congr 1
    omega
  have HA := Lib.hid ha
  clear ha
  have d4 : decide ((s.size : Int) < 4) = false := by simp; omega
  go_enter Try.func16, Try.ntmps16
  go_wp2
  go_loopw [7, 23] (fun _ i wr => (∃ k : Nat, k ≤ 32 ∧ i = .int .i64 k ∧ BytesAt wr w.heap.size (to s.data.toList m a k)) ∧ Below w.heap.size w wr) (fun _ i _ => 32 - (intOf i).toNat)
  case atStart => exact ⟨⟨0, by omega, rfl, hB⟩, hbel⟩
  case round =>
    obtain ⟨⟨k, hk, rfl, hb⟩, hbw⟩ := hrel
    have hlen := Lib.hid (to_len s.data.toList m a k)
    clear hA
    by_cases hlt : k < 32
    · have hbit := Lib.hid (bit_eq m k)
      by_cases h1 : m / 2 ^ k % 2 = 1
      · have hs1 := Lib.hid (to_yes s.data.toList m a k h1)
        have ht : (bits BinOp.and IntKind.u64 ((m : Int) / 2 ^ k) 1 == 1) = true := by rw [hbit.out hm1, h1]; rfl
        have hj : (a + k) / 8 < (to s.data.toList m a k).length := by rw [hlen.out]; simp; omega
        obtain ⟨hc, hf⟩ := hb _ hj
        have hset := Lib.hid (hb.set_nat _ (((to s.data.toList m a k).getD ((a + k) / 8) 0).toNat ^^^ 2 ^ ((a + k) % 8)) (byte_lt _ _ (Nat.mod_lt _ (by omega))) hj)
        have e1 : IntKind.i64.wrap ((a : Int) + (k : Int)) = (a : Int) + (k : Int) := IntWalk.i64_in _ (by omega)
        obtain ⟨q, hq⟩ : ∃ q, q = (a + k) / 8 := ⟨_, rfl⟩
        obtain ⟨r, hr⟩ : ∃ r, r = (a + k) % 8 := ⟨_, rfl⟩
        have hr8 : r < 8 := by omega
        have e2 : IntKind.i64.wrap (((a : Int) + (k : Int)).tdiv 8) = (q : Int) := by rw [Int.tdiv_eq_ediv_of_nonneg (by omega), IntWalk.i64_in _ (by omega)]; omega
        have e3 : ((a : Int) + (k : Int)).tmod 8 = (r : Int) := by rw [Int.tmod_eq_emod_of_nonneg (by omega)]; omega
        have e4 : IntKind.i64.wrap (r : Int) = (r : Int) := IntWalk.i64_in _ (by omega)
        have hqs : q < s.size := by omega
        have hqi : (q : Int) < (s.size : Int) := by omega
        rw [← hq] at hc hf
        have HQ := Lib.hid hq
        have HR := Lib.hid hr
        clear hq hr
        have hv := Lib.hid (byte_xor ((to s.data.toList m a k).getD q 0) r hr8)
        go_wp2_with fail
        go_still_tail 14, (by kernel_rfl)
        change wpList _ _ _ _ _ wr.drew
        have hv' := hv.out
        simp only [List.getD_eq_getElem?_getD] at hv'
        rw [hv']
        clear hv'
        go_wp2
        go_roundw
        case rel =>
          refine ⟨⟨k + 1, by omega, by go_num, ?_⟩, (hbw.setCell (Nat.le_refl _) _).drew⟩
          rw [hs1.out, HQ.out, HR.out]
          have h2 := hset.out
          simp only [List.getD_eq_getElem?_getD] at h2
          exact h2
        case measure => simp [intOf]; omega
      · have hs1 := Lib.hid (to_no s.data.toList m a k h1)
        have ht : (bits BinOp.and IntKind.u64 ((m : Int) / 2 ^ k) 1 == 1) = false := by rw [hbit.out hm1, beq_eq_false_iff_ne]; omega
        go_wp2_with fail
        go_roundw
        case rel => exact ⟨⟨k + 1, by omega, by go_num, by rw [hs1.out]; exact hb⟩, hbw⟩
        case measure => simp [intOf]; omega
    · obtain rfl : k = 32 := by omega
      have hstr := Lib.hid (string_of (P := Try.prog) wr 63 5 9 w.heap.size C _ Try.underlying63 Try.underlying5 Try.underlying9 hb)
      have hst2 := hstr.out
      rw [hlen.out] at hst2
      have hz : s.data.toList.length = s.size := by simp
      rw [hz] at hst2
      go_wp2_with fail
      go_ret
      exact ⟨by rw [turn_eq _ _ (by simpa using h4), hz, ← HA.out]; rfl, hbw⟩
end Go.Proofs.Ytoaekpnppinolaa.Turn
