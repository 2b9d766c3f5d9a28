/- The Go functions pow and Turn of the reference compute what the plain functions of TurnLaw say. -/
import Derived.Test.YtoaekpnppinolaaTurnWalks
import Derived.Test.YtoaekpnppinolaaQuiet
namespace Go.Proofs.Ytoaekpnppinolaa.Turn
open Go.RowKit
theorem pow_any (n k : Nat) (w : World) (hn : 1 ≤ n) (hk : k ≤ 1000) (h : n ^ k < 18446744073709551616) :
    Calls Try.prog 42 #[.int .u64 (n : Int), .int .i64 (k : Int)] w fun e w' => e = .returned (.int .u64 ((n ^ k : Nat) : Int)) ∧ w' = w := by
  obtain ⟨z, hz⟩ : ∃ z, z = n ^ k := ⟨_, rfl⟩
  rw [← hz] at h ⊢
  have Hz := Lib.hid hz
  clear hz
  go_enter Try.func42, Try.ntmps42
  go_wp2
  go_loop [5, 7] (fun v i => ∃ j x : Nat, j ≤ k ∧ i = .int .i64 j ∧ v = .int .u64 x ∧ x = n ^ j) (fun _ i => k - (intOf i).toNat)
  case atStart => exact ⟨0, 1, by omega, rfl, rfl, rfl⟩
  case round =>
    obtain ⟨j, x, hj, rfl, rfl, hx⟩ := hrel
    have Hx := Lib.hid hx
    clear hx
    by_cases hlt : j < k
    · have hle : x * n ≤ z := by
        rw [Hx.out, Hz.out, ← Nat.pow_succ]
        exact Nat.pow_le_pow_right hn hlt
      have hlt2 : (x : Int) * (n : Int) ≤ 18446744073709551615 := by
        have : ((x * n : Nat) : Int) ≤ (z : Int) := by omega
        rw [Int.natCast_mul] at this
        omega
      have h0 : (0 : Int) ≤ (x : Int) * (n : Int) := by rw [← Int.natCast_mul]; omega
      go_wp2
      go_round
      case rel => exact ⟨j + 1, x * n, by omega, by go_num, valI (by simp), by rw [Nat.pow_succ, Hx.out]⟩
      case measure => simp [intOf]; omega
    · obtain rfl : j = k := by omega
      go_wp2
      go_ret
      exact ⟨by rw [Hz.out, ← Hx.out]; rfl, rfl⟩
theorem rturn_small (s : ByteArray) (m : Int) (w : World) (h4 : s.size < 4) :
    Calls Try.prog 17 #[.string s, .int .u64 m] w fun e w' => e = .returned (.string s) ∧ w = w' := by
  go_enter Try.func17, Try.ntmps17
  go_wp2
  go_ret
  exact ⟨rfl, rfl⟩
theorem pow_32 (w : World) : Calls Try.prog 42 #[.int .u64 2, .int .i64 32] w fun e w' => e = .returned (.int .u64 4294967296) ∧ w' = w := by
  have h := pow_any 2 32 w (by omega) (by omega) (by decide)
  have e : (((2 : Nat) ^ 32 : Nat) : Int) = 4294967296 := by decide
  rw [e] at h
  exact h
set_option maxRecDepth 100000 in
theorem rturn_any (s : ByteArray) (m : Nat) (w : World) (hs : s.size ≤ 500) (hm1 : m ≤ 18446744073709551615) (h4 : 4 ≤ s.size) :
    Calls Try.prog 17 #[.string s, .int .u64 (m : Int)] w fun e w' => e = .returned (.string ⟨(turn s.data.toList m).toArray⟩) ∧ Below w.heap.size w w' := by
  obtain ⟨a, ha⟩ : ∃ a, a = m / 4294967296 % (8 * s.size - 31) := ⟨_, rfl⟩
  obtain ⟨lo, hlo⟩ : ∃ lo, lo = m % 4294967296 := ⟨_, rfl⟩
  have haL : a < 8 * s.size - 31 := by rw [ha]; exact Nat.mod_lt _ (by omega)
  have hA : (m : Int) / 4294967296 % (8 * (s.size : Int) - 31) = (a : Int) := by
    rw [ha, Int.natCast_emod, Int.natCast_ediv]
    congr 1
    omega
  have hL : (m : Int) % 4294967296 = (lo : Int) := by omega
  have HA := Lib.hid ha
  have HL := Lib.hid hlo
  clear ha hlo
  have d4 : decide ((s.size : Int) < 4) = false := by simp; omega
  go_enter Try.func17, Try.ntmps17
  go_wp2
  go_quiet ((go_at_call 42; exact Calls.quiet_of_same (pow_32 _)))
  obtain ⟨C, W, hcv, hB, hbel0⟩ := bytes_of (P := Try.prog) (w.drewN nq) 9 63 5 s Try.underlying9 Try.underlying63 Try.underlying5
  have hbel : Below w.heap.size w W := (below_drewN (Below.refl _ w) nq).trans hbel0
  change (convert _ _ _).run _ _ = .ok (.slice (some ⟨w.heap.size, 0, none⟩) s.size C) W at hcv
  change BytesAt W w.heap.size _ at hB
  clear hbel0
  go_wp2
  clear hA
  go_loopw [5, 8, 9] (fun v i _ wr => (∃ k x : Nat, k ≤ 32 ∧ i = .int .i64 k ∧ v = .int .u64 x ∧ x = m % 4294967296 / 2 ^ k ∧ BytesAt wr w.heap.size (to s.data.toList m a k)) ∧ Below w.heap.size w wr) (fun _ i _ _ => 33 - (intOf i).toNat)
  case atStart => exact ⟨⟨0, m % 4294967296, by omega, rfl, valI (by omega), by simp, hB⟩, hbel⟩
  case round =>
    obtain ⟨⟨k, x, hk, rfl, rfl, hx, hb⟩, hbw⟩ := hrel
    have hlen := Lib.hid (to_len s.data.toList m a k)
    have HX := Lib.hid hx
    have hx32 : x < 4294967296 := by rw [hx]; exact Nat.lt_of_le_of_lt (Nat.div_le_self _ _) (Nat.mod_lt _ (by omega))
    clear hL
    by_cases hlt : 0 < x
    · have hk32 : k < 32 := by
        rcases Nat.lt_or_ge k 32 with h | h
        · exact h
        · obtain rfl : k = 32 := by omega
          rw [hx, low_zero] at hlt
          omega
      have hbit : x % 2 = m / 2 ^ k % 2 := by rw [hx, low_bit m k hk32]
      have hhalf : x / 2 = m % 4294967296 / 2 ^ (k + 1) := by rw [hx, Nat.div_div_eq_div_mul, Nat.pow_succ]
      have HH := Lib.hid hhalf
      clear hx hhalf
      by_cases h1 : m / 2 ^ k % 2 = 1
      · have hs1 := Lib.hid (to_yes s.data.toList m a k h1)
        have ht : ((x : Int) % 2 == 1) = true := beq_iff_eq.2 (by omega)
        clear hbit
        have hj : (a + k) / 8 < (to s.data.toList m a k).length := by rw [hlen.out]; simp; omega
        obtain ⟨hc, hf⟩ := hb _ hj
        have hset := Lib.hid (hb.set_nat _ (((to s.data.toList m a k).getD ((a + k) / 8) 0).toNat ^^^ 2 ^ ((a + k) % 8)) (byte_lt _ _ (Nat.mod_lt _ (by omega))) hj)
        have e1 : IntKind.i64.wrap ((a : Int) + (k : Int)) = (a : Int) + (k : Int) := IntWalk.i64_in _ (by omega)
        obtain ⟨q, hq⟩ : ∃ q, q = (a + k) / 8 := ⟨_, rfl⟩
        obtain ⟨r, hr⟩ : ∃ r, r = (a + k) % 8 := ⟨_, rfl⟩
        have hr8 : r < 8 := by omega
        have e2 : IntKind.i64.wrap (((a : Int) + (k : Int)).tdiv 8) = (q : Int) := by rw [Int.tdiv_eq_ediv_of_nonneg (by omega), IntWalk.i64_in _ (by omega)]; omega
        have e3 : ((a : Int) + (k : Int)).tmod 8 = (r : Int) := by rw [Int.tmod_eq_emod_of_nonneg (by omega)]; omega
        have e4 : IntKind.i64.wrap (r : Int) = (r : Int) := IntWalk.i64_in _ (by omega)
        have hqs : q < s.size := by omega
        have hqi : (q : Int) < (s.size : Int) := by omega
        rw [← hq] at hc hf
        have HQ := Lib.hid hq
        have HR := Lib.hid hr
        clear hq hr
        have hv := Lib.hid (byte_xor ((to s.data.toList m a k).getD q 0) r hr8)
        go_wp2_with fail
        refine wp_region_still_tail 11 (by kernel_rfl) (by kernel_rfl) ?_
        simp only [List.take_succ_cons, List.take_zero, List.drop_succ_cons, List.drop_zero]
        iterate 7 still_step
        still_call (pow_any 2 r _ (by omega) (by omega) (Nat.lt_trans (two_lt r hr8) (by omega)))
        repeat still_step
        refine wpStill_nil ?_
        change wpList _ _ _ _ _ wr.drew
        have hv' := hv.out
        simp only [List.getD_eq_getElem?_getD] at hv'
        rw [hv']
        clear hv'
        go_wp2
        go_roundw
        case rel =>
          refine ⟨⟨k + 1, x / 2, by omega, by go_num, valI (by omega), HH.out, ?_⟩, (hbw.setCell (Nat.le_refl _) _).drew⟩
          rw [hs1.out, HQ.out, HR.out]
          have h2 := hset.out
          simp only [List.getD_eq_getElem?_getD] at h2
          exact h2
        case measure => simp [intOf]; omega
      · have hs1 := Lib.hid (to_no s.data.toList m a k h1)
        have ht : ((x : Int) % 2 == 1) = false := beq_eq_false_iff_ne.2 (by omega)
        clear hbit
        go_wp2_with fail
        go_roundw
        case rel => exact ⟨⟨k + 1, x / 2, by omega, by go_num, valI (by omega), HH.out, by rw [hs1.out]; exact hb⟩, hbw⟩
        case measure => simp [intOf]; omega
    · obtain rfl : x = 0 := by omega
      have hend := Lib.hid (to_low_end s.data.toList m a k hk HX.out.symm)
      clear hx
      have hstr := Lib.hid (string_of (P := Try.prog) wr 63 5 9 w.heap.size C _ Try.underlying63 Try.underlying5 Try.underlying9 hb)
      have hst2 := hstr.out
      rw [hlen.out] at hst2
      have hz : s.data.toList.length = s.size := by simp
      rw [hz] at hst2
      go_wp2_with fail
      go_ret
      exact ⟨by rw [turn_eq _ _ (by simpa using h4), hz, ← HA.out, ← hend.out]; rfl, hbw⟩
end Go.Proofs.Ytoaekpnppinolaa.Turn
