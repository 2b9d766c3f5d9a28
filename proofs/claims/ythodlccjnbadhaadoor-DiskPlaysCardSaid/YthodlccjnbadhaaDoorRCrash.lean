/- The reference's disk: Crash. Printed by gen_rcrash.py. -/
import Derived.Test.YthodlccjnbadhaaDoorRDirty
namespace Go.Proofs.YthodlccjnbadhaaDoor
set_option linter.unusedSimpArgs false
set_option linter.unusedVariables false
open Go.RowKit As Go.Maps
def rbV (mask k m : Nat) (g : Unit) : Nat → Value
  | 0 => .int .u64 (mask : Int)
  | 1 => .int .i64 (k : Int)
  | 2 => .int .i64 (m : Int)
  | 3 => .int .u64 ((2 ^ m : Nat) : Int)
  | 4 => .int .u64 ((mask : Int) / 2 ^ m)
  | 5 => .int .u64 ((mask : Int) / 2 ^ m % 2)
  | 6 => .bool ((mask : Int) / 2 ^ m % 2 == 1)
  | 7 => .bool ((mask : Int) / 2 ^ m % 2 == 1)
  | _ => undef
def rcV (d M1 M2 i : Nat) (t : ByteArray) (g : Unit) : Nat → Value
  | 0 => .pointer (some ⟨d, 0, none⟩)
  | 1 => .pointer (some ⟨d, 0, none⟩)
  | 2 => .pointer (some ⟨d, 1, none⟩)
  | 3 => .map (some M1)
  | 4 => .int .i64 (i : Int)
  | 5 => .pointer (some ⟨d, 0, none⟩)
  | 6 => .pointer (some ⟨d, 0, none⟩)
  | 7 => .pointer (some ⟨d, 2, none⟩)
  | 8 => .map (some M2)
  | 9 => .int .i64 (i : Int)
  | 10 => .string t
  | _ => undef
theorem w64 {q : Nat} (h : q < 18446744073709551616) : IntKind.u64.wrap (q : Int) = (q : Int) := by simp [IntKind.wrap, IntKind.bits, IntKind.signed]; omega
theorem w64' {q : Nat} : IntKind.u64.wrap ((q : Int) % 2) = (q : Int) % 2 := by simp [IntKind.wrap, IntKind.bits, IntKind.signed]; omega
theorem rpow2_any (k : Nat) (w : World) (hk : k ≤ 63) :
    Calls Tryd.prog 21 #[.int .u64 2, .int .i64 (k : Int)] w fun e w' => e = .returned (.int .u64 ((2 ^ k : Nat) : Int)) ∧ Below w.heap.size w w' := by
  obtain ⟨z, hz⟩ : ∃ z, z = 2 ^ k := ⟨_, rfl⟩
  have h : z < 18446744073709551616 := by rw [hz]; exact Nat.lt_of_le_of_lt (Nat.pow_le_pow_right (by omega) hk) (by decide)
  rw [← hz]
  have Hz := Lib.hid hz
  clear hz
  go_enter Tryd.func21, Tryd.ntmps21
  go_wp2
  go_loop [5, 7] (fun v i => ∃ j x : Nat, j ≤ k ∧ i = .int .i64 (j : Int) ∧ v = .int .u64 (x : Int) ∧ Hid (x = 2 ^ j)) (fun _ i => k - (intOf i).toNat)
  case atStart => exact ⟨0, 1, by omega, rfl, rfl, Lib.hid rfl⟩
  case round =>
    obtain ⟨j, x, hj, rfl, rfl, Hx⟩ := hrel
    by_cases hlt : j < k
    · have hle : x * 2 ≤ z := by
        rw [Hx.out, Hz.out, ← Nat.pow_succ]
        exact Nat.pow_le_pow_right (by omega) hlt
      have hlt2 : (x : Int) * 2 ≤ 18446744073709551615 := by omega
      have h0 : (0 : Int) ≤ (x : Int) * 2 := by omega
      have hw : IntKind.u64.wrap ((x : Int) * 2) = (x : Int) * 2 := by have := w64 (q := x * 2) (by omega); simpa using this
      go_wp2
      go_round
      case rel => exact ⟨j + 1, x * 2, by omega, by go_num, by simp, Lib.hid (by rw [Nat.pow_succ, Hx.out])⟩
      case measure => simp [intOf]; omega
    · obtain rfl : j = k := by omega
      go_wp2
      go_ret
      exact ⟨by rw [Hz.out, ← Hx.out]; rfl, Below.refl _ _⟩
set_option maxHeartbeats 1000000 in
set_option maxRecDepth 100000 in
theorem rbit_any {w : World} {g k mask : Nat} (hc : w.cell? ⟨g, 0, none⟩ = some (.int .u64 (mask : Int))) (hm : mask < 18446744073709551616) (hk : k ≤ 1000) :
    Calls Tryd.prog 20 #[.int .i64 (k : Int), .pointer (some ⟨g, 0, none⟩)] w fun e w' => e = .returned (.bool (mbit mask k)) ∧ Below w.heap.size w w' := by
  obtain ⟨m, hm63⟩ : ∃ m, m = min k 63 := ⟨_, rfl⟩
  have hmn : min (k : Int) 63 = (m : Int) := by omega
  have hm63' : m ≤ 63 := by omega
  have hp : 0 < 2 ^ m := Nat.pow_pos (by omega)
  have hpi : (0 : Int) < 2 ^ m := by have : ((2 ^ m : Nat) : Int) = 2 ^ m := by simp
                                     omega
  have hq : ¬ ((2 : Int) ^ m = 0) := by omega
  have e1 : (mask : Int) / 2 ^ m = ((mask / 2 ^ m : Nat) : Int) := by simp
  have hle := Nat.div_le_self mask (2 ^ m)
  have hq2 : IntKind.u64.wrap ((mask : Int) / 2 ^ m) = (mask : Int) / 2 ^ m := by rw [e1]; exact w64 (Nat.lt_of_le_of_lt hle hm)
  have hr : IntKind.u64.wrap ((mask : Int) / 2 ^ m % 2) = (mask : Int) / 2 ^ m % 2 := by rw [e1]; exact w64'
  have HT := Lib.hid (show ((mask : Int) / 2 ^ m % 2 == 1) = mbit mask k by
    rw [e1]
    unfold mbit
    rw [← hm63]
    rcases Nat.mod_two_eq_zero_or_one (mask / 2 ^ m) with q | q
    · rw [q]; have : ((mask / 2 ^ m : Nat) : Int) % 2 = 0 := by omega
      rw [this]; rfl
    · rw [q]; have : ((mask / 2 ^ m : Nat) : Int) % 2 = 1 := by omega
      rw [this]; rfl)
  clear e1 hle
  clear hm63
  go_enter Tryd.func20, Tryd.ntmps20
  go_wp2
  refine Flow.wp_region_go (by kernel_rfl) (by kernel_rfl) (by kernel_rfl) 11 rfl (by kernel_rfl) (rbV mask k m) (fun _ L wz => wz.cell? ⟨g, 0, none⟩ = some (.int .u64 (mask : Int)) ∧ Below w.heap.size w wz) (fun _ _ => False) (()) (⟨hc, (Below.refl _ _).drew⟩) ⟨?_, ?_, ?_, ?_, ?_, ?_, ?_, ?_, trivial⟩ ?_ ?_
  · intro gz L wz K ρ hc0 hf0 hF hO hU hcl hi hd hC hK
    have e1 : ρ (.tmp 1) = .pointer (some ⟨g, 0, none⟩) := hO 1 (by kernel_rfl)
    have cc := hC.1
    simp [go_sem, Flow.ylP_value, Flow.ylP_skip, Flow.ylP_enter, Flow.ylP_panic, hc0, hf0, e1, cc]
    exact hK gz wz hC (fun _ _ => rfl)
  · intro gz L wz K ρ hc0 hf0 hF hO hU hcl hi hd hC hK
    have e0 : ρ (.tmp 0) = .int .i64 (k : Int) := hO 0 (by kernel_rfl)
    simp [go_sem, Flow.ylP_value, Flow.ylP_skip, Flow.ylP_enter, Flow.ylP_panic, hc0, hf0, e0]
    exact hK gz wz hC (fun _ _ => rfl)
  · intro gz L wz K ρ hc0 hf0 hF hO hU hcl hi hd hC hK
    have d1 : L 1 = true := hd ⟨1, .data⟩ (by simp) rfl
    have e5 : ρ (.tmp 5) = .int .i64 (k : Int) := hF 5 1 (by kernel_rfl) d1
    simp [go_sem, Flow.ylP_value, Flow.ylP_skip, Flow.ylP_enter, Flow.ylP_panic, hc0, hf0, e5, hmn]
    exact hK gz wz hC (fun _ _ => rfl)
  · intro gz L wz K ρ hc0 hf0 hF hO hU hcl hi hd hC hK
    have d2 : L 2 = true := hd ⟨2, .data⟩ (by simp) rfl
    have e6 : ρ (.tmp 6) = .int .i64 (m : Int) := hF 6 2 (by kernel_rfl) d2
    simp [go_sem, Flow.ylP_value, Flow.ylP_skip, Flow.ylP_enter, Flow.ylP_panic, hc0, hf0, e6]
    refine (rpow2_any m wz hm63').mono ?_
    rintro r wn ⟨rfl, hbn⟩
    exact ⟨_, rfl, hK () wn ⟨(hbn.cell (cell_lt hC.1)).trans hC.1, hC.2.trans (hbn.mono hC.2.size)⟩ (by intro j hj; unfold rbV; split <;> first | rfl | (rw [hi] at hj; cases hj) | (have hz := hcl _ 3 (by kernel_rfl) hj; rw [hi] at hz; cases hz))⟩
  · intro gz L wz K ρ hc0 hf0 hF hO hU hcl hi hd hC hK
    have d0 : L 0 = true := hd ⟨0, .data⟩ (by simp) rfl
    have e4 : ρ (.tmp 4) = .int .u64 (mask : Int) := hF 4 0 (by kernel_rfl) d0
    have d3 : L 3 = true := hd ⟨3, .data⟩ (by simp) rfl
    have e7 : ρ (.tmp 7) = .int .u64 ((2 ^ m : Nat) : Int) := hF 7 3 (by kernel_rfl) d3
    simp [go_sem, Flow.ylP_value, Flow.ylP_skip, Flow.ylP_enter, Flow.ylP_panic, hc0, hf0, e4, e7, hq, hq2]
    exact hK gz wz hC (fun _ _ => rfl)
  · intro gz L wz K ρ hc0 hf0 hF hO hU hcl hi hd hC hK
    have d4 : L 4 = true := hd ⟨4, .data⟩ (by simp) rfl
    have e8 : ρ (.tmp 8) = .int .u64 ((mask : Int) / 2 ^ m) := hF 8 4 (by kernel_rfl) d4
    simp [go_sem, Flow.ylP_value, Flow.ylP_skip, Flow.ylP_enter, Flow.ylP_panic, hc0, hf0, e8, hr]
    exact hK gz wz hC (fun _ _ => rfl)
  · intro gz L wz K ρ hc0 hf0 hF hO hU hcl hi hd hC hK
    have d5 : L 5 = true := hd ⟨5, .data⟩ (by simp) rfl
    have e9 : ρ (.tmp 9) = .int .u64 ((mask : Int) / 2 ^ m % 2) := hF 9 5 (by kernel_rfl) d5
    simp [go_sem, Flow.ylP_value, Flow.ylP_skip, Flow.ylP_enter, Flow.ylP_panic, hc0, hf0, e9]
    exact hK gz wz hC (fun _ _ => rfl)
  · intro gz L wz K ρ hc0 hf0 hF hO hU hcl hi hd hC hK
    have d6 : L 6 = true := hd ⟨6, .data⟩ (by simp) rfl
    have e10 : ρ (.tmp 10) = .bool ((mask : Int) / 2 ^ m % 2 == 1) := hF 10 6 (by kernel_rfl) d6
    simp [go_sem, Flow.ylP_value, Flow.ylP_skip, Flow.ylP_enter, Flow.ylP_panic, hc0, hf0, e10]
    exact hK gz wz hC (fun _ _ => rfl)
  · intro gz L ch wz h; exact h.elim
  · intro gz L wz hL hC
    simp only [Flow.putAll, rbV]
    simp [Act.put]
    go_wp2
    go_ret
    exact ⟨by rw [← HT.out]; rfl, hC.2⟩
end Go.Proofs.YthodlccjnbadhaaDoor
