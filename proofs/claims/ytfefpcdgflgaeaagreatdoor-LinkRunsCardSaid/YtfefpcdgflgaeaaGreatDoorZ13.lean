/- The reference's receiver: Save, Mark. Printed by gen_rrecvs.py out of rrecvs.src.

Unchunk of the reference says what unchunk says. -/
import Derived.Test.YtfefpcdgflgaeaaGreatDoorZ12
import Derived.Test.YtfefpcdgflgaeaaGreatDoorZ6
import Derived.Test.YtfefpcdgflgaeaaGreatDoorZ8
section
namespace Go.Proofs.YtfefpcdgflgaeaaGreatDoor
set_option linter.unusedSimpArgs false
set_option linter.unusedVariables false
open Go.RowKit As Go.Maps
def rsV (Z : RLoc) (N a b q : Nat) (z : ByteArray) (g : Unit) : Nat → Value
 | 0 => .pointer (some ⟨Z.r, 0, none⟩)
 | 1 => .pointer (some ⟨Z.r, 0, none⟩)
 | 2 => .pointer (some ⟨Z.r, 0, none⟩)
 | 3 => .pointer (some ⟨Z.D, 0, none⟩)
 | 4 => .int .i64 (q : Int)
 | 5 => .int .i64 ((q + 2 : Nat) : Int)
 | 6 => .pointer (some ⟨Z.r, 0, none⟩)
 | 7 => .int .i64 (q : Int)
 | 8 => .int .i64 (a : Int)
 | 9 => .int .i64 (N : Int)
 | 10 => .int .i64 (q : Int)
 | 11 => .int .i64 (a : Int)
 | 12 => .int .i64 ((a + 32 : Nat) : Int)
 | 13 => .int .i64 (b : Int)
 | 14 => .string z
 | 15 => .int .i64 0
 | _ => undef
def rmV (Z : RLoc) (s : Rst) (N q : Nat) (PM F PT PF Cc ZZ : ByteArray) (g : Unit) : Nat → Value
 | 0 => .pointer (some ⟨Z.r, 0, none⟩)
 | 1 => .pointer (some ⟨Z.r, 0, none⟩)
 | 2 => .pointer (some ⟨Z.r, 0, none⟩)
 | 3 => .pointer (some ⟨Z.D, 0, none⟩)
 | 4 => .pointer (some ⟨Z.r, 0, none⟩)
 | 5 => .pointer (some ⟨Z.r, 0, none⟩)
 | 6 => .pointer (some ⟨Z.r, 6, none⟩)
 | 7 => .int .i64 (s.mks : Int)
 | 8 => .int .i64 (q : Int)
 | 9 => .pointer (some ⟨Z.r, 0, none⟩)
 | 10 => .pointer (some ⟨Z.r, 0, none⟩)
 | 11 => .pointer (some ⟨Z.r, 6, none⟩)
 | 12 => .int .i64 (s.mks : Int)
 | 13 => .int .u64 (s.mks : Int)
 | 14 => .string PM
 | 15 => .string (Cc ++ PM)
 | 16 => .pointer (some ⟨Z.r, 0, none⟩)
 | 17 => .pointer (some ⟨Z.r, 0, none⟩)
 | 18 => .pointer (some ⟨Z.r, 1, none⟩)
 | 19 => .int .u32 (N : Int)
 | 20 => .string F
 | 21 => .string (Cc ++ PM ++ F)
 | 22 => .pointer (some ⟨Z.r, 0, none⟩)
 | 23 => .pointer (some ⟨Z.r, 0, none⟩)
 | 24 => .pointer (some ⟨Z.r, 2, none⟩)
 | 25 => .int .i64 (s.tot : Int)
 | 26 => .int .u64 (s.tot : Int)
 | 27 => .string PT
 | 28 => .string (Cc ++ PM ++ F ++ PT)
 | 29 => .pointer (some ⟨Z.r, 0, none⟩)
 | 30 => .pointer (some ⟨Z.r, 0, none⟩)
 | 31 => .pointer (some ⟨Z.r, 5, none⟩)
 | 32 => .int .i64 (s.sf : Int)
 | 33 => .int .u64 (s.sf : Int)
 | 34 => .string PF
 | 35 => .string (Cc ++ PM ++ F ++ PT ++ PF)
 | 36 => .string ZZ
 | 37 => .int .i64 0
 | _ => undef
set_option maxHeartbeats 1000000 in
set_option maxRecDepth 100000 in
theorem rsave_any {w : World} {E : Nat} {Z : RLoc} {s : Rst} (h : RR w E Z s) (hE : E + 1 ≤ 1000000) :
  Calls Tryz.prog 12 #[.pointer (some ⟨Z.r, 0, none⟩)] w fun e w' => e = .returned (.tuple #[]) ∧ RR w' (E + 1) { Z with n2 := Z.n2 + ((s.offer + 31) / 32 - s.sv / 32) } s.save ∧ Turned Z.foot w w' := by
 go_enter Tryz.func12, Tryz.ntmps12
 go_wp2_with fail
 refine (roffer_any h).mono ?_
 rintro e w' ⟨rfl, rfl⟩
 have c4 := h.cell 4 rfl
 have H4 := Lib.hid (And.intro h.fit.tot (And.intro (offer_le s.came s.tot) h.fit.sv_le))
 have hP0 := h.more (K' := E + 1) (by omega) hE
 have HF0 := Lib.hid hP0.fit
 have HC0 := Lib.hid (And.intro h.c1 h.c2)
 clear h
 obtain ⟨N, hN⟩ : ∃ N, N = s.offer := ⟨_, rfl⟩
 obtain ⟨k0, hk0⟩ : ∃ k0, k0 = s.sv / 32 := ⟨_, rfl⟩
 have hNT : N ≤ s.tot := by rw [hN]; exact H4.out.2.1
 have hks : k0 ≤ 128 := by have := H4.out; omega
 have wk0 : (s.sv : Int) / 32 = (k0 : Int) := by omega
 have W0 := Lib.hid (w_in (k0 : Int) k0 rfl (by omega))
 rw [← hN]
 have HN0 := Lib.hid hN
 have HK0 := Lib.hid hk0
 clear hN hk0
 obtain ⟨wk1, wk2⟩ := W0.out
 clear W0
 go_wp2
 clear wk0 wk1 wk2
 go_loopw [3] (fun v wr => ∃ j q : Nat, Hid (q = k0 + j) ∧ (k0 + j ≤ (N + 31) / 32 ∨ j = 0) ∧ v = .int .i64 (q : Int) ∧ RR wr (E + 1) { Z with n2 := Z.n2 + j } { s with X := saveX s.came N s.X k0 j } ∧ Turned Z.foot w wr) (fun v _ => (N + 31) / 32 - (intOf v).toNat)
 case atStart => exact ⟨0, k0, Lib.hid rfl, .inr rfl, by go_num, hP0, .refl _ _⟩
 case round =>
  clear hP0 c4
  obtain ⟨j, q, HQ, hj, rfl, hP, hT⟩ := hrel
  have hq0 := HQ.out
  obtain ⟨a, ha⟩ : ∃ a, a = 32 * q := ⟨_, rfl⟩
  obtain ⟨X, hX⟩ : ∃ X, X = saveX s.came N s.X k0 j := ⟨_, rfl⟩
  rw [← hX] at hP
  have hT4 := H4.out.1
  have WM := Lib.hid (w_in (32 * (q : Int)) a (by omega) (by omega))
  by_cases hlt : a < N
  ·have t0 : decide ((a : Int) < (N : Int)) = true := decide_eq_true (by omega)
   have t0' : decide (a < N) = true := decide_eq_true hlt
   have hpos : 0 < s.tot := by omega
   have c0 := hP.cell 0 rfl
   simp only at c0
   obtain ⟨b, hb⟩ : ∃ b, b = min N (a + 32) := ⟨_, rfl⟩
   obtain ⟨z, hz⟩ : ∃ z, z = blk s.came a b := ⟨_, rfl⟩
   have hzs : z.size ≤ 32 := by rw [hz, blk_size]; omega
   have W1 := Lib.hid (w_in ((q : Int) + 2) (q + 2) (by omega) (by omega))
   have W2 := Lib.hid (w_in ((a : Int) + 32) (a + 32) (by omega) (by omega))
   have W4 := Lib.hid (w_in ((q : Int) + 1) (q + 1) (by omega) (by omega))
   have hab1 : a < b := by omega
   have hab2 : b ≤ 4096 := by omega
   have hmn : min (N : Int) ((a : Int) + 32) = (b : Int) := by omega
   have HM := Lib.hid (show (N + 31) / 32 - ((q : Int) + 1).toNat < (N + 31) / 32 - q by omega)
   have HN := Lib.hid hP.off.1
   have HZ := Lib.hid hz
   have HRR : Hid (∀ wz, RD wz Z.D Z.M1 Z.M2 140 Z.n1 (Z.n2 + j) s.S X → Turned (RFoot Z.D Z.M1 Z.M2) wr wz → RR wz (E + 1) { Z with n2 := Z.n2 + j } { s with X := X }) := Lib.hid fun wz hd ht => hP.disked hd ht (.inl rfl) hP.fit hP.c1 hP.c2
   have HL : Hid (Z.n2 + j < maxLen) := Lib.hid (by have := HC0.out; unfold maxLen; omega)
   have E1 := Lib.hid (show dwErr 140 ((q + 2 : Nat) : Int) z = 0 by unfold dwErr; rw [if_neg (by omega), if_neg (by omega)])
   have E2 := Lib.hid (show dwX 140 X ((q + 2 : Nat) : Int) z = upd X (q + 2) (padz z) by unfold dwX; rw [if_pos E1.out]; rfl)
   have hXn : saveX s.came N s.X k0 (j + 1) = upd X (q + 2) (padz z) := by rw [saveX, ← hX, ← hq0, hz, hb, ha]
   have HP : Hid (∀ wz, RD wz Z.D Z.M1 Z.M2 140 Z.n1 (Z.n2 + j + 1) s.S (upd X (q + 2) (padz z)) → Turned (RFoot Z.D Z.M1 Z.M2) wr wz → RR wz (E + 1) { Z with n2 := Z.n2 + (j + 1) } { s with X := saveX s.came N s.X k0 (j + 1) }) := Lib.hid fun wz hd ht => by
    have hf := HF0.out.saving (j + 1) (.inl (by rw [← HK0.out, ← HN0.out]; omega))
    rw [← HN0.out, ← HK0.out] at hf
    have := hP.disked hd ht (.inl rfl) (by rw [← hXn]; exact hf) hP.c1 (by have := HC0.out; omega)
    rw [hXn]
    exact this
   have HJ : Hid (k0 + (j + 1) ≤ (N + 31) / 32 ∨ j + 1 = 0) := Lib.hid (.inl (by omega))
   have HW := Lib.hid (show q + 1 = k0 + (j + 1) by omega)
   clear hz hb hX hXn hq0 ha
   obtain ⟨wq1, wq2⟩ := W1.out
   obtain ⟨wa1, wa2⟩ := W2.out
   obtain ⟨wm1, wm2⟩ := WM.out
   clear W1 W2 WM
   go_wp2
   refine Flow.wp_region_go (by kernel_rfl) (by kernel_rfl) (by kernel_rfl) 37 rfl (by kernel_rfl) (rsV Z N a b q z) (fun _ L wz => RD wz Z.D Z.M1 Z.M2 140 Z.n1 (cond (L 15) (Z.n2 + j + 1) (Z.n2 + j)) s.S (cond (L 15) (upd X (q + 2) (padz z)) X) ∧ Turned (RFoot Z.D Z.M1 Z.M2) wr wz) (fun _ _ => False) (()) (⟨hP.disk.below (Below.refl _ _).drew, .of_below (Below.refl _ _).drew⟩) ⟨?_, ?_, ?_, ?_, ?_, ?_, ?_, ?_, ?_, ?_, ?_, ?_, ?_, ?_, ?_, ?_, trivial⟩ ?_ ?_
   ·intro g L wz K ρ hc0 hf0 hF hO hU hcl hi hd hC hK
    have e0 : ρ (.tmp 0) = .pointer (some ⟨Z.r, 0, none⟩) := hO 0 (by kernel_rfl)
    simp [go_sem, Flow.ylP_value, Flow.ylP_skip, Flow.ylP_enter, Flow.ylP_panic, hc0, hf0, e0]
    exact hK g wz hC (fun _ _ => rfl)
   ·intro g L wz K ρ hc0 hf0 hF hO hU hcl hi hd hC hK
    have d0 : L 0 = true := hd ⟨0, .data⟩ (by simp) rfl
    have e17 : ρ (.tmp 17) = .pointer (some ⟨Z.r, 0, none⟩) := hF 17 0 (by kernel_rfl) d0
    simp [go_sem, Flow.ylP_value, Flow.ylP_skip, Flow.ylP_enter, Flow.ylP_panic, hc0, hf0, e17]
    exact hK g wz hC (fun _ _ => rfl)
   ·intro g L wz K ρ hc0 hf0 hF hO hU hcl hi hd hC hK
    have d1 : L 1 = true := hd ⟨1, .data⟩ (by simp) rfl
    have e18 : ρ (.tmp 18) = .pointer (some ⟨Z.r, 0, none⟩) := hF 18 1 (by kernel_rfl) d1
    simp [go_sem, Flow.ylP_value, Flow.ylP_skip, Flow.ylP_enter, Flow.ylP_panic, hc0, hf0, e18]
    exact hK g wz hC (fun _ _ => rfl)
   ·intro g L wz K ρ hc0 hf0 hF hO hU hcl hi hd hC hK
    have d2 : L 2 = true := hd ⟨2, .data⟩ (by simp) rfl
    have e19 : ρ (.tmp 19) = .pointer (some ⟨Z.r, 0, none⟩) := hF 19 2 (by kernel_rfl) d2
    have cc := hC.2.cell c0 HN.out
    simp [go_sem, Flow.ylP_value, Flow.ylP_skip, Flow.ylP_enter, Flow.ylP_panic, hc0, hf0, e19, cc]
    exact hK g wz hC (fun _ _ => rfl)
   ·intro g L wz K ρ hc0 hf0 hF hO hU hcl hi hd hC hK
    have e3 : ρ (.tmp 3) = .int .i64 (q : Int) := hO 3 (by kernel_rfl)
    simp [go_sem, Flow.ylP_value, Flow.ylP_skip, Flow.ylP_enter, Flow.ylP_panic, hc0, hf0, e3]
    exact hK g wz hC (fun _ _ => rfl)
   ·intro g L wz K ρ hc0 hf0 hF hO hU hcl hi hd hC hK
    have d4 : L 4 = true := hd ⟨4, .data⟩ (by simp) rfl
    have e21 : ρ (.tmp 21) = .int .i64 (q : Int) := hF 21 4 (by kernel_rfl) d4
    simp [go_sem, Flow.ylP_value, Flow.ylP_skip, Flow.ylP_enter, Flow.ylP_panic, hc0, hf0, e21, wq1, wq2]
    exact hK g wz hC (fun _ _ => rfl)
   ·intro g L wz K ρ hc0 hf0 hF hO hU hcl hi hd hC hK
    have e0 : ρ (.tmp 0) = .pointer (some ⟨Z.r, 0, none⟩) := hO 0 (by kernel_rfl)
    simp [go_sem, Flow.ylP_value, Flow.ylP_skip, Flow.ylP_enter, Flow.ylP_panic, hc0, hf0, e0]
    exact hK g wz hC (fun _ _ => rfl)
   ·intro g L wz K ρ hc0 hf0 hF hO hU hcl hi hd hC hK
    have e3 : ρ (.tmp 3) = .int .i64 (q : Int) := hO 3 (by kernel_rfl)
    simp [go_sem, Flow.ylP_value, Flow.ylP_skip, Flow.ylP_enter, Flow.ylP_panic, hc0, hf0, e3]
    exact hK g wz hC (fun _ _ => rfl)
   ·intro g L wz K ρ hc0 hf0 hF hO hU hcl hi hd hC hK
    have d7 : L 7 = true := hd ⟨7, .data⟩ (by simp) rfl
    have e24 : ρ (.tmp 24) = .int .i64 (q : Int) := hF 24 7 (by kernel_rfl) d7
    simp [go_sem, Flow.ylP_value, Flow.ylP_skip, Flow.ylP_enter, Flow.ylP_panic, hc0, hf0, e24, wm1, wm2]
    exact hK g wz hC (fun _ _ => rfl)
   ·intro g L wz K ρ hc0 hf0 hF hO hU hcl hi hd hC hK
    have e2 : ρ (.tmp 2) = .int .i64 (N : Int) := hO 2 (by kernel_rfl)
    simp [go_sem, Flow.ylP_value, Flow.ylP_skip, Flow.ylP_enter, Flow.ylP_panic, hc0, hf0, e2]
    exact hK g wz hC (fun _ _ => rfl)
   ·intro g L wz K ρ hc0 hf0 hF hO hU hcl hi hd hC hK
    have e3 : ρ (.tmp 3) = .int .i64 (q : Int) := hO 3 (by kernel_rfl)
    simp [go_sem, Flow.ylP_value, Flow.ylP_skip, Flow.ylP_enter, Flow.ylP_panic, hc0, hf0, e3]
    exact hK g wz hC (fun _ _ => rfl)
   ·intro g L wz K ρ hc0 hf0 hF hO hU hcl hi hd hC hK
    have d10 : L 10 = true := hd ⟨10, .data⟩ (by simp) rfl
    have e27 : ρ (.tmp 27) = .int .i64 (q : Int) := hF 27 10 (by kernel_rfl) d10
    simp [go_sem, Flow.ylP_value, Flow.ylP_skip, Flow.ylP_enter, Flow.ylP_panic, hc0, hf0, e27, wm1, wm2]
    exact hK g wz hC (fun _ _ => rfl)
   ·intro g L wz K ρ hc0 hf0 hF hO hU hcl hi hd hC hK
    have d11 : L 11 = true := hd ⟨11, .data⟩ (by simp) rfl
    have e28 : ρ (.tmp 28) = .int .i64 (a : Int) := hF 28 11 (by kernel_rfl) d11
    simp [go_sem, Flow.ylP_value, Flow.ylP_skip, Flow.ylP_enter, Flow.ylP_panic, hc0, hf0, e28, wa1, wa2]
    exact hK g wz hC (fun _ _ => rfl)
   ·intro g L wz K ρ hc0 hf0 hF hO hU hcl hi hd hC hK
    have d9 : L 9 = true := hd ⟨9, .data⟩ (by simp) rfl
    have e26 : ρ (.tmp 26) = .int .i64 (N : Int) := hF 26 9 (by kernel_rfl) d9
    have d12 : L 12 = true := hd ⟨12, .data⟩ (by simp) rfl
    have e29 : ρ (.tmp 29) = .int .i64 ((a + 32 : Nat) : Int) := hF 29 12 (by kernel_rfl) d12
    simp [go_sem, Flow.ylP_value, Flow.ylP_skip, Flow.ylP_enter, Flow.ylP_panic, hc0, hf0, e26, e29, hmn]
    exact hK g wz hC (fun _ _ => rfl)
   ·intro g L wz K ρ hc0 hf0 hF hO hU hcl hi hd hC hK
    have d6 : L 6 = true := hd ⟨6, .data⟩ (by simp) rfl
    have e23 : ρ (.tmp 23) = .pointer (some ⟨Z.r, 0, none⟩) := hF 23 6 (by kernel_rfl) d6
    have d8 : L 8 = true := hd ⟨8, .data⟩ (by simp) rfl
    have e25 : ρ (.tmp 25) = .int .i64 (a : Int) := hF 25 8 (by kernel_rfl) d8
    have d13 : L 13 = true := hd ⟨13, .data⟩ (by simp) rfl
    have e30 : ρ (.tmp 30) = .int .i64 (b : Int) := hF 30 13 (by kernel_rfl) d13
    simp [go_sem, Flow.ylP_value, Flow.ylP_skip, Flow.ylP_enter, Flow.ylP_panic, hc0, hf0, e23, e25, e30]
    have h15 : L 15 = false := by cases h : L 15 with | false => rfl | true => (have := hcl 15 14 (by kernel_rfl) h; rw [hi] at this; cases this)
    have hC' := hC
    rw [h15] at hC'
    simp only [cond_false] at hC'
    refine (rbytes_any (HRR.out wz hC'.1 hC'.2) a b hab1 hab2).mono ?_
    rintro r wn ⟨rfl, hbn⟩
    rw [← HZ.out]
    exact ⟨_, rfl, hK () wn ⟨hC.1.below hbn, hC.2.trans (.of_below hbn)⟩ (by intro j hj; unfold rsV; split <;> first | rfl | (rw [hi] at hj; cases hj) | (have hz := hcl _ 14 (by kernel_rfl) hj; rw [hi] at hz; cases hz))⟩
   ·intro g L wz K ρ hc0 hf0 hF hO hU hcl hi hd hC hK
    have d3 : L 3 = true := hd ⟨3, .data⟩ (by simp) rfl
    have e20 : ρ (.tmp 20) = .pointer (some ⟨Z.D, 0, none⟩) := hF 20 3 (by kernel_rfl) d3
    have d5 : L 5 = true := hd ⟨5, .data⟩ (by simp) rfl
    have e22 : ρ (.tmp 22) = .int .i64 ((q + 2 : Nat) : Int) := hF 22 5 (by kernel_rfl) d5
    have d14 : L 14 = true := hd ⟨14, .data⟩ (by simp) rfl
    have e31 : ρ (.tmp 31) = .string z := hF 31 14 (by kernel_rfl) d14
    simp [go_sem, Flow.ylP_value, Flow.ylP_skip, Flow.ylP_enter, Flow.ylP_panic, hc0, hf0, e20, e22, e31]
    simp only [hi, cond_false] at hC
    refine (rwrite_any hC.1 ((q + 2 : Nat) : Int) z (by omega) HL.out).mono ?_
    rintro r wn ⟨rfl, hpn, htn⟩
    rw [E1.out]
    rw [E2.out] at hpn
    exact ⟨_, rfl, hK () wn ⟨hpn, hC.2.trans htn⟩ (by intro j hj; unfold rsV; split <;> first | rfl | (rw [hi] at hj; cases hj) | (have hz := hcl _ 15 (by kernel_rfl) hj; rw [hi] at hz; cases hz))⟩
   ·intro g L ch wz h; exact h.elim
   ·intro g L wz hL hC
    rw [hL 15 (by decide)] at hC
    simp only [Flow.putAll, rsV]
    simp [Act.put]
    have hp9 := HP.out wz hC.1 hC.2
    have ht9 := hT.trans (hC.2.mono fun i => foot_D)
    clear hP hT hC hmn wq1 wq2 wm1 wm2 wa1 wa2 HN HL E1 E2 c0 HP HRR hab1 hab2 hzs
    obtain ⟨wj1, wj2⟩ := W4.out
    clear W4
    go_wp2
    go_roundw
    case rel => exact ⟨j + 1, q + 1, HW, HJ.out, rfl, hp9, ht9⟩
    case measure => simpa [intOf] using HM.out
  ·have t0 : decide ((a : Int) < (N : Int)) = false := decide_eq_false (by omega)
   have t0' : decide (a < N) = false := decide_eq_false hlt
   have hj9 : j = (N + 31) / 32 - k0 := by omega
   have HJ := Lib.hid hj9
   have HX := Lib.hid hX
   clear hlt hj9 hX hq0 ha
   have c4 := hP.cell 4 rfl
   have f4 := hP.free 4 rfl
   simp only at c4 f4
   obtain ⟨wm1, wm2⟩ := WM.out
   clear WM
   go_wp2
   go_end0
   have hset : Turned Z.foot wr (wr.setCell ⟨Z.r, 4, none⟩ (.int .i64 (N : Int))) := .set wr 4 _ (.inl rfl)
   have hs := hP.stored 4 (.int .i64 (N : Int)) s.save rfl (by show saveX _ _ _ _ _ = X; rw [← HN0.out, ← HK0.out, ← HJ.out, HX.out]) rfl (by rw [HN0.out]; rfl) (by omega) HF0.out.save
   refine ⟨rfl, ?_, hT.trans hset⟩
   rw [← HN0.out, ← HK0.out, ← HJ.out]
   exact hs
set_option maxHeartbeats 2000000 in
set_option maxRecDepth 100000 in
theorem rmark_any {w : World} {E : Nat} {Z : RLoc} {s : Rst} (h : RR w E Z s) (hE : E + 1 ≤ 1000000) :
  Calls Tryz.prog 16 #[.pointer (some ⟨Z.r, 0, none⟩)] w fun e w' => e = .returned (.tuple #[]) ∧ RR w' (E + 1) { Z with n2 := markN Z.n2 s.tot } s.mark ∧ Turned Z.foot w w' := by
 have c2 := h.cell 2 rfl
 by_cases h0 : s.tot = 0
 ·have t0 : decide (0 < (s.tot : Int)) = false := decide_eq_false (by omega)
  have t0' : decide (0 < s.tot) = false := decide_eq_false (by omega)
  have e1 := Lib.hid (show s.mark = s by unfold Rst.mark; rw [if_pos h0])
  have e2 := Lib.hid (show markN Z.n2 s.tot = Z.n2 by unfold markN; rw [if_pos h0])
  have h' := h.more (K' := E + 1) (by omega) hE
  clear h0
  go_enter Tryz.func16, Tryz.ntmps16
  go_wp2
  go_end0
  rw [e1.out, e2.out]
  exact ⟨rfl, h', .refl _ _⟩
 have t0 : decide (0 < (s.tot : Int)) = true := decide_eq_true (by omega)
 have t0' : decide (0 < s.tot) = true := decide_eq_true (by omega)
 have HE := Lib.hid (show { s with X := upd s.X (s.mks % 2) (recS s.mks s.nm s.tot s.sf), mks := s.mks + 1 } = s.mark by unfold Rst.mark; rw [if_neg h0])
 have e2 := Lib.hid (show markN Z.n2 s.tot = Z.n2 + 1 by unfold markN; rw [if_neg h0])
 have HFM := Lib.hid (h.fit.mark hE)
 have c0 := h.cell 0 rfl
 have c1 := h.cell 1 rfl
 have c5 := h.cell 5 rfl
 have c6 := h.cell 6 rfl
 have lm := h.fit.mks
 have lk := h.fit.k
 have lt := h.fit.tot
 have lf : s.sf ≤ 4096 := Nat.le_trans h.fit.sf (Nat.le_trans h.fit.sv_le lt)
 have ln := h.fit.nm
 have hEE : s.mks ≤ 1000000 := by omega
 have UM := w_u64 (n := s.mks) (by omega)
 have UT := w_u64 (n := s.tot) (by omega)
 have UF := w_u64 (n := s.sf) (by omega)
 have lPM := vput_le3 hEE
 have lPT := vput_le2 lt
 have lPF := vput_le2 lf
 rw [← strOf_size] at lPM lPT lPF
 obtain ⟨N, hN⟩ : ∃ N, N = s.nm := ⟨_, rfl⟩
 have hN4 : Hid (N < 4294967296) := Lib.hid (by omega)
 have lF := four_size N
 obtain ⟨PM, hPM⟩ : ∃ x, x = strOf (vput s.mks) := ⟨_, rfl⟩
 obtain ⟨PT, hPT⟩ : ∃ x, x = strOf (vput s.tot) := ⟨_, rfl⟩
 obtain ⟨PF, hPF⟩ : ∃ x, x = strOf (vput s.sf) := ⟨_, rfl⟩
 obtain ⟨F, hF⟩ : ∃ x, x = four N := ⟨_, rfl⟩
 obtain ⟨Cc, hC0⟩ : ∃ x, x = strOf [82] := ⟨_, rfl⟩
 have lC : Cc.size = 1 := hC0 ▸ rfl
 have hC82 : (⟨#[82]⟩ : ByteArray) = Cc := by rw [hC0]
 rw [← hPM] at lPM
 rw [← hPT] at lPT
 rw [← hPF] at lPF
 rw [← hF] at lF
 rw [← hN] at c1
 have z1 : ¬ 9223372036854775807 < Cc.size + PM.size := by omega
 have z2 : ¬ 9223372036854775807 < (Cc ++ PM).size + F.size := by rw [ByteArray.size_append]; omega
 have z3 : ¬ 9223372036854775807 < (Cc ++ PM ++ F).size + PT.size := by rw [ByteArray.size_append, ByteArray.size_append]; omega
 have z4 : ¬ 9223372036854775807 < (Cc ++ PM ++ F ++ PT).size + PF.size := by rw [ByteArray.size_append, ByteArray.size_append, ByteArray.size_append]; omega
 have HBs := Lib.hid (show (Cc ++ PM ++ F ++ PT ++ PF).size ≤ 1000000 by rw [ByteArray.size_append, ByteArray.size_append, ByteArray.size_append, ByteArray.size_append]; omega)
 simp only [ByteArray.size_append] at z2 z3 z4
 have hB0 : Cc ++ PM ++ F ++ PT ++ PF = recB s.mks s.nm s.tot s.sf := by unfold recB; rw [hC0, hPM, hF, hPT, hPF, hN]
 obtain ⟨ZZ, hZZ⟩ : ∃ x, x = sealOf (Cc ++ PM ++ F ++ PT ++ PF) := ⟨_, rfl⟩
 have HZ := Lib.hid hZZ
 have HRec := Lib.hid (show padz ZZ = recS s.mks s.nm s.tot s.sf by rw [hZZ, hB0]; rfl)
 have hz32 : ZZ.size ≤ 32 := by rw [hZZ, hB0]; exact recS_size hEE lt lf
 have HZs : Hid (ZZ.size ≤ 1000000) := Lib.hid (by omega)
 obtain ⟨q, hq0⟩ : ∃ q, q = s.mks % 2 := ⟨_, rfl⟩
 have hq : (s.mks : Int) % 2 = (q : Int) := by omega
 have hq2 : Int.tmod (s.mks : Int) 2 = (q : Int) := by rw [Int.tmod_eq_emod_of_nonneg (by omega)]; exact hq
 have HN := Lib.hid h.off.1
 have HL : Hid (Z.n2 < maxLen) := Lib.hid (by have := h.c2; unfold maxLen; omega)
 have E1 := Lib.hid (show dwErr 140 (q : Int) ZZ = 0 by unfold dwErr; rw [if_neg (by omega), if_neg (by omega)])
 have E2 := Lib.hid (show dwX 140 s.X (q : Int) ZZ = upd s.X q (padz ZZ) by unfold dwX; rw [if_pos E1.out]; rfl)
 have h1' := h.more (K' := E + 1) (by omega) hE
 have HFM' : Hid (RFit (E + 1) { s with X := upd s.X q (padz ZZ) }) := Lib.hid (by have := HFM.out; rw [← HE.out] at this; rw [HRec.out, hq0]; exact ⟨this.d, this.nm, this.tot, this.out, this.sv, this.sf, Nat.le_of_succ_le this.mks, this.k, this.rs, this.rx⟩)
 have HCNT : Hid (Z.n2 + 1 ≤ 200 * (E + 1)) := Lib.hid (by have := h.c2; omega)
 have HC1 : Hid (Z.n1 ≤ 200 * (E + 1)) := Lib.hid (by have := h.c1; omega)
 have HS : Hid (({ s with X := upd s.X q (padz ZZ), mks := s.mks + 1 } : Rst) = s.mark) := Lib.hid (by rw [← HE.out, HRec.out, hq0])
 have WM := Lib.hid (w_in ((s.mks : Int) + 1) (s.mks + 1) (by omega) (by omega))
 have HPM := Lib.hid hPM
 have HPT := Lib.hid hPT
 have HPF := Lib.hid hPF
 have HF := Lib.hid hF
 clear hPM hPT hPF hF hC0 hN h0 hB0 hZZ hz32 hq0 h HE HRec
 have h := h1'
 clear h1'
 go_enter Tryz.func16, Tryz.ntmps16
 go_wp2
 refine Flow.wp_region_go (by kernel_rfl) (by kernel_rfl) (by kernel_rfl) 52 rfl (by kernel_rfl) (rmV Z s N q PM F PT PF Cc ZZ) (fun _ L wz => RD wz Z.D Z.M1 Z.M2 140 Z.n1 (cond (L 37) (Z.n2 + 1) Z.n2) s.S (cond (L 37) (upd s.X q (padz ZZ)) s.X) ∧ Turned (RFoot Z.D Z.M1 Z.M2) w wz) (fun _ _ => False) (()) (⟨h.disk.below (Below.refl _ _).drew, .of_below (Below.refl _ _).drew⟩) ⟨?_, ?_, ?_, ?_, ?_, ?_, ?_, ?_, ?_, ?_, ?_, ?_, ?_, ?_, ?_, ?_, ?_, ?_, ?_, ?_, ?_, ?_, ?_, ?_, ?_, ?_, ?_, ?_, ?_, ?_, ?_, ?_, ?_, ?_, ?_, ?_, ?_, ?_, trivial⟩ ?_ ?_
 ·intro g L wz K ρ hc0 hf0 hF hO hU hcl hi hd hC hK
  have e0 : ρ (.tmp 0) = .pointer (some ⟨Z.r, 0, none⟩) := hO 0 (by kernel_rfl)
  simp [go_sem, Flow.ylP_value, Flow.ylP_skip, Flow.ylP_enter, Flow.ylP_panic, hc0, hf0, e0]
  exact hK g wz hC (fun _ _ => rfl)
 ·intro g L wz K ρ hc0 hf0 hF hO hU hcl hi hd hC hK
  have d0 : L 0 = true := hd ⟨0, .data⟩ (by simp) rfl
  have e7 : ρ (.tmp 7) = .pointer (some ⟨Z.r, 0, none⟩) := hF 7 0 (by kernel_rfl) d0
  simp [go_sem, Flow.ylP_value, Flow.ylP_skip, Flow.ylP_enter, Flow.ylP_panic, hc0, hf0, e7]
  exact hK g wz hC (fun _ _ => rfl)
 ·intro g L wz K ρ hc0 hf0 hF hO hU hcl hi hd hC hK
  have d1 : L 1 = true := hd ⟨1, .data⟩ (by simp) rfl
  have e8 : ρ (.tmp 8) = .pointer (some ⟨Z.r, 0, none⟩) := hF 8 1 (by kernel_rfl) d1
  simp [go_sem, Flow.ylP_value, Flow.ylP_skip, Flow.ylP_enter, Flow.ylP_panic, hc0, hf0, e8]
  exact hK g wz hC (fun _ _ => rfl)
 ·intro g L wz K ρ hc0 hf0 hF hO hU hcl hi hd hC hK
  have d2 : L 2 = true := hd ⟨2, .data⟩ (by simp) rfl
  have e9 : ρ (.tmp 9) = .pointer (some ⟨Z.r, 0, none⟩) := hF 9 2 (by kernel_rfl) d2
  have cc := hC.2.cell c0 HN.out
  simp [go_sem, Flow.ylP_value, Flow.ylP_skip, Flow.ylP_enter, Flow.ylP_panic, hc0, hf0, e9, cc]
  exact hK g wz hC (fun _ _ => rfl)
 ·intro g L wz K ρ hc0 hf0 hF hO hU hcl hi hd hC hK
  have e0 : ρ (.tmp 0) = .pointer (some ⟨Z.r, 0, none⟩) := hO 0 (by kernel_rfl)
  simp [go_sem, Flow.ylP_value, Flow.ylP_skip, Flow.ylP_enter, Flow.ylP_panic, hc0, hf0, e0]
  exact hK g wz hC (fun _ _ => rfl)
 ·intro g L wz K ρ hc0 hf0 hF hO hU hcl hi hd hC hK
  have d4 : L 4 = true := hd ⟨4, .data⟩ (by simp) rfl
  have e11 : ρ (.tmp 11) = .pointer (some ⟨Z.r, 0, none⟩) := hF 11 4 (by kernel_rfl) d4
  simp [go_sem, Flow.ylP_value, Flow.ylP_skip, Flow.ylP_enter, Flow.ylP_panic, hc0, hf0, e11]
  exact hK g wz hC (fun _ _ => rfl)
 ·intro g L wz K ρ hc0 hf0 hF hO hU hcl hi hd hC hK
  have d5 : L 5 = true := hd ⟨5, .data⟩ (by simp) rfl
  have e12 : ρ (.tmp 12) = .pointer (some ⟨Z.r, 0, none⟩) := hF 12 5 (by kernel_rfl) d5
  simp [go_sem, Flow.ylP_value, Flow.ylP_skip, Flow.ylP_enter, Flow.ylP_panic, hc0, hf0, e12]
  exact hK g wz hC (fun _ _ => rfl)
 ·intro g L wz K ρ hc0 hf0 hF hO hU hcl hi hd hC hK
  have d6 : L 6 = true := hd ⟨6, .data⟩ (by simp) rfl
  have e13 : ρ (.tmp 13) = .pointer (some ⟨Z.r, 6, none⟩) := hF 13 6 (by kernel_rfl) d6
  have cc := hC.2.cell c6 HN.out
  simp [go_sem, Flow.ylP_value, Flow.ylP_skip, Flow.ylP_enter, Flow.ylP_panic, hc0, hf0, e13, cc]
  exact hK g wz hC (fun _ _ => rfl)
 ·intro g L wz K ρ hc0 hf0 hF hO hU hcl hi hd hC hK
  have d7 : L 7 = true := hd ⟨7, .data⟩ (by simp) rfl
  have e14 : ρ (.tmp 14) = .int .i64 (s.mks : Int) := hF 14 7 (by kernel_rfl) d7
  simp [go_sem, Flow.ylP_value, Flow.ylP_skip, Flow.ylP_enter, Flow.ylP_panic, hc0, hf0, e14, hq, hq2]
  exact hK g wz hC (fun _ _ => rfl)
 ·intro g L wz K ρ hc0 hf0 hF hO hU hcl hi hd hC hK
  have e0 : ρ (.tmp 0) = .pointer (some ⟨Z.r, 0, none⟩) := hO 0 (by kernel_rfl)
  simp [go_sem, Flow.ylP_value, Flow.ylP_skip, Flow.ylP_enter, Flow.ylP_panic, hc0, hf0, e0]
  exact hK g wz hC (fun _ _ => rfl)
 ·intro g L wz K ρ hc0 hf0 hF hO hU hcl hi hd hC hK
  have d9 : L 9 = true := hd ⟨9, .data⟩ (by simp) rfl
  have e16 : ρ (.tmp 16) = .pointer (some ⟨Z.r, 0, none⟩) := hF 16 9 (by kernel_rfl) d9
  simp [go_sem, Flow.ylP_value, Flow.ylP_skip, Flow.ylP_enter, Flow.ylP_panic, hc0, hf0, e16]
  exact hK g wz hC (fun _ _ => rfl)
 ·intro g L wz K ρ hc0 hf0 hF hO hU hcl hi hd hC hK
  have d10 : L 10 = true := hd ⟨10, .data⟩ (by simp) rfl
  have e17 : ρ (.tmp 17) = .pointer (some ⟨Z.r, 0, none⟩) := hF 17 10 (by kernel_rfl) d10
  simp [go_sem, Flow.ylP_value, Flow.ylP_skip, Flow.ylP_enter, Flow.ylP_panic, hc0, hf0, e17]
  exact hK g wz hC (fun _ _ => rfl)
 ·intro g L wz K ρ hc0 hf0 hF hO hU hcl hi hd hC hK
  have d11 : L 11 = true := hd ⟨11, .data⟩ (by simp) rfl
  have e18 : ρ (.tmp 18) = .pointer (some ⟨Z.r, 6, none⟩) := hF 18 11 (by kernel_rfl) d11
  have cc := hC.2.cell c6 HN.out
  simp [go_sem, Flow.ylP_value, Flow.ylP_skip, Flow.ylP_enter, Flow.ylP_panic, hc0, hf0, e18, cc]
  exact hK g wz hC (fun _ _ => rfl)
 ·intro g L wz K ρ hc0 hf0 hF hO hU hcl hi hd hC hK
  have d12 : L 12 = true := hd ⟨12, .data⟩ (by simp) rfl
  have e19 : ρ (.tmp 19) = .int .i64 (s.mks : Int) := hF 19 12 (by kernel_rfl) d12
  simp [go_sem, Flow.ylP_value, Flow.ylP_skip, Flow.ylP_enter, Flow.ylP_panic, hc0, hf0, e19, UM]
  exact hK g wz hC (fun _ _ => rfl)
 ·intro g L wz K ρ hc0 hf0 hF hO hU hcl hi hd hC hK
  have d13 : L 13 = true := hd ⟨13, .data⟩ (by simp) rfl
  have e20 : ρ (.tmp 20) = .int .u64 (s.mks : Int) := hF 20 13 (by kernel_rfl) d13
  simp [go_sem, Flow.ylP_value, Flow.ylP_skip, Flow.ylP_enter, Flow.ylP_panic, hc0, hf0, e20]
  refine (rvary_any s.mks _ (by omega)).mono ?_
  rintro r wn ⟨rfl, hbn⟩
  rw [show (⟨(vput s.mks).toArray⟩ : ByteArray) = PM from HPM.out.symm]
  exact ⟨_, rfl, hK () wn ⟨hC.1.below hbn, hC.2.trans (.of_below hbn)⟩ (by intro j hj; unfold rmV; split <;> first | rfl | (rw [hi] at hj; cases hj) | (have hz := hcl _ 14 (by kernel_rfl) hj; rw [hi] at hz; cases hz))⟩
 ·intro g L wz K ρ hc0 hf0 hF hO hU hcl hi hd hC hK
  have d14 : L 14 = true := hd ⟨14, .data⟩ (by simp) rfl
  have e21 : ρ (.tmp 21) = .string PM := hF 21 14 (by kernel_rfl) d14
  simp [go_sem, Flow.ylP_value, Flow.ylP_skip, Flow.ylP_enter, Flow.ylP_panic, hc0, hf0, e21, hC82, z1]
  exact hK g wz hC (fun _ _ => rfl)
 ·intro g L wz K ρ hc0 hf0 hF hO hU hcl hi hd hC hK
  have e0 : ρ (.tmp 0) = .pointer (some ⟨Z.r, 0, none⟩) := hO 0 (by kernel_rfl)
  simp [go_sem, Flow.ylP_value, Flow.ylP_skip, Flow.ylP_enter, Flow.ylP_panic, hc0, hf0, e0]
  exact hK g wz hC (fun _ _ => rfl)
 ·intro g L wz K ρ hc0 hf0 hF hO hU hcl hi hd hC hK
  have d16 : L 16 = true := hd ⟨16, .data⟩ (by simp) rfl
  have e23 : ρ (.tmp 23) = .pointer (some ⟨Z.r, 0, none⟩) := hF 23 16 (by kernel_rfl) d16
  simp [go_sem, Flow.ylP_value, Flow.ylP_skip, Flow.ylP_enter, Flow.ylP_panic, hc0, hf0, e23]
  exact hK g wz hC (fun _ _ => rfl)
 ·intro g L wz K ρ hc0 hf0 hF hO hU hcl hi hd hC hK
  have d17 : L 17 = true := hd ⟨17, .data⟩ (by simp) rfl
  have e24 : ρ (.tmp 24) = .pointer (some ⟨Z.r, 0, none⟩) := hF 24 17 (by kernel_rfl) d17
  simp [go_sem, Flow.ylP_value, Flow.ylP_skip, Flow.ylP_enter, Flow.ylP_panic, hc0, hf0, e24]
  exact hK g wz hC (fun _ _ => rfl)
 ·intro g L wz K ρ hc0 hf0 hF hO hU hcl hi hd hC hK
  have d18 : L 18 = true := hd ⟨18, .data⟩ (by simp) rfl
  have e25 : ρ (.tmp 25) = .pointer (some ⟨Z.r, 1, none⟩) := hF 25 18 (by kernel_rfl) d18
  have cc := hC.2.cell c1 HN.out
  simp [go_sem, Flow.ylP_value, Flow.ylP_skip, Flow.ylP_enter, Flow.ylP_panic, hc0, hf0, e25, cc]
  exact hK g wz hC (fun _ _ => rfl)
 ·intro g L wz K ρ hc0 hf0 hF hO hU hcl hi hd hC hK
  have d19 : L 19 = true := hd ⟨19, .data⟩ (by simp) rfl
  have e26 : ρ (.tmp 26) = .int .u32 (N : Int) := hF 26 19 (by kernel_rfl) d19
  simp [go_sem, Flow.ylP_value, Flow.ylP_skip, Flow.ylP_enter, Flow.ylP_panic, hc0, hf0, e26]
  refine (rfour_any N _ hN4.out).mono ?_
  rintro r wn ⟨rfl, hbn⟩
  rw [show four N = F from HF.out.symm]
  exact ⟨_, rfl, hK () wn ⟨hC.1.below hbn, hC.2.trans (.of_below hbn)⟩ (by intro j hj; unfold rmV; split <;> first | rfl | (rw [hi] at hj; cases hj) | (have hz := hcl _ 20 (by kernel_rfl) hj; rw [hi] at hz; cases hz))⟩
 ·intro g L wz K ρ hc0 hf0 hF hO hU hcl hi hd hC hK
  have d15 : L 15 = true := hd ⟨15, .data⟩ (by simp) rfl
  have e22 : ρ (.tmp 22) = .string (Cc ++ PM) := hF 22 15 (by kernel_rfl) d15
  have d20 : L 20 = true := hd ⟨20, .data⟩ (by simp) rfl
  have e27 : ρ (.tmp 27) = .string F := hF 27 20 (by kernel_rfl) d20
  simp [go_sem, Flow.ylP_value, Flow.ylP_skip, Flow.ylP_enter, Flow.ylP_panic, hc0, hf0, e22, e27, z2]
  exact hK g wz hC (fun _ _ => rfl)
 ·intro g L wz K ρ hc0 hf0 hF hO hU hcl hi hd hC hK
  have e0 : ρ (.tmp 0) = .pointer (some ⟨Z.r, 0, none⟩) := hO 0 (by kernel_rfl)
  simp [go_sem, Flow.ylP_value, Flow.ylP_skip, Flow.ylP_enter, Flow.ylP_panic, hc0, hf0, e0]
  exact hK g wz hC (fun _ _ => rfl)
 ·intro g L wz K ρ hc0 hf0 hF hO hU hcl hi hd hC hK
  have d22 : L 22 = true := hd ⟨22, .data⟩ (by simp) rfl
  have e29 : ρ (.tmp 29) = .pointer (some ⟨Z.r, 0, none⟩) := hF 29 22 (by kernel_rfl) d22
  simp [go_sem, Flow.ylP_value, Flow.ylP_skip, Flow.ylP_enter, Flow.ylP_panic, hc0, hf0, e29]
  exact hK g wz hC (fun _ _ => rfl)
 ·intro g L wz K ρ hc0 hf0 hF hO hU hcl hi hd hC hK
  have d23 : L 23 = true := hd ⟨23, .data⟩ (by simp) rfl
  have e30 : ρ (.tmp 30) = .pointer (some ⟨Z.r, 0, none⟩) := hF 30 23 (by kernel_rfl) d23
  simp [go_sem, Flow.ylP_value, Flow.ylP_skip, Flow.ylP_enter, Flow.ylP_panic, hc0, hf0, e30]
  exact hK g wz hC (fun _ _ => rfl)
 ·intro g L wz K ρ hc0 hf0 hF hO hU hcl hi hd hC hK
  have d24 : L 24 = true := hd ⟨24, .data⟩ (by simp) rfl
  have e31 : ρ (.tmp 31) = .pointer (some ⟨Z.r, 2, none⟩) := hF 31 24 (by kernel_rfl) d24
  have cc := hC.2.cell c2 HN.out
  simp [go_sem, Flow.ylP_value, Flow.ylP_skip, Flow.ylP_enter, Flow.ylP_panic, hc0, hf0, e31, cc]
  exact hK g wz hC (fun _ _ => rfl)
 ·intro g L wz K ρ hc0 hf0 hF hO hU hcl hi hd hC hK
  have d25 : L 25 = true := hd ⟨25, .data⟩ (by simp) rfl
  have e32 : ρ (.tmp 32) = .int .i64 (s.tot : Int) := hF 32 25 (by kernel_rfl) d25
  simp [go_sem, Flow.ylP_value, Flow.ylP_skip, Flow.ylP_enter, Flow.ylP_panic, hc0, hf0, e32, UT]
  exact hK g wz hC (fun _ _ => rfl)
 ·intro g L wz K ρ hc0 hf0 hF hO hU hcl hi hd hC hK
  have d26 : L 26 = true := hd ⟨26, .data⟩ (by simp) rfl
  have e33 : ρ (.tmp 33) = .int .u64 (s.tot : Int) := hF 33 26 (by kernel_rfl) d26
  simp [go_sem, Flow.ylP_value, Flow.ylP_skip, Flow.ylP_enter, Flow.ylP_panic, hc0, hf0, e33]
  refine (rvary_any s.tot _ (by omega)).mono ?_
  rintro r wn ⟨rfl, hbn⟩
  rw [show (⟨(vput s.tot).toArray⟩ : ByteArray) = PT from HPT.out.symm]
  exact ⟨_, rfl, hK () wn ⟨hC.1.below hbn, hC.2.trans (.of_below hbn)⟩ (by intro j hj; unfold rmV; split <;> first | rfl | (rw [hi] at hj; cases hj) | (have hz := hcl _ 27 (by kernel_rfl) hj; rw [hi] at hz; cases hz))⟩
 ·intro g L wz K ρ hc0 hf0 hF hO hU hcl hi hd hC hK
  have d21 : L 21 = true := hd ⟨21, .data⟩ (by simp) rfl
  have e28 : ρ (.tmp 28) = .string (Cc ++ PM ++ F) := hF 28 21 (by kernel_rfl) d21
  have d27 : L 27 = true := hd ⟨27, .data⟩ (by simp) rfl
  have e34 : ρ (.tmp 34) = .string PT := hF 34 27 (by kernel_rfl) d27
  simp [go_sem, Flow.ylP_value, Flow.ylP_skip, Flow.ylP_enter, Flow.ylP_panic, hc0, hf0, e28, e34, z3]
  exact hK g wz hC (fun _ _ => rfl)
 ·intro g L wz K ρ hc0 hf0 hF hO hU hcl hi hd hC hK
  have e0 : ρ (.tmp 0) = .pointer (some ⟨Z.r, 0, none⟩) := hO 0 (by kernel_rfl)
  simp [go_sem, Flow.ylP_value, Flow.ylP_skip, Flow.ylP_enter, Flow.ylP_panic, hc0, hf0, e0]
  exact hK g wz hC (fun _ _ => rfl)
 ·intro g L wz K ρ hc0 hf0 hF hO hU hcl hi hd hC hK
  have d29 : L 29 = true := hd ⟨29, .data⟩ (by simp) rfl
  have e36 : ρ (.tmp 36) = .pointer (some ⟨Z.r, 0, none⟩) := hF 36 29 (by kernel_rfl) d29
  simp [go_sem, Flow.ylP_value, Flow.ylP_skip, Flow.ylP_enter, Flow.ylP_panic, hc0, hf0, e36]
  exact hK g wz hC (fun _ _ => rfl)
 ·intro g L wz K ρ hc0 hf0 hF hO hU hcl hi hd hC hK
  have d30 : L 30 = true := hd ⟨30, .data⟩ (by simp) rfl
  have e37 : ρ (.tmp 37) = .pointer (some ⟨Z.r, 0, none⟩) := hF 37 30 (by kernel_rfl) d30
  simp [go_sem, Flow.ylP_value, Flow.ylP_skip, Flow.ylP_enter, Flow.ylP_panic, hc0, hf0, e37]
  exact hK g wz hC (fun _ _ => rfl)
 ·intro g L wz K ρ hc0 hf0 hF hO hU hcl hi hd hC hK
  have d31 : L 31 = true := hd ⟨31, .data⟩ (by simp) rfl
  have e38 : ρ (.tmp 38) = .pointer (some ⟨Z.r, 5, none⟩) := hF 38 31 (by kernel_rfl) d31
  have cc := hC.2.cell c5 HN.out
  simp [go_sem, Flow.ylP_value, Flow.ylP_skip, Flow.ylP_enter, Flow.ylP_panic, hc0, hf0, e38, cc]
  exact hK g wz hC (fun _ _ => rfl)
 ·intro g L wz K ρ hc0 hf0 hF hO hU hcl hi hd hC hK
  have d32 : L 32 = true := hd ⟨32, .data⟩ (by simp) rfl
  have e39 : ρ (.tmp 39) = .int .i64 (s.sf : Int) := hF 39 32 (by kernel_rfl) d32
  simp [go_sem, Flow.ylP_value, Flow.ylP_skip, Flow.ylP_enter, Flow.ylP_panic, hc0, hf0, e39, UF]
  exact hK g wz hC (fun _ _ => rfl)
 ·intro g L wz K ρ hc0 hf0 hF hO hU hcl hi hd hC hK
  have d33 : L 33 = true := hd ⟨33, .data⟩ (by simp) rfl
  have e40 : ρ (.tmp 40) = .int .u64 (s.sf : Int) := hF 40 33 (by kernel_rfl) d33
  simp [go_sem, Flow.ylP_value, Flow.ylP_skip, Flow.ylP_enter, Flow.ylP_panic, hc0, hf0, e40]
  refine (rvary_any s.sf _ (by omega)).mono ?_
  rintro r wn ⟨rfl, hbn⟩
  rw [show (⟨(vput s.sf).toArray⟩ : ByteArray) = PF from HPF.out.symm]
  exact ⟨_, rfl, hK () wn ⟨hC.1.below hbn, hC.2.trans (.of_below hbn)⟩ (by intro j hj; unfold rmV; split <;> first | rfl | (rw [hi] at hj; cases hj) | (have hz := hcl _ 34 (by kernel_rfl) hj; rw [hi] at hz; cases hz))⟩
 ·intro g L wz K ρ hc0 hf0 hF hO hU hcl hi hd hC hK
  have d28 : L 28 = true := hd ⟨28, .data⟩ (by simp) rfl
  have e35 : ρ (.tmp 35) = .string (Cc ++ PM ++ F ++ PT) := hF 35 28 (by kernel_rfl) d28
  have d34 : L 34 = true := hd ⟨34, .data⟩ (by simp) rfl
  have e41 : ρ (.tmp 41) = .string PF := hF 41 34 (by kernel_rfl) d34
  simp [go_sem, Flow.ylP_value, Flow.ylP_skip, Flow.ylP_enter, Flow.ylP_panic, hc0, hf0, e35, e41, z4]
  exact hK g wz hC (fun _ _ => rfl)
 ·intro g L wz K ρ hc0 hf0 hF hO hU hcl hi hd hC hK
  have d35 : L 35 = true := hd ⟨35, .data⟩ (by simp) rfl
  have e42 : ρ (.tmp 42) = .string (Cc ++ PM ++ F ++ PT ++ PF) := hF 42 35 (by kernel_rfl) d35
  simp [go_sem, Flow.ylP_value, Flow.ylP_skip, Flow.ylP_enter, Flow.ylP_panic, hc0, hf0, e42]
  refine (rseal_any _ _ HBs.out).mono ?_
  rintro r wn ⟨rfl, hbn⟩
  rw [← HZ.out]
  exact ⟨_, rfl, hK () wn ⟨hC.1.below hbn, hC.2.trans (.of_below hbn)⟩ (by intro j hj; unfold rmV; split <;> first | rfl | (rw [hi] at hj; cases hj) | (have hz := hcl _ 36 (by kernel_rfl) hj; rw [hi] at hz; cases hz))⟩
 ·intro g L wz K ρ hc0 hf0 hF hO hU hcl hi hd hC hK
  have d3 : L 3 = true := hd ⟨3, .data⟩ (by simp) rfl
  have e10 : ρ (.tmp 10) = .pointer (some ⟨Z.D, 0, none⟩) := hF 10 3 (by kernel_rfl) d3
  have d8 : L 8 = true := hd ⟨8, .data⟩ (by simp) rfl
  have e15 : ρ (.tmp 15) = .int .i64 (q : Int) := hF 15 8 (by kernel_rfl) d8
  have d36 : L 36 = true := hd ⟨36, .data⟩ (by simp) rfl
  have e43 : ρ (.tmp 43) = .string ZZ := hF 43 36 (by kernel_rfl) d36
  simp [go_sem, Flow.ylP_value, Flow.ylP_skip, Flow.ylP_enter, Flow.ylP_panic, hc0, hf0, e10, e15, e43]
  simp only [hi, cond_false] at hC
  refine (rwrite_any hC.1 (q : Int) ZZ HZs.out HL.out).mono ?_
  rintro r wn ⟨rfl, hpn, htn⟩
  rw [E1.out]
  rw [E2.out] at hpn
  exact ⟨_, rfl, hK () wn ⟨hpn, hC.2.trans htn⟩ (by intro j hj; unfold rmV; split <;> first | rfl | (rw [hi] at hj; cases hj) | (have hz := hcl _ 37 (by kernel_rfl) hj; rw [hi] at hz; cases hz))⟩
 ·intro g L ch wz h; exact h.elim
 ·intro g L wz hL hC
  rw [hL 37 (by decide)] at hC
  simp only [Flow.putAll, rmV]
  simp [Act.put]
  have h2 := h.disked hC.1 hC.2 (.inl rfl) HFM'.out HC1.out HCNT.out
  have ht2 := hC.2
  clear hC h c0 c1 c2 c5 c6 hq hq2 z1 z2 z3 z4 lPM lPT lPF lF lC UM UT UF HPM HPT HPF
  have c6 := h2.cell 6 rfl
  have f6 := h2.free 6 rfl
  simp only at c6 f6
  obtain ⟨wm1, wm2⟩ := WM.out
  go_wp2
  go_end0
  have hset : Turned Z.foot wz (wz.setCell ⟨Z.r, 6, none⟩ (.int .i64 ((s.mks : Int) + 1))) := .set wz 6 _ (.inl rfl)
  have hs := h2.stored 6 (.int .i64 ((s.mks : Int) + 1)) { s with X := upd s.X q (padz ZZ), mks := s.mks + 1 } rfl rfl rfl rfl (by omega) (by rw [HS.out]; exact HFM.out)
  rw [HS.out] at hs
  rw [e2.out]
  exact ⟨rfl, hs, (ht2.mono fun i => foot_D).trans hset⟩
end Go.Proofs.YtfefpcdgflgaeaaGreatDoor
end

section
namespace Go.Proofs.YtfefpcdgflgaeaaGreatDoor
set_option linter.unusedSimpArgs false
set_option linter.unusedVariables false
open Go.RowKit As
theorem first_of {t : ByteArray} (h : 0 < t.size) : (t.extract 0 1).data = #[t[0]] := by
 apply Array.ext
 ·simp only [ByteArray.data_extract, Array.size_extract, List.size_toArray, List.length_singleton]
  have : t.data.size = t.size := rfl
  omega
 ·intro i h1 h2
  obtain rfl : i = 0 := by simpa using h2
  simp only [ByteArray.data_extract, Array.getElem_extract]
  rfl
/-- Whether a text begins with C. -/
def isC (t : ByteArray) : Bool := decide (¬ (t.size = 0 ∨ byteAt t 0 ≠ 67))
set_option maxRecDepth 100000 in
theorem prefixC_any (t : ByteArray) (w : World) (ht : t.size ≤ 1000000) :
  Calls Tryz.prog 66 #[.string t, .string ⟨#[67]⟩] w fun e w' => e = .returned (.bool (isC t)) ∧ w = w' := by
 by_cases h0 : t.size = 0
 ·have hr := Lib.hid (show isC t = false by unfold isC; rw [decide_eq_false]; intro h; exact h (.inl h0))
  have d0 : decide (1 ≤ t.size) = false := by simp only [decide_eq_false_iff_not]; omega
  have d1 : decide ((1 : Int) ≤ (t.size : Int)) = false := by simp only [decide_eq_false_iff_not]; omega
  clear h0
  go_enter Tryz.func66, Tryz.ntmps66
  go_wp2
  go_ret
  exact ⟨by rw [hr.out]; rfl, rfl⟩
 ·have hp : 0 < t.size := by omega
  have d0 : decide (1 ≤ t.size) = true := by simp only [decide_eq_true_eq]; omega
  have d1 : decide ((1 : Int) ≤ (t.size : Int)) = true := by simp only [decide_eq_true_eq]; omega
  have i1 : (1 : Int) ≤ (t.size : Int) := by omega
  have hb := byteAt_eq t 0 hp
  have hf := first_of hp
  by_cases hc : byteAt t 0 = 67
  ·have hr := Lib.hid (show isC t = true by unfold isC; rw [decide_eq_true]; intro h; rcases h with h | h <;> omega)
   have hE : t.extract 0 1 = ⟨#[67]⟩ := by
    apply ByteArray.ext
    rw [hf]
    have : t[0] = 67 := by apply UInt8.toNat_inj.1; rw [← hb, hc]; rfl
    rw [this]
   clear h0 hb hf hc
   go_enter Tryz.func66, Tryz.ntmps66
   go_wp2
   go_ret
   exact ⟨by rw [hr.out]; rfl, rfl⟩
  ·have hr := Lib.hid (show isC t = false by unfold isC; rw [decide_eq_false]; intro h; exact h (.inr hc))
   have hE : t.extract 0 1 ≠ ⟨#[67]⟩ := by
    intro h
    rw [h] at hf
    have h67 : (67 : UInt8) = t[0] := by
     have := congrArg (fun a : Array UInt8 => a.toList) hf
     simpa using this
    exact hc (by rw [hb, ← h67]; rfl)
   have hne : ((t.extract 0 1).toList == [67]) = false := by
    rw [beq_eq_false_iff_ne, ByteArray.toList_eq]
    intro h
    apply hE
    apply ByteArray.ext
    apply Array.ext'
    rw [h]
   clear h0 hb hf hc hE
   go_enter Tryz.func66, Tryz.ntmps66
   go_wp2
   go_ret
   exact ⟨by rw [hr.out]; rfl, rfl⟩
/-- The name's bytes from above i on. -/
def nmF (t : ByteArray) (i : Nat) : Nat := if i = 4 then 0 else if i = 3 then byteAt t 4 else if i = 2 then byteAt t 3 + 256 * byteAt t 4 else if i = 1 then byteAt t 2 + 256 * (byteAt t 3 + 256 * byteAt t 4) else nameOf t
theorem nmF_step (t : ByteArray) {i : Nat} (h : i < 4) : nmF t i = nmF t (i + 1) * 256 + byteAt t (i + 1) ∧ nmF t i < 4294967296 ∧ nmF t (i + 1) * 256 < 4294967296 := by
 have h1 := byteAt_lt t 1
 have h2 := byteAt_lt t 2
 have h3 := byteAt_lt t 3
 have h4 := byteAt_lt t 4
 rcases (by omega : i = 0 ∨ i = 1 ∨ i = 2 ∨ i = 3) with rfl | rfl | rfl | rfl <;> simp [nmF, nameOf] <;> omega
set_option maxHeartbeats 4000000 in
set_option maxRecDepth 100000 in
theorem rcread_any (s : ByteArray) (w : World) (hs : s.size ≤ 1000000) :
  Calls Tryz.prog 35 #[.string s] w fun r w' => r = .returned (.tuple #[ckVal (unchunk s).1, .int .i64 (unchunk s).2]) ∧ Below w.heap.size w w' := by
 have hR := Ck.new w 0 0 0 ⟨#[]⟩
 have b0 := below1 w (ckO 0 0 0 ⟨#[]⟩)
 have hz0 := Lib.hid (show unchunk s = if (openOf s).2 ≠ 0 then (chk0, (openOf s).2) else uncut (openOf s).1 from rfl)
 have hsay := open_says s
 go_enter Tryz.func35, Tryz.ntmps35
 go_wp2_with fail
 generalize hWW : w.alloc (ckO 0 0 0 ⟨#[]⟩) = W at *
 clear hWW
 refine (ropen_any s _ hs).mono ?_
 rintro r w1 ⟨rfl, hb1⟩
 replace hR := hR.below hb1
 have b1 := b0.trans (hb1.mono b0.size)
 have lt1 := hR.lt
 clear b0 hb1
 generalize openOf s = y at *
 obtain ⟨t, e⟩ := y
 simp only at *
 by_cases he : e = 0
 ·subst he
  have hr := Lib.hid (hz0.out.trans (if_neg (by simp)))
  clear hz0
  have hts : t.size ≤ 1000000 := by
   rcases hsay with h | h | h
   ·omega
   ·injection h with _ h; omega
   ·injection h with _ h; omega
  clear hsay
  by_cases h0 : t.size = 0 ∨ byteAt t 0 ≠ 67
  ·have hr2 := Lib.hid (hr.out.trans (uncut_name h0))
   have hC := Lib.hid (show isC t = false by unfold isC; rw [decide_eq_false]; intro h; exact h h0)
   have hZ := hR.put (m' := 0) (t' := 0) (a' := 0) (d' := ⟨#[]⟩)
   obtain ⟨u0, u1, u2, u3, j0, j1, j2, j3⟩ := hR
   clear h0 hr
   go_wp2_with fail
   refine (prefixC_any t _ hts).mono ?_
   rintro r w' ⟨rfl, rfl⟩
   rw [hC.out]
   go_wp2
   unfold put4 at hZ
   obtain ⟨z0, z1, z2, z3, _, _, _, _⟩ := hZ
   exact bodyPost_ret (v := .tuple #[.agg #[.int .u32 0, .int .i64 0, .int .i64 0, .string ⟨#[]⟩], .int .i64 5]) (by simp [results, Tryz.results35, go_sem, z0, z1, z2, z3]) rfl ⟨by rw [hr2.out]; rfl, below_put4 b1 (Nat.le_refl _)⟩
  ·have hC := Lib.hid (show isC t = true by unfold isC; rw [decide_eq_true]; exact h0)
   go_wp2_with fail
   refine (prefixC_any t _ hts).mono ?_
   rintro r w' ⟨rfl, rfl⟩
   rw [hC.out]
   by_cases h5 : t.size < 5
   ·have hr2 := Lib.hid (hr.out.trans (uncut_short h0 h5))
    have e5 : decide (t.size < 5) = true := by simpa using h5
    have e5' : decide ((t.size : Int) < 5) = true := by simp only [decide_eq_true_eq]; omega
    have hZ := hR.put (m' := 0) (t' := 0) (a' := 0) (d' := ⟨#[]⟩)
    obtain ⟨u0, u1, u2, u3, j0, j1, j2, j3⟩ := hR
    clear h0 hr h5
    go_wp2
    unfold put4 at hZ
    obtain ⟨z0, z1, z2, z3, _, _, _, _⟩ := hZ
    exact bodyPost_ret (v := .tuple #[.agg #[.int .u32 0, .int .i64 0, .int .i64 0, .string ⟨#[]⟩], .int .i64 7]) (by simp [results, Tryz.results35, go_sem, z0, z1, z2, z3]) rfl ⟨by rw [hr2.out]; rfl, below_put4 b1 (Nat.le_refl _)⟩
   ·have e5 : decide (t.size < 5) = false := by simpa using h5
    have e5' : decide ((t.size : Int) < 5) = false := by simp only [decide_eq_false_iff_not]; omega
    have H0 := Lib.hid h0
    have H5 := Lib.hid h5
    have p5 : 5 ≤ t.size := by omega
    have hNew := Ck.new w1 0 0 0 ⟨#[]⟩
    have bN := below1 w1 (ckO 0 0 0 ⟨#[]⟩)
    have hRN := hR.below bN
    have bz := b1.trans (bN.mono b1.size)
    have hgR : w.heap.size ≠ w1.heap.size := by omega
    have hgL : w.heap.size < w1.heap.size := lt1
    have HNw := hNew
    obtain ⟨u0, u1, u2, u3, j0, j1, j2, j3⟩ := hNew
    clear h0 h5 hR
    generalize hG : w1.heap.size = g at *
    have h40 : ((nmF t 4 : Nat) : Int) = 0 := by simp [nmF]
    go_wp2
    go_loopw [7] (fun iv wr => ∃ i : Nat, i ≤ 4 ∧ iv = .int .i64 i ∧ Ck wr g (nmF t i : Nat) 0 0 ⟨#[]⟩ ∧ Ck wr w.heap.size 0 0 0 ⟨#[]⟩ ∧ Below w.heap.size w wr) (fun iv _ => (intOf iv).toNat)
    case atStart => exact ⟨4, by omega, rfl, by rw [h40]; exact HNw, hRN, bz⟩
    case round =>
     obtain ⟨i, hi, rfl, hC, hRr, hbel⟩ := hrel
     clear HNw hRN bz u0 u1 u2 u3 j0 j1 j2 j3 h40
     by_cases h1 : 1 ≤ i
     ·obtain ⟨q1, q2, q3⟩ := nmF_step t (i := i - 1) (by omega)
      rw [show i - 1 + 1 = i by omega] at q1 q3
      have hit : i < t.size := by omega
      have hB := byteAt_eq t i hit
      have hBl := byteAt_lt t i
      obtain ⟨X, hX⟩ : ∃ X, X = nmF t i := ⟨_, rfl⟩
      obtain ⟨Y, hY⟩ : ∃ Y, Y = nmF t (i - 1) := ⟨_, rfl⟩
      rw [← hX] at q1 q3 hC
      rw [← hY] at q1 q2
      generalize byteAt t i = Bt at *
      have HY := Lib.hid hY
      clear hX hY
      have g0 : decide ((1 : Int) ≤ (i : Int)) = true := by simp only [decide_eq_true_eq]; omega
      have g0' : decide (1 ≤ i) = true := by simp only [decide_eq_true_eq]; omega
      have g1 : (0 : Int) ≤ (i : Int) := by omega
      have g2 : (i : Int) < (t.size : Int) := by omega
      have g3 : ((t[i].toNat : Nat) : Int) = (Bt : Int) := by rw [← hB]
      have g4 : IntKind.u32.wrap ((X : Int) * 256) = (X : Int) * 256 := u32_mul (n := X) (k := 256) (by omega)
      have g5 := u32_nat (n := Bt) (by omega)
      have g6 : IntKind.u32.wrap ((X : Int) * 256 + (Bt : Int)) = (Y : Int) := by
       have : (X : Int) * 256 + (Bt : Int) = (Y : Int) := by omega
       rw [this]; exact u32_nat q2
      have g7 : IntKind.i64.wrap ((i : Int) - 1) = ((i - 1 : Nat) : Int) := by
       have : (i : Int) - 1 = ((i - 1 : Nat) : Int) := by omega
       rw [this]; exact IntWalk.i64_in _ (by omega)
      have hCn := hC.nam (Y : Int)
      have hRn := hRr.other (C := g) (i := 0) (Ne.symm hgR) (.int .u32 (Y : Int))
      have bn := hbel.setCell (p := ⟨g, 0, none⟩) (Nat.le_of_lt hgL) (.int .u32 (Y : Int))
      obtain ⟨u0, u1, u2, u3, j0, j1, j2, j3⟩ := hC
      clear q1 q2 q3 hB hBl
      go_wp2
      go_region
      all_goals
       go_wp2
       go_roundw
      case rel => exact ⟨i - 1, by omega, by first | rfl | (rw [show ((i - 1 : Nat) : Int) = (i : Int) - 1 by omega]), by rw [← HY.out]; exact hCn.drew, hRn.drew, bn.drew⟩
      case measure => simp [intOf]; omega
     ·obtain rfl : i = 0 := by omega
      have hNM : nmF t 0 = nameOf t := by simp [nmF]
      rw [hNM] at hC
      obtain ⟨NM, hNM'⟩ : ∃ x, x = nameOf t := ⟨_, rfl⟩
      rw [← hNM'] at hC
      have HNM := Lib.hid hNM'
      clear hNM hNM' h1
      obtain ⟨n, k, e, ha, hx⟩ := vat_of t 5 4096
      have lR : (t.extract 5 t.size).size = t.size - 5 := by rw [ByteArray.size_extract]; omega
      have hl : (t.extract 5 t.size).size ≤ maxLen := by unfold maxLen; omega
      have hv := Lib.hid (show vint (t.extract 5 t.size).data.toList 4096 = (n, k, e) from ha)
      have HA := Lib.hid ha
      have i5 : (5 : Int) ≤ (t.size : Int) := by omega
      clear ha
      go_wp2_with fail
      refine (rvint_any (t.extract 5 t.size) 4096 _ hl (by omega)).mono ?_
      rintro r w' ⟨rfl, rfl⟩
      rw [hv.out]
      simp only
      rcases hx with ⟨rfl, x1, x2, x3, x4⟩ | ⟨he, rfl, rfl⟩
      ·obtain ⟨m, j, e, hb, hx⟩ := vat_of t (5 + k) 4096
       have lR2 : (t.extract (5 + k) t.size).size = t.size - (5 + k) := by rw [ByteArray.size_extract]; omega
       have hl2 : (t.extract (5 + k) t.size).size ≤ maxLen := by unfold maxLen; omega
       have hv2 := Lib.hid (show vint (t.extract (5 + k) t.size).data.toList 4096 = (m, j, e) from hb)
       have HB := Lib.hid hb
       have w5 : IntKind.i64.wrap (5 + (k : Int)) = ((5 + k : Nat) : Int) := IntWalk.i64_in _ (by omega)
       have i6 : (0 : Int) ≤ 5 + (k : Int) := by omega
       have i7 : 5 + (k : Int) ≤ (t.size : Int) := by omega
       have i8 : (5 + (k : Int)).toNat = 5 + k := by omega
       clear hb
       go_wp2_with fail
       try rw [i8]
       refine (rvint_any (t.extract (5 + k) t.size) 4096 _ hl2 (by omega)).mono ?_
       rintro r w' ⟨rfl, rfl⟩
       rw [hv2.out]
       simp only
       rcases hx with ⟨rfl, y1, y2, y3, y4⟩ | ⟨he, rfl, rfl⟩
       ·have w6 : IntKind.i64.wrap (5 + (k : Int) + (j : Int)) = ((5 + k + j : Nat) : Int) := IntWalk.i64_in _ (by omega)
        have n6 : (0 : Int) ≤ 5 + (k : Int) + (j : Int) := by omega
        have n7 : 5 + (k : Int) + (j : Int) ≤ (t.size : Int) := by omega
        have n8 : (5 + (k : Int) + (j : Int)).toNat = 5 + k + j := by omega
        have lD : (t.extract (5 + k + j) t.size).size = t.size - (5 + k + j) := by rw [ByteArray.size_extract]; omega
        obtain ⟨D, hD⟩ : ∃ D, D = t.extract (5 + k + j) t.size := ⟨_, rfl⟩
        rw [← hD] at lD
        have lD2 : D.size ≤ 1000000000000 := by omega
        have hD' := hD.symm
        have HD := Lib.hid hD
        clear hD
        have hCd := ((hC.tot (n : Int)).place (m : Int)).dat D
        have hRd := ((hRr.other (C := g) (i := 1) (Ne.symm hgR) (.int .i64 (n : Int))).other (C := g) (i := 2) (Ne.symm hgR) (.int .i64 (m : Int))).other (C := g) (i := 3) (Ne.symm hgR) (.string D)
        have bd := ((hbel.setCell (p := ⟨g, 1, none⟩) (Nat.le_of_lt hgL) (.int .i64 (n : Int))).setCell (p := ⟨g, 2, none⟩) (Nat.le_of_lt hgL) (.int .i64 (m : Int))).setCell (p := ⟨g, 3, none⟩) (Nat.le_of_lt hgL) (.string D)
        obtain ⟨u0, u1, u2, u3, j0, j1, j2, j3⟩ := hC
        go_wp2
        go_region
        have HCd := hCd.drew
        have HRd := hRd.drew
        have Bd := bd.drew
        clear hCd hRd bd
        generalize (((wr.setCell ⟨g, 1, none⟩ (.int .i64 (n : Int))).setCell ⟨g, 2, none⟩ (.int .i64 (m : Int))).setCell ⟨g, 3, none⟩ (.string D)).drew = W at *
        have HCC := HCd
        obtain ⟨y0, y1, y2, y3, _, _, _, _⟩ := HCd
        go_wp2_with fail
        refine (rckright_any (NM : Int) (n : Int) (m : Int) D _ lD2).mono ?_
        rintro r w' ⟨rfl, hb'⟩
        rw [lD]
        have hRe := HRd.below hb'
        have hCe := HCC.below hb'
        have be := Bd.trans (hb'.mono Bd.size)
        by_cases hz : chkRight (n : Int) (m : Int) (t.size - (5 + k + j)) = 0
        ·have hr2 := Lib.hid (hr.out.trans (uncut_good H0.out H5.out HA.out HB.out hz))
         rw [hz]
         clear hz
         have hZ := hRe.put (m' := (NM : Int)) (t' := (n : Int)) (a' := (m : Int)) (d' := D)
         obtain ⟨x0, x1, x2, x3, i0, i1, i2, i3⟩ := hRe
         obtain ⟨v0, v1, v2, v3, _, _, _, _⟩ := hCe
         go_wp2
         unfold put4 at hZ
         obtain ⟨z0, z1, z2, z3, _, _, _, _⟩ := hZ
         exact bodyPost_ret (v := .tuple #[.agg #[.int .u32 (NM : Int), .int .i64 (n : Int), .int .i64 (m : Int), .string D], .int .i64 0]) (by simp [results, Tryz.results35, go_sem, z0, z1, z2, z3]) rfl ⟨by rw [hr2.out, HD.out, HNM.out]; rfl, below_put4 be (Nat.le_refl _)⟩
        ·have hr2 := Lib.hid (hr.out.trans (uncut_bad H0.out H5.out HA.out HB.out hz))
         have hne : (chkRight (n : Int) (m : Int) (t.size - (5 + k + j)) != 0) = true := by rw [bne_iff_ne]; exact hz
         clear hz
         generalize hE : chkRight (n : Int) (m : Int) (t.size - (5 + k + j)) = e at *
         clear hE
         have hZ := hRe.put (m' := 0) (t' := 0) (a' := 0) (d' := ⟨#[]⟩)
         obtain ⟨x0, x1, x2, x3, i0, i1, i2, i3⟩ := hRe
         go_wp2
         unfold put4 at hZ
         obtain ⟨z0, z1, z2, z3, _, _, _, _⟩ := hZ
         exact bodyPost_ret (v := .tuple #[.agg #[.int .u32 0, .int .i64 0, .int .i64 0, .string ⟨#[]⟩], .int .i64 e]) (by simp [results, Tryz.results35, go_sem, z0, z1, z2, z3]) rfl ⟨by rw [hr2.out]; rfl, below_put4 be (Nat.le_refl _)⟩
       ·have hr2 := Lib.hid (hr.out.trans (uncut_two H0.out H5.out HA.out HB.out he))
        have hne : (e != 0) = true := by rw [bne_iff_ne]; exact he
        clear he
        have hZ := hRr.put (m' := 0) (t' := 0) (a' := 0) (d' := ⟨#[]⟩)
        obtain ⟨x0, x1, x2, x3, i0, i1, i2, i3⟩ := hRr
        go_wp2
        unfold put4 at hZ
        obtain ⟨z0, z1, z2, z3, _, _, _, _⟩ := hZ
        exact bodyPost_ret (v := .tuple #[.agg #[.int .u32 0, .int .i64 0, .int .i64 0, .string ⟨#[]⟩], .int .i64 e]) (by simp [results, Tryz.results35, go_sem, z0, z1, z2, z3]) rfl ⟨by rw [hr2.out]; rfl, below_put4 hbel (Nat.le_refl _)⟩
      ·have hr2 := Lib.hid (hr.out.trans (uncut_one H0.out H5.out HA.out he))
       have hne : (e != 0) = true := by rw [bne_iff_ne]; exact he
       clear he
       have hZ := hRr.put (m' := 0) (t' := 0) (a' := 0) (d' := ⟨#[]⟩)
       obtain ⟨x0, x1, x2, x3, i0, i1, i2, i3⟩ := hRr
       go_wp2
       unfold put4 at hZ
       obtain ⟨z0, z1, z2, z3, _, _, _, _⟩ := hZ
       exact bodyPost_ret (v := .tuple #[.agg #[.int .u32 0, .int .i64 0, .int .i64 0, .string ⟨#[]⟩], .int .i64 e]) (by simp [results, Tryz.results35, go_sem, z0, z1, z2, z3]) rfl ⟨by rw [hr2.out]; rfl, below_put4 hbel (Nat.le_refl _)⟩
 ·have hr2 := Lib.hid (hz0.out.trans (if_pos he))
  have hne : (e != 0) = true := by rw [bne_iff_ne]; exact he
  have hZ := hR.put (m' := 0) (t' := 0) (a' := 0) (d' := ⟨#[]⟩)
  obtain ⟨u0, u1, u2, u3, j0, j1, j2, j3⟩ := hR
  clear he hz0 hsay
  go_wp2
  unfold put4 at hZ
  obtain ⟨z0, z1, z2, z3, _, _, _, _⟩ := hZ
  exact bodyPost_ret (v := .tuple #[.agg #[.int .u32 0, .int .i64 0, .int .i64 0, .string ⟨#[]⟩], .int .i64 e]) (by simp [results, Tryz.results35, go_sem, z0, z1, z2, z3]) rfl ⟨by rw [hr2.out]; rfl, below_put4 b1 (Nat.le_refl _)⟩
end Go.Proofs.YtfefpcdgflgaeaaGreatDoor
end
