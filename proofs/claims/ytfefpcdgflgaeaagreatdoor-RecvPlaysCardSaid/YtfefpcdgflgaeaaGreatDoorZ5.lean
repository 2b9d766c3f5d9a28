/- The program's receiver: New, Text.

The program's receiver: Save. Printed by gen_recvs.py.

Whether a text is empty. Any program.

vary.Put makes what vput says.

vary.Get and Unvary of the reference say what vget says.

How many bytes a number needs, and which they are, in plain Lean. No program in sight.

Vary of the reference makes what vput says.

span.Put, span.Get and Span, Unspan of the reference say what spanOf and unspan say. -/
import Derived.Test.YtfefpcdgflgaeaaGreatDoorZ4b
import Derived.Test.YtfefpcdgflgaeaaGreatDoorZ1
import Derived.Deep.QuietTactic
import Derived.BigQuiet
import Derived.Test.YtfefpcdgflgaeaaGreatDoorZ3
import Derived.WalkKit
import Derived.WalkLawsBesides
import Derived.WalkSpells
import Derived.Outline
import Derived.Lib.Hide
import Derived.Laws.BitsAllLaws
import Derived.Lib.BitFns
import Derived.Test.YtfefpcdgflgaeaaGreatDoorShelfLen
import Derived.OwnWalk
section
namespace Go.Proofs.YtfefpcdgflgaeaaGreatDoor
set_option linter.unusedSimpArgs false
set_option linter.unusedVariables false
open Go.RowKit As Go.Maps
theorem string_part {P : Program} {w : World} {A n a b c : Nat} {f : CF} (src e dst : TypeId) (hs : P.underlying src = some (.slice e)) (he : P.underlying e = some (.int .u8)) (hd : P.underlying dst = some .string) (h : ByteRow w A n f) (hb : b ≤ n) :
  (convert src dst (.slice (some ⟨A, a, none⟩) (b - a) c)).run P w = .ok (.string (blk f a b)) w := by
 rw [run_convert_bytes_arg w src e hs he A a (b - a) c ((List.range (b - a)).map fun i => (((f (a + i)).getD 0).toNat : Int)) (by simp) (fun i hi => by
  rw [(h (a + i) (by omega)).1]
  simp [List.getD, hi]) dst hd]
 congr 2
 unfold blk strOf
 simp only [strOfNums, List.map_map]
 congr 2
 apply List.map_congr_left
 intro i _
 simp
theorem blk_whole {w : World} {A n c : Nat} {f : CF} (h : ByteRow w A n f) : (convert 69 9 (.slice (some ⟨A, 0, none⟩) n c)).run Tryz.prog w = .ok (.string (blk f 0 n)) w :=
 string_part (a := 0) (b := n) 69 5 9 Tryz.underlying69 Tryz.underlying5 Tryz.underlying9 h (Nat.le_refl _)
theorem PR.drewN {w : World} {K : Nat} {L : PLoc} {s : Rst} (h : PR w K L s) (n : Nat) : PR (w.drewN n) K L s := h.below (below_drewN (Below.refl _ _) _)
theorem psum_at (z : ByteArray) (hz : z.size ≤ maxLen) (w : World) : Calls Tryz.prog 52 #[.string z] w fun e w' => e = .returned (.int .u32 (crcOf z : Int)) ∧ w' = w := (Crc.sum_any z w hz).mono fun _ _ ⟨a, b⟩ => ⟨a, b.symm⟩
set_option maxHeartbeats 1000000 in
set_option maxRecDepth 100000 in
theorem ptext_any {w : World} {K : Nat} {L : PLoc} {s : Rst} (h : PR w K L s) :
  Calls Tryz.prog 20 #[.pointer (some ⟨L.r, 0, none⟩)] w fun e w' => e = .returned (.tuple #[.string s.text, errV s.textE]) ∧ Below w.heap.size w w' := by
 have c2 := h.cell 2 rfl
 by_cases h0 : s.tot = 0
 ·have e1 := Lib.hid (show s.textE = 8 by unfold Rst.textE; rw [if_pos h0])
  have e2 := Lib.hid (show s.text = ⟨#[]⟩ by unfold Rst.text; rw [e1.out]; rfl)
  have t0 : ((s.tot : Int) == 0) = true := by rw [h0]; rfl
  clear h0
  go_enter Tryz.func20, Tryz.ntmps20
  go_wp2
  go_ret2
  rw [e1.out, e2.out]
  exact ⟨rfl, Below.refl _ _⟩
 have t0 : ((s.tot : Int) == 0) = false := beq_eq_false_iff_ne.2 (by omega)
 by_cases h1 : s.offer < s.tot
 ·have e1 := Lib.hid (show s.textE = 7 by unfold Rst.textE; rw [if_neg h0, if_pos h1])
  have e2 := Lib.hid (show s.text = ⟨#[]⟩ by unfold Rst.text; rw [e1.out]; rfl)
  have t1 : decide (s.offer < s.tot) = true := decide_eq_true h1
  clear h0
  go_enter Tryz.func20, Tryz.ntmps20
  go_wp2
  go_quiet ((go_at_call 21; exact Calls.quiet_of_same ((poffer_any (h.drewN _)).mono fun _ _ ⟨a, b⟩ => ⟨a, b.symm⟩)))
  go_wp2
  go_ret2
  rw [e1.out, e2.out]
  exact ⟨rfl, below_drewN (Below.refl _ _) _⟩
 have t1 : decide (s.offer < s.tot) = false := decide_eq_false h1
 obtain ⟨z, hz⟩ : ∃ z, z = blk s.came 0 s.tot := ⟨_, rfl⟩
 have hzs : z.size ≤ maxLen := by rw [hz, blk_size]; have := h.fit.tot; unfold maxLen; omega
 have hpos : 0 < s.tot := by omega
 have HZ := Lib.hid hz
 have e0 := Lib.hid (show s.textE = (if crcOf z ≠ s.nm then 15 else 0) by unfold Rst.textE; rw [if_neg h0, if_neg h1, ← hz])
 clear h0 h1 hz
 go_enter Tryz.func20, Tryz.ntmps20
 go_wp2
 go_quiet ((go_at_call 21; exact Calls.quiet_of_same ((poffer_any (h.drewN _)).mono fun _ _ ⟨a, b⟩ => ⟨a, b.symm⟩)))
 have h1 := h.drewN nq
 have hb : Below w.heap.size w (w.drewN nq) := below_drewN (Below.refl _ _) _
 clear h c2
 generalize w.drewN nq = w1 at *
 have hr := h1.rows hpos
 have c1 := h1.cell 1 rfl
 have c3 := h1.cell 3 rfl
 rw [hr.dv] at c3
 have hcv : ∀ q, (convert 69 9 (.slice (some ⟨L.A, 0, none⟩) s.tot L.a)).run Tryz.prog (w1.drewN q) = .ok (.string z) (w1.drewN q) := fun q => by rw [HZ.out]; exact blk_whole (hr.by_.turned (F := fun _ => False) (.of_below (below_drewN (Below.refl _ _) q)) id)
 have hnm := h1.fit.nm
 by_cases h2 : crcOf z = s.nm
 ·have e2 := Lib.hid (show s.textE = 0 by rw [e0.out, if_neg (by simpa using h2)])
  have e3 := Lib.hid (show s.text = z by unfold Rst.text; rw [e2.out, if_pos rfl, HZ.out])
  have t2 : ((crcOf z : Int) != (s.nm : Int)) = false := by rw [h2]; simp
  clear h2 hr h1
  go_wp2
  go_quiet ((go_at_call 52; exact Calls.quiet_of_same (psum_at z hzs _)))
  have hcv2 := hcv nq
  go_wp2
  go_ret2
  rw [e2.out, e3.out]
  exact ⟨rfl, below_drewN hb _⟩
 ·have e2 := Lib.hid (show s.textE = 15 by rw [e0.out, if_pos (by simpa using h2)])
  have e3 := Lib.hid (show s.text = ⟨#[]⟩ by unfold Rst.text; rw [e2.out]; rfl)
  have t2 : ((crcOf z : Int) != (s.nm : Int)) = true := bne_iff_ne.2 (by omega)
  clear h2 hr h1
  go_wp2
  go_quiet ((go_at_call 52; exact Calls.quiet_of_same (psum_at z hzs _)))
  go_wp2
  go_ret2
  rw [e2.out, e3.out]
  exact ⟨rfl, below_drewN hb _⟩
end Go.Proofs.YtfefpcdgflgaeaaGreatDoor
end

section
namespace Go.Proofs.YtfefpcdgflgaeaaGreatDoor
set_option linter.unusedSimpArgs false
set_option linter.unusedVariables false
open Go.RowKit As Go.Maps
theorem run_bpart (A n c a b : Nat) (h : a < b) (h2 : b ≤ n) (hc : n ≤ c) (w : World) : (Instr.slice 69 (.slice (some ⟨A, 0, none⟩) n c) (some (.int .i64 (a : Int))) (some (.int .i64 (b : Int))) none).run Tryz.prog w = .ok (.slice (some ⟨A, a, none⟩) (b - a) (c - a)) w := by
 rw [run_slice_lh w _ (some ⟨A, 0, none⟩) n c (by kernel_rfl) .i64 .i64 a (b : Int) (by omega) (by omega) (by omega), show (sizeOf (Tryz.prog.elem 69)).run Tryz.prog w = .ok 1 w by kernel_rfl]
 show Result.ok (sliced (some ⟨A, 0, none⟩) (a : Int).toNat (b : Int).toNat c 1) w = _
 unfold sliced
 rw [show (a : Int).toNat = a by omega, show (b : Int).toNat = b by omega, if_neg (by omega)]
 simp [Addr.add]
 intro h; omega
theorem sliceAt_is (x : Value) (lo hi mx : Option Value) (w : World) : (Instr.sliceAt 69 x lo hi mx).run Tryz.prog w = (Instr.slice 69 x lo hi mx).run Tryz.prog w := by
 unfold Instr.sliceAt
 simp [go_sem]
def psV (Z : PLoc) (N a b q T : Nat) (z : ByteArray) (g : Unit) : Nat → Value
 | 0 => .pointer (some ⟨Z.r, 0, none⟩)
 | 1 => .pointer (some ⟨Z.r, 0, none⟩)
 | 2 => .pointer (some ⟨Z.r, 0, none⟩)
 | 3 => .pointer (some ⟨Z.d, 0, none⟩)
 | 4 => .int .i64 (a : Int)
 | 5 => .int .i64 (q : Int)
 | 6 => .int .i64 ((q + 2 : Nat) : Int)
 | 7 => .pointer (some ⟨Z.r, 0, none⟩)
 | 8 => .pointer (some ⟨Z.r, 0, none⟩)
 | 9 => .pointer (some ⟨Z.r, 3, none⟩)
 | 10 => .slice (some ⟨Z.A, 0, none⟩) T Z.a
 | 11 => .int .i64 (a : Int)
 | 12 => .int .i64 (N : Int)
 | 13 => .int .i64 (a : Int)
 | 14 => .int .i64 ((a + 32 : Nat) : Int)
 | 15 => .int .i64 (b : Int)
 | 16 => .slice (some ⟨Z.A, a, none⟩) (b - a) (Z.a - a)
 | 17 => .string z
 | 18 => .nilIface
 | _ => undef
set_option maxHeartbeats 1000000 in
set_option maxRecDepth 100000 in
theorem psave_any {w : World} {E : Nat} {Z : PLoc} {s : Rst} (h : PR w E Z s) (hE : E + 1 ≤ 1000000) :
  Calls Tryz.prog 11 #[.pointer (some ⟨Z.r, 0, none⟩)] w fun e w' => e = .returned (.tuple #[]) ∧ PR w' (E + 1) { Z with n := Z.n + ((s.offer + 31) / 32 - s.sv / 32) } s.save ∧ Turned Z.foot w w' := by
 go_enter Tryz.func11, Tryz.ntmps11
 go_wp2_with fail
 refine (poffer_any h).mono ?_
 rintro e w' ⟨rfl, rfl⟩
 have c5 := h.cell 5 rfl
 have H4 := Lib.hid (And.intro h.fit.tot (And.intro (offer_le s.came s.tot) h.fit.sv_le))
 have hP0 := h.more (K' := E + 1) (by omega) hE
 have hP0f := hP0.fit
 have HC0 := Lib.hid h.cnt
 have HF0 := Lib.hid hP0f
 clear hP0f
 clear h
 obtain ⟨N, hN⟩ : ∃ N, N = s.offer := ⟨_, rfl⟩
 obtain ⟨k0, hk0⟩ : ∃ k0, k0 = s.sv / 32 := ⟨_, rfl⟩
 have hNT : N ≤ s.tot := by rw [hN]; exact H4.out.2.1
 have hks : k0 ≤ 128 := by have := H4.out; omega
 have wk0 : (s.sv : Int) / 32 = (k0 : Int) := by omega
 have W0 := Lib.hid (w_in ((k0 : Int) * 32) (32 * k0) (by omega) (by omega))
 rw [← hN]
 have HN0 := Lib.hid hN
 have HK0 := Lib.hid hk0
 clear hN hk0
 obtain ⟨wk1, wk2⟩ := W0.out
 clear W0
 go_wp2
 clear wk0 wk1 wk2
 go_loopw [3] (fun v wr => ∃ j a : Nat, Hid (a = 32 * (k0 + j)) ∧ (k0 + j ≤ (N + 31) / 32 ∨ j = 0) ∧ v = .int .i64 (a : Int) ∧ PR wr (E + 1) { Z with n := Z.n + j } { s with X := saveX s.came N s.X k0 j } ∧ Turned Z.foot w wr) (fun v _ => N - (intOf v).toNat)
 case atStart =>
  exact ⟨0, 32 * k0, Lib.hid rfl, .inr rfl, by go_num, hP0, .refl _ _⟩
 case round =>
  clear hP0 c5
  obtain ⟨j, a, HA, hj, rfl, hP, hT⟩ := hrel
  have ha := HA.out
  obtain ⟨X, hX⟩ : ∃ X, X = saveX s.came N s.X k0 j := ⟨_, rfl⟩
  rw [← hX] at hP
  by_cases hlt : a < N
  ·have t0 : decide ((a : Int) < (N : Int)) = true := decide_eq_true (by omega)
   have t0' : decide (a < N) = true := decide_eq_true hlt
   have hpos : 0 < s.tot := by omega
   have hr := hP.rows hpos
   have c0 := hP.cell 0 rfl
   have c3 := hP.cell 3 rfl
   rw [hr.dv] at c3
   obtain ⟨T, hTT⟩ : ∃ T, T = s.tot := ⟨_, rfl⟩
   rw [← hTT] at c3
   obtain ⟨b, hb⟩ : ∃ b, b = min N (a + 32) := ⟨_, rfl⟩
   obtain ⟨q, hq0⟩ : ∃ q, q = k0 + j := ⟨_, rfl⟩
   obtain ⟨z, hz⟩ : ∃ z, z = blk s.came a b := ⟨_, rfl⟩
   have hzs : z.size ≤ 32 := by rw [hz, blk_size]; omega
   have hq : (a : Int) / 32 = (q : Int) := by omega
   have hq2 : Int.tdiv (a : Int) 32 = (q : Int) := by rw [Int.tdiv_eq_ediv_of_nonneg (by omega)]; exact hq
   have hT4 := H4.out.1
   have W1 := Lib.hid (w_in (2 + (q : Int)) (q + 2) (by omega) (by omega))
   have W2 := Lib.hid (w_in ((a : Int) + 32) (a + 32) (by omega) (by omega))
   have hab1 : a < b := by omega
   have hab2 : b ≤ T := by omega
   have hab3 : T ≤ Z.a := by rw [hTT]; exact hr.la
   have hmn : min (N : Int) ((a : Int) + 32) = (b : Int) := by omega
   have hq9 : q ≤ 1000000000 := by omega
   have HM := Lib.hid (show N - ((a : Int) + 32).toNat < N - a by omega)
   have HN := Lib.hid (And.intro hP.off.1 (hP.off.2 hpos).1)
   have HB : Hid (∀ wz, Turned (PFoot Z.R Z.M) wr wz → (convert 69 9 (.slice (some ⟨Z.A, a, none⟩) (b - a) (Z.a - a))).run Tryz.prog wz = .ok (.string z) wz) := Lib.hid fun wz ht => by
    rw [hz]
    exact string_part (a := a) (b := b) 69 5 9 Tryz.underlying69 Tryz.underlying5 Tryz.underlying9 (hr.by_.turned ht HN.out.2) (by rw [← hTT]; exact hab2)
   have HL : Hid (Z.n + j < maxLen) := Lib.hid (by have := HC0.out; unfold maxLen; omega)
   have E1 := Lib.hid (show dwErr 140 ((q + 2 : Nat) : Int) z = 0 by unfold dwErr; rw [if_neg (by omega), if_neg (by omega)])
   have E2 := Lib.hid (show dwX 140 X ((q + 2 : Nat) : Int) z = upd X (q + 2) (padz z) by unfold dwX; rw [if_pos E1.out]; rfl)
   have hXn : saveX s.came N s.X k0 (j + 1) = upd X (q + 2) (padz z) := by rw [saveX, ← hX, ← hq0, hz, ha, hb, ha, hq0]
   have HP : Hid (∀ wz, PD wz Z.d Z.R Z.M 140 Z.c (Z.n + j + 1) s.S (upd X (q + 2) (padz z)) → Turned (PFoot Z.R Z.M) wr wz → PR wz (E + 1) { Z with n := Z.n + (j + 1) } { s with X := saveX s.came N s.X k0 (j + 1) }) := Lib.hid fun wz hd ht => by
    have hf := HF0.out.saving (j + 1) (.inl (by rw [← HK0.out, ← HN0.out]; omega))
    rw [← HN0.out, ← HK0.out] at hf
    have := hP.disked hd ht (by rw [← hXn]; exact hf) (by have := HC0.out; omega)
    rw [hXn]
    exact this
   have HJ : Hid (k0 + (j + 1) ≤ (N + 31) / 32 ∨ j + 1 = 0) := Lib.hid (.inl (by omega))
   have HW := Lib.hid (show a + 32 = 32 * (k0 + (j + 1)) by omega)
   clear hr hz hb hX hXn hq0 ha hTT
   obtain ⟨wq1, wq2⟩ := W1.out
   have wq0 := (w_in (q : Int) q rfl hq9).1
   obtain ⟨wa1, wa2⟩ := W2.out
   clear W1 W2
   go_wp2
   refine Flow.wp_region_go (by kernel_rfl) (by kernel_rfl) (by kernel_rfl) 40 rfl (by kernel_rfl) (psV Z N a b q T z) (fun _ L wz => PD wz Z.d Z.R Z.M 140 Z.c (cond (L 18) (Z.n + j + 1) (Z.n + j)) s.S (cond (L 18) (upd X (q + 2) (padz z)) X) ∧ Turned (PFoot Z.R Z.M) wr wz) (fun _ _ => False) (()) (⟨hP.disk.below (Below.refl _ _).drew, .of_below (Below.refl _ _).drew⟩) ⟨?_, ?_, ?_, ?_, ?_, ?_, ?_, ?_, ?_, ?_, ?_, ?_, ?_, ?_, ?_, ?_, ?_, ?_, ?_, trivial⟩ ?_ ?_
   ·intro g L wz K ρ hc0 hf0 hF hO hU hcl hi hd hC hK
    have e0 : ρ (.tmp 0) = .pointer (some ⟨Z.r, 0, none⟩) := hO 0 (by kernel_rfl)
    simp [go_sem, Flow.ylP_value, Flow.ylP_skip, Flow.ylP_enter, Flow.ylP_panic, hc0, hf0, e0]
    exact hK g wz hC (fun _ _ => rfl)
   ·intro g L wz K ρ hc0 hf0 hF hO hU hcl hi hd hC hK
    have d0 : L 0 = true := hd ⟨0, .data⟩ (by simp) rfl
    have e17 : ρ (.tmp 17) = .pointer (some ⟨Z.r, 0, none⟩) := hF 17 0 (by kernel_rfl) d0
    simp [go_sem, Flow.ylP_value, Flow.ylP_skip, Flow.ylP_enter, Flow.ylP_panic, hc0, hf0, e17]
    exact hK g wz hC (fun _ _ => rfl)
   ·intro g L wz K ρ hc0 hf0 hF hO hU hcl hi hd hC hK
    have d1 : L 1 = true := hd ⟨1, .data⟩ (by simp) rfl
    have e18 : ρ (.tmp 18) = .pointer (some ⟨Z.r, 0, none⟩) := hF 18 1 (by kernel_rfl) d1
    simp [go_sem, Flow.ylP_value, Flow.ylP_skip, Flow.ylP_enter, Flow.ylP_panic, hc0, hf0, e18]
    exact hK g wz hC (fun _ _ => rfl)
   ·intro g L wz K ρ hc0 hf0 hF hO hU hcl hi hd hC hK
    have d2 : L 2 = true := hd ⟨2, .data⟩ (by simp) rfl
    have e19 : ρ (.tmp 19) = .pointer (some ⟨Z.r, 0, none⟩) := hF 19 2 (by kernel_rfl) d2
    have cc := hC.2.cell c0 HN.out.1
    simp [go_sem, Flow.ylP_value, Flow.ylP_skip, Flow.ylP_enter, Flow.ylP_panic, hc0, hf0, e19, cc]
    exact hK g wz hC (fun _ _ => rfl)
   ·intro g L wz K ρ hc0 hf0 hF hO hU hcl hi hd hC hK
    have e3 : ρ (.tmp 3) = .int .i64 (a : Int) := hO 3 (by kernel_rfl)
    simp [go_sem, Flow.ylP_value, Flow.ylP_skip, Flow.ylP_enter, Flow.ylP_panic, hc0, hf0, e3]
    exact hK g wz hC (fun _ _ => rfl)
   ·intro g L wz K ρ hc0 hf0 hF hO hU hcl hi hd hC hK
    have d4 : L 4 = true := hd ⟨4, .data⟩ (by simp) rfl
    have e21 : ρ (.tmp 21) = .int .i64 (a : Int) := hF 21 4 (by kernel_rfl) d4
    simp [go_sem, Flow.ylP_value, Flow.ylP_skip, Flow.ylP_enter, Flow.ylP_panic, hc0, hf0, e21, hq, hq2, wq0]
    exact hK g wz hC (fun _ _ => rfl)
   ·intro g L wz K ρ hc0 hf0 hF hO hU hcl hi hd hC hK
    have d5 : L 5 = true := hd ⟨5, .data⟩ (by simp) rfl
    have e22 : ρ (.tmp 22) = .int .i64 (q : Int) := hF 22 5 (by kernel_rfl) d5
    simp [go_sem, Flow.ylP_value, Flow.ylP_skip, Flow.ylP_enter, Flow.ylP_panic, hc0, hf0, e22, wq1, wq2]
    exact hK g wz hC (fun _ _ => rfl)
   ·intro g L wz K ρ hc0 hf0 hF hO hU hcl hi hd hC hK
    have e0 : ρ (.tmp 0) = .pointer (some ⟨Z.r, 0, none⟩) := hO 0 (by kernel_rfl)
    simp [go_sem, Flow.ylP_value, Flow.ylP_skip, Flow.ylP_enter, Flow.ylP_panic, hc0, hf0, e0]
    exact hK g wz hC (fun _ _ => rfl)
   ·intro g L wz K ρ hc0 hf0 hF hO hU hcl hi hd hC hK
    have d7 : L 7 = true := hd ⟨7, .data⟩ (by simp) rfl
    have e24 : ρ (.tmp 24) = .pointer (some ⟨Z.r, 0, none⟩) := hF 24 7 (by kernel_rfl) d7
    simp [go_sem, Flow.ylP_value, Flow.ylP_skip, Flow.ylP_enter, Flow.ylP_panic, hc0, hf0, e24]
    exact hK g wz hC (fun _ _ => rfl)
   ·intro g L wz K ρ hc0 hf0 hF hO hU hcl hi hd hC hK
    have d8 : L 8 = true := hd ⟨8, .data⟩ (by simp) rfl
    have e25 : ρ (.tmp 25) = .pointer (some ⟨Z.r, 0, none⟩) := hF 25 8 (by kernel_rfl) d8
    simp [go_sem, Flow.ylP_value, Flow.ylP_skip, Flow.ylP_enter, Flow.ylP_panic, hc0, hf0, e25]
    exact hK g wz hC (fun _ _ => rfl)
   ·intro g L wz K ρ hc0 hf0 hF hO hU hcl hi hd hC hK
    have d9 : L 9 = true := hd ⟨9, .data⟩ (by simp) rfl
    have e26 : ρ (.tmp 26) = .pointer (some ⟨Z.r, 3, none⟩) := hF 26 9 (by kernel_rfl) d9
    have cc := hC.2.cell c3 HN.out.1
    simp [go_sem, Flow.ylP_value, Flow.ylP_skip, Flow.ylP_enter, Flow.ylP_panic, hc0, hf0, e26, cc]
    exact hK g wz hC (fun _ _ => rfl)
   ·intro g L wz K ρ hc0 hf0 hF hO hU hcl hi hd hC hK
    have e3 : ρ (.tmp 3) = .int .i64 (a : Int) := hO 3 (by kernel_rfl)
    simp [go_sem, Flow.ylP_value, Flow.ylP_skip, Flow.ylP_enter, Flow.ylP_panic, hc0, hf0, e3]
    exact hK g wz hC (fun _ _ => rfl)
   ·intro g L wz K ρ hc0 hf0 hF hO hU hcl hi hd hC hK
    have e2 : ρ (.tmp 2) = .int .i64 (N : Int) := hO 2 (by kernel_rfl)
    simp [go_sem, Flow.ylP_value, Flow.ylP_skip, Flow.ylP_enter, Flow.ylP_panic, hc0, hf0, e2]
    exact hK g wz hC (fun _ _ => rfl)
   ·intro g L wz K ρ hc0 hf0 hF hO hU hcl hi hd hC hK
    have e3 : ρ (.tmp 3) = .int .i64 (a : Int) := hO 3 (by kernel_rfl)
    simp [go_sem, Flow.ylP_value, Flow.ylP_skip, Flow.ylP_enter, Flow.ylP_panic, hc0, hf0, e3]
    exact hK g wz hC (fun _ _ => rfl)
   ·intro g L wz K ρ hc0 hf0 hF hO hU hcl hi hd hC hK
    have d13 : L 13 = true := hd ⟨13, .data⟩ (by simp) rfl
    have e30 : ρ (.tmp 30) = .int .i64 (a : Int) := hF 30 13 (by kernel_rfl) d13
    simp [go_sem, Flow.ylP_value, Flow.ylP_skip, Flow.ylP_enter, Flow.ylP_panic, hc0, hf0, e30, wa1, wa2]
    exact hK g wz hC (fun _ _ => rfl)
   ·intro g L wz K ρ hc0 hf0 hF hO hU hcl hi hd hC hK
    have d12 : L 12 = true := hd ⟨12, .data⟩ (by simp) rfl
    have e29 : ρ (.tmp 29) = .int .i64 (N : Int) := hF 29 12 (by kernel_rfl) d12
    have d14 : L 14 = true := hd ⟨14, .data⟩ (by simp) rfl
    have e31 : ρ (.tmp 31) = .int .i64 ((a + 32 : Nat) : Int) := hF 31 14 (by kernel_rfl) d14
    simp [go_sem, Flow.ylP_value, Flow.ylP_skip, Flow.ylP_enter, Flow.ylP_panic, hc0, hf0, e29, e31, hmn]
    exact hK g wz hC (fun _ _ => rfl)
   ·intro g L wz K ρ hc0 hf0 hF hO hU hcl hi hd hC hK
    have d10 : L 10 = true := hd ⟨10, .data⟩ (by simp) rfl
    have e27 : ρ (.tmp 27) = .slice (some ⟨Z.A, 0, none⟩) T Z.a := hF 27 10 (by kernel_rfl) d10
    have d11 : L 11 = true := hd ⟨11, .data⟩ (by simp) rfl
    have e28 : ρ (.tmp 28) = .int .i64 (a : Int) := hF 28 11 (by kernel_rfl) d11
    have d15 : L 15 = true := hd ⟨15, .data⟩ (by simp) rfl
    have e32 : ρ (.tmp 32) = .int .i64 (b : Int) := hF 32 15 (by kernel_rfl) d15
    have hsl := run_bpart Z.A T Z.a a b hab1 hab2 hab3 wz
    unfold execOp
    simp only [resolve, Sem.run_bind, Sem.run_pure, Result.andThen_ok, Option.map_some, Option.map_none, e27, e28, e32, sliceAt_is, hsl]
    exact hK g wz hC (fun _ _ => rfl)
   ·intro g L wz K ρ hc0 hf0 hF hO hU hcl hi hd hC hK
    have d16 : L 16 = true := hd ⟨16, .data⟩ (by simp) rfl
    have e33 : ρ (.tmp 33) = .slice (some ⟨Z.A, a, none⟩) (b - a) (Z.a - a) := hF 33 16 (by kernel_rfl) d16
    have hcv := HB.out wz hC.2
    unfold execOp
    simp only [resolve, Sem.run_bind, Sem.run_pure, Result.andThen_ok, e33, hcv]
    exact hK g wz hC (fun _ _ => rfl)
   ·intro g L wz K ρ hc0 hf0 hF hO hU hcl hi hd hC hK
    have d3 : L 3 = true := hd ⟨3, .data⟩ (by simp) rfl
    have e20 : ρ (.tmp 20) = .pointer (some ⟨Z.d, 0, none⟩) := hF 20 3 (by kernel_rfl) d3
    have d6 : L 6 = true := hd ⟨6, .data⟩ (by simp) rfl
    have e23 : ρ (.tmp 23) = .int .i64 ((q + 2 : Nat) : Int) := hF 23 6 (by kernel_rfl) d6
    have d17 : L 17 = true := hd ⟨17, .data⟩ (by simp) rfl
    have e34 : ρ (.tmp 34) = .string z := hF 34 17 (by kernel_rfl) d17
    simp [go_sem, Flow.ylP_value, Flow.ylP_skip, Flow.ylP_enter, Flow.ylP_panic, hc0, hf0, e20, e23, e34]
    simp only [hi, cond_false] at hC
    refine (dwrite_any hC.1 ((q + 2 : Nat) : Int) z (by omega) HL.out).mono ?_
    rintro r wn ⟨rfl, hpn, htn⟩
    rw [E1.out]
    rw [E2.out] at hpn
    exact ⟨_, rfl, hK () wn ⟨hpn, hC.2.trans htn⟩ (by intro j hj; unfold psV; split <;> first | rfl | (rw [hi] at hj; cases hj) | (have hz := hcl _ 18 (by kernel_rfl) hj; rw [hi] at hz; cases hz))⟩
   ·intro g L ch wz h; exact h.elim
   ·intro g L wz hL hC
    rw [hL 18 (by decide)] at hC
    simp only [Flow.putAll, psV]
    simp [Act.put]
    have hp9 := HP.out wz hC.1 hC.2
    have ht9 := hT.trans (hC.2.mono fun i => foot_R)
    clear hP hT hC hq hq2 hmn wq0 wq1 wq2 HB HN HL E1 E2 c0 c3 HP hab1 hab2 hab3 hzs
    go_wp2
    go_roundw
    case rel => exact ⟨j + 1, a + 32, HW, HJ.out, rfl, hp9, ht9⟩
    case measure => simpa [intOf] using HM.out
  ·have t0 : decide ((a : Int) < (N : Int)) = false := decide_eq_false (by omega)
   have t0' : decide (a < N) = false := decide_eq_false hlt
   have hj9 : j = (N + 31) / 32 - k0 := by omega
   have HJ := Lib.hid hj9
   have HX := Lib.hid hX
   clear hlt hj9 ha hX
   have c5 := hP.cell 5 rfl
   have f5 := hP.free 5 rfl
   go_wp2
   go_end0
   have hset : Turned Z.foot wr (wr.setCell ⟨Z.r, 5, none⟩ (.int .i64 (N : Int))) := .set wr 5 _ (.inl rfl)
   have hs := hP.stored 5 (.int .i64 (N : Int)) s.save rfl (by show saveX _ _ _ _ _ = X; rw [← HN0.out, ← HK0.out, ← HJ.out, HX.out]) rfl rfl (by rw [HN0.out]; rfl) (by omega) HF0.out.save
   refine ⟨rfl, ?_, hT.trans hset⟩
   rw [← HN0.out, ← HK0.out, ← HJ.out]
   exact hs
end Go.Proofs.YtfefpcdgflgaeaaGreatDoor
end

section
namespace Go.Proofs.YtfefpcdgflgaeaaGreatDoor
theorem str_empty' (s : ByteArray) : s.toList.isEmpty = decide (s.size = 0) := by
 rw [ByteArray.toList_eq]
 by_cases h : s.size = 0
 ·rw [decide_eq_true h]
  have : s.data.toList = [] := by
   apply List.length_eq_zero_iff.1
   simpa using h
  rw [this]; rfl
 ·rw [decide_eq_false h]
  rw [List.isEmpty_eq_false_iff]
  intro e
  apply h
  have := congrArg List.length e
  simpa using this
end Go.Proofs.YtfefpcdgflgaeaaGreatDoor
end

section
namespace Go.Proofs.YtfefpcdgflgaeaaGreatDoor
open Go.RowKit
theorem byteInfo : (Tryz.prog.info? 5).map (fun i => (i.zero, i.size, i.bytes)) = some (some (.int .u8 0), 1, 1) := by kernel_rfl
theorem cells_new1 (w : World) (v : Value) (t : TypeId) : ∀ j u, ([v] : List Value)[j]? = some u → (w.alloc (.cells #[v] t)).cell? ((⟨w.heap.size, 0, none⟩ : Addr).add j) = some u := by
 intro j u hu
 have hadd : (⟨w.heap.size, 0, none⟩ : Addr).add j = ⟨w.heap.size, j, none⟩ := by unfold Addr.add; split <;> simp_all
 rw [hadd, World.cell?_alloc_new]
 simpa using hu
/-- The lowest seven bits, and one more. -/
theorem low7 (n : Nat) : bits BinOp.or IntKind.u8 (IntKind.u8.wrap (n : Int)) 128 = ((UInt8.ofNat (n % 128 + 128)).toNat : Int) := by
 rw [IntKind.wrap_u8']
 have e1 : (n : Int) % 256 = ((n % 256 : Nat) : Int) := by omega
 rw [e1]
 have e := u8_or_nat (n % 256) 128 (by omega) (by omega)
 have e2 : ((128 : Nat) : Int) = 128 := rfl
 rw [e2] at e
 rw [e]
 have e3 : (UInt8.ofNat (n % 128 + 128)).toNat = n % 128 + 128 := by simp; omega
 rw [e3]
 have e4 : n % 256 ||| 128 = n % 128 + 128 := by
  have hs : n % 256 = n % 128 + 128 * (n / 128 % 2) := by omega
  rcases Nat.mod_two_eq_zero_or_one (n / 128) with h0 | h0
  ·rw [h0] at hs
   rw [hs, Nat.mul_zero, Nat.add_zero, Nat.or_comm, nat_join 7 128 (n % 128) (by decide) (by omega), Nat.add_comm]
  ·rw [h0] at hs
   rw [hs, Nat.mul_one, Nat.add_comm, ← nat_join 7 128 (n % 128) (by decide) (by omega), Nat.or_assoc, Nat.or_comm (n % 128) 128, ← Nat.or_assoc, Nat.or_self, nat_join 7 128 (n % 128) (by decide) (by omega)]
 rw [e4]
theorem shr7 (n : Nat) : (n : Int) / 128 = ((n / 128 : Nat) : Int) := by omega
theorem own_snoc {w : World} {base : Nat} {E : TypeId} {v : Value} {l : List UInt8} {b : UInt8} (h : w.ownsRow base E 1 v (l.length + 1) (bytesV l ++ [byteV b])) : w.ownsRow base E 1 v (l ++ [b]).length (bytesV (l ++ [b])) := by
 simpa [bytesV] using h
theorem own_snoc' {w : World} {base : Nat} {E : TypeId} {v : Value} {l : List UInt8} {b : UInt8} (h : w.ownsRow base E 1 v (l.length + 1) (bytesV l ++ [byteV b])) : w.ownsRow base E 1 v (l.length + 1) (bytesV (l ++ [b])) := by
 simpa [bytesV] using h
theorem vput_next {n m : Nat} {l : List UInt8} (h : vput n = l ++ vput m) (hm : ¬ m < 128) : vput n = (l ++ [UInt8.ofNat (m % 128 + 128)]) ++ vput (m / 128) := by rw [h, vput_big hm]; simp
set_option maxHeartbeats 1000000 in
set_option maxRecDepth 100000 in
theorem vput_any (n : Nat) (w : World) (hn : n < 18446744073709551616) :
  Calls Tryz.prog 41 #[.int .u64 (n : Int)] w fun e w' => e = .returned (.string ⟨(vput n).toArray⟩) ∧ Below w.heap.size w w' := by
 obtain ⟨i0, hi, hz0, hz1, hz2⟩ := info_parts byteInfo
 have hlen := vput_len10 hn
 go_enter Tryz.func41, Tryz.ntmps41
 go_wp2
 go_loopw [0, 3] (fun m v wr => ∃ (k : Nat) (l : List UInt8), vput n = l ++ vput k ∧ k < 18446744073709551616 ∧ m = .int .u64 (k : Int) ∧ wr.ownsRow w.heap.size 5 1 v l.length (bytesV l) ∧ Below w.heap.size w wr) (fun m _ _ => (intOf m).toNat)
 case atStart => exact ⟨n, [], rfl, hn, rfl, World.ownsRow_nil _ _ _ _, Below.refl _ _⟩
 case round =>
  obtain ⟨k, l, hv, hk, rfl, hT, hbel⟩ := hrel
  have hB := hbel.size
  have hl10 : l.length ≤ 10 := by rw [hv] at hlen; simp at hlen; omega
  have HV := Lib.hid hv
  clear hv
  by_cases hlt : k < 128
  ·have hd : decide (128 ≤ (k : Int)) = false := by simp; omega
   have hend := Lib.hid (show vput n = l ++ [UInt8.ofNat k] by rw [HV.out, vput_small hlt])
   go_wp2_with (first
    | (at_builtin; refine wpList_append_own _ rfl (.tmp 14) (.tmp 17) 69 rfl w.heap.size 5 i0 (.int .u8 0) 1 1 Tryz.underlying69 hi hz0 hz1 hz2 rfl (by decide) u3 l.length (bytesV l) rfl (hT.alloc _) ⟨wr.heap.size, 0, none⟩ 1 1 [Value.int .u8 (k : Int)] rfl rfl (cells_new1 _ _ _) (by intro u hu; simp at hu; subst hu; rfl) (by unfold maxLen; omega) (by omega) (by simp; omega) ?_; intro v1 w1 hT1 hg1 _; have hb1 := grown_own (hbel.alloc hB _) hg1 (by simp; omega) (hT.alloc _)))
   rw [byteV_of (b := UInt8.ofNat k) (by simp; omega)] at hT1
   obtain ⟨A1, c1, rfl⟩ := own_form hT1
   have hs1 := string_own (P := Tryz.prog) 69 5 9 Tryz.underlying69 Tryz.underlying5 Tryz.underlying9 (own_snoc' hT1) (by simp) (by omega)
   rw [hs1]
   go_wp2
   go_ret
   exact ⟨by rw [hend.out]; rfl, hb1⟩
  ·have hd : decide (128 ≤ (k : Int)) = true := by simp; omega
   have hnext := Lib.hid (vput_next HV.out hlt)
   have hlow := low7 k
   rw [IntKind.wrap_u8'] at hlow
   have hl9 : l.length ≤ 9 := by
    have h1 := hnext.out
    have h2 := vput_pos (k / 128)
    rw [h1] at hlen
    simp at hlen
    omega
   go_wp2_with (first
    | (at_builtin; refine wpList_append_own _ rfl (.tmp 6) (.tmp 10) 69 rfl w.heap.size 5 i0 (.int .u8 0) 1 1 Tryz.underlying69 hi hz0 hz1 hz2 rfl (by decide) u3 l.length (bytesV l) rfl (hT.alloc _) ⟨wr.heap.size, 0, none⟩ 1 1 [byteV (UInt8.ofNat (k % 128 + 128))] rfl rfl (cells_new1 _ _ _) (by intro u hu; simp at hu; subst hu; rfl) (by unfold maxLen; omega) (by omega) (by simp; omega) ?_; intro v1 w1 hT1 hg1 _; have hb1 := grown_own (hbel.alloc hB _) hg1 (by simp; omega) (hT.alloc _); have hT2 := own_snoc hT1))
   go_roundw
   case rel => exact ⟨k / 128, _, hnext.out, by omega, valI (shr7 k), hT2, hb1⟩
   case measure => simp [intOf]; omega
end Go.Proofs.YtfefpcdgflgaeaaGreatDoor
end

section
namespace Go.Proofs.YtfefpcdgflgaeaaGreatDoor
open Go.RowKit As
theorem sbyte (s : ByteArray) (k : Nat) (h : k < s.size) : s.data.toList[k]'(by simpa using h) = s[k] := rfl
theorem u64_byte (b : UInt8) : IntKind.u64.wrap (b.toNat : Int) = (b.toNat : Int) := by
 have := b.toNat_lt
 rw [IntKind.wrap_u64]; omega
/-- A byte's seven bits taken in. -/
theorem vor {a b k : Nat} (ha : a < 2 ^ (7 * k)) (hb : b < 256) (hf : a + b % 128 * 2 ^ (7 * k) < 18446744073709551616) :
  bits BinOp.or IntKind.u64 (a : Int) (IntKind.u64.wrap (bits BinOp.and IntKind.u64 (b : Int) 127 * 2 ^ (7 * k))) = ((a + b % 128 * 2 ^ (7 * k) : Nat) : Int) := by
 have e1 : bits BinOp.and IntKind.u64 (b : Int) 127 = ((b % 128 : Nat) : Int) := by
  have e := u64_and_nat b 127 (by omega) (by omega)
  rw [nat_mask7] at e
  exact e
 have hp : b % 128 * 2 ^ (7 * k) < 18446744073709551616 := by omega
 have e2 : ((b % 128 : Nat) : Int) * 2 ^ (7 * k) = ((b % 128 * 2 ^ (7 * k) : Nat) : Int) := by simp
 rw [e1, e2, IntKind.wrap_u64, Int.emod_eq_of_lt (by omega) (by omega), u64_or_nat a _ (by omega) hp, Nat.or_comm, nat_join (7 * k) _ _ (Nat.mul_mod_left _ _) ha, Nat.add_comm]
theorem vor_at (s : ByteArray) (k : Nat) (h : k < s.size) (h9 : k ≤ 9) (hb : ¬ (k = 9 ∧ 1 < s[k].toNat)) :
  bits BinOp.or IntKind.u64 (vval (s.data.toList.take k) : Int) (IntKind.u64.wrap (bits BinOp.and IntKind.u64 (s[k].toNat : Int) 127 * 2 ^ (7 * k))) = (vval (s.data.toList.take (k + 1)) : Int) := by
 have hl : k < s.data.toList.length := by simpa using h
 have hn := vval_next hl
 have hfit := vval_fits hl h9 (by rw [sbyte s k h]; exact hb)
 rw [sbyte s k h] at hn
 rw [hn] at hfit
 rw [hn, pow128]
 rw [pow128] at hfit
 have hlt := vval_take_lt s.data.toList k (by omega)
 rw [pow128] at hlt
 exact vor hlt s[k].toNat_lt hfit
theorem retT3 {n n' k k' : Int} {v v' : Value} {t t' : IntKind} (h1 : n = n') (h2 : k = k') (h3 : v = v') : Ending.returned (.tuple #[.int t n, .int t' k, v]) = .returned (.tuple #[.int t n', .int t' k', v']) := by rw [h1, h2, h3]
set_option maxHeartbeats 1000000 in
set_option maxRecDepth 100000 in
theorem vget_any (s : ByteArray) (w : World) (hs : s.size ≤ maxLen) :
  Calls Tryz.prog 82 #[.string s] w fun e w' => e = .returned (.tuple #[.int .u64 ((vget s.data.toList).1 : Int), .int .i64 ((vget s.data.toList).2.1 : Int), errV (vget s.data.toList).2.2]) ∧ w = w' := by
 unfold maxLen at hs
 go_enter Tryz.func82, Tryz.ntmps82
 go_wp2
 go_loop [5, 6, 7, 10] (fun n _ _ i => ∃ k : Nat, k ≤ s.size ∧ i = .int .i64 k ∧ n = .int .u64 (vval (s.data.toList.take k) : Int) ∧ VG s.data.toList k) (fun _ _ _ i => s.size - (intOf i).toNat)
 case atStart => exact ⟨0, by omega, rfl, rfl, VG.zero _⟩
 case round =>
  obtain ⟨k, hk, rfl, rfl, hvg⟩ := hrel
  have HV := Lib.hid hvg
  have h9 := hvg.2.1
  clear hvg
  by_cases hlt : k < s.size
  ·have hlt' : k < s.data.toList.length := by simpa using hlt
   have hsb := Lib.hid (sbyte s k hlt)
   have hb256 := s[k].toNat_lt
   have hw := u64_byte s[k]
   by_cases c1 : k = 9 ∧ 1 < s[k].toNat
   ·have hres := Lib.hid (HV.out.limit hlt' c1.1 (by rw [hsb.out]; exact c1.2))
    have d1 : ((k : Int) == 9) = true := by simp; omega
    have d2 : decide (1 < (s[k].toNat : Int)) = true := by simp; omega
    clear c1
    go_wp2
    go_ret3
    exact ⟨by rw [hres.out]; rfl, rfl⟩
   ·have hvor := Lib.hid (vor_at s k hlt h9 c1)
    by_cases c2 : s[k].toNat = 0 ∧ 0 < k
    ·have hres := Lib.hid (HV.out.form hlt' c2.2 (by rw [hsb.out]; exact c2.1))
     have d1 : decide (1 < (s[k].toNat : Int)) = false := by simp; omega
     have d2 : decide ((s[k].toNat : Int) < 128) = true := by simp; omega
     have d3 : ((s[k].toNat : Int) == 0) = true := by simp; omega
     have d4 : decide (0 < k) = true := by simp; omega
     clear c1 c2
     by_cases e9 : k = 9
     ·have d5 : ((k : Int) == 9) = true := by simp; omega
      clear e9
      go_wp2
      go_ret3
      exact ⟨by rw [hres.out]; rfl, rfl⟩
     ·have d5 : ((k : Int) == 9) = false := by simp; omega
      clear e9
      go_wp2
      go_ret3
      exact ⟨by rw [hres.out]; rfl, rfl⟩
    ·by_cases c3 : s[k].toNat < 128
     ·have hres := Lib.hid (HV.out.done hlt' (by rw [hsb.out]; exact c1) (by rw [hsb.out]; exact c3) (by rw [hsb.out]; exact c2))
      have d2 : decide ((s[k].toNat : Int) < 128) = true := by simp; omega
      by_cases e0 : s[k].toNat = 0
      ·have d3 : ((s[k].toNat : Int) == 0) = true := by simp; omega
       have d4 : decide (0 < k) = false := by simp; omega
       have d5 : ((k : Int) == 9) = false := by simp; omega
       clear c1 c2 c3 e0
       go_wp2
       go_ret3
       exact ⟨by rw [hres.out]; exact retT3 hvor.out (by go_num) rfl, rfl⟩
      ·have d3 : ((s[k].toNat : Int) == 0) = false := by simp; omega
       by_cases e9 : k = 9
       ·have d5 : ((k : Int) == 9) = true := by simp; omega
        have d1 : decide (1 < (s[k].toNat : Int)) = false := by simp; omega
        clear c1 c2 c3 e0 e9
        go_wp2
        go_ret3
        exact ⟨by rw [hres.out]; exact retT3 hvor.out (by go_num) rfl, rfl⟩
       ·have d5 : ((k : Int) == 9) = false := by simp; omega
        clear c1 c2 c3 e0 e9
        go_wp2
        go_ret3
        exact ⟨by rw [hres.out]; exact retT3 hvor.out (by go_num) rfl, rfl⟩
     ·have hnext := Lib.hid (HV.out.succ hlt' (by rw [hsb.out]; exact c1) (by rw [hsb.out]; exact c3))
      have d2 : decide ((s[k].toNat : Int) < 128) = false := by simp; omega
      have d5 : ((k : Int) == 9) = false := by simp; omega
      clear c1 c2 c3
      go_wp2
      go_round
      case rel => exact ⟨k + 1, by omega, by go_num, valI hvor.out, hnext.out⟩
      case measure => simp [intOf]; omega
  ·obtain rfl : k = s.size := by omega
   have hres := Lib.hid (HV.out.out (by simp))
   clear hlt
   go_wp2
   go_ret3
   exact ⟨by rw [hres.out]; rfl, rfl⟩
set_option maxHeartbeats 1000000 in
set_option maxRecDepth 100000 in
theorem runvary_any (s : ByteArray) (w : World) (hs : s.size ≤ maxLen) :
  Calls Tryz.prog 84 #[.string s] w fun e w' => e = .returned (.tuple #[.int .u64 ((vget s.data.toList).1 : Int), .int .i64 ((vget s.data.toList).2.1 : Int), .int .i64 (vget s.data.toList).2.2]) ∧ w = w' := by
 unfold maxLen at hs
 go_enter Tryz.func84, Tryz.ntmps84
 go_wp2
 go_loop [5] (fun i => ∃ k : Nat, k ≤ s.size ∧ i = .int .i64 k ∧ VG s.data.toList k) (fun i => s.size - (intOf i).toNat)
 case atStart => exact ⟨0, by omega, rfl, VG.zero _⟩
 case round =>
  obtain ⟨k, hk, rfl, hvg⟩ := hrel
  have HV := Lib.hid hvg
  have h9 := hvg.2.1
  clear hvg
  by_cases hlt : k < s.size
  ·have hlt' : k < s.data.toList.length := by simpa using hlt
   have hsb := Lib.hid (sbyte s k hlt)
   have hb256 := s[k].toNat_lt
   have d0 : ((k : Int) == (s.size : Int)) = false := by simp; omega
   by_cases c1 : k = 9 ∧ 1 < s[k].toNat
   ·have hres := Lib.hid (HV.out.limit hlt' c1.1 (by rw [hsb.out]; exact c1.2))
    have d1 : ((k : Int) == 9) = true := by simp; omega
    have d2 : decide (1 < (s[k].toNat : Int)) = true := by simp; omega
    clear c1
    go_wp2
    go_ret3
    exact ⟨by rw [hres.out]; rfl, rfl⟩
   ·by_cases c2 : s[k].toNat = 0 ∧ 0 < k
    ·have hres := Lib.hid (HV.out.form hlt' c2.2 (by rw [hsb.out]; exact c2.1))
     have d1 : decide (1 < (s[k].toNat : Int)) = false := by simp; omega
     have d3 : ((s[k].toNat : Int) == 0) = true := by simp; omega
     have d4 : decide (0 < k) = true := by simp; omega
     clear c1 c2
     by_cases e9 : k = 9
     ·have d5 : ((k : Int) == 9) = true := by simp; omega
      clear e9
      go_wp2
      go_ret3
      exact ⟨by rw [hres.out]; rfl, rfl⟩
     ·have d5 : ((k : Int) == 9) = false := by simp; omega
      clear e9
      go_wp2
      go_ret3
      exact ⟨by rw [hres.out]; rfl, rfl⟩
    ·have hC1 := Lib.hid c1
     by_cases c3 : s[k].toNat < 128
     ·have hres := Lib.hid (HV.out.done hlt' (by rw [hsb.out]; exact c1) (by rw [hsb.out]; exact c3) (by rw [hsb.out]; exact c2))
      have hfit := vval_fits hlt' h9 (by rw [hsb.out]; exact c1)
      have d2 : decide ((s[k].toNat : Int) < 128) = true := by simp; omega
      have hd : (((s[k].toNat : Int) == 0) = true ∧ decide (0 < k) = false ∧ ((k : Int) == 9) = false) ∨ (((s[k].toNat : Int) == 0) = false ∧ ((k : Int) == 9) = true ∧ decide (1 < (s[k].toNat : Int)) = false) ∨ (((s[k].toNat : Int) == 0) = false ∧ ((k : Int) == 9) = false) := by
       simp only [beq_iff_eq, beq_eq_false_iff_ne, decide_eq_false_iff_not]
       omega
      clear c1 c2 c3
      rcases hd with ⟨d3, d4, d5⟩ | ⟨d3, d5, d6⟩ | ⟨d3, d5⟩
      all_goals
       go_wp2
       go_loop [6, 7] (fun n j => ∃ m : Nat, m ≤ k + 1 ∧ j = .int .i64 ((m : Int) - 1) ∧ n = .int .u64 (vtail s.data.toList (k + 1) m : Int)) (fun _ j => (intOf j + 1).toNat)
       case atStart => exact ⟨k + 1, by omega, by go_num, by rw [vtail_end]; rfl⟩
       case round =>
        obtain ⟨m, hm, rfl, rfl⟩ := hrel
        cases m with
        | zero =>
         have ej : (((0 : Nat) : Int) - 1) = -1 := by omega
         rw [ej]
         clear ej
         go_wp2
         go_ret3
         exact ⟨by rw [hres.out]; exact retT3 rfl (by go_num) rfl, rfl⟩
        | succ m =>
         have ej : (((m + 1 : Nat) : Int) - 1) = (m : Int) := by omega
         rw [ej]
         clear ej
         have hms : m < s.size := by omega
         have hn := vtail_prev (l := s.data.toList) (i := k + 1) (k := m) (by omega) (by omega)
         rw [sbyte s m hms] at hn
         have hle := vtail_le s.data.toList (k + 1) m
         have hbm := s[m].toNat_lt
         have hN := Lib.hid hn
         have hV : vtail s.data.toList (k + 1) m < 18446744073709551616 := by omega
         clear hn
         go_wp2
         go_round
         case rel =>
          refine ⟨m, by omega, rfl, valI ?_⟩
          have hn := hN.out
          simp only [IntKind.wrap_u64]
          omega
         case measure => simp [intOf]
     ·have hnext := Lib.hid (HV.out.succ hlt' (by rw [hsb.out]; exact c1) (by rw [hsb.out]; exact c3))
      have d2 : decide ((s[k].toNat : Int) < 128) = false := by simp; omega
      have d3 : ((s[k].toNat : Int) == 0) = false := by simp; omega
      have d5 : ((k : Int) == 9) = false := by simp; omega
      clear c1 c2 c3
      go_wp2
      go_round
      case rel => exact ⟨k + 1, by omega, by go_num, hnext.out⟩
      case measure => simp [intOf]; omega
  ·obtain rfl : k = s.size := by omega
   have hres := Lib.hid (HV.out.out (by simp))
   clear hlt
   go_wp2
   go_ret3
   exact ⟨by rw [hres.out]; rfl, rfl⟩
/-- int of a number that fits. -/
theorem i64_small {n : Nat} (h : n < 9223372036854775808) : IntKind.i64.wrap (n : Int) = (n : Int) := IntWalk.i64_in _ (by omega)
set_option maxHeartbeats 1000000 in
set_option maxRecDepth 100000 in
theorem vint_any (s : ByteArray) (most : Int) (w : World) (hs : s.size ≤ maxLen) (hm : most ≤ 9223372036854775807) :
  Calls Tryz.prog 63 #[.string s, .int .i64 most] w fun e w' => e = .returned (.tuple #[.int .i64 ((vint s.data.toList most).1 : Int), .int .i64 ((vint s.data.toList most).2.1 : Int), errV (vint s.data.toList most).2.2]) ∧ w = w' := by
 have H := Lib.hid (show vint s.data.toList most = _ from rfl)
 unfold vint at H
 obtain ⟨x, hx⟩ : ∃ x, x = vint s.data.toList most := ⟨_, rfl⟩
 obtain ⟨g, hg⟩ : ∃ g, g = vget s.data.toList := ⟨_, rfl⟩
 have hX : x = if g.2.2 ≠ 0 then (0, 0, g.2.2) else if most < 0 ∨ most < (g.1 : Int) then (0, 0, 2) else g := by rw [hx, hg]; rfl
 have hsay := vget_says s.data.toList
 rw [← hg] at hsay
 have HG := Lib.hid hg
 rw [← hx]
 clear hx hg H
 obtain ⟨n, k, e⟩ := g
 simp only at hX hsay
 by_cases he : e = 0
 ·subst he
  have hn : n < 18446744073709551616 := by
   rcases hsay with h | h | h | h
   ·exact h.2.1
   all_goals (injection h with h _; omega)
  clear hsay
  rw [if_neg (by simp)] at hX
  by_cases h1 : most < 0
  ·rw [if_pos (.inl h1)] at hX
   subst hX
   go_enter Tryz.func63, Tryz.ntmps63
   go_wp2_with fail
   refine (vget_any s w hs).mono ?_
   rintro e w' ⟨rfl, rfl⟩
   rw [← HG.out]
   simp only [errV_zero]
   go_wp2
   go_ret3
   exact ⟨rfl, rfl⟩
  ·have hw : IntKind.u64.wrap most = most := by rw [IntKind.wrap_u64]; omega
   by_cases h2 : most < (n : Int)
   ·rw [if_pos (.inr h2)] at hX
    subst hX
    go_enter Tryz.func63, Tryz.ntmps63
    go_wp2_with fail
    refine (vget_any s w hs).mono ?_
    rintro e w' ⟨rfl, rfl⟩
    rw [← HG.out]
    simp only [errV_zero]
    go_wp2
    go_ret3
    exact ⟨rfl, rfl⟩
   ·rw [if_neg (by omega)] at hX
    subst hX
    have hi : IntKind.i64.wrap (n : Int) = (n : Int) := i64_small (by omega)
    go_enter Tryz.func63, Tryz.ntmps63
    go_wp2_with fail
    refine (vget_any s w hs).mono ?_
    rintro e w' ⟨rfl, rfl⟩
    rw [← HG.out]
    simp only [errV_zero]
    go_wp2
    go_ret3
    exact ⟨rfl, rfl⟩
 ·rw [if_pos he] at hX
  subst hX
  have hv := Lib.hid (errV_of he)
  go_enter Tryz.func63, Tryz.ntmps63
  go_wp2_with fail
  refine (vget_any s w hs).mono ?_
  rintro e w' ⟨rfl, rfl⟩
  rw [← HG.out]
  simp only [hv.out]
  go_wp2
  go_ret3
  exact ⟨retT3 rfl rfl hv.out.symm, rfl⟩
set_option maxHeartbeats 1000000 in
set_option maxRecDepth 100000 in
theorem rvint_any (s : ByteArray) (most : Int) (w : World) (hs : s.size ≤ maxLen) (hm : most ≤ 9223372036854775807) :
  Calls Tryz.prog 67 #[.string s, .int .i64 most] w fun e w' => e = .returned (.tuple #[.int .i64 ((vint s.data.toList most).1 : Int), .int .i64 ((vint s.data.toList most).2.1 : Int), .int .i64 (vint s.data.toList most).2.2]) ∧ w = w' := by
 have H := Lib.hid (show vint s.data.toList most = _ from rfl)
 unfold vint at H
 obtain ⟨x, hx⟩ : ∃ x, x = vint s.data.toList most := ⟨_, rfl⟩
 obtain ⟨g, hg⟩ : ∃ g, g = vget s.data.toList := ⟨_, rfl⟩
 have hX : x = if g.2.2 ≠ 0 then (0, 0, g.2.2) else if most < 0 ∨ most < (g.1 : Int) then (0, 0, 2) else g := by rw [hx, hg]; rfl
 have hsay := vget_says s.data.toList
 rw [← hg] at hsay
 have HG := Lib.hid hg
 rw [← hx]
 clear hx hg H
 obtain ⟨n, k, e⟩ := g
 simp only at hX hsay
 by_cases he : e = 0
 ·subst he
  have hn : n < 18446744073709551616 := by
   rcases hsay with h | h | h | h
   ·exact h.2.1
   all_goals (injection h with h _; omega)
  clear hsay
  rw [if_neg (by simp)] at hX
  by_cases h1 : most < 0
  ·rw [if_pos (.inl h1)] at hX
   subst hX
   go_enter Tryz.func67, Tryz.ntmps67
   go_wp2_with fail
   refine (runvary_any s w hs).mono ?_
   rintro e w' ⟨rfl, rfl⟩
   rw [← HG.out]
   go_wp2
   go_ret3
   exact ⟨rfl, rfl⟩
  ·have hw : IntKind.u64.wrap most = most := by rw [IntKind.wrap_u64]; omega
   by_cases h2 : most < (n : Int)
   ·rw [if_pos (.inr h2)] at hX
    subst hX
    go_enter Tryz.func67, Tryz.ntmps67
    go_wp2_with fail
    refine (runvary_any s w hs).mono ?_
    rintro e w' ⟨rfl, rfl⟩
    rw [← HG.out]
    go_wp2
    go_ret3
    exact ⟨rfl, rfl⟩
   ·rw [if_neg (by omega)] at hX
    subst hX
    have hi : IntKind.i64.wrap (n : Int) = (n : Int) := i64_small (by omega)
    go_enter Tryz.func67, Tryz.ntmps67
    go_wp2_with fail
    refine (runvary_any s w hs).mono ?_
    rintro e w' ⟨rfl, rfl⟩
    rw [← HG.out]
    go_wp2
    go_ret3
    exact ⟨rfl, rfl⟩
 ·rw [if_pos he] at hX
  subst hX
  have hne : (e != 0) = true := by rw [bne_iff_ne]; exact he
  go_enter Tryz.func67, Tryz.ntmps67
  go_wp2_with fail
  refine (runvary_any s w hs).mono ?_
  rintro e w' ⟨rfl, rfl⟩
  rw [← HG.out]
  go_wp2
  go_ret3
  exact ⟨rfl, rfl⟩
end Go.Proofs.YtfefpcdgflgaeaaGreatDoor
end

section
namespace Go.Proofs.YtfefpcdgflgaeaaGreatDoor
theorem bitLen7 : ∀ n : Fin 128, (Lib.bitLen n.val + 6) / 7 ≤ 1 := by decide +kernel
theorem bitLen_pos {n : Nat} (h : n ≠ 0) : 0 < Lib.bitLen n := by
 unfold Lib.bitLen Lib.bitLenAux
 rw [if_neg h]
 omega
theorem vput_size (f : Nat) : ∀ n : Nat, n < 128 ^ f → n < 18446744073709551616 → (vput n).length = max 1 ((Lib.bitLen n + 6) / 7) := by
 induction f with
 | zero =>
  intro n h _
  obtain rfl : n = 0 := by simpa using h
  rw [vput_small (by omega)]
  decide
 | succ f ih =>
  intro n h hn
  by_cases h7 : n < 128
  ·rw [vput_small h7]
   have := bitLen7 ⟨n, h7⟩
   simp only at this
   simp
   omega
  ·rw [vput_big h7, List.length_cons, ih (n / 128) (by rw [Nat.pow_succ] at h; omega) (by omega)]
   have hs := Lib.bitLen_shift 7 n (by omega) hn
   have hp := bitLen_pos (n := n / 128) (by omega)
   have e : n / 2 ^ 7 = n / 128 := rfl
   rw [hs, e]
   omega
/-- Byte i of a number. -/
def vbyte (n i : Nat) (last : Bool) : UInt8 := if last then UInt8.ofNat (n / 128 ^ i % 128) else UInt8.ofNat (n / 128 ^ i % 128 + 128)
theorem vput_get (i : Nat) : ∀ n : Nat, i < (vput n).length → (vput n)[i]? = some (vbyte n i (decide ((vput n).length = i + 1))) := by
 induction i with
 | zero =>
  intro n h
  by_cases h7 : n < 128
  ·rw [vput_small h7]
   simp [vbyte, Nat.mod_eq_of_lt h7]
  ·have hp := vput_pos (n / 128)
   rw [vput_big h7]
   have : ¬ (vput (n / 128)).length + 1 = 0 + 1 := by omega
   simp only [List.length_cons, List.getElem?_cons_zero, decide_eq_false this, vbyte]
   simp
 | succ i ih =>
  intro n h
  by_cases h7 : n < 128
  ·rw [vput_small h7] at h; simp at h
  ·rw [vput_big h7] at h ⊢
   simp only [List.length_cons] at h
   simp only [List.getElem?_cons_succ, List.length_cons]
   rw [ih (n / 128) (by omega)]
   have e : n / 128 / 128 ^ i = n / 128 ^ (i + 1) := by rw [Nat.div_div_eq_div_mul, Nat.pow_succ, Nat.mul_comm]
   have e2 : decide ((vput (n / 128)).length = i + 1) = decide ((vput (n / 128)).length + 1 = i + 1 + 1) := by rw [decide_eq_decide]; omega
   unfold vbyte
   rw [e, e2]
/-- The bytes ahead of byte i, and noughts from there on. -/
def vpart (n i : Nat) : List UInt8 := (vput n).take i ++ List.replicate ((vput n).length - i) 0
theorem vpart_zero (n : Nat) : vpart n 0 = List.replicate (vput n).length 0 := by simp [vpart]
theorem vpart_len (n i : Nat) (h : i ≤ (vput n).length) : (vpart n i).length = (vput n).length := by simp [vpart]; omega
theorem vpart_end (n : Nat) : vpart n (vput n).length = vput n := by simp [vpart]
theorem vpart_set (n i : Nat) (h : i < (vput n).length) : (vpart n i).set i (vbyte n i (decide ((vput n).length = i + 1))) = vpart n (i + 1) := by
 apply List.ext_getElem?
 intro j
 have hl : ((vput n).take i).length = i := by simp; omega
 have hg := vput_get i n h
 unfold vpart
 rw [List.getElem?_set]
 by_cases hij : i = j
 ·subst hij
  rw [if_pos rfl, if_pos (by simp; omega), List.getElem?_append_left (by simp; omega), List.getElem?_take, if_pos (by omega), hg]
 ·rw [if_neg hij]
  by_cases hj : j < i
  ·rw [List.getElem?_append_left (by simp; omega), List.getElem?_append_left (by simp; omega), List.getElem?_take, List.getElem?_take, if_pos hj, if_pos (by omega)]
  ·rw [List.getElem?_append_right (by simp; omega), List.getElem?_append_right (by simp; omega)]
   simp only [List.getElem?_replicate, List.length_take]
   by_cases hje : j < (vput n).length
   ·rw [if_pos (by omega), if_pos (by omega)]
   ·rw [if_neg (by omega), if_neg (by omega)]
end Go.Proofs.YtfefpcdgflgaeaaGreatDoor
end

section
namespace Go.Proofs.YtfefpcdgflgaeaaGreatDoor
open Go.RowKit
theorem rpow_any (k : Nat) (w : World) (hk : k ≤ 9) :
  Calls Tryz.prog 71 #[.int .u64 128, .int .i64 (k : Int)] w fun e w' => e = .returned (.int .u64 ((128 ^ k : Nat) : Int)) ∧ w = w' := by
 go_enter Tryz.func71, Tryz.ntmps71
 go_wp2
 go_loop [5, 7] (fun v i => ∃ j : Nat, j ≤ k ∧ i = .int .i64 j ∧ v = .int .u64 ((128 ^ j : Nat) : Int)) (fun _ i => k - (intOf i).toNat)
 case atStart => exact ⟨0, by omega, rfl, rfl⟩
 case round =>
  obtain ⟨j, hj, rfl, rfl⟩ := hrel
  by_cases hlt : j < k
  ·have hp := pow128_le (k := j) (by omega)
   have hq := pow128_le (k := j + 1) (by omega)
   have hs := Lib.hid (Nat.pow_succ (n := 128) (m := j))
   obtain ⟨x, hx⟩ : ∃ x, x = 128 ^ j := ⟨_, rfl⟩
   have HX := Lib.hid hx
   rw [← hx] at hp ⊢
   clear hx
   go_wp2
   go_round
   case rel =>
    refine ⟨j + 1, by omega, by go_num, valI ?_⟩
    have := hs.out
    rw [← HX.out] at this
    rw [this]
    rw [IntKind.wrap_u64]
    omega
   case measure => simp [intOf]; omega
  ·obtain rfl : j = k := by omega
   go_wp2
   go_ret
   exact ⟨rfl, rfl⟩
set_option maxHeartbeats 1000000 in
set_option maxRecDepth 100000 in
theorem rvary_any (n : Nat) (w : World) (hn : n < 18446744073709551616) :
    Calls Tryz.prog 44 #[.int .u64 (n : Int)] w fun e w' => e = .returned (.string ⟨(vput n).toArray⟩) ∧ Below w.heap.size w w' := by
  obtain ⟨i0, hi, hz0, hz1, hz2⟩ := info_parts byteInfo
  have hlen := vput_len10 hn
  have hpos := vput_pos n
  have hsz := vput_size 10 n (by have e : (128 : Nat) ^ 10 = 1180591620717411303424 := by decide
                                 omega) hn
  have hb64 : Lib.bitLen n ≤ 70 := by omega
  go_enter Tryz.func44, Tryz.ntmps44
  go_wp2_with fail
  refine (Tryz.bits_Len64 (n : Int) w (by omega) (by omega)).mono ?_
  rintro e w' ⟨rfl, rfl⟩
  simp only [Int.toNat_natCast]
  have hmx : max 1 (((Lib.bitLen n : Int) + 6) / 7) = ((vput n).length : Int) := by omega
  clear hsz
  have hE := Lib.hid (vpart_end n)
  have hZ := Lib.hid (vpart_zero n)
  have hSet := Lib.hid (vpart_set n)
  have hL := Lib.hid (vpart_len n)
  obtain ⟨m, hm⟩ : ∃ m, m = (vput n).length := ⟨_, rfl⟩
  rw [← hm] at hmx hlen hpos
  have HM := Lib.hid hm
  clear hm
  go_wp2_with fail
  obtain ⟨W, hrun, hT, hg⟩ := run_make_full (P := Tryz.prog) w' w'.heap.size 69 5 i0 (.int .u8 0) 1 Tryz.underlying69 hi hz0 hz1 .i64 .i64 m (by rw [hz2]; omega) (by unfold maxLen; omega) (Nat.le_refl _)
  have hb : Below w'.heap.size w' W := (Below.refl _ _).grown hg (Nat.le_refl _) (fun k hk => by cases hk)
  have hT0 : W.ownsRow w'.heap.size 5 1 (.slice (some ⟨w'.heap.size, 0, none⟩) m m) m (bytesV (vpart n 0)) := by
    have e : (madeCells (Value.int .u8 0).cells (m * 1)).toList = bytesV (vpart n 0) := by
      rw [hZ.out, Nat.mul_one, ← HM.out]
      show (madeCells #[Value.int .u8 0] m).toList = _
      rw [toList_madeCells_one]
      simp [bytesV, byteV]
    rw [e] at hT
    exact hT
  clear hT
  rw [hrun]
  clear hrun hmx hg
  go_wp2
  go_loopw [5, 15] (fun _ i wr => ∃ k : Nat, k ≤ m ∧ i = .int .i64 k ∧ wr.ownsRow w'.heap.size 5 1 (.slice (some ⟨w'.heap.size, 0, none⟩) m m) m (bytesV (vpart n k)) ∧ Below w'.heap.size w' wr) (fun _ i _ => m - (intOf i).toNat)
  case atStart => exact ⟨0, by omega, rfl, hT0, hb⟩
  case round =>
    clear hT0 hb
    obtain ⟨k, hk, rfl, hT, hbel⟩ := hrel
    by_cases hlt : k < m
    · have hlp := hL.out k (by rw [← HM.out]; omega)
      rw [← HM.out] at hlp
      have c0 : wr.cell? ⟨w'.heap.size, k, none⟩ = some (byteV ((vpart n k).getD k 0)) := by
        rw [hT.cellAt k (by omega), List.getElem?_map, List.getElem?_eq_getElem (by omega), getD_at _ _ _ (by omega)]; rfl
      have f0 : wr.frozen? ⟨w'.heap.size, k, none⟩ = false := hT.frozenAt k
      have hset := hSet.out k (by rw [← HM.out]; exact hlt)
      rw [← HM.out] at hset
      have HS := Lib.hid hset
      have HLP := Lib.hid hlp
      clear hset hlp
      obtain ⟨q, hq⟩ : ∃ q, q = n / 128 ^ k := ⟨_, rfl⟩
      have hqn : q ≤ n := by rw [hq]; exact Nat.div_le_self _ _
      have hw1 : IntKind.u64.wrap ((n : Int) / 128 ^ k) = (q : Int) := by
        have e : ((n / 128 ^ k : Nat) : Int) = (n : Int) / 128 ^ k := by simp
        rw [← e, ← hq, IntKind.wrap_u64]; omega
      have HQ := Lib.hid hq
      clear hq
      have hnz : ¬ ((128 : Int) ^ k = 0) := Int.pow_ne_zero (by omega)
      have hnz' : ((128 : Int) ^ k == 0) = false := beq_eq_false_iff_ne.2 hnz
      by_cases hlast : k + 1 < m
      · have hb1 : vbyte n k (decide (m = k + 1)) = UInt8.ofNat (q % 128 + 128) := by
          rw [decide_eq_false (by omega)]
          unfold vbyte
          rw [HQ.out]
          rfl
        have HB := Lib.hid hb1
        clear hb1
        go_wp2_with (go_at_call 71; refine (rpow_any k _ (by omega)).mono ?_; rintro e w2 ⟨rfl, rfl⟩)
        go_roundw
        case measure => simp [intOf]; omega
        case rel =>
          refine ⟨k + 1, by omega, by go_num, ?_, (hbel.setCell (Nat.le_refl _) _).setCell (Nat.le_refl _) _⟩
          have h1 := ((hT.stored k (.int .u8 ((q : Int) % 128))).1.stored k (byteV (UInt8.ofNat (q % 128 + 128)))).1
          rw [List.set_set, ← List.map_set, ← HB.out, HS.out] at h1
          have e2 : byteV (vbyte n k (decide (m = k + 1))) = Value.int .u8 ((q : Int) % 128 + 128) := by
            rw [HB.out]
            exact valI (by simp; omega)
          rw [e2] at h1
          exact h1
      · have hb1 : vbyte n k (decide (m = k + 1)) = UInt8.ofNat (q % 128) := by
          rw [decide_eq_true (by omega)]
          unfold vbyte
          rw [HQ.out]
          rfl
        have HB := Lib.hid hb1
        clear hb1
        go_wp2_with (go_at_call 71; refine (rpow_any k _ (by omega)).mono ?_; rintro e w2 ⟨rfl, rfl⟩)
        go_roundw
        case measure => simp [intOf]; omega
        case rel =>
          refine ⟨k + 1, by omega, by go_num, ?_, hbel.setCell (Nat.le_refl _) _⟩
          have h1 := (hT.stored k (byteV (UInt8.ofNat (q % 128)))).1
          rw [← List.map_set, ← HB.out, HS.out] at h1
          have e2 : byteV (vbyte n k (decide (m = k + 1))) = Value.int .u8 ((q : Int) % 128) := by
            rw [HB.out]
            exact valI (by simp; omega)
          rw [e2] at h1
          exact h1
    · obtain rfl : k = m := by omega
      rw [HM.out, hE.out, ← HM.out] at hT
      have hs1 := string_own (P := Tryz.prog) 69 5 9 Tryz.underlying69 Tryz.underlying5 Tryz.underlying9 hT HM.out.symm hpos
      go_wp2
      go_ret
      exact ⟨rfl, hbel⟩
end Go.Proofs.YtfefpcdgflgaeaaGreatDoor
end

section
namespace Go.Proofs.YtfefpcdgflgaeaaGreatDoor
open Go.RowKit As
theorem strOf_size (l : List UInt8) : (strOf l).size = l.length := by show l.toArray.size = _; simp
end Go.Proofs.YtfefpcdgflgaeaaGreatDoor
end
