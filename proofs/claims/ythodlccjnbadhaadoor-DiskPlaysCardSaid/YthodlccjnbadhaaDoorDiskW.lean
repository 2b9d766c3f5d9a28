/- The program's disk: Write. Printed by gen_disk.py. -/
import Derived.Test.YthodlccjnbadhaaDoorDisk
import Derived.Test.YthodlccjnbadhaaDoorFlowGo
import Derived.Test.YthodlccjnbadhaaDoorBytes
import Derived.Deep.OwnRows
namespace Go.Proofs.YthodlccjnbadhaaDoor
set_option linter.unusedSimpArgs false
set_option linter.unusedVariables false
open Go.RowKit As Go.Maps
def dwV (s : ByteArray) (d M k z : Nat) (g : Nat) : Nat → Value
  | 0 => .pointer (some ⟨d, 0, none⟩)
  | 1 => .pointer (some ⟨d, 0, none⟩)
  | 2 => .pointer (some ⟨d, 1, none⟩)
  | 3 => .map (some M)
  | 4 => .int .i64 (k : Int)
  | 5 => .string s
  | 6 => .string s
  | 7 => .int .i64 (s.size : Int)
  | 8 => .int .i64 (z : Int)
  | 9 => .slice (some ⟨g, 0, none⟩) z z
  | 10 => .string (zeros z)
  | 11 => .string (s ++ zeros z)
  | _ => undef
theorem dwInfo : (Tryd.prog.info? 5).map (fun i => (i.zero, i.size, i.bytes)) = some (some (.int .u8 0), 1, 1) := by kernel_rfl
theorem bytes_made (w : World) (z : Nat) : BytesAt (w.alloc (.cells (madeCells #[.int .u8 0] z) 5)) w.heap.size (List.replicate z 0) := by
  intro i hi
  rw [List.length_replicate] at hi
  refine ⟨?_, by simp⟩
  rw [World.cell?_alloc_new]
  simp [madeCells, hi, Nat.mod_one]
theorem PD.wrote {w w' : World} {d R M N c n k : Nat} {S X : DF} {s : ByteArray} (h : PD w d R M N c n S X) (hg : w.grownBy w' (some M)) (hi : IM w' M (n + 1) (upd X k (padz s))) (hk : k < N) (hs : s.size ≤ 32) : PD w' d R M N c (n + 1) S (upd X k (padz s)) :=
  have ht : Turned (fun i => i = M) w w' := .of_grown hg rfl
  ⟨ht.cell h.c0 h.dM, ht.cell h.c1 h.dM, ht.own h.row (fun q e => by injection e with e; subst e; exact h.RM), hi, h.fit.write hk hs, h.dR, h.dM, h.RM⟩
def dwErr (N : Nat) (at_ : Int) (s : ByteArray) : Int := if at_ < 0 ∨ (N : Int) ≤ at_ then 2 else if 32 < s.size then 4 else 0
def dwX (N : Nat) (X : DF) (at_ : Int) (s : ByteArray) : DF := if dwErr N at_ s = 0 then upd X at_.toNat (padz s) else X
set_option maxHeartbeats 1000000 in
set_option maxRecDepth 100000 in
theorem dwrite_any {w : World} {d R M N c n : Nat} {S X : DF} (h : PD w d R M N c n S X) (at_ : Int) (s : ByteArray) (hs : s.size ≤ 1000000) (hn9 : n < maxLen) :
    Calls Tryd.prog 7 #[.pointer (some ⟨d, 0, none⟩), .int .i64 at_, .string s] w fun e w' => e = .returned (errV (dwErr N at_ s)) ∧ PD w' d R M N c (n + 1) S (dwX N X at_ s) ∧ Turned (PFoot R M) w w' := by
  have c0 := h.c0
  have h140 := h.fit.n
  have hno : dwErr N at_ s ≠ 0 → PD w d R M N c (n + 1) S (dwX N X at_ s) := fun he => by
    unfold dwX
    rw [if_neg he]
    exact ⟨h.c0, h.c1, h.row, h.im.mono (Nat.le_succ n), h.fit, h.dR, h.dM, h.RM⟩
  by_cases hr : at_ < 0 ∨ (N : Int) ≤ at_
  · have e1 := Lib.hid (show dwErr N at_ s = 2 by unfold dwErr; rw [if_pos hr])
    have e2 := Lib.hid (hno (by rw [e1.out]; decide))
    clear hno
    by_cases h0 : at_ < 0
    · have d0 : decide (at_ < 0) = true := decide_eq_true h0
      clear hr
      go_enter Tryd.func7, Tryd.ntmps7
      go_wp2
      go_ret
      rw [e1.out]
      exact ⟨rfl, e2.out, .refl _ _⟩
    · have d0 : decide (at_ < 0) = false := decide_eq_false h0
      have d1 : decide ((N : Int) ≤ at_) = true := decide_eq_true (by omega)
      clear hr
      go_enter Tryd.func7, Tryd.ntmps7
      go_wp2
      go_ret
      rw [e1.out]
      exact ⟨rfl, e2.out, .refl _ _⟩
  · obtain ⟨k, rfl⟩ := Int.eq_ofNat_of_zero_le (show 0 ≤ at_ by omega)
    have d0 : decide ((k : Int) < 0) = false := decide_eq_false (by omega)
    have d1 : decide ((N : Int) ≤ (k : Int)) = false := decide_eq_false (by omega)
    have hkN : k < N := by omega
    by_cases h32 : 32 < s.size
    · have d2 : decide ((32 : Int) < (s.size : Int)) = true := decide_eq_true (by omega)
      have e1 := Lib.hid (show dwErr N k s = 4 by unfold dwErr; rw [if_neg hr, if_pos h32])
      have e2 := Lib.hid (hno (by rw [e1.out]; decide))
      clear hno hr
      go_enter Tryd.func7, Tryd.ntmps7
      go_wp2
      go_ret
      rw [e1.out]
      exact ⟨rfl, e2.out, .refl _ _⟩
    · have d2 : decide ((32 : Int) < (s.size : Int)) = false := decide_eq_false (by omega)
      have e1 := Lib.hid (show dwErr N k s = 0 by unfold dwErr; rw [if_neg hr, if_neg h32])
      have e2 := Lib.hid (show dwX N X k s = upd X k (padz s) by unfold dwX; rw [if_pos e1.out]; rfl)
      have hs32 : s.size ≤ 32 := by omega
      have hk6 : k ≤ 1000000 := by omega
      obtain ⟨z, hz⟩ : ∃ z, z = 32 - s.size := ⟨_, rfl⟩
      have wz1 : IntKind.i64.wrap (32 - (s.size : Int)) = (z : Int) := by rw [show 32 - (s.size : Int) = (z : Int) by omega]; exact IntWalk.i64_in _ (by omega)
      have wz2 : wrap64 (32 - (s.size : Int)) = (z : Int) := by rw [show 32 - (s.size : Int) = (z : Int) by omega]; exact IntWalk.wrap64_in _ (by omega)
      have hz32 : z ≤ 32 := by omega
      have hpad : s ++ zeros z = padz s := by rw [hz]; rfl
      have hcat : ¬ 9223372036854775807 < s.size + (zeros z).size := by rw [zeros_size]; omega
      clear hno hr h32
      go_enter Tryd.func7, Tryd.ntmps7
      go_wp2
      refine Flow.wp_region_go (by kernel_rfl) (by kernel_rfl) (by kernel_rfl) 37 rfl (by kernel_rfl) (dwV s d M k z) (fun g L wz => PD wz d R M N c (cond (L 12) (n + 1) n) S (cond (L 12) (upd X k (padz s)) X) ∧ (L 9 = true → L 12 = false → (g ≠ M ∧ BytesAt wz g (List.replicate z 0))) ∧ Turned (PFoot R M) w wz) (fun _ _ => False) (0) (⟨h.below (Below.refl _ _).drew, (fun h => by cases h), .of_below (Below.refl _ _).drew⟩) ⟨?_, ?_, ?_, ?_, ?_, ?_, ?_, ?_, ?_, ?_, ?_, ?_, ?_, trivial⟩ ?_ ?_
      · intro g L wz K ρ hc0 hf0 hF hO hU hcl hi hd hC hK
        have e0 : ρ (.tmp 0) = .pointer (some ⟨d, 0, none⟩) := hO 0 (by kernel_rfl)
        simp [go_sem, Flow.ylP_value, Flow.ylP_skip, Flow.ylP_enter, Flow.ylP_panic, hc0, hf0, e0]
        exact hK g wz hC (fun _ _ => rfl)
      · intro g L wz K ρ hc0 hf0 hF hO hU hcl hi hd hC hK
        have d0 : L 0 = true := hd ⟨0, .data⟩ (by simp) rfl
        have e25 : ρ (.tmp 25) = .pointer (some ⟨d, 0, none⟩) := hF 25 0 (by kernel_rfl) d0
        simp [go_sem, Flow.ylP_value, Flow.ylP_skip, Flow.ylP_enter, Flow.ylP_panic, hc0, hf0, e25]
        exact hK g wz hC (fun _ _ => rfl)
      · intro g L wz K ρ hc0 hf0 hF hO hU hcl hi hd hC hK
        have d1 : L 1 = true := hd ⟨1, .data⟩ (by simp) rfl
        have e26 : ρ (.tmp 26) = .pointer (some ⟨d, 0, none⟩) := hF 26 1 (by kernel_rfl) d1
        simp [go_sem, Flow.ylP_value, Flow.ylP_skip, Flow.ylP_enter, Flow.ylP_panic, hc0, hf0, e26]
        exact hK g wz hC (fun _ _ => rfl)
      · intro g L wz K ρ hc0 hf0 hF hO hU hcl hi hd hC hK
        have d2 : L 2 = true := hd ⟨2, .data⟩ (by simp) rfl
        have e27 : ρ (.tmp 27) = .pointer (some ⟨d, 1, none⟩) := hF 27 2 (by kernel_rfl) d2
        have cc := hC.1.c1
        simp [go_sem, Flow.ylP_value, Flow.ylP_skip, Flow.ylP_enter, Flow.ylP_panic, hc0, hf0, e27, cc]
        exact hK g wz hC (fun _ _ => rfl)
      · intro g L wz K ρ hc0 hf0 hF hO hU hcl hi hd hC hK
        have e1 : ρ (.tmp 1) = .int .i64 (k : Int) := hO 1 (by kernel_rfl)
        simp [go_sem, Flow.ylP_value, Flow.ylP_skip, Flow.ylP_enter, Flow.ylP_panic, hc0, hf0, e1]
        exact hK g wz hC (fun _ _ => rfl)
      · intro g L wz K ρ hc0 hf0 hF hO hU hcl hi hd hC hK
        have e2 : ρ (.tmp 2) = .string s := hO 2 (by kernel_rfl)
        simp [go_sem, Flow.ylP_value, Flow.ylP_skip, Flow.ylP_enter, Flow.ylP_panic, hc0, hf0, e2]
        exact hK g wz hC (fun _ _ => rfl)
      · intro g L wz K ρ hc0 hf0 hF hO hU hcl hi hd hC hK
        have e2 : ρ (.tmp 2) = .string s := hO 2 (by kernel_rfl)
        simp [go_sem, Flow.ylP_value, Flow.ylP_skip, Flow.ylP_enter, Flow.ylP_panic, hc0, hf0, e2]
        exact hK g wz hC (fun _ _ => rfl)
      · intro g L wz K ρ hc0 hf0 hF hO hU hcl hi hd hC hK
        have d6 : L 6 = true := hd ⟨6, .data⟩ (by simp) rfl
        have e31 : ρ (.tmp 31) = .string s := hF 31 6 (by kernel_rfl) d6
        simp [go_sem, Flow.ylP_value, Flow.ylP_skip, Flow.ylP_enter, Flow.ylP_panic, hc0, hf0, e31]
        exact hK g wz hC (fun _ _ => rfl)
      · intro g L wz K ρ hc0 hf0 hF hO hU hcl hi hd hC hK
        have d7 : L 7 = true := hd ⟨7, .data⟩ (by simp) rfl
        have e32 : ρ (.tmp 32) = .int .i64 (s.size : Int) := hF 32 7 (by kernel_rfl) d7
        simp [go_sem, Flow.ylP_value, Flow.ylP_skip, Flow.ylP_enter, Flow.ylP_panic, hc0, hf0, e32, wz1, wz2]
        exact hK g wz hC (fun _ _ => rfl)
      · intro g L wz K ρ hc0 hf0 hF hO hU hcl hi hd hC hK
        have d8 : L 8 = true := hd ⟨8, .data⟩ (by simp) rfl
        have e33 : ρ (.tmp 33) = .int .i64 (z : Int) := hF 33 8 (by kernel_rfl) d8
        have h12 : L 12 = false := by cases h : L 12 with | false => rfl | true => (have := hcl 12 9 (by kernel_rfl) h; rw [hi] at this; cases this)
        rw [hi, h12] at hC
        have hmk := run_make_row' (P := Tryd.prog) 48 5 (.int .u8 0) 1 Tryd.underlying48 dwInfo rfl .i64 .i64 z (by omega) (by omega) wz
        unfold execOp
        simp only [resolve, Sem.run_bind, Sem.run_pure, Result.andThen_ok, e33, hmk]
        refine hK wz.heap.size _ ?_ (by intro j hj; unfold dwV; split <;> first | rfl | (rw [hi] at hj; cases hj) | (have hz := hcl _ 9 (by kernel_rfl) hj; rw [hi] at hz; cases hz))
        show PD _ d R M N c (cond (L 12) (n + 1) n) S (cond (L 12) (upd X k (padz s)) X) ∧ (true = true → L 12 = false → (wz.heap.size ≠ M ∧ BytesAt _ wz.heap.size (List.replicate z 0))) ∧ Turned (PFoot R M) w _
        rw [h12]
        exact ⟨hC.1.below (below1 _ _), fun _ _ => ⟨Nat.ne_of_gt hC.1.im.lt, bytes_made wz z⟩, hC.2.2.trans (.of_below (below1 _ _))⟩
      · intro g L wz K ρ hc0 hf0 hF hO hU hcl hi hd hC hK
        have d9 : L 9 = true := hd ⟨9, .data⟩ (by simp) rfl
        have e34 : ρ (.tmp 34) = .slice (some ⟨g, 0, none⟩) z z := hF 34 9 (by kernel_rfl) d9
        have h12 : L 12 = false := by cases h : L 12 with | false => rfl | true => (have := hcl 12 10 (by kernel_rfl) h; rw [hi] at this; cases this)
        have hb := (hC.2.1 d9 h12).2
        have hcv := string_of (P := Tryd.prog) wz 48 5 9 g z (List.replicate z 0) Tryd.underlying48 Tryd.underlying5 Tryd.underlying9 hb
        rw [List.length_replicate] at hcv
        unfold execOp
        simp only [resolve, Sem.run_bind, Sem.run_pure, Result.andThen_ok, e34, hcv]
        exact hK g wz hC (fun _ _ => rfl)
      · intro g L wz K ρ hc0 hf0 hF hO hU hcl hi hd hC hK
        have d5 : L 5 = true := hd ⟨5, .data⟩ (by simp) rfl
        have e30 : ρ (.tmp 30) = .string s := hF 30 5 (by kernel_rfl) d5
        have d10 : L 10 = true := hd ⟨10, .data⟩ (by simp) rfl
        have e35 : ρ (.tmp 35) = .string (zeros z) := hF 35 10 (by kernel_rfl) d10
        simp [go_sem, Flow.ylP_value, Flow.ylP_skip, Flow.ylP_enter, Flow.ylP_panic, hc0, hf0, e30, e35, hcat]
        exact hK g wz hC (fun _ _ => rfl)
      · intro g L wz K ρ hc0 hf0 hF hO hU hcl hi hd hC hK
        have d3 : L 3 = true := hd ⟨3, .data⟩ (by simp) rfl
        have e28 : ρ (.tmp 28) = .map (some M) := hF 28 3 (by kernel_rfl) d3
        have d4 : L 4 = true := hd ⟨4, .data⟩ (by simp) rfl
        have e29 : ρ (.tmp 29) = .int .i64 (k : Int) := hF 29 4 (by kernel_rfl) d4
        have d11 : L 11 = true := hd ⟨11, .data⟩ (by simp) rfl
        have e36 : ρ (.tmp 36) = .string (s ++ zeros z) := hF 36 11 (by kernel_rfl) d11
        rw [hi] at hC
        obtain ⟨w9, hrun, him, hg9⟩ := hC.1.im.put k hk6 hn9 (s := padz s) (by rw [padz_size hs32]; unfold maxLen; omega)
        have e36' : ρ (.tmp 36) = .string (padz s) := by rw [← hpad]; exact e36
        unfold execOp
        simp only [resolve, Sem.run_bind, Sem.run_pure, Result.andThen_ok, e28, e29, e36', hrun]
        refine hK g w9 ?_ (fun _ _ => rfl)
        exact ⟨hC.1.wrote hg9 him hkN hs32, (fun _ h => by cases h), hC.2.2.trans (.of_grown hg9 (.inr rfl))⟩
      · intro g L ch wz h; exact h.elim
      · intro g L wz hL hC
        rw [hL 12 (by decide)] at hC
        simp only [Flow.putAll, dwV]
        go_wp2
        go_ret
        rw [e1.out, e2.out]
        exact ⟨rfl, hC.1, hC.2.2⟩
end Go.Proofs.YthodlccjnbadhaaDoor
