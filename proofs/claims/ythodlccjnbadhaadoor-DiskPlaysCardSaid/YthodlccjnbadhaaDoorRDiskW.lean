/- The reference's disk: a new one, Write. -/
import Derived.Test.YthodlccjnbadhaaDoorRDisk
namespace Go.Proofs.YthodlccjnbadhaaDoor
set_option linter.unusedSimpArgs false
set_option linter.unusedVariables false
open Go.RowKit As Go.Maps
set_option maxHeartbeats 1000000 in
set_option maxRecDepth 100000 in
theorem rnew_any (N : Nat) (h : N ≤ 140) (w : World) :
    Calls Tryd.prog 6 #[.int .i64 (N : Int)] w fun e w' => ∃ d M1 M2, e = .returned (.pointer (some ⟨d, 0, none⟩)) ∧ RD w' d M1 M2 N 0 0 (fun _ => none) (fun _ => none) ∧ (w.heap.size ≤ d ∧ w.heap.size ≤ M1 ∧ w.heap.size ≤ M2) ∧ Below w.heap.size w w' := by
  have hmm := @run_makeMap Tryd.prog
  have b1 : Below w.heap.size w (w.alloc (.map #[] 0)) := below1 w (.map #[] 0)
  have b2 := below1 (w.alloc (.map #[] 0)) (.map #[] 0)
  have b3 := below1 ((w.alloc (.map #[] 0)).alloc (.map #[] 0)) (.cells #[.int .i64 (N : Int), .map (some w.heap.size), .map (some (w.heap.size + 1))] 55)
  have i1 := IM.made w
  have i2 := IM.made (w.alloc (.map #[] 0))
  rw [World.size_alloc] at i2
  have hP : RD (((w.alloc (.map #[] 0)).alloc (.map #[] 0)).alloc (.cells #[.int .i64 (N : Int), .map (some w.heap.size), .map (some (w.heap.size + 1))] 55)) (w.heap.size + 2) w.heap.size (w.heap.size + 1) N 0 0 (fun _ => none) (fun _ => none) := by
    have e : w.heap.size + 2 = ((w.alloc (.map #[] 0)).alloc (.map #[] 0)).heap.size := by simp
    refine ⟨?_, ?_, ?_, by rw [e]; generalize (w.alloc (.map #[] 0)).alloc (.map #[] 0) = W; simp, ((Turned.of_below (S := fun _ => False) b3).im ((Turned.of_below (S := fun _ => False) b2).im i1 id) id), (Turned.of_below (S := fun _ => False) b3).im i2 id, .new h, by omega, by omega, by omega⟩ <;> (rw [e, World.cell?_alloc_new]; rfl)
  have b4 := (b1.trans (b2.mono b1.size)).trans (b3.mono (Nat.le_trans b1.size b2.size))
  clear i1 i2 b1 b2 b3
  go_enter Tryd.func6, Tryd.ntmps6
  go_wp2
  go_ret
  first
    | exact ⟨w.heap.size + 2, rfl, w.heap.size, w.heap.size + 1, hP, ⟨by omega, by omega, by omega⟩, b4⟩
    | exact ⟨w.heap.size + 2, rfl, w.heap.size, w.heap.size + 1, hP, by omega, by omega, by omega, b4⟩
def strLen : Value → Nat
  | .string s => s.size
  | _ => 0
theorem zeros_zero : zeros 0 = ⟨#[]⟩ := rfl
theorem cat_zero (s : ByteArray) : s ++ zeros 0 = s := by
  apply str_of
  simp [zeros]
theorem cat_next (s : ByteArray) (k : Nat) : (s ++ zeros k) ++ (⟨#[0]⟩ : ByteArray) = s ++ zeros (k + 1) := by
  apply str_of
  simp [zeros, List.replicate_succ']
theorem RD.wrote {w w' : World} {d M1 M2 N n1 n2 k : Nat} {S X : DF} {s : ByteArray} (h : RD w d M1 M2 N n1 n2 S X) (hg : w.grownBy w' (some M2)) (hi : IM w' M2 (n2 + 1) (upd X k (padz s))) (hk : k < N) (hs : s.size ≤ 32) : RD w' d M1 M2 N n1 (n2 + 1) S (upd X k (padz s)) :=
  have ht : Turned (fun i => i = M2) w w' := .of_grown hg rfl
  ⟨ht.cell h.c0 h.d2, ht.cell h.c1 h.d2, ht.cell h.c2 h.d2, (ht.frozen (a := ⟨d, 2, none⟩) (cell_lt h.c2) h.d2).trans h.f2, ht.im h.i1 h.m12, hi, h.fit.write hk hs, h.d1, h.d2, h.m12⟩
set_option maxHeartbeats 1000000 in
set_option maxRecDepth 100000 in
theorem rwrite_any {w : World} {d M1 M2 N n1 n2 : Nat} {S X : DF} (h : RD w d M1 M2 N n1 n2 S X) (at_ : Int) (s : ByteArray) (hs : s.size ≤ 1000000) (hn9 : n2 < maxLen) :
    Calls Tryd.prog 8 #[.pointer (some ⟨d, 0, none⟩), .int .i64 at_, .string s] w fun e w' => e = .returned (.int .i64 (dwErr N at_ s)) ∧ RD w' d M1 M2 N n1 (n2 + 1) S (dwX N X at_ s) ∧ Turned (RFoot d M1 M2) w w' := by
  have c0 := h.c0
  have h140 := h.fit.n
  have hno : dwErr N at_ s ≠ 0 → RD w d M1 M2 N n1 (n2 + 1) S (dwX N X at_ s) := fun he => by
    unfold dwX
    rw [if_neg he]
    exact ⟨h.c0, h.c1, h.c2, h.f2, h.i1, h.i2.mono (Nat.le_succ n2), h.fit, h.d1, h.d2, h.m12⟩
  have wN : IntKind.i64.wrap ((N : Int) - 1) = (N : Int) - 1 := IntWalk.i64_in _ (by omega)
  go_enter Tryd.func8, Tryd.ntmps8
  go_wp2_with fail
  refine (rin_any at_ 0 ((N : Int) - 1) w).mono ?_
  rintro r w1 ⟨rfl, rfl⟩
  by_cases hr : at_ < 0 ∨ (N : Int) ≤ at_
  · rw [rin_no hr]
    have e1 := Lib.hid (show dwErr N at_ s = 2 by unfold dwErr; rw [if_pos hr])
    have e2 := Lib.hid (hno (by rw [e1.out]; decide))
    clear hr hno
    go_wp2
    go_ret
    rw [e1.out]
    exact ⟨rfl, e2.out, .refl _ _⟩
  · rw [rin_yes hr]
    obtain ⟨k, rfl⟩ := Int.eq_ofNat_of_zero_le (show 0 ≤ at_ by omega)
    have hkN : k < N := by omega
    by_cases h32 : 32 < s.size
    · have d2 : decide ((32 : Int) < (s.size : Int)) = true := decide_eq_true (by omega)
      have e1 := Lib.hid (show dwErr N k s = 4 by unfold dwErr; rw [if_neg hr, if_pos h32])
      have e2 := Lib.hid (hno (by rw [e1.out]; decide))
      clear hr hno
      go_wp2
      go_ret
      rw [e1.out]
      exact ⟨rfl, e2.out, .refl _ _⟩
    · have d2 : decide ((32 : Int) < (s.size : Int)) = false := decide_eq_false (by omega)
      have e1 := Lib.hid (show dwErr N k s = 0 by unfold dwErr; rw [if_neg hr, if_neg h32])
      have e2 := Lib.hid (show dwX N X k s = upd X k (padz s) by unfold dwX; rw [if_pos e1.out]; rfl)
      have hs32 : s.size ≤ 32 := by omega
      have hk6 : k ≤ 1000000 := by omega
      have HS := Lib.hid hs32
      obtain ⟨w9, hrun, him, hg9⟩ := h.i2.put k hk6 hn9 (s := padz s) (by rw [padz_size hs32]; unfold maxLen; omega)
      have hP9 := h.wrote hg9 him hkN hs32
      have c2 := h.c2
      clear hr hno h32 wN him
      go_wp2
      go_loop [2] (fun sv => ∃ T : ByteArray, sv = .string T ∧ Hid (∃ j, j ≤ 32 - s.size ∧ T = s ++ zeros j ∧ T.size = s.size + j)) (fun sv => 32 - (strLen sv))
      case atStart => exact ⟨s, rfl, Lib.hid ⟨0, Nat.zero_le _, (cat_zero s).symm, rfl⟩⟩
      case round =>
        obtain ⟨T, rfl, HT⟩ := hrel
        by_cases hlt : T.size < 32
        · have t0 : decide ((T.size : Int) < 32) = true := decide_eq_true (by omega)
          have t1 : decide (T.size < 32) = true := decide_eq_true hlt
          have hcat : ¬ 9223372036854775807 < T.size + (⟨#[0]⟩ : ByteArray).size := by show ¬ _ < T.size + 1; omega
          obtain ⟨U, hU⟩ : ∃ U, U = T ++ (⟨#[0]⟩ : ByteArray) := ⟨_, rfl⟩
          have HU := Lib.hid (show U.size = T.size + 1 by rw [hU, ByteArray.size_append]; rfl)
          have HU2 := Lib.hid hU
          have HLT := Lib.hid hlt
          clear hlt hU
          go_wp2
          rw [← HU2.out]
          refine ⟨⟨U, rfl, ?_⟩, ?_⟩
          · obtain ⟨j, h1, h2, h3⟩ := HT.out
            have := HLT.out
            exact Lib.hid ⟨j + 1, by omega, by rw [HU2.out, h2, cat_next], by rw [HU.out, h3]; omega⟩
          · show 32 - U.size < 32 - T.size
            have := HU.out
            have := HLT.out
            omega
        · obtain ⟨j, h1, h2, h3⟩ := HT.out
          have hpad : T = padz s := by rw [h2, show j = 32 - s.size by omega]; rfl
          subst hpad
          have t0 : decide (((padz s).size : Int) < 32) = false := decide_eq_false (by omega)
          have t1 : decide ((padz s).size < 32) = false := decide_eq_false hlt
          clear h1 h2 h3 hlt HT
          go_wp2
          go_ret
          rw [e1.out, e2.out]
          exact ⟨rfl, hP9, .of_grown hg9 (.inr (.inr rfl))⟩
end Go.Proofs.YthodlccjnbadhaaDoor
