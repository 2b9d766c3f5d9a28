/- The reference's disk: a new one, Write, Read. Printed by gen_rdisk.py. -/
import Derived.Test.YthodlccjnbadhaaDoorDiskN
namespace Go.Proofs.YthodlccjnbadhaaDoor
set_option linter.unusedSimpArgs false
set_option linter.unusedVariables false
open Go.RowKit As Go.Maps
/-- The reference's disk lies in block d: its maps in M1 (what lasts), M2. -/
structure RD (w : World) (d M1 M2 N n1 n2 : Nat) (S X : DF) : Prop where
  c0 : w.cell? ⟨d, 0, none⟩ = some (.int .i64 (N : Int))
  c1 : w.cell? ⟨d, 1, none⟩ = some (.map (some M1))
  c2 : w.cell? ⟨d, 2, none⟩ = some (.map (some M2))
  f2 : w.frozen? ⟨d, 2, none⟩ = false
  i1 : IM w M1 n1 S
  i2 : IM w M2 n2 X
  fit : DFit N S X
  d1 : d ≠ M1
  d2 : d ≠ M2
  m12 : M1 ≠ M2
def RFoot (d M1 M2 : Nat) : Nat → Prop := fun i => i = d ∨ i = M1 ∨ i = M2
structure TwoM (w : World) (g A B : Nat) : Prop where
  c0 : w.cell? ⟨g, 0, none⟩ = some (.map (some A))
  c1 : w.cell? ⟨g, 1, none⟩ = some (.map (some B))
section
variable {w w' : World} {d M1 M2 N n1 n2 : Nat} {S X : DF} {F : Nat → Prop}
theorem RD.stays (h : RD w d M1 M2 N n1 n2 S X) (ht : Turned F w w') (hd : ¬ F d) (h1 : ¬ F M1) (h2 : ¬ F M2) : RD w' d M1 M2 N n1 n2 S X :=
  ⟨ht.cell h.c0 hd, ht.cell h.c1 hd, ht.cell h.c2 hd, (ht.frozen (a := ⟨d, 2, none⟩) (cell_lt h.c2) hd).trans h.f2, ht.im h.i1 h1, ht.im h.i2 h2, h.fit, h.d1, h.d2, h.m12⟩
theorem RD.below (h : RD w d M1 M2 N n1 n2 S X) (hb : Below w.heap.size w w') : RD w' d M1 M2 N n1 n2 S X := h.stays (F := fun _ => False) (.of_below hb) id id id
end
theorem rin_any (n a b : Int) (w : World) : Calls Tryd.prog 19 #[.int .i64 n, .int .i64 a, .int .i64 b] w fun e w' => e = .returned (.bool (decide (a ≤ n) && decide (n ≤ b))) ∧ w = w' := by
  by_cases h1 : a ≤ n
  · have d1 : decide (a ≤ n) = true := decide_eq_true h1
    by_cases h2 : n ≤ b
    · have d2 : decide (n ≤ b) = true := decide_eq_true h2
      rw [d1, d2]
      go_enter Tryd.func19, Tryd.ntmps19
      go_wp2
      go_ret
      exact ⟨rfl, rfl⟩
    · have d2 : decide (n ≤ b) = false := decide_eq_false h2
      rw [d1, d2]
      go_enter Tryd.func19, Tryd.ntmps19
      go_wp2
      go_ret
      exact ⟨rfl, rfl⟩
  · have d1 : decide (a ≤ n) = false := decide_eq_false h1
    rw [d1]
    go_enter Tryd.func19, Tryd.ntmps19
    go_wp2
    go_ret
    exact ⟨rfl, rfl⟩
theorem rin_no {N : Nat} {at_ : Int} (h : at_ < 0 ∨ (N : Int) ≤ at_) : (decide (0 ≤ at_) && decide (at_ ≤ (N : Int) - 1)) = false := by
  rcases h with h | h
  · rw [decide_eq_false (by omega)]; rfl
  · rw [decide_eq_false (p := at_ ≤ (N : Int) - 1) (by omega), Bool.and_false]
theorem rin_yes {N : Nat} {at_ : Int} (h : ¬ (at_ < 0 ∨ (N : Int) ≤ at_)) : (decide (0 ≤ at_) && decide (at_ ≤ (N : Int) - 1)) = true := by
  rw [decide_eq_true (by omega), decide_eq_true (by omega)]; rfl
def rrV (d M1 M2 : Nat) (g : Nat) : Nat → Value
  | 0 => .pointer (some ⟨d, 0, none⟩)
  | 1 => .pointer (some ⟨d, 0, none⟩)
  | 2 => .pointer (some ⟨d, 2, none⟩)
  | 3 => .map (some M2)
  | 4 => .pointer (some ⟨d, 0, none⟩)
  | 5 => .pointer (some ⟨d, 0, none⟩)
  | 6 => .pointer (some ⟨d, 1, none⟩)
  | 7 => .map (some M1)
  | 8 => .slice (some ⟨g, 0, none⟩) 2 2
  | 9 => .int .i64 2
  | 10 => .int .i64 0
  | _ => undef
set_option maxHeartbeats 1000000 in
set_option maxRecDepth 100000 in
theorem rread_any {w : World} {d M1 M2 N n1 n2 : Nat} {S X : DF} (h : RD w d M1 M2 N n1 n2 S X) (at_ : Int) :
    Calls Tryd.prog 12 #[.pointer (some ⟨d, 0, none⟩), .int .i64 at_] w fun e w' => e = .returned (.tuple #[.string (drText N S X at_), .int .i64 (drErr N at_)]) ∧ Below w.heap.size w w' := by
  have c0 := h.c0
  have h140 := h.fit.n
  have wN : IntKind.i64.wrap ((N : Int) - 1) = (N : Int) - 1 := IntWalk.i64_in _ (by omega)
  go_enter Tryd.func12, Tryd.ntmps12
  go_wp2_with fail
  refine (rin_any at_ 0 ((N : Int) - 1) w).mono ?_
  rintro r w1 ⟨rfl, rfl⟩
  by_cases hr : at_ < 0 ∨ (N : Int) ≤ at_
  · rw [rin_no hr]
    have e1 := Lib.hid (show drText N S X at_ = ⟨#[]⟩ by unfold drText; rw [if_pos hr])
    have e2 := Lib.hid (show drErr N at_ = 2 by unfold drErr; rw [if_pos hr])
    clear hr
    go_wp2
    go_ret2
    rw [e1.out, e2.out]
    exact ⟨rfl, Below.refl _ _⟩
  · rw [rin_yes hr]
    obtain ⟨k, rfl⟩ := Int.eq_ofNat_of_zero_le (show 0 ≤ at_ by omega)
    have hno : ¬ ((k : Int) < 0 ∨ (N : Int) ≤ (k : Int)) := hr
    have hk6 : k ≤ 1000000 := by omega
    have e2 := Lib.hid (show drErr N k = 0 by unfold drErr; rw [if_neg hno])
    have hb1 : Below w.heap.size w w := Below.refl _ _
    have h1 := h
    clear hr h140 wN c0
    go_wp2
    refine Flow.wp_region_go (by kernel_rfl) (by kernel_rfl) (by kernel_rfl) 42 rfl (by kernel_rfl) (rrV d M1 M2) (fun g L wz => RD wz d M1 M2 N n1 n2 S X ∧ (L 8 = true → TwoM wz g M2 M1) ∧ Below w.heap.size w wz) (fun _ _ => False) (0) (⟨h1.below (Below.refl _ _).drew, (fun h => by cases h), (Below.refl _ _).drew⟩) ⟨?_, ?_, ?_, ?_, ?_, ?_, ?_, ?_, ?_, ?_, ?_, trivial⟩ ?_ ?_
    · intro g L wz K ρ hc0 hf0 hF hO hU hcl hi hd hC hK
      have e0 : ρ (.tmp 0) = .pointer (some ⟨d, 0, none⟩) := hO 0 (by kernel_rfl)
      simp [go_sem, Flow.ylP_value, Flow.ylP_skip, Flow.ylP_enter, Flow.ylP_panic, hc0, hf0, e0]
      exact hK g wz hC (fun _ _ => rfl)
    · intro g L wz K ρ hc0 hf0 hF hO hU hcl hi hd hC hK
      have d0 : L 0 = true := hd ⟨0, .data⟩ (by simp) rfl
      have e18 : ρ (.tmp 18) = .pointer (some ⟨d, 0, none⟩) := hF 18 0 (by kernel_rfl) d0
      simp [go_sem, Flow.ylP_value, Flow.ylP_skip, Flow.ylP_enter, Flow.ylP_panic, hc0, hf0, e18]
      exact hK g wz hC (fun _ _ => rfl)
    · intro g L wz K ρ hc0 hf0 hF hO hU hcl hi hd hC hK
      have d1 : L 1 = true := hd ⟨1, .data⟩ (by simp) rfl
      have e19 : ρ (.tmp 19) = .pointer (some ⟨d, 0, none⟩) := hF 19 1 (by kernel_rfl) d1
      simp [go_sem, Flow.ylP_value, Flow.ylP_skip, Flow.ylP_enter, Flow.ylP_panic, hc0, hf0, e19]
      exact hK g wz hC (fun _ _ => rfl)
    · intro g L wz K ρ hc0 hf0 hF hO hU hcl hi hd hC hK
      have d2 : L 2 = true := hd ⟨2, .data⟩ (by simp) rfl
      have e20 : ρ (.tmp 20) = .pointer (some ⟨d, 2, none⟩) := hF 20 2 (by kernel_rfl) d2
      have cc := hC.1.c2
      simp [go_sem, Flow.ylP_value, Flow.ylP_skip, Flow.ylP_enter, Flow.ylP_panic, hc0, hf0, e20, cc]
      exact hK g wz hC (fun _ _ => rfl)
    · intro g L wz K ρ hc0 hf0 hF hO hU hcl hi hd hC hK
      have e0 : ρ (.tmp 0) = .pointer (some ⟨d, 0, none⟩) := hO 0 (by kernel_rfl)
      simp [go_sem, Flow.ylP_value, Flow.ylP_skip, Flow.ylP_enter, Flow.ylP_panic, hc0, hf0, e0]
      exact hK g wz hC (fun _ _ => rfl)
    · intro g L wz K ρ hc0 hf0 hF hO hU hcl hi hd hC hK
      have d4 : L 4 = true := hd ⟨4, .data⟩ (by simp) rfl
      have e22 : ρ (.tmp 22) = .pointer (some ⟨d, 0, none⟩) := hF 22 4 (by kernel_rfl) d4
      simp [go_sem, Flow.ylP_value, Flow.ylP_skip, Flow.ylP_enter, Flow.ylP_panic, hc0, hf0, e22]
      exact hK g wz hC (fun _ _ => rfl)
    · intro g L wz K ρ hc0 hf0 hF hO hU hcl hi hd hC hK
      have d5 : L 5 = true := hd ⟨5, .data⟩ (by simp) rfl
      have e23 : ρ (.tmp 23) = .pointer (some ⟨d, 0, none⟩) := hF 23 5 (by kernel_rfl) d5
      simp [go_sem, Flow.ylP_value, Flow.ylP_skip, Flow.ylP_enter, Flow.ylP_panic, hc0, hf0, e23]
      exact hK g wz hC (fun _ _ => rfl)
    · intro g L wz K ρ hc0 hf0 hF hO hU hcl hi hd hC hK
      have d6 : L 6 = true := hd ⟨6, .data⟩ (by simp) rfl
      have e24 : ρ (.tmp 24) = .pointer (some ⟨d, 1, none⟩) := hF 24 6 (by kernel_rfl) d6
      have cc := hC.1.c1
      simp [go_sem, Flow.ylP_value, Flow.ylP_skip, Flow.ylP_enter, Flow.ylP_panic, hc0, hf0, e24, cc]
      exact hK g wz hC (fun _ _ => rfl)
    · intro g L wz K ρ hc0 hf0 hF hO hU hcl hi hd hC hK
      have d3 : L 3 = true := hd ⟨3, .data⟩ (by simp) rfl
      have e21 : ρ (.tmp 21) = .map (some M2) := hF 21 3 (by kernel_rfl) d3
      have d7 : L 7 = true := hd ⟨7, .data⟩ (by simp) rfl
      have e25 : ρ (.tmp 25) = .map (some M1) := hF 25 7 (by kernel_rfl) d7
      simp [go_sem, Flow.ylP_value, Flow.ylP_skip, Flow.ylP_enter, Flow.ylP_panic, hc0, hf0, e21, e25]
      refine hK wz.heap.size _ ?_ (by intro j hj; unfold rrV; split <;> first | rfl | (rw [hi] at hj; cases hj) | (have hz := hcl _ 8 (by kernel_rfl) hj; rw [hi] at hz; cases hz))
      exact ⟨hC.1.below (below1 _ _), fun _ => ⟨by rw [World.cell?_alloc_new]; rfl, by rw [World.cell?_alloc_new]; rfl⟩, hC.2.2.trans ((below1 _ _).mono hC.2.2.size)⟩
    · intro g L wz K ρ hc0 hf0 hF hO hU hcl hi hd hC hK
      have d8 : L 8 = true := hd ⟨8, .data⟩ (by simp) rfl
      have e26 : ρ (.tmp 26) = .slice (some ⟨g, 0, none⟩) 2 2 := hF 26 8 (by kernel_rfl) d8
      simp [go_sem, Flow.ylP_value, Flow.ylP_skip, Flow.ylP_enter, Flow.ylP_panic, hc0, hf0, e26]
      exact hK g wz hC (fun _ _ => rfl)
    · intro g L wz K ρ hc0 hf0 hF hO hU hcl hi hd hC hK
      simp [go_sem, Flow.ylP_value, Flow.ylP_skip, Flow.ylP_enter, Flow.ylP_panic, hc0, hf0]
      exact hK g wz hC (fun _ _ => rfl)
    · intro g L ch wz h; exact h.elim
    · intro g L wz hL hC
      have hT := hC.2.1 (hL 8 (by decide))
      have hR := hC.1
      have hB := hC.2.2
      clear hC hL
      simp only [Flow.putAll, rrV]
      simp [Act.put]
      go_wp2
      go_loopw [7, 8, 9, 28] (fun _ _ _ iv wr => (iv = .int .i64 0 ∧ wr = wz) ∨ (iv = .int .i64 1 ∧ wr = wz ∧ X k = none) ∨ (iv = .int .i64 2 ∧ wr = wz ∧ X k = none ∧ S k = none)) (fun _ _ _ iv _ => 2 - (intOf iv).toNat)
      case atStart => exact .inl ⟨rfl, rfl⟩
      case round =>
        obtain ⟨t0, t1⟩ := hT
        rcases hrel with ⟨rfl, rfl⟩ | ⟨rfl, rfl, hx⟩ | ⟨rfl, rfl, hx, hs⟩
        · have hl := hR.i2.look_ok k hk6
          cases hx : X k with
          | none =>
            rw [hx] at hl
            simp only [Option.getD_none, Option.isSome_none] at hl
            go_wp2
            go_roundw
            case rel => first | exact .inr (.inl ⟨rfl, rfl, hx⟩) | exact .inr (.inl ⟨rfl, trivial, trivial⟩) | simp [hx]
            case measure => simp [intOf]
          | some t =>
            rw [hx] at hl
            simp only [Option.getD_some, Option.isSome_some] at hl
            have e1 := Lib.hid (show drText N S X k = t by unfold drText nowAt; rw [if_neg hno]; simp [hx])
            go_wp2
            go_ret2
            rw [e1.out, e2.out]
            exact ⟨rfl, hb1.trans (hB.mono hb1.size)⟩
        · have hl := hR.i1.look_ok k hk6
          cases hs : S k with
          | none =>
            rw [hs] at hl
            simp only [Option.getD_none, Option.isSome_none] at hl
            go_wp2
            go_roundw
            case rel => first | exact .inr (.inr ⟨rfl, rfl, hx, hs⟩) | simp [hx, hs]
            case measure => simp [intOf]
          | some t =>
            rw [hs] at hl
            simp only [Option.getD_some, Option.isSome_some] at hl
            have e1 := Lib.hid (show drText N S X k = t by unfold drText nowAt safeAt; rw [if_neg hno]; simp [hx, hs])
            go_wp2
            go_ret2
            rw [e1.out, e2.out]
            exact ⟨rfl, hb1.trans (hB.mono hb1.size)⟩
        · have e1 := Lib.hid (show drText N S X k = zeros 32 by unfold drText nowAt safeAt; rw [if_neg hno]; simp [hx, hs])
          go_wp2_with fail
          refine (Tryd.strings_Repeat ⟨#[0]⟩ 32 _ (by omega) (by show 1 * 32 ≤ _; omega)).mono ?_
          rintro r w5 ⟨rfl, hb5⟩
          go_wp2
          go_ret2
          rw [e1.out, e2.out]
          exact ⟨rfl, (hb1.trans (hB.mono hb1.size)).trans (hb5.mono (Nat.le_trans hb1.size hB.size))⟩
end Go.Proofs.YthodlccjnbadhaaDoor
