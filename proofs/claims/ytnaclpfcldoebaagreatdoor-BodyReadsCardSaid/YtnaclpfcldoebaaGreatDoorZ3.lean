/- vary.Get and Unvary of the reference say what vget says.

What is thrown and caught in the reference; a scanner's next number.

VectorRight of the reference says what vright says.

How far a replica is known: VectorOf of the reference.

(Fault).Is of the reference.

append to a slice of the call's own, as one step of a region that draws its order. Any program.

VectorJoin of the reference says what vjoin says. -/
import Derived.Test.YtnaclpfcldoebaaGreatDoorZ2
import Derived.WalkKit
import Derived.WalkLawsBesides
import Derived.WalkSpells
import Derived.Outline
import Derived.Lib.Hide
import Derived.Laws.BitsAllLaws
import Derived.Deep.QuietTactic
import Derived.Deep.RegionWith
import Derived.BigQuiet
import Derived.Defers
import Derived.Recover
import Derived.Laws.Pointers
import Derived.Test.YtnaclpfcldoebaaGreatDoorZ1
import Derived.Deep.RegionLaw
import Derived.OwnWalk
import Derived.Maps.AppendAt
section
namespace Go.Proofs.YtnaclpfcldoebaaGreatDoor
open Go.RowKit As
theorem sbyte (s : ByteArray) (k : Nat) (h : k < s.size) : s.data.toList[k]'(by simpa using h) = s[k] := rfl
theorem u64_byte (b : UInt8) : IntKind.u64.wrap (b.toNat : Int) = (b.toNat : Int) := by
  have := b.toNat_lt
  rw [IntKind.wrap_u64]; omega
/-- A byte's seven bits taken in. -/
theorem vor {a b k : Nat} (ha : a < 2 ^ (7 * k)) (hb : b < 256) (hf : a + b % 128 * 2 ^ (7 * k) < 18446744073709551616) :
    bits BinOp.or IntKind.u64 (a : Int) (IntKind.u64.wrap (bits BinOp.and IntKind.u64 (b : Int) 127 * 2 ^ (7 * k))) = ((a + b % 128 * 2 ^ (7 * k) : Nat) : Int) := by
  have e1 : bits BinOp.and IntKind.u64 (b : Int) 127 = ((b % 128 : Nat) : Int) := by
    have e := u64_and_nat b 127 (by omega) (by omega)
    rw [nat_mask7] at e
    exact e
  have hp : b % 128 * 2 ^ (7 * k) < 18446744073709551616 := by omega
  have e2 : ((b % 128 : Nat) : Int) * 2 ^ (7 * k) = ((b % 128 * 2 ^ (7 * k) : Nat) : Int) := by simp
  rw [e1, e2, IntKind.wrap_u64, Int.emod_eq_of_lt (by omega) (by omega), u64_or_nat a _ (by omega) hp, Nat.or_comm, nat_join (7 * k) _ _ (Nat.mul_mod_left _ _) ha, Nat.add_comm]
theorem vor_at (s : ByteArray) (k : Nat) (h : k < s.size) (h9 : k ≤ 9) (hb : ¬ (k = 9 ∧ 1 < s[k].toNat)) :
    bits BinOp.or IntKind.u64 (vval (s.data.toList.take k) : Int) (IntKind.u64.wrap (bits BinOp.and IntKind.u64 (s[k].toNat : Int) 127 * 2 ^ (7 * k))) = (vval (s.data.toList.take (k + 1)) : Int) := by
  have hl : k < s.data.toList.length := by simpa using h
  have hn := vval_next hl
  have hfit := vval_fits hl h9 (by rw [sbyte s k h]; exact hb)
  rw [sbyte s k h] at hn
  rw [hn] at hfit
  rw [hn, pow128]
  rw [pow128] at hfit
  have hlt := vval_take_lt s.data.toList k (by omega)
  rw [pow128] at hlt
  exact vor hlt s[k].toNat_lt hfit
theorem retT3 {n n' k k' : Int} {v v' : Value} {t t' : IntKind} (h1 : n = n') (h2 : k = k') (h3 : v = v') : Ending.returned (.tuple #[.int t n, .int t' k, v]) = .returned (.tuple #[.int t n', .int t' k', v']) := by rw [h1, h2, h3]
set_option maxHeartbeats 1000000 in
set_option maxRecDepth 100000 in
theorem vget_any (s : ByteArray) (w : World) (hs : s.size ≤ maxLen) :
    Calls Tryz.prog 46 #[.string s] w fun e w' => e = .returned (.tuple #[.int .u64 ((vget s.data.toList).1 : Int), .int .i64 ((vget s.data.toList).2.1 : Int), errV (vget s.data.toList).2.2]) ∧ w = w' := by
  unfold maxLen at hs
  go_enter Tryz.func46, Tryz.ntmps46
  go_wp2
  go_loop [5, 6, 7, 10] (fun n _ _ i => ∃ k : Nat, k ≤ s.size ∧ i = .int .i64 k ∧ n = .int .u64 (vval (s.data.toList.take k) : Int) ∧ VG s.data.toList k) (fun _ _ _ i => s.size - (intOf i).toNat)
  case atStart => exact ⟨0, by omega, rfl, rfl, VG.zero _⟩
  case round =>
    obtain ⟨k, hk, rfl, rfl, hvg⟩ := hrel
    have HV := Lib.hid hvg
    have h9 := hvg.2.1
    clear hvg
    by_cases hlt : k < s.size
    · have hlt' : k < s.data.toList.length := by simpa using hlt
      have hsb := Lib.hid (sbyte s k hlt)
      have hb256 := s[k].toNat_lt
      have hw := u64_byte s[k]
      by_cases c1 : k = 9 ∧ 1 < s[k].toNat
      · have hres := Lib.hid (HV.out.limit hlt' c1.1 (by rw [hsb.out]; exact c1.2))
        have d1 : ((k : Int) == 9) = true := by simp; omega
        have d2 : decide (1 < (s[k].toNat : Int)) = true := by simp; omega
        clear c1
        go_wp2
        go_ret3
        exact ⟨by rw [hres.out]; rfl, rfl⟩
      · have hvor := Lib.hid (vor_at s k hlt h9 c1)
        by_cases c2 : s[k].toNat = 0 ∧ 0 < k
        · have hres := Lib.hid (HV.out.form hlt' c2.2 (by rw [hsb.out]; exact c2.1))
          have d1 : decide (1 < (s[k].toNat : Int)) = false := by simp; omega
          have d2 : decide ((s[k].toNat : Int) < 128) = true := by simp; omega
          have d3 : ((s[k].toNat : Int) == 0) = true := by simp; omega
          have d4 : decide (0 < k) = true := by simp; omega
          clear c1 c2
          by_cases e9 : k = 9
          · have d5 : ((k : Int) == 9) = true := by simp; omega
            clear e9
            go_wp2
            go_ret3
            exact ⟨by rw [hres.out]; rfl, rfl⟩
          · have d5 : ((k : Int) == 9) = false := by simp; omega
            clear e9
            go_wp2
            go_ret3
            exact ⟨by rw [hres.out]; rfl, rfl⟩
        · by_cases c3 : s[k].toNat < 128
          · have hres := Lib.hid (HV.out.done hlt' (by rw [hsb.out]; exact c1) (by rw [hsb.out]; exact c3) (by rw [hsb.out]; exact c2))
            have d2 : decide ((s[k].toNat : Int) < 128) = true := by simp; omega
            by_cases e0 : s[k].toNat = 0
            · have d3 : ((s[k].toNat : Int) == 0) = true := by simp; omega
              have d4 : decide (0 < k) = false := by simp; omega
              have d5 : ((k : Int) == 9) = false := by simp; omega
              clear c1 c2 c3 e0
              go_wp2
              go_ret3
              exact ⟨by rw [hres.out]; exact retT3 hvor.out (by go_num) rfl, rfl⟩
            · have d3 : ((s[k].toNat : Int) == 0) = false := by simp; omega
              by_cases e9 : k = 9
              · have d5 : ((k : Int) == 9) = true := by simp; omega
                have d1 : decide (1 < (s[k].toNat : Int)) = false := by simp; omega
                clear c1 c2 c3 e0 e9
                go_wp2
                go_ret3
                exact ⟨by rw [hres.out]; exact retT3 hvor.out (by go_num) rfl, rfl⟩
              · have d5 : ((k : Int) == 9) = false := by simp; omega
                clear c1 c2 c3 e0 e9
                go_wp2
                go_ret3
                exact ⟨by rw [hres.out]; exact retT3 hvor.out (by go_num) rfl, rfl⟩
          · have hnext := Lib.hid (HV.out.succ hlt' (by rw [hsb.out]; exact c1) (by rw [hsb.out]; exact c3))
            have d2 : decide ((s[k].toNat : Int) < 128) = false := by simp; omega
            have d5 : ((k : Int) == 9) = false := by simp; omega
            clear c1 c2 c3
            go_wp2
            go_round
            case rel => exact ⟨k + 1, by omega, by go_num, valI hvor.out, hnext.out⟩
            case measure => simp [intOf]; omega
    · obtain rfl : k = s.size := by omega
      have hres := Lib.hid (HV.out.out (by simp))
      clear hlt
      go_wp2
      go_ret3
      exact ⟨by rw [hres.out]; rfl, rfl⟩
theorem modB (b : UInt8) : (b.toNat : Int) % 128 = ((b.toNat % 128 : Nat) : Int) := by omega
set_option maxHeartbeats 1000000 in
set_option maxRecDepth 100000 in
theorem runvary_any (s : ByteArray) (w : World) (hs : s.size ≤ maxLen) :
    Calls Tryz.prog 36 #[.string s] w fun e w' => e = .returned (.tuple #[.int .u64 ((vget s.data.toList).1 : Int), .int .i64 ((vget s.data.toList).2.1 : Int), .int .i64 (vget s.data.toList).2.2]) ∧ w = w' := by
  unfold maxLen at hs
  go_enter Tryz.func36, Tryz.ntmps36
  go_wp2
  go_loop [5] (fun i => ∃ k : Nat, k ≤ s.size ∧ i = .int .i64 k ∧ VG s.data.toList k) (fun i => s.size - (intOf i).toNat)
  case atStart => exact ⟨0, by omega, rfl, VG.zero _⟩
  case round =>
    obtain ⟨k, hk, rfl, hvg⟩ := hrel
    have HV := Lib.hid hvg
    have h9 := hvg.2.1
    clear hvg
    by_cases hlt : k < s.size
    · have hlt' : k < s.data.toList.length := by simpa using hlt
      have hsb := Lib.hid (sbyte s k hlt)
      have hb256 := s[k].toNat_lt
      have d0 : ((k : Int) == (s.size : Int)) = false := by simp; omega
      by_cases c1 : k = 9 ∧ 1 < s[k].toNat
      · have hres := Lib.hid (HV.out.limit hlt' c1.1 (by rw [hsb.out]; exact c1.2))
        have d1 : ((k : Int) == 9) = true := by simp; omega
        have d2 : decide (1 < (s[k].toNat : Int)) = true := by simp; omega
        clear c1
        go_wp2
        go_ret3
        exact ⟨by rw [hres.out]; rfl, rfl⟩
      · by_cases c2 : s[k].toNat = 0 ∧ 0 < k
        · have hres := Lib.hid (HV.out.form hlt' c2.2 (by rw [hsb.out]; exact c2.1))
          have d1 : decide (1 < (s[k].toNat : Int)) = false := by simp; omega
          have d3 : ((s[k].toNat : Int) == 0) = true := by simp; omega
          have d4 : decide (0 < k) = true := by simp; omega
          clear c1 c2
          by_cases e9 : k = 9
          · have d5 : ((k : Int) == 9) = true := by simp; omega
            clear e9
            go_wp2
            go_ret3
            exact ⟨by rw [hres.out]; rfl, rfl⟩
          · have d5 : ((k : Int) == 9) = false := by simp; omega
            clear e9
            go_wp2
            go_ret3
            exact ⟨by rw [hres.out]; rfl, rfl⟩
        · have hC1 := Lib.hid c1
          by_cases c3 : s[k].toNat < 128
          · have hres := Lib.hid (HV.out.done hlt' (by rw [hsb.out]; exact c1) (by rw [hsb.out]; exact c3) (by rw [hsb.out]; exact c2))
            have hfit := vval_fits hlt' h9 (by rw [hsb.out]; exact c1)
            have d2 : decide ((s[k].toNat : Int) < 128) = true := by simp; omega
            have hd : (((s[k].toNat : Int) == 0) = true ∧ decide (0 < k) = false ∧ ((k : Int) == 9) = false) ∨ (((s[k].toNat : Int) == 0) = false ∧ ((k : Int) == 9) = true ∧ decide (1 < (s[k].toNat : Int)) = false) ∨ (((s[k].toNat : Int) == 0) = false ∧ ((k : Int) == 9) = false) := by
              simp only [beq_iff_eq, beq_eq_false_iff_ne, decide_eq_false_iff_not]
              omega
            clear c1 c2 c3
            rcases hd with ⟨d3, d4, d5⟩ | ⟨d3, d5, d6⟩ | ⟨d3, d5⟩
            all_goals
              go_wp2
              go_loop [6, 7] (fun n j => ∃ m : Nat, m ≤ k + 1 ∧ j = .int .i64 ((m : Int) - 1) ∧ n = .int .u64 (vtail s.data.toList (k + 1) m : Int)) (fun _ j => (intOf j + 1).toNat)
              case atStart => exact ⟨k + 1, by omega, by go_num, by rw [vtail_end]; rfl⟩
              case round =>
                obtain ⟨m, hm, rfl, rfl⟩ := hrel
                cases m with
                | zero =>
                  have ej : (((0 : Nat) : Int) - 1) = -1 := by omega
                  rw [ej]
                  clear ej
                  go_wp2
                  go_ret3
                  exact ⟨by rw [hres.out]; exact retT3 rfl (by go_num) rfl, rfl⟩
                | succ m =>
                  have ej : (((m + 1 : Nat) : Int) - 1) = (m : Int) := by omega
                  rw [ej]
                  clear ej
                  have hms : m < s.size := by omega
                  have hn := vtail_prev (l := s.data.toList) (i := k + 1) (k := m) (by omega) (by omega)
                  rw [sbyte s m hms] at hn
                  have hle := vtail_le s.data.toList (k + 1) m
                  have hbm := s[m].toNat_lt
                  have hN := Lib.hid hn
                  have hV : vtail s.data.toList (k + 1) m < 18446744073709551616 := by omega
                  clear hn
                  go_wp2
                  go_round
                  case rel =>
                    refine ⟨m, by omega, rfl, valI ?_⟩
                    have hn := hN.out
                    simp only [IntKind.wrap_u64]
                    omega
                  case measure => simp [intOf]
          · have hnext := Lib.hid (HV.out.succ hlt' (by rw [hsb.out]; exact c1) (by rw [hsb.out]; exact c3))
            have d2 : decide ((s[k].toNat : Int) < 128) = false := by simp; omega
            have d3 : ((s[k].toNat : Int) == 0) = false := by simp; omega
            have d5 : ((k : Int) == 9) = false := by simp; omega
            clear c1 c2 c3
            go_wp2
            go_round
            case rel => exact ⟨k + 1, by omega, by go_num, hnext.out⟩
            case measure => simp [intOf]; omega
    · obtain rfl : k = s.size := by omega
      have hres := Lib.hid (HV.out.out (by simp))
      clear hlt
      go_wp2
      go_ret3
      exact ⟨by rw [hres.out]; rfl, rfl⟩
/-- int of a number that fits. -/
theorem i64_small {n : Nat} (h : n < 9223372036854775808) : IntKind.i64.wrap (n : Int) = (n : Int) := IntWalk.i64_in _ (by omega)
set_option maxHeartbeats 1000000 in
set_option maxRecDepth 100000 in
theorem vint_any (s : ByteArray) (most : Int) (w : World) (hs : s.size ≤ maxLen) (hm : most ≤ 9223372036854775807) :
    Calls Tryz.prog 44 #[.string s, .int .i64 most] w fun e w' => e = .returned (.tuple #[.int .i64 ((vint s.data.toList most).1 : Int), .int .i64 ((vint s.data.toList most).2.1 : Int), errV (vint s.data.toList most).2.2]) ∧ w = w' := by
  have H := Lib.hid (show vint s.data.toList most = _ from rfl)
  unfold vint at H
  obtain ⟨x, hx⟩ : ∃ x, x = vint s.data.toList most := ⟨_, rfl⟩
  obtain ⟨g, hg⟩ : ∃ g, g = vget s.data.toList := ⟨_, rfl⟩
  have hX : x = if g.2.2 ≠ 0 then (0, 0, g.2.2) else if most < 0 ∨ most < (g.1 : Int) then (0, 0, 2) else g := by rw [hx, hg]; rfl
  have hsay := vget_says s.data.toList
  rw [← hg] at hsay
  have HG := Lib.hid hg
  rw [← hx]
  clear hx hg H
  obtain ⟨n, k, e⟩ := g
  simp only at hX hsay
  by_cases he : e = 0
  · subst he
    have hn : n < 18446744073709551616 := by
      rcases hsay with h | h | h | h
      · exact h.2.1
      all_goals (injection h with h _; omega)
    clear hsay
    rw [if_neg (by simp)] at hX
    by_cases h1 : most < 0
    · rw [if_pos (.inl h1)] at hX
      subst hX
      go_enter Tryz.func44, Tryz.ntmps44
      go_wp2_with fail
      refine (vget_any s w hs).mono ?_
      rintro e w' ⟨rfl, rfl⟩
      rw [← HG.out]
      simp only [errV_zero]
      go_wp2
      go_ret3
      exact ⟨rfl, rfl⟩
    · have hw : IntKind.u64.wrap most = most := by rw [IntKind.wrap_u64]; omega
      by_cases h2 : most < (n : Int)
      · rw [if_pos (.inr h2)] at hX
        subst hX
        go_enter Tryz.func44, Tryz.ntmps44
        go_wp2_with fail
        refine (vget_any s w hs).mono ?_
        rintro e w' ⟨rfl, rfl⟩
        rw [← HG.out]
        simp only [errV_zero]
        go_wp2
        go_ret3
        exact ⟨rfl, rfl⟩
      · rw [if_neg (by omega)] at hX
        subst hX
        have hi : IntKind.i64.wrap (n : Int) = (n : Int) := i64_small (by omega)
        go_enter Tryz.func44, Tryz.ntmps44
        go_wp2_with fail
        refine (vget_any s w hs).mono ?_
        rintro e w' ⟨rfl, rfl⟩
        rw [← HG.out]
        simp only [errV_zero]
        go_wp2
        go_ret3
        exact ⟨rfl, rfl⟩
  · rw [if_pos he] at hX
    subst hX
    have hv := Lib.hid (errV_of he)
    go_enter Tryz.func44, Tryz.ntmps44
    go_wp2_with fail
    refine (vget_any s w hs).mono ?_
    rintro e w' ⟨rfl, rfl⟩
    rw [← HG.out]
    simp only [hv.out]
    go_wp2
    go_ret3
    exact ⟨retT3 rfl rfl hv.out.symm, rfl⟩
set_option maxHeartbeats 1000000 in
set_option maxRecDepth 100000 in
theorem rvint_any (s : ByteArray) (most : Int) (w : World) (hs : s.size ≤ maxLen) (hm : most ≤ 9223372036854775807) :
    Calls Tryz.prog 35 #[.string s, .int .i64 most] w fun e w' => e = .returned (.tuple #[.int .i64 ((vint s.data.toList most).1 : Int), .int .i64 ((vint s.data.toList most).2.1 : Int), .int .i64 (vint s.data.toList most).2.2]) ∧ w = w' := by
  have H := Lib.hid (show vint s.data.toList most = _ from rfl)
  unfold vint at H
  obtain ⟨x, hx⟩ : ∃ x, x = vint s.data.toList most := ⟨_, rfl⟩
  obtain ⟨g, hg⟩ : ∃ g, g = vget s.data.toList := ⟨_, rfl⟩
  have hX : x = if g.2.2 ≠ 0 then (0, 0, g.2.2) else if most < 0 ∨ most < (g.1 : Int) then (0, 0, 2) else g := by rw [hx, hg]; rfl
  have hsay := vget_says s.data.toList
  rw [← hg] at hsay
  have HG := Lib.hid hg
  rw [← hx]
  clear hx hg H
  obtain ⟨n, k, e⟩ := g
  simp only at hX hsay
  by_cases he : e = 0
  · subst he
    have hn : n < 18446744073709551616 := by
      rcases hsay with h | h | h | h
      · exact h.2.1
      all_goals (injection h with h _; omega)
    clear hsay
    rw [if_neg (by simp)] at hX
    by_cases h1 : most < 0
    · rw [if_pos (.inl h1)] at hX
      subst hX
      go_enter Tryz.func35, Tryz.ntmps35
      go_wp2_with fail
      refine (runvary_any s w hs).mono ?_
      rintro e w' ⟨rfl, rfl⟩
      rw [← HG.out]
      go_wp2
      go_ret3
      exact ⟨rfl, rfl⟩
    · have hw : IntKind.u64.wrap most = most := by rw [IntKind.wrap_u64]; omega
      by_cases h2 : most < (n : Int)
      · rw [if_pos (.inr h2)] at hX
        subst hX
        go_enter Tryz.func35, Tryz.ntmps35
        go_wp2_with fail
        refine (runvary_any s w hs).mono ?_
        rintro e w' ⟨rfl, rfl⟩
        rw [← HG.out]
        go_wp2
        go_ret3
        exact ⟨rfl, rfl⟩
      · rw [if_neg (by omega)] at hX
        subst hX
        have hi : IntKind.i64.wrap (n : Int) = (n : Int) := i64_small (by omega)
        go_enter Tryz.func35, Tryz.ntmps35
        go_wp2_with fail
        refine (runvary_any s w hs).mono ?_
        rintro e w' ⟨rfl, rfl⟩
        rw [← HG.out]
        go_wp2
        go_ret3
        exact ⟨rfl, rfl⟩
  · rw [if_pos he] at hX
    subst hX
    have hne : (e != 0) = true := by rw [bne_iff_ne]; exact he
    go_enter Tryz.func35, Tryz.ntmps35
    go_wp2_with fail
    refine (runvary_any s w hs).mono ?_
    rintro e w' ⟨rfl, rfl⟩
    rw [← HG.out]
    go_wp2
    go_ret3
    exact ⟨rfl, rfl⟩
end Go.Proofs.YtnaclpfcldoebaaGreatDoor
end

section
namespace Go.Proofs.YtnaclpfcldoebaaGreatDoor
set_option linter.unusedSimpArgs false
open Go.RowKit As
/-- What throw throws. -/
abbrev thrownV (e p : Int) : Value := .iface 92 (.agg #[.int .i64 e, .int .i64 p])
abbrev Thrown (e p : Int) : List PanicEntry := [{ v := thrownV e p, recovered := false }]
set_option maxRecDepth 100000 in
theorem throw_any (e p : Int) (w : World) : Calls Tryz.prog 14 #[.int .i64 e, .int .i64 p] w fun r w' => r = .panicked (Thrown e p) ∧ w = w' := by
  go_enter Tryz.func14, Tryz.ntmps14
  go_wp2
  exact ⟨rfl, rfl, rfl⟩
theorem isThrown (v : Value) (w : World) : (Instr.typeAssert (.iface 92 v) 20 92 true).run Tryz.prog w = .ok (.tuple #[v, .bool true]) w := by kernel_rfl
set_option maxHeartbeats 1000000 in
set_option maxRecDepth 100000 in
theorem caught_hit (F : Nat) (x y e p : Int) (older : List PanicEntry) (w : World) (h0 : w.cell? ⟨F, 0, none⟩ = some (.int .i64 x)) (h1 : w.cell? ⟨F, 1, none⟩ = some (.int .i64 y)) (f0 : w.frozen? ⟨F, 0, none⟩ = false) (f1 : w.frozen? ⟨F, 1, none⟩ = false) :
    CallsD Tryz.prog 12 #[.pointer (some ⟨F, 0, none⟩)] (.panicking ({ v := thrownV e p, recovered := false } :: older)) w fun r u' w' =>
      r = .returned (.tuple #[]) ∧ u' = .panicking ({ v := thrownV e p, recovered := true } :: older) ∧ w' = ((w.alloc (.cells #[.int .i64 e, .int .i64 p] 92)).setCell ⟨F, 0, none⟩ (.int .i64 e)).setCell ⟨F, 1, none⟩ (.int .i64 p) := by
  have hta := isThrown (.agg #[.int .i64 e, .int .i64 p])
  refine callsD_of_wpS Tryz.func12 rfl fun c₀ cs hu => ?_
  apply wpS_seq
  apply wpS_region
  simp [wpOpsS, go_sem, recoverD, hu, Tryz.ntmps12, Exit.thenS]
  apply wpS_seq
  apply wpS_region
  simp [wpOpsS, go_sem, Exit.thenS]
  refine wpS_cond (t := true) (by simp [Act.eval, Array.replicate]) ?_
  simp only [if_true]
  apply wpS_seq
  apply wpS_region
  simp [wpOpsS, go_sem, Exit.thenS, hta]
  apply wpS_seq
  apply wpS_seq
  apply wpS_region
  simp [wpOpsS, go_sem, Exit.thenS]
  refine wpS_cond (t := false) (by simp [Act.eval, Array.replicate]) ?_
  simp only [Bool.false_eq_true, if_false]
  refine wpS_of_wp (wp_skip ?_)
  simp only [Exit.thenS]
  apply wpS_region
  have hb := below1 w (.cells #[.int .i64 e, .int .i64 p] 92)
  have k0 := (hb.cell (cell_lt h0)).trans h0
  have k1 := (hb.cell (cell_lt h1)).trans h1
  have g0 := (hb.frozen (p := ⟨F, 0, none⟩) (cell_lt h0)).trans f0
  have g1 := (hb.frozen (p := ⟨F, 1, none⟩) (cell_lt h1)).trans f1
  simp [wpOpsS, go_sem, k0, k1, g0, g1, bodyPostS, results, Tryz.results12]
set_option maxHeartbeats 1000000 in
set_option maxRecDepth 100000 in
theorem caught_idle (F : Nat) (w : World) :
    CallsD Tryz.prog 12 #[.pointer (some ⟨F, 0, none⟩)] .returning w fun r u' w' => r = .returned (.tuple #[]) ∧ u' = .returning ∧ w' = w := by
  refine callsD_of_wpS Tryz.func12 rfl fun c₀ cs hu => ?_
  apply wpS_seq
  apply wpS_region
  simp [wpOpsS, go_sem, recoverD, hu, Tryz.ntmps12, Exit.thenS]
  apply wpS_seq
  apply wpS_region
  simp [wpOpsS, go_sem, Exit.thenS]
  refine wpS_cond (t := false) (by simp [Act.eval, Array.replicate]) ?_
  simp only [Bool.false_eq_true, if_false]
  refine wpS_of_wp (wp_skip ?_)
  cases c₀
  simp_all [bodyPostS, results, Tryz.results12]
/-- A scanner's two cells. -/
structure Sc (w : World) (B : Nat) (s : ByteArray) (p : Nat) : Prop where
  c0 : w.cell? ⟨B, 0, none⟩ = some (.string s)
  c1 : w.cell? ⟨B, 1, none⟩ = some (.int .i64 (p : Int))
  f1 : w.frozen? ⟨B, 1, none⟩ = false
theorem Sc.drewN {w : World} {B p : Nat} {s : ByteArray} (h : Sc w B s p) (q : Nat) : Sc (w.drewN q) B s p := ⟨h.c0, h.c1, h.f1⟩
theorem Sc.below {w w' : World} {B p : Nat} {s : ByteArray} (h : Sc w B s p) (hb : Below w.heap.size w w') : Sc w' B s p :=
  ⟨(hb.cell (cell_lt h.c0)).trans h.c0, (hb.cell (cell_lt h.c1)).trans h.c1, (hb.frozen (cell_lt h.c1)).trans h.f1⟩
theorem Sc.step {w : World} {B p : Nat} {s : ByteArray} (h : Sc w B s p) (n : Nat) : Sc (w.setCell ⟨B, 1, none⟩ (.int .i64 (n : Int))) B s n := by
  refine ⟨?_, World.cell?_setCell_same _ _ _ h.c1, by simpa using h.f1⟩
  rw [World.cell?_setCell_other _ _ _ _ (by simp)]
  exact h.c0
theorem Sc.lt {w : World} {B p : Nat} {s : ByteArray} (h : Sc w B s p) : B < w.heap.size := cell_lt h.c0
theorem Sc.keep {w w' : World} {B N p : Nat} {s : ByteArray} (h : Sc w B s p) (hb : Below N w w') (hN : B < N) : Sc w' B s p :=
  ⟨(hb.cell (p := ⟨B, 0, none⟩) hN).trans h.c0, (hb.cell (p := ⟨B, 1, none⟩) hN).trans h.c1, (hb.frozen (p := ⟨B, 1, none⟩) hN).trans h.f1⟩
set_option maxHeartbeats 1000000 in
set_option maxRecDepth 100000 in
theorem next_any (s : ByteArray) (p B : Nat) (most : Int) (w : World) (hs : s.size ≤ 1000000) (hp : p ≤ s.size) (hm : most ≤ 9223372036854775807) (h : Sc w B s p) :
    Calls Tryz.prog 15 #[.pointer (some ⟨B, 0, none⟩), .int .i64 most] w fun r w' => ∃ (q n k : Nat) (e : Int), vat s p most = (n, k, e) ∧
      (e = 0 ∧ (n : Int) ≤ most ∧ 0 < k ∧ k ≤ 10 ∧ p + k ≤ s.size ∧ r = .returned (.int .i64 (n : Int)) ∧ w' = (w.drewN q).setCell ⟨B, 1, none⟩ (.int .i64 ((p + k : Nat) : Int)) ∨
      e ≠ 0 ∧ r = .panicked (Thrown e p) ∧ w' = w.drewN q) := by
  obtain ⟨c0, c1, f1⟩ := h
  obtain ⟨n, k, e, ha, hx⟩ := vat_of s p most
  have hl : (s.extract p s.size).size ≤ maxLen := by rw [ByteArray.size_extract]; unfold maxLen; omega
  have hv := Lib.hid (show vint (s.extract p s.size).data.toList most = (n, k, e) from ha)
  have HA := Lib.hid ha
  have i1 : (0 : Int) ≤ (p : Int) := by omega
  have i2 : (p : Int) ≤ (s.size : Int) := by omega
  clear ha
  go_enter Tryz.func15, Tryz.ntmps15
  go_wp2_with fail
  go_quiet ((go_at_call_of 35 (Value.int IntKind.i64 most); exact Calls.quiet_of_same ((rvint_any _ most _ hl hm).mono fun _ _ ⟨a, b⟩ => ⟨by rw [a, hv.out], b.symm⟩)))
  simp only
  rcases hx with ⟨rfl, x1, x2, x3, x4⟩ | ⟨he, rfl, rfl⟩
  · have w1 : IntKind.i64.wrap ((p : Int) + (k : Int)) = ((p + k : Nat) : Int) := IntWalk.i64_in _ (by omega)
    go_wp2
    go_ret
    refine ⟨nq, n, k, 0, HA.out, .inl ⟨rfl, x1, x2, x3, x4, rfl, by rw [show ((p : Int) + (k : Int)) = ((p + k : Nat) : Int) by omega]⟩⟩
  · have hne : (e != 0) = true := by rw [bne_iff_ne]; exact he
    have HE := Lib.hid he
    clear he
    go_wp2_with fail
    refine (throw_any e p _).mono ?_
    rintro r w' ⟨rfl, rfl⟩
    go_wp2
    exact ⟨rfl, nq, 0, 0, e, HA.out, .inr ⟨HE.out, rfl, rfl⟩⟩
end Go.Proofs.YtnaclpfcldoebaaGreatDoor
end

section
namespace Go.Proofs.YtnaclpfcldoebaaGreatDoor
open Go.RowKit As
set_option maxHeartbeats 1000000 in
theorem rvright_any (w : World) (n c : Nat) (A : Option Addr) (l : List Ent) (hl : Ents w w.heap.size A n l) (hn : n ≤ maxLen) :
    Calls Tryz.prog 39 #[.slice A n c] w fun e w' => e = .returned (faultV (vright l)) ∧ Below w.heap.size w w' := by
  unfold maxLen at hn
  have hlen := hl.len
  by_cases hbig : 16 < n
  · have hv := Lib.hid (vright_big (l := l) (by omega))
    have hd : decide (16 < n) = true := by simpa using hbig
    have hlen := Lib.hid hlen
    clear hl
    go_enter Tryz.func39, Tryz.ntmps39
    go_wp2_with fail
    refine (bareF_any _ _).mono ?_
    rintro e w' ⟨rfl, hb⟩
    have hz := hb.size
    obtain ⟨c0, c1, f0, f1⟩ := (Two.new w 0 0 28).below hb
    have S := set2 (.int .i64 4) (.int .i64 (-1)) c0 c1
    simp at hz
    go_wp2
    exact bodyPost_ret (v := .agg #[.int .i64 4, .int .i64 (-1)]) (by simp [results, Tryz.results39, go_sem, S.1, S.2]) rfl ⟨by rw [hv.out]; rfl, below_set2 _ _ ((below1 _ _).trans (hb.mono (by simp))) (Nat.le_refl _)⟩
  · have hv := Lib.hid (vright_small (l := l) (by omega))
    have hd : decide (16 < n) = false := by simpa using hbig
    have hlen := Lib.hid hlen
    go_enter Tryz.func39, Tryz.ntmps39
    go_wp2
    go_loopw [3, 4, 5, 12] (fun last _ _ i wr => ∃ k : Nat, k ≤ n ∧ i = .int .i64 k ∧ last = .int .i64 (lastAt l k) ∧ VAt l k ∧ Two wr w.heap.size 0 0 ∧ Below w.heap.size w wr) (fun _ _ _ i _ => n - (intOf i).toNat)
    case atStart => exact ⟨0, by omega, rfl, rfl, VAt.zero l, Two.new _ _ _ _, below1 _ _⟩
    case round =>
      obtain ⟨k, hk, rfl, rfl, hat, hT, hbel⟩ := hrel
      have Hat := Lib.hid hat
      clear hat
      obtain ⟨c0, c1, f0, f1⟩ := hT
      have hs : w.heap.size < wr.heap.size := cell_lt c0
      by_cases hlt : k < n
      · obtain ⟨b, o, r, t, rfl, hb, hx, hf, hc0, hc1⟩ := hl.at_ hlt
        have e0 := (hbel.cell (p := ⟨b, o + k * 2, none⟩) (by simp; omega)).trans hc0
        have e1 := (hbel.cell (p := ⟨b, o + k * 2 + 1, none⟩) (by simp; omega)).trans hc1
        clear hc0 hc1
        have hX := Lib.hid hx
        clear hx
        have hrt := Lib.hid hf
        clear hf
        obtain ⟨last, hla⟩ : ∃ last, last = lastAt l k := ⟨_, rfl⟩
        rw [← hla]
        have hla := Lib.hid hla
        by_cases hbad : entBad (r, t)
        · have hres := Lib.hid (Hat.out.bad hX.out hbad)
          have hparts := bad_inB hbad
          clear hbad
          have S := set2_alloc (.int .i64 2) (.int .i64 (k : Int)) (.cells #[.int .i64 r, .int .i64 t] 62) hs c0 c1
          rcases hparts with B0' | ⟨B0', B1'⟩
          · have B0 := Lib.hid B0'
            clear B0'
            go_wp2_with fail
            refine (within_is B0 _).mono ?_
            rintro e w' ⟨rfl, rfl⟩
            go_wp2
            exact bodyPost_ret (v := .agg #[.int .i64 2, .int .i64 (k : Int)]) (by simp [results, Tryz.results39, go_sem, S.1, S.2]) rfl ⟨by rw [hv.out, hres.out]; rfl, (below_set2 _ _ hbel (Nat.le_refl _)).alloc (by simp; omega) _⟩
          · have B0 := Lib.hid B0'
            have B1 := Lib.hid B1'
            clear B0' B1'
            go_wp2_with fail
            refine (within_is B0 _).mono ?_
            rintro e w' ⟨rfl, rfl⟩
            go_wp2_with fail
            refine (within_is B1 _).mono ?_
            rintro e w' ⟨rfl, rfl⟩
            go_wp2
            exact bodyPost_ret (v := .agg #[.int .i64 2, .int .i64 (k : Int)]) (by simp [results, Tryz.results39, go_sem, S.1, S.2]) rfl ⟨by rw [hv.out, hres.out]; rfl, (below_set2 _ _ hbel (Nat.le_refl _)).alloc (by simp; omega) _⟩
        · have hok : 0 ≤ r ∧ r ≤ 200 ∧ 1 ≤ t ∧ t ≤ 1099511627776 := by unfold entBad at hbad; simp only at hbad; omega
          obtain ⟨g0, g1, g2, g3⟩ := hok
          have B0 := Lib.hid (show inB r 0 200 = true by unfold inB; simp [g0, g1])
          have B1 := Lib.hid (show inB t 1 1099511627776 = true by unfold inB; simp [g2, g3])
          clear g0 g1 g2 g3
          have Hbad := Lib.hid hbad
          clear hbad
          by_cases ho : r ≤ last
          · have hres := Lib.hid (Hat.out.order hX.out Hbad.out (by rw [← hla.out]; exact ho))
            have S := set2_alloc (.int .i64 10) (.int .i64 (k : Int)) (.cells #[.int .i64 r, .int .i64 t] 62) hs c0 c1
            go_wp2_with fail
            refine (within_is B0 _).mono ?_
            rintro e w' ⟨rfl, rfl⟩
            go_wp2_with fail
            refine (within_is B1 _).mono ?_
            rintro e w' ⟨rfl, rfl⟩
            go_wp2
            exact bodyPost_ret (v := .agg #[.int .i64 10, .int .i64 (k : Int)]) (by simp [results, Tryz.results39, go_sem, S.1, S.2]) rfl ⟨by rw [hv.out, hres.out]; rfl, (below_set2 _ _ hbel (Nat.le_refl _)).alloc (by simp; omega) _⟩
          · have hnext := Lib.hid (Hat.out.succ hX.out Hbad.out (by rw [← hla.out]; exact ho))
            have hl2 := Lib.hid (lastAt_succ l k r t hX.out)
            go_wp2_with fail
            refine (within_is B0 _).mono ?_
            rintro e w' ⟨rfl, rfl⟩
            go_wp2_with fail
            refine (within_is B1 _).mono ?_
            rintro e w' ⟨rfl, rfl⟩
            go_wp2
            go_roundw
            case rel => exact ⟨k + 1, by omega, by go_num, by rw [hl2.out], hnext.out, (Two.mk c0 c1 f0 f1).below (below1 _ _), hbel.alloc (by omega) _⟩
            case measure => simp [intOf]; omega
      · obtain rfl : k = n := by omega
        have hend := Lib.hid (Hat.out.all (by rw [hlen.out]; exact Nat.le_refl _))
        clear hlt
        go_wp2_with fail
        refine (good_any _).mono ?_
        rintro e w' ⟨rfl, hb⟩
        have hz := hb.size
        have f0 := (hb.frozen (p := ⟨w.heap.size, 0, none⟩) hs).trans f0
        have f1 := (hb.frozen (p := ⟨w.heap.size, 1, none⟩) hs).trans f1
        have c0 := (hb.cell (p := ⟨w.heap.size, 0, none⟩) hs).trans c0
        have c1 := (hb.cell (p := ⟨w.heap.size, 1, none⟩) hs).trans c1
        have S := set2 (.int .i64 0) (.int .i64 (-1)) c0 c1
        go_wp2
        exact bodyPost_ret (v := .agg #[.int .i64 0, .int .i64 (-1)]) (by simp [results, Tryz.results39, go_sem, S.1, S.2]) rfl ⟨by rw [hv.out, hend.out]; rfl, below_set2 _ _ (hbel.trans (hb.mono (by omega))) (Nat.le_refl _)⟩
end Go.Proofs.YtnaclpfcldoebaaGreatDoor
end

section
namespace Go.Proofs.YtnaclpfcldoebaaGreatDoor
open Go.RowKit
theorem rof_any (w : World) (n c : Nat) (A : Option Addr) (l : List Ent) (x : Int) (hl : Ents w w.heap.size A n l) (hn : n ≤ maxLen) :
    Calls Tryz.prog 56 #[.slice A n c, .int .i64 x] w fun e w' => e = .returned (.int .i64 (vof l x)) ∧ w = w' := by
  unfold maxLen at hn
  have hlen := Lib.hid hl.len
  go_enter Tryz.func56, Tryz.ntmps56
  go_wp2
  go_loop [5, 8] (fun _ i => ∃ k : Nat, k ≤ n ∧ i = .int .i64 k ∧ ∀ (j : Nat) (y : Ent), j < k → l[j]? = some y → y.1 ≠ x) (fun _ i => n - (intOf i).toNat)
  case atStart => exact ⟨0, by omega, rfl, fun j y hj => by omega⟩
  case round =>
    obtain ⟨k, hk, rfl, hall⟩ := hrel
    have Hall := Lib.hid hall
    clear hall
    by_cases hlt : k < n
    · obtain ⟨b, o, r, t, rfl, hb, hx, hf, c0, c1⟩ := hl.at_ hlt
      by_cases hr : r = x
      · subst hr
        have hv := Lib.hid (vof_hit l r k t Hall.out hx)
        go_wp2_with fail
        go_ret
        exact ⟨retI hv.out.symm, rfl⟩
      · have hr' : (r == x) = false := by simp [hr]
        have hx' := Lib.hid hx
        clear hx
        go_wp2_with fail
        go_round
        case rel => exact ⟨k + 1, by omega, by go_num, fun j y hj hy => ent_succ Hall.out hx'.out hr j y hj hy⟩
        case measure => simp [intOf]; omega
    · obtain rfl : k = n := by omega
      go_wp2_with fail
      go_ret
      exact ⟨retI (vof_miss l x fun j y hy => Hall.out j y (ent_lt hlen.out hy) hy).symm, rfl⟩
end Go.Proofs.YtnaclpfcldoebaaGreatDoor
end

section
namespace Go.Proofs.YtnaclpfcldoebaaGreatDoor
open Go.RowKit As
theorem is_any (f : Int × Int) (w : World) : Calls Tryz.prog 11 #[.agg #[.int .i64 f.1, .int .i64 f.2]] w fun r w' => r = .returned (.bool (f.1 == 0)) ∧ Below w.heap.size w w' := by
  go_enter Tryz.func11, Tryz.ntmps11
  go_wp2
  go_ret
  exact ⟨rfl, below1 _ _⟩
end Go.Proofs.YtnaclpfcldoebaaGreatDoor
end

section
namespace Go.Proofs.YtnaclpfcldoebaaGreatDoor
open Go Go.RowKit
theorem step_append_own {P : Program} {ops : Array Oper} {o : Oper} {a : Act} {w : World} {K : Act → World → Prop} {Q : Exit → Act → World → Prop} {E : Prop}
    (hg : o.guard = none) (s x : Operand) (t : TypeId) (ho : o.op = Op.call { callee := Callee.builtin Builtin.append, args := #[s, x], argTypes := #[t, t] })
    (base : Nat) (e : TypeId) (i : TypeInfo) (z : Value) (size bytes : Nat) (ht : P.underlying t = some (.slice e)) (hi : P.info? e = some i) (hz : i.zero = some z)
    (hsize : i.size = size) (hby : i.bytes = bytes) (hzs : z.cells.size = size) (hsz : 0 < size)
    (v : Value) (n : Nat) (xs : List Value) (hs : a.eval s = v) (hown : w.ownsRow base e size v n xs)
    (ad : Addr) (m c : Nat) (news : List Value) (hx : a.eval x = .slice (some ad) m c) (hl : news.length = m * size) (hnews : ∀ j u, news[j]? = some u → w.cell? (ad.add j) = some u) (h1 : ∀ u ∈ news, u.oneCell' = true)
    (h63 : n + m ≤ maxLen) (hbytes : (n + m) * bytes ≤ 140737488355328) (hbase : base ≤ w.heap.size)
    (h : ∀ v' w', w'.ownsRow base e size v' (n + m) (xs ++ news) → w.grownBy w' v.ownBlock → K (a.put o.dst v') w') :
    if Region.wanted o (yielded ops a.tmps) = true then Oper.wp P o a w K Q else E := by
  rw [if_pos (by simp [Region.wanted, hg])]
  exact wp_append_own w s x t ho base e i z size bytes ht hi hz hsize hby hzs hsz v n xs hs hown ad m c news hx hl hnews h1 h63 hbytes hbase fun v' w' h2 h3 _ => h v' w' h2 h3
theorem own_set {w : World} {base : Nat} {e : TypeId} {size n : Nat} {v : Value} {xs : List Value} {s j : Nat} (x : Value) (h : w.ownsRow base e size v n xs) (hs : s < base) : (w.setCell ⟨s, j, none⟩ x).ownsRow base e size v n xs := by
  refine h.kept (row := some s) ⟨rfl, rfl, rfl, by simp, fun k _ hk => heap_setCell_other w ⟨s, j, none⟩ k x (fun e => hk (by simp [e]))⟩ ?_
  cases hv : v.ownBlock with
  | none => exact .inl rfl
  | some k =>
    have := (h.lt k hv).1
    exact .inr (by simp; omega)
theorem own_less {w : World} {base base' : Nat} {e : TypeId} {size n : Nat} {v : Value} {xs : List Value} (h : w.ownsRow base e size v n xs) (hb : base' ≤ base) : w.ownsRow base' e size v n xs := by
  refine ⟨h.1, ?_⟩
  rcases h.2 with hn | ⟨g, cap, cur, hv, hbg, r⟩
  · exact .inl hn
  · exact .inr ⟨g, cap, cur, hv, Nat.le_trans hb hbg, r⟩
end Go.Proofs.YtnaclpfcldoebaaGreatDoor
end

section
namespace Go.Proofs.YtnaclpfcldoebaaGreatDoor
open Go.RowKit As
theorem entInfo : (Tryz.prog.info? 62).map (fun i => (i.zero, i.size, i.bytes)) = some (some (.agg #[.int .i64 0, .int .i64 0]), 2, 16) := by kernel_rfl
abbrev entV (l : List Ent) : List Value := l.flatMap entCells
theorem entV_snoc {w : World} {base : Nat} {E : TypeId} {v : Value} {l : List Ent} {x : Ent} {n : Nat} (hn : l.length = n) (h : w.ownsRow base E 2 v (n + 1) (entV l ++ entCells x)) : w.ownsRow base E 2 v (l ++ [x]).length (entV (l ++ [x])) := by
  subst hn
  simpa [entV, List.flatMap_append] using h
theorem cells_ent (w : World) (a b : Value) (t : TypeId) : ∀ j u, ([a, b] : List Value)[j]? = some u → (w.alloc (.cells #[a, b] t)).cell? ((⟨w.heap.size, 0, none⟩ : Addr).add j) = some u := by
  intro j u hu
  have hadd : (⟨w.heap.size, 0, none⟩ : Addr).add j = ⟨w.heap.size, j, none⟩ := by unfold Addr.add; split <;> simp_all
  rw [hadd, World.cell?_alloc_new]
  simpa using hu
theorem own_is {w : World} {base : Nat} {e : TypeId} {size n m : Nat} {v : Value} {xs ys : List Value} (h : w.ownsRow base e size v n xs) (hn : n = m) (hx : xs = ys) : w.ownsRow base e size v m ys := by subst hn hx; exact h
/-- How far both know a replica. -/
def gmax (a b : List Ent) (r : Int) : Int := max (vof a r) (vof b r)
theorem join_bad {a b : List Ent} (h : (vright a).1 ≠ 0) : vjoin a b = ([], (vright a).1) := by unfold vjoin; rw [if_pos h]
theorem join_bad' {a b : List Ent} (h : (vright a).1 = 0) (h' : (vright b).1 ≠ 0) : vjoin a b = ([], (vright b).1) := by unfold vjoin; rw [if_neg (by omega), if_pos h']
theorem join_big {a b : List Ent} (h : (vright a).1 = 0) (h' : (vright b).1 = 0) (hl : 16 < (vmerge a b).length) : vjoin a b = ([], 4) := by unfold vjoin; rw [if_neg (by omega), if_neg (by omega), if_pos hl]
theorem join_good {a b : List Ent} (h : (vright a).1 = 0) (h' : (vright b).1 = 0) (hl : ¬ 16 < (vmerge a b).length) : vjoin a b = (vmerge a b, 0) := by unfold vjoin; rw [if_neg (by omega), if_neg (by omega), if_neg hl]
theorem canon_yes {g : Int → Int} {k : Nat} {m : Int} (hm : g (k : Int) = m) (h : 0 < m) : canon g 0 (k + 1) = canon g 0 k ++ [((k : Int), m)] := by subst hm; rw [canon_snoc, if_pos h]
theorem canon_no {g : Int → Int} {k : Nat} {m : Int} (hm : g (k : Int) = m) (h : ¬ 0 < m) : canon g 0 (k + 1) = canon g 0 k := by subst hm; rw [canon_snoc, if_neg h, List.append_nil]
end Go.Proofs.YtnaclpfcldoebaaGreatDoor
end
