/- vary.Get and Unvary of the reference say what vget says. -/
import Derived.Test.YtnaclpfcldoebaaDoorVaryLaw
import Derived.Test.YtnaclpfcldoebaaDoorErr
import Derived.WalkKit
import Derived.WalkLawsBesides
import Derived.WalkSpells
import Derived.Outline
import Derived.Lib.Hide
import Derived.Laws.BitsAllLaws
namespace Go.Proofs.YtnaclpfcldoebaaDoor
open Go.RowKit As
theorem sbyte (s : ByteArray) (k : Nat) (h : k < s.size) : s.data.toList[k]'(by simpa using h) = s[k] := rfl
theorem u64_byte (b : UInt8) : IntKind.u64.wrap (b.toNat : Int) = (b.toNat : Int) := by
  have := b.toNat_lt
  rw [IntKind.wrap_u64]; omega
/-- A byte's seven bits taken in. -/
theorem vor {a b k : Nat} (ha : a < 2 ^ (7 * k)) (hb : b < 256) (hf : a + b % 128 * 2 ^ (7 * k) < 18446744073709551616) :
    bits BinOp.or IntKind.u64 (a : Int) (IntKind.u64.wrap (bits BinOp.and IntKind.u64 (b : Int) 127 * 2 ^ (7 * k))) = ((a + b % 128 * 2 ^ (7 * k) : Nat) : Int) := by
  have e1 : bits BinOp.and IntKind.u64 (b : Int) 127 = ((b % 128 : Nat) : Int) := by
    have e := u64_and_nat b 127 (by omega) (by omega)
    rw [nat_mask7] at e
    exact e
  have hp : b % 128 * 2 ^ (7 * k) < 18446744073709551616 := by omega
  have e2 : ((b % 128 : Nat) : Int) * 2 ^ (7 * k) = ((b % 128 * 2 ^ (7 * k) : Nat) : Int) := by simp
  rw [e1, e2, IntKind.wrap_u64, Int.emod_eq_of_lt (by omega) (by omega), u64_or_nat a _ (by omega) hp, Nat.or_comm, nat_join (7 * k) _ _ (Nat.mul_mod_left _ _) ha, Nat.add_comm]
theorem vor_at (s : ByteArray) (k : Nat) (h : k < s.size) (h9 : k ≤ 9) (hb : ¬ (k = 9 ∧ 1 < s[k].toNat)) :
    bits BinOp.or IntKind.u64 (vval (s.data.toList.take k) : Int) (IntKind.u64.wrap (bits BinOp.and IntKind.u64 (s[k].toNat : Int) 127 * 2 ^ (7 * k))) = (vval (s.data.toList.take (k + 1)) : Int) := by
  have hl : k < s.data.toList.length := by simpa using h
  have hn := vval_next hl
  have hfit := vval_fits hl h9 (by rw [sbyte s k h]; exact hb)
  rw [sbyte s k h] at hn
  rw [hn] at hfit
  rw [hn, pow128]
  rw [pow128] at hfit
  have hlt := vval_take_lt s.data.toList k (by omega)
  rw [pow128] at hlt
  exact vor hlt s[k].toNat_lt hfit
theorem retT3 {n n' k k' : Int} {v v' : Value} {t t' : IntKind} (h1 : n = n') (h2 : k = k') (h3 : v = v') : Ending.returned (.tuple #[.int t n, .int t' k, v]) = .returned (.tuple #[.int t n', .int t' k', v']) := by rw [h1, h2, h3]
set_option maxHeartbeats 1000000 in
set_option maxRecDepth 100000 in
theorem vget_any (s : ByteArray) (w : World) (hs : s.size ≤ maxLen) :
    Calls Tryd.prog 44 #[.string s] w fun e w' => e = .returned (.tuple #[.int .u64 ((vget s.data.toList).1 : Int), .int .i64 ((vget s.data.toList).2.1 : Int), errV (vget s.data.toList).2.2]) ∧ w = w' := by
  unfold maxLen at hs
  go_enter Tryd.func44, Tryd.ntmps44
  go_wp2
  go_loop [5, 6, 7, 10] (fun n _ _ i => ∃ k : Nat, k ≤ s.size ∧ i = .int .i64 k ∧ n = .int .u64 (vval (s.data.toList.take k) : Int) ∧ VG s.data.toList k) (fun _ _ _ i => s.size - (intOf i).toNat)
  case atStart => exact ⟨0, by omega, rfl, rfl, VG.zero _⟩
  case round =>
    obtain ⟨k, hk, rfl, rfl, hvg⟩ := hrel
    have HV := Lib.hid hvg
    have h9 := hvg.2.1
    clear hvg
    by_cases hlt : k < s.size
    · have hlt' : k < s.data.toList.length := by simpa using hlt
      have hsb := Lib.hid (sbyte s k hlt)
      have hb256 := s[k].toNat_lt
      have hw := u64_byte s[k]
      by_cases c1 : k = 9 ∧ 1 < s[k].toNat
      · have hres := Lib.hid (HV.out.limit hlt' c1.1 (by rw [hsb.out]; exact c1.2))
        have d1 : ((k : Int) == 9) = true := by simp; omega
        have d2 : decide (1 < (s[k].toNat : Int)) = true := by simp; omega
        clear c1
        go_wp2
        go_ret3
        exact ⟨by rw [hres.out]; rfl, rfl⟩
      · have hvor := Lib.hid (vor_at s k hlt h9 c1)
        by_cases c2 : s[k].toNat = 0 ∧ 0 < k
        · have hres := Lib.hid (HV.out.form hlt' c2.2 (by rw [hsb.out]; exact c2.1))
          have d1 : decide (1 < (s[k].toNat : Int)) = false := by simp; omega
          have d2 : decide ((s[k].toNat : Int) < 128) = true := by simp; omega
          have d3 : ((s[k].toNat : Int) == 0) = true := by simp; omega
          have d4 : decide (0 < k) = true := by simp; omega
          clear c1 c2
          by_cases e9 : k = 9
          · have d5 : ((k : Int) == 9) = true := by simp; omega
            clear e9
            go_wp2
            go_ret3
            exact ⟨by rw [hres.out]; rfl, rfl⟩
          · have d5 : ((k : Int) == 9) = false := by simp; omega
            clear e9
            go_wp2
            go_ret3
            exact ⟨by rw [hres.out]; rfl, rfl⟩
        · by_cases c3 : s[k].toNat < 128
          · have hres := Lib.hid (HV.out.done hlt' (by rw [hsb.out]; exact c1) (by rw [hsb.out]; exact c3) (by rw [hsb.out]; exact c2))
            have d2 : decide ((s[k].toNat : Int) < 128) = true := by simp; omega
            by_cases e0 : s[k].toNat = 0
            · have d3 : ((s[k].toNat : Int) == 0) = true := by simp; omega
              have d4 : decide (0 < k) = false := by simp; omega
              have d5 : ((k : Int) == 9) = false := by simp; omega
              clear c1 c2 c3 e0
              go_wp2
              go_ret3
              exact ⟨by rw [hres.out]; exact retT3 hvor.out (by go_num) rfl, rfl⟩
            · have d3 : ((s[k].toNat : Int) == 0) = false := by simp; omega
              by_cases e9 : k = 9
              · have d5 : ((k : Int) == 9) = true := by simp; omega
                have d1 : decide (1 < (s[k].toNat : Int)) = false := by simp; omega
                clear c1 c2 c3 e0 e9
                go_wp2
                go_ret3
                exact ⟨by rw [hres.out]; exact retT3 hvor.out (by go_num) rfl, rfl⟩
              · have d5 : ((k : Int) == 9) = false := by simp; omega
                clear c1 c2 c3 e0 e9
                go_wp2
                go_ret3
                exact ⟨by rw [hres.out]; exact retT3 hvor.out (by go_num) rfl, rfl⟩
          · have hnext := Lib.hid (HV.out.succ hlt' (by rw [hsb.out]; exact c1) (by rw [hsb.out]; exact c3))
            have d2 : decide ((s[k].toNat : Int) < 128) = false := by simp; omega
            have d5 : ((k : Int) == 9) = false := by simp; omega
            clear c1 c2 c3
            go_wp2
            go_round
            case rel => exact ⟨k + 1, by omega, by go_num, valI hvor.out, hnext.out⟩
            case measure => simp [intOf]; omega
    · obtain rfl : k = s.size := by omega
      have hres := Lib.hid (HV.out.out (by simp))
      clear hlt
      go_wp2
      go_ret3
      exact ⟨by rw [hres.out]; rfl, rfl⟩
theorem modB (b : UInt8) : (b.toNat : Int) % 128 = ((b.toNat % 128 : Nat) : Int) := by omega
set_option maxHeartbeats 1000000 in
set_option maxRecDepth 100000 in
theorem runvary_any (s : ByteArray) (w : World) (hs : s.size ≤ maxLen) :
    Calls Tryd.prog 39 #[.string s] w fun e w' => e = .returned (.tuple #[.int .u64 ((vget s.data.toList).1 : Int), .int .i64 ((vget s.data.toList).2.1 : Int), .int .i64 (vget s.data.toList).2.2]) ∧ w = w' := by
  unfold maxLen at hs
  go_enter Tryd.func39, Tryd.ntmps39
  go_wp2
  go_loop [5] (fun i => ∃ k : Nat, k ≤ s.size ∧ i = .int .i64 k ∧ VG s.data.toList k) (fun i => s.size - (intOf i).toNat)
  case atStart => exact ⟨0, by omega, rfl, VG.zero _⟩
  case round =>
    obtain ⟨k, hk, rfl, hvg⟩ := hrel
    have HV := Lib.hid hvg
    have h9 := hvg.2.1
    clear hvg
    by_cases hlt : k < s.size
    · have hlt' : k < s.data.toList.length := by simpa using hlt
      have hsb := Lib.hid (sbyte s k hlt)
      have hb256 := s[k].toNat_lt
      have d0 : ((k : Int) == (s.size : Int)) = false := by simp; omega
      by_cases c1 : k = 9 ∧ 1 < s[k].toNat
      · have hres := Lib.hid (HV.out.limit hlt' c1.1 (by rw [hsb.out]; exact c1.2))
        have d1 : ((k : Int) == 9) = true := by simp; omega
        have d2 : decide (1 < (s[k].toNat : Int)) = true := by simp; omega
        clear c1
        go_wp2
        go_ret3
        exact ⟨by rw [hres.out]; rfl, rfl⟩
      · by_cases c2 : s[k].toNat = 0 ∧ 0 < k
        · have hres := Lib.hid (HV.out.form hlt' c2.2 (by rw [hsb.out]; exact c2.1))
          have d1 : decide (1 < (s[k].toNat : Int)) = false := by simp; omega
          have d3 : ((s[k].toNat : Int) == 0) = true := by simp; omega
          have d4 : decide (0 < k) = true := by simp; omega
          clear c1 c2
          by_cases e9 : k = 9
          · have d5 : ((k : Int) == 9) = true := by simp; omega
            clear e9
            go_wp2
            go_ret3
            exact ⟨by rw [hres.out]; rfl, rfl⟩
          · have d5 : ((k : Int) == 9) = false := by simp; omega
            clear e9
            go_wp2
            go_ret3
            exact ⟨by rw [hres.out]; rfl, rfl⟩
        · have hC1 := Lib.hid c1
          by_cases c3 : s[k].toNat < 128
          · have hres := Lib.hid (HV.out.done hlt' (by rw [hsb.out]; exact c1) (by rw [hsb.out]; exact c3) (by rw [hsb.out]; exact c2))
            have hfit := vval_fits hlt' h9 (by rw [hsb.out]; exact c1)
            have d2 : decide ((s[k].toNat : Int) < 128) = true := by simp; omega
            have hd : (((s[k].toNat : Int) == 0) = true ∧ decide (0 < k) = false ∧ ((k : Int) == 9) = false) ∨ (((s[k].toNat : Int) == 0) = false ∧ ((k : Int) == 9) = true ∧ decide (1 < (s[k].toNat : Int)) = false) ∨ (((s[k].toNat : Int) == 0) = false ∧ ((k : Int) == 9) = false) := by
              simp only [beq_iff_eq, beq_eq_false_iff_ne, decide_eq_false_iff_not]
              omega
            clear c1 c2 c3
            rcases hd with ⟨d3, d4, d5⟩ | ⟨d3, d5, d6⟩ | ⟨d3, d5⟩
            all_goals
              go_wp2
              go_loop [6, 7] (fun n j => ∃ m : Nat, m ≤ k + 1 ∧ j = .int .i64 ((m : Int) - 1) ∧ n = .int .u64 (vtail s.data.toList (k + 1) m : Int)) (fun _ j => (intOf j + 1).toNat)
              case atStart => exact ⟨k + 1, by omega, by go_num, by rw [vtail_end]; rfl⟩
              case round =>
                obtain ⟨m, hm, rfl, rfl⟩ := hrel
                cases m with
                | zero =>
                  have ej : (((0 : Nat) : Int) - 1) = -1 := by omega
                  rw [ej]
                  clear ej
                  go_wp2
                  go_ret3
                  exact ⟨by rw [hres.out]; exact retT3 rfl (by go_num) rfl, rfl⟩
                | succ m =>
                  have ej : (((m + 1 : Nat) : Int) - 1) = (m : Int) := by omega
                  rw [ej]
                  clear ej
                  have hms : m < s.size := by omega
                  have hn := vtail_prev (l := s.data.toList) (i := k + 1) (k := m) (by omega) (by omega)
                  rw [sbyte s m hms] at hn
                  have hle := vtail_le s.data.toList (k + 1) m
                  have hbm := s[m].toNat_lt
                  have hN := Lib.hid hn
                  have hV : vtail s.data.toList (k + 1) m < 18446744073709551616 := by omega
                  clear hn
                  go_wp2
                  go_round
                  case rel =>
                    refine ⟨m, by omega, rfl, valI ?_⟩
                    have hn := hN.out
                    simp only [IntKind.wrap_u64]
                    omega
                  case measure => simp [intOf]
          · have hnext := Lib.hid (HV.out.succ hlt' (by rw [hsb.out]; exact c1) (by rw [hsb.out]; exact c3))
            have d2 : decide ((s[k].toNat : Int) < 128) = false := by simp; omega
            have d3 : ((s[k].toNat : Int) == 0) = false := by simp; omega
            have d5 : ((k : Int) == 9) = false := by simp; omega
            clear c1 c2 c3
            go_wp2
            go_round
            case rel => exact ⟨k + 1, by omega, by go_num, hnext.out⟩
            case measure => simp [intOf]; omega
    · obtain rfl : k = s.size := by omega
      have hres := Lib.hid (HV.out.out (by simp))
      clear hlt
      go_wp2
      go_ret3
      exact ⟨by rw [hres.out]; rfl, rfl⟩
/-- int of a number that fits. -/
theorem i64_small {n : Nat} (h : n < 9223372036854775808) : IntKind.i64.wrap (n : Int) = (n : Int) := IntWalk.i64_in _ (by omega)
set_option maxHeartbeats 1000000 in
set_option maxRecDepth 100000 in
theorem vint_any (s : ByteArray) (most : Int) (w : World) (hs : s.size ≤ maxLen) (hm : most ≤ 9223372036854775807) :
    Calls Tryd.prog 34 #[.string s, .int .i64 most] w fun e w' => e = .returned (.tuple #[.int .i64 ((vint s.data.toList most).1 : Int), .int .i64 ((vint s.data.toList most).2.1 : Int), errV (vint s.data.toList most).2.2]) ∧ w = w' := by
  have H := Lib.hid (show vint s.data.toList most = _ from rfl)
  unfold vint at H
  obtain ⟨x, hx⟩ : ∃ x, x = vint s.data.toList most := ⟨_, rfl⟩
  obtain ⟨g, hg⟩ : ∃ g, g = vget s.data.toList := ⟨_, rfl⟩
  have hX : x = if g.2.2 ≠ 0 then (0, 0, g.2.2) else if most < 0 ∨ most < (g.1 : Int) then (0, 0, 2) else g := by rw [hx, hg]; rfl
  have hsay := vget_says s.data.toList
  rw [← hg] at hsay
  have HG := Lib.hid hg
  rw [← hx]
  clear hx hg H
  obtain ⟨n, k, e⟩ := g
  simp only at hX hsay
  by_cases he : e = 0
  · subst he
    have hn : n < 18446744073709551616 := by
      rcases hsay with h | h | h | h
      · exact h.2.1
      all_goals (injection h with h _; omega)
    clear hsay
    rw [if_neg (by simp)] at hX
    by_cases h1 : most < 0
    · rw [if_pos (.inl h1)] at hX
      subst hX
      go_enter Tryd.func34, Tryd.ntmps34
      go_wp2_with fail
      refine (vget_any s w hs).mono ?_
      rintro e w' ⟨rfl, rfl⟩
      rw [← HG.out]
      simp only [errV_zero]
      go_wp2
      go_ret3
      exact ⟨rfl, rfl⟩
    · have hw : IntKind.u64.wrap most = most := by rw [IntKind.wrap_u64]; omega
      by_cases h2 : most < (n : Int)
      · rw [if_pos (.inr h2)] at hX
        subst hX
        go_enter Tryd.func34, Tryd.ntmps34
        go_wp2_with fail
        refine (vget_any s w hs).mono ?_
        rintro e w' ⟨rfl, rfl⟩
        rw [← HG.out]
        simp only [errV_zero]
        go_wp2
        go_ret3
        exact ⟨rfl, rfl⟩
      · rw [if_neg (by omega)] at hX
        subst hX
        have hi : IntKind.i64.wrap (n : Int) = (n : Int) := i64_small (by omega)
        go_enter Tryd.func34, Tryd.ntmps34
        go_wp2_with fail
        refine (vget_any s w hs).mono ?_
        rintro e w' ⟨rfl, rfl⟩
        rw [← HG.out]
        simp only [errV_zero]
        go_wp2
        go_ret3
        exact ⟨rfl, rfl⟩
  · rw [if_pos he] at hX
    subst hX
    have hv := Lib.hid (errV_of he)
    go_enter Tryd.func34, Tryd.ntmps34
    go_wp2_with fail
    refine (vget_any s w hs).mono ?_
    rintro e w' ⟨rfl, rfl⟩
    rw [← HG.out]
    simp only [hv.out]
    go_wp2
    go_ret3
    exact ⟨retT3 rfl rfl hv.out.symm, rfl⟩
set_option maxHeartbeats 1000000 in
set_option maxRecDepth 100000 in
theorem rvint_any (s : ByteArray) (most : Int) (w : World) (hs : s.size ≤ maxLen) (hm : most ≤ 9223372036854775807) :
    Calls Tryd.prog 41 #[.string s, .int .i64 most] w fun e w' => e = .returned (.tuple #[.int .i64 ((vint s.data.toList most).1 : Int), .int .i64 ((vint s.data.toList most).2.1 : Int), .int .i64 (vint s.data.toList most).2.2]) ∧ w = w' := by
  have H := Lib.hid (show vint s.data.toList most = _ from rfl)
  unfold vint at H
  obtain ⟨x, hx⟩ : ∃ x, x = vint s.data.toList most := ⟨_, rfl⟩
  obtain ⟨g, hg⟩ : ∃ g, g = vget s.data.toList := ⟨_, rfl⟩
  have hX : x = if g.2.2 ≠ 0 then (0, 0, g.2.2) else if most < 0 ∨ most < (g.1 : Int) then (0, 0, 2) else g := by rw [hx, hg]; rfl
  have hsay := vget_says s.data.toList
  rw [← hg] at hsay
  have HG := Lib.hid hg
  rw [← hx]
  clear hx hg H
  obtain ⟨n, k, e⟩ := g
  simp only at hX hsay
  by_cases he : e = 0
  · subst he
    have hn : n < 18446744073709551616 := by
      rcases hsay with h | h | h | h
      · exact h.2.1
      all_goals (injection h with h _; omega)
    clear hsay
    rw [if_neg (by simp)] at hX
    by_cases h1 : most < 0
    · rw [if_pos (.inl h1)] at hX
      subst hX
      go_enter Tryd.func41, Tryd.ntmps41
      go_wp2_with fail
      refine (runvary_any s w hs).mono ?_
      rintro e w' ⟨rfl, rfl⟩
      rw [← HG.out]
      go_wp2
      go_ret3
      exact ⟨rfl, rfl⟩
    · have hw : IntKind.u64.wrap most = most := by rw [IntKind.wrap_u64]; omega
      by_cases h2 : most < (n : Int)
      · rw [if_pos (.inr h2)] at hX
        subst hX
        go_enter Tryd.func41, Tryd.ntmps41
        go_wp2_with fail
        refine (runvary_any s w hs).mono ?_
        rintro e w' ⟨rfl, rfl⟩
        rw [← HG.out]
        go_wp2
        go_ret3
        exact ⟨rfl, rfl⟩
      · rw [if_neg (by omega)] at hX
        subst hX
        have hi : IntKind.i64.wrap (n : Int) = (n : Int) := i64_small (by omega)
        go_enter Tryd.func41, Tryd.ntmps41
        go_wp2_with fail
        refine (runvary_any s w hs).mono ?_
        rintro e w' ⟨rfl, rfl⟩
        rw [← HG.out]
        go_wp2
        go_ret3
        exact ⟨rfl, rfl⟩
  · rw [if_pos he] at hX
    subst hX
    have hne : (e != 0) = true := by rw [bne_iff_ne]; exact he
    go_enter Tryd.func41, Tryd.ntmps41
    go_wp2_with fail
    refine (runvary_any s w hs).mono ?_
    rintro e w' ⟨rfl, rfl⟩
    rw [← HG.out]
    go_wp2
    go_ret3
    exact ⟨rfl, rfl⟩
end Go.Proofs.YtnaclpfcldoebaaDoor
