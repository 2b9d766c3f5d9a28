/- vary.Get and Unvary of the reference say what vget says.

span.Put, span.Get and Span, Unspan of the reference say what spanOf and unspan say.

append to a slice of the call's own, as one step of a region that draws its order. Any program.

span.All and Spans of the reference say what spansOf says.

TokensWrite of the reference says what twrite says.

Plain facts on repetitions in a text: how many bytes two places have alike; the longest, and of those as long the nearest. No program in sight.

Plain facts on a text's tokens. No program in sight.

The Go functions alike and Find of package match, and Find of the reference, compute what the plain functions of MatchLaw say.

The Go functions within and Find of the reference compute what the plain functions of MatchLaw say.

The Go function Tokens of package match computes what the plain function tokens says.

The reference's Tokens computes what the plain function tokens says.

lz.Squeeze and Squeeze of the reference: a text's tokens as bytes.

The tokens of a text that is not too long are right, in plain Lean. No program in sight.

How far a replica is known: VectorOf of the reference.

Which of two ids is earlier, whether one may be, and whether it is within two vectors: the functions of package ident and of the reference.

What is wrong with a write, its tail as bytes, and a write out of bytes, in plain Lean. No program in sight.

How far two vectors know together, and whether one covers the other one, in plain Lean. No program in sight.

What is wrong with a batch, in plain Lean. No program in sight.

VectorRight of the reference says what vright says. -/
import Derived.Test.YtkejlnjnoiidnaaGreatDoorZ1
import Derived.Test.YtkejlnjnoiidnaaGreatDoorZ2
import Derived.WalkKit
import Derived.WalkLawsBesides
import Derived.WalkSpells
import Derived.Outline
import Derived.Lib.Hide
import Derived.Laws.BitsAllLaws
import Derived.Deep.RegionLaw
import Derived.OwnWalk
import Derived.Test.YtkejlnjnoiidnaaGreatDoorShelfJoin
import Derived.Deep.RegionHeld3
import Derived.Test.YtkejlnjnoiidnaaGreatDoorProg
import Derived.Deep.QuietTactic
import Derived.BigQuiet
import Derived.Deep.Draws
import Derived.IntWalk
import Derived.Deep.DeepCutAuto
import Derived.Deep.Cut
import Derived.Deep.CutBlock
import Derived.Maps.AppendAt
import Derived.KernelRfl
import Derived.Laws.OwnMore
import Derived.StillTailTactics
import Derived.Deep.RegionWith
section
namespace Go.Proofs.YtkejlnjnoiidnaaGreatDoor
open Go.RowKit As
theorem sbyte (s : ByteArray) (k : Nat) (h : k < s.size) : s.data.toList[k]'(by simpa using h) = s[k] := rfl
theorem u64_byte (b : UInt8) : IntKind.u64.wrap (b.toNat : Int) = (b.toNat : Int) := by
 have := b.toNat_lt
 rw [IntKind.wrap_u64]; omega
/-- A byte's seven bits taken in. -/
theorem vor {a b k : Nat} (ha : a < 2 ^ (7 * k)) (hb : b < 256) (hf : a + b % 128 * 2 ^ (7 * k) < 18446744073709551616) :
  bits BinOp.or IntKind.u64 (a : Int) (IntKind.u64.wrap (bits BinOp.and IntKind.u64 (b : Int) 127 * 2 ^ (7 * k))) = ((a + b % 128 * 2 ^ (7 * k) : Nat) : Int) := by
 have e1 : bits BinOp.and IntKind.u64 (b : Int) 127 = ((b % 128 : Nat) : Int) := by
  have e := u64_and_nat b 127 (by omega) (by omega)
  rw [nat_mask7] at e
  exact e
 have hp : b % 128 * 2 ^ (7 * k) < 18446744073709551616 := by omega
 have e2 : ((b % 128 : Nat) : Int) * 2 ^ (7 * k) = ((b % 128 * 2 ^ (7 * k) : Nat) : Int) := by simp
 rw [e1, e2, IntKind.wrap_u64, Int.emod_eq_of_lt (by omega) (by omega), u64_or_nat a _ (by omega) hp, Nat.or_comm, nat_join (7 * k) _ _ (Nat.mul_mod_left _ _) ha, Nat.add_comm]
theorem vor_at (s : ByteArray) (k : Nat) (h : k < s.size) (h9 : k ≤ 9) (hb : ¬ (k = 9 ∧ 1 < s[k].toNat)) :
  bits BinOp.or IntKind.u64 (vval (s.data.toList.take k) : Int) (IntKind.u64.wrap (bits BinOp.and IntKind.u64 (s[k].toNat : Int) 127 * 2 ^ (7 * k))) = (vval (s.data.toList.take (k + 1)) : Int) := by
 have hl : k < s.data.toList.length := by simpa using h
 have hn := vval_next hl
 have hfit := vval_fits hl h9 (by rw [sbyte s k h]; exact hb)
 rw [sbyte s k h] at hn
 rw [hn] at hfit
 rw [hn, pow128]
 rw [pow128] at hfit
 have hlt := vval_take_lt s.data.toList k (by omega)
 rw [pow128] at hlt
 exact vor hlt s[k].toNat_lt hfit
theorem retT3 {n n' k k' : Int} {v v' : Value} {t t' : IntKind} (h1 : n = n') (h2 : k = k') (h3 : v = v') : Ending.returned (.tuple #[.int t n, .int t' k, v]) = .returned (.tuple #[.int t n', .int t' k', v']) := by rw [h1, h2, h3]
set_option maxHeartbeats 1000000 in
set_option maxRecDepth 100000 in
theorem vget_any (s : ByteArray) (w : World) (hs : s.size ≤ maxLen) :
  Calls Tryz.prog 113 #[.string s] w fun e w' => e = .returned (.tuple #[.int .u64 ((vget s.data.toList).1 : Int), .int .i64 ((vget s.data.toList).2.1 : Int), errV (vget s.data.toList).2.2]) ∧ w = w' := by
 unfold maxLen at hs
 go_enter Tryz.func113, Tryz.ntmps113
 go_wp2
 go_loop [5, 6, 7, 10] (fun n _ _ i => ∃ k : Nat, k ≤ s.size ∧ i = .int .i64 k ∧ n = .int .u64 (vval (s.data.toList.take k) : Int) ∧ VG s.data.toList k) (fun _ _ _ i => s.size - (intOf i).toNat)
 case atStart => exact ⟨0, by omega, rfl, rfl, VG.zero _⟩
 case round =>
  obtain ⟨k, hk, rfl, rfl, hvg⟩ := hrel
  have HV := Lib.hid hvg
  have h9 := hvg.2.1
  clear hvg
  by_cases hlt : k < s.size
  ·have hlt' : k < s.data.toList.length := by simpa using hlt
   have hsb := Lib.hid (sbyte s k hlt)
   have hb256 := s[k].toNat_lt
   have hw := u64_byte s[k]
   by_cases c1 : k = 9 ∧ 1 < s[k].toNat
   ·have hres := Lib.hid (HV.out.limit hlt' c1.1 (by rw [hsb.out]; exact c1.2))
    have d1 : ((k : Int) == 9) = true := by simp; omega
    have d2 : decide (1 < (s[k].toNat : Int)) = true := by simp; omega
    clear c1
    go_wp2
    go_ret3
    exact ⟨by rw [hres.out]; rfl, rfl⟩
   ·have hvor := Lib.hid (vor_at s k hlt h9 c1)
    by_cases c2 : s[k].toNat = 0 ∧ 0 < k
    ·have hres := Lib.hid (HV.out.form hlt' c2.2 (by rw [hsb.out]; exact c2.1))
     have d1 : decide (1 < (s[k].toNat : Int)) = false := by simp; omega
     have d2 : decide ((s[k].toNat : Int) < 128) = true := by simp; omega
     have d3 : ((s[k].toNat : Int) == 0) = true := by simp; omega
     have d4 : decide (0 < k) = true := by simp; omega
     clear c1 c2
     by_cases e9 : k = 9
     ·have d5 : ((k : Int) == 9) = true := by simp; omega
      clear e9
      go_wp2
      go_ret3
      exact ⟨by rw [hres.out]; rfl, rfl⟩
     ·have d5 : ((k : Int) == 9) = false := by simp; omega
      clear e9
      go_wp2
      go_ret3
      exact ⟨by rw [hres.out]; rfl, rfl⟩
    ·by_cases c3 : s[k].toNat < 128
     ·have hres := Lib.hid (HV.out.done hlt' (by rw [hsb.out]; exact c1) (by rw [hsb.out]; exact c3) (by rw [hsb.out]; exact c2))
      have d2 : decide ((s[k].toNat : Int) < 128) = true := by simp; omega
      by_cases e0 : s[k].toNat = 0
      ·have d3 : ((s[k].toNat : Int) == 0) = true := by simp; omega
       have d4 : decide (0 < k) = false := by simp; omega
       have d5 : ((k : Int) == 9) = false := by simp; omega
       clear c1 c2 c3 e0
       go_wp2
       go_ret3
       exact ⟨by rw [hres.out]; exact retT3 hvor.out (by go_num) rfl, rfl⟩
      ·have d3 : ((s[k].toNat : Int) == 0) = false := by simp; omega
       by_cases e9 : k = 9
       ·have d5 : ((k : Int) == 9) = true := by simp; omega
        have d1 : decide (1 < (s[k].toNat : Int)) = false := by simp; omega
        clear c1 c2 c3 e0 e9
        go_wp2
        go_ret3
        exact ⟨by rw [hres.out]; exact retT3 hvor.out (by go_num) rfl, rfl⟩
       ·have d5 : ((k : Int) == 9) = false := by simp; omega
        clear c1 c2 c3 e0 e9
        go_wp2
        go_ret3
        exact ⟨by rw [hres.out]; exact retT3 hvor.out (by go_num) rfl, rfl⟩
     ·have hnext := Lib.hid (HV.out.succ hlt' (by rw [hsb.out]; exact c1) (by rw [hsb.out]; exact c3))
      have d2 : decide ((s[k].toNat : Int) < 128) = false := by simp; omega
      have d5 : ((k : Int) == 9) = false := by simp; omega
      clear c1 c2 c3
      go_wp2
      go_round
      case rel => exact ⟨k + 1, by omega, by go_num, valI hvor.out, hnext.out⟩
      case measure => simp [intOf]; omega
  ·obtain rfl : k = s.size := by omega
   have hres := Lib.hid (HV.out.out (by simp))
   clear hlt
   go_wp2
   go_ret3
   exact ⟨by rw [hres.out]; rfl, rfl⟩
set_option maxHeartbeats 1000000 in
set_option maxRecDepth 100000 in
theorem runvary_any (s : ByteArray) (w : World) (hs : s.size ≤ maxLen) :
  Calls Tryz.prog 100 #[.string s] w fun e w' => e = .returned (.tuple #[.int .u64 ((vget s.data.toList).1 : Int), .int .i64 ((vget s.data.toList).2.1 : Int), .int .i64 (vget s.data.toList).2.2]) ∧ w = w' := by
 unfold maxLen at hs
 go_enter Tryz.func100, Tryz.ntmps100
 go_wp2
 go_loop [5] (fun i => ∃ k : Nat, k ≤ s.size ∧ i = .int .i64 k ∧ VG s.data.toList k) (fun i => s.size - (intOf i).toNat)
 case atStart => exact ⟨0, by omega, rfl, VG.zero _⟩
 case round =>
  obtain ⟨k, hk, rfl, hvg⟩ := hrel
  have HV := Lib.hid hvg
  have h9 := hvg.2.1
  clear hvg
  by_cases hlt : k < s.size
  ·have hlt' : k < s.data.toList.length := by simpa using hlt
   have hsb := Lib.hid (sbyte s k hlt)
   have hb256 := s[k].toNat_lt
   have d0 : ((k : Int) == (s.size : Int)) = false := by simp; omega
   by_cases c1 : k = 9 ∧ 1 < s[k].toNat
   ·have hres := Lib.hid (HV.out.limit hlt' c1.1 (by rw [hsb.out]; exact c1.2))
    have d1 : ((k : Int) == 9) = true := by simp; omega
    have d2 : decide (1 < (s[k].toNat : Int)) = true := by simp; omega
    clear c1
    go_wp2
    go_ret3
    exact ⟨by rw [hres.out]; rfl, rfl⟩
   ·by_cases c2 : s[k].toNat = 0 ∧ 0 < k
    ·have hres := Lib.hid (HV.out.form hlt' c2.2 (by rw [hsb.out]; exact c2.1))
     have d1 : decide (1 < (s[k].toNat : Int)) = false := by simp; omega
     have d3 : ((s[k].toNat : Int) == 0) = true := by simp; omega
     have d4 : decide (0 < k) = true := by simp; omega
     clear c1 c2
     by_cases e9 : k = 9
     ·have d5 : ((k : Int) == 9) = true := by simp; omega
      clear e9
      go_wp2
      go_ret3
      exact ⟨by rw [hres.out]; rfl, rfl⟩
     ·have d5 : ((k : Int) == 9) = false := by simp; omega
      clear e9
      go_wp2
      go_ret3
      exact ⟨by rw [hres.out]; rfl, rfl⟩
    ·have hC1 := Lib.hid c1
     by_cases c3 : s[k].toNat < 128
     ·have hres := Lib.hid (HV.out.done hlt' (by rw [hsb.out]; exact c1) (by rw [hsb.out]; exact c3) (by rw [hsb.out]; exact c2))
      have hfit := vval_fits hlt' h9 (by rw [hsb.out]; exact c1)
      have d2 : decide ((s[k].toNat : Int) < 128) = true := by simp; omega
      have hd : (((s[k].toNat : Int) == 0) = true ∧ decide (0 < k) = false ∧ ((k : Int) == 9) = false) ∨ (((s[k].toNat : Int) == 0) = false ∧ ((k : Int) == 9) = true ∧ decide (1 < (s[k].toNat : Int)) = false) ∨ (((s[k].toNat : Int) == 0) = false ∧ ((k : Int) == 9) = false) := by
       simp only [beq_iff_eq, beq_eq_false_iff_ne, decide_eq_false_iff_not]
       omega
      clear c1 c2 c3
      rcases hd with ⟨d3, d4, d5⟩ | ⟨d3, d5, d6⟩ | ⟨d3, d5⟩
      all_goals
       go_wp2
       go_loop [6, 7] (fun n j => ∃ m : Nat, m ≤ k + 1 ∧ j = .int .i64 ((m : Int) - 1) ∧ n = .int .u64 (vtail s.data.toList (k + 1) m : Int)) (fun _ j => (intOf j + 1).toNat)
       case atStart => exact ⟨k + 1, by omega, by go_num, by rw [vtail_end]; rfl⟩
       case round =>
        obtain ⟨m, hm, rfl, rfl⟩ := hrel
        cases m with
        | zero =>
         have ej : (((0 : Nat) : Int) - 1) = -1 := by omega
         rw [ej]
         clear ej
         go_wp2
         go_ret3
         exact ⟨by rw [hres.out]; exact retT3 rfl (by go_num) rfl, rfl⟩
        | succ m =>
         have ej : (((m + 1 : Nat) : Int) - 1) = (m : Int) := by omega
         rw [ej]
         clear ej
         have hms : m < s.size := by omega
         have hn := vtail_prev (l := s.data.toList) (i := k + 1) (k := m) (by omega) (by omega)
         rw [sbyte s m hms] at hn
         have hle := vtail_le s.data.toList (k + 1) m
         have hbm := s[m].toNat_lt
         have hN := Lib.hid hn
         have hV : vtail s.data.toList (k + 1) m < 18446744073709551616 := by omega
         clear hn
         go_wp2
         go_round
         case rel =>
          refine ⟨m, by omega, rfl, valI ?_⟩
          have hn := hN.out
          simp only [IntKind.wrap_u64]
          omega
         case measure => simp [intOf]
     ·have hnext := Lib.hid (HV.out.succ hlt' (by rw [hsb.out]; exact c1) (by rw [hsb.out]; exact c3))
      have d2 : decide ((s[k].toNat : Int) < 128) = false := by simp; omega
      have d3 : ((s[k].toNat : Int) == 0) = false := by simp; omega
      have d5 : ((k : Int) == 9) = false := by simp; omega
      clear c1 c2 c3
      go_wp2
      go_round
      case rel => exact ⟨k + 1, by omega, by go_num, hnext.out⟩
      case measure => simp [intOf]; omega
  ·obtain rfl : k = s.size := by omega
   have hres := Lib.hid (HV.out.out (by simp))
   clear hlt
   go_wp2
   go_ret3
   exact ⟨by rw [hres.out]; rfl, rfl⟩
/-- int of a number that fits. -/
theorem i64_small {n : Nat} (h : n < 9223372036854775808) : IntKind.i64.wrap (n : Int) = (n : Int) := IntWalk.i64_in _ (by omega)
set_option maxHeartbeats 1000000 in
set_option maxRecDepth 100000 in
theorem vint_any (s : ByteArray) (most : Int) (w : World) (hs : s.size ≤ maxLen) (hm : most ≤ 9223372036854775807) :
  Calls Tryz.prog 66 #[.string s, .int .i64 most] w fun e w' => e = .returned (.tuple #[.int .i64 ((vint s.data.toList most).1 : Int), .int .i64 ((vint s.data.toList most).2.1 : Int), errV (vint s.data.toList most).2.2]) ∧ w = w' := by
 have H := Lib.hid (show vint s.data.toList most = _ from rfl)
 unfold vint at H
 obtain ⟨x, hx⟩ : ∃ x, x = vint s.data.toList most := ⟨_, rfl⟩
 obtain ⟨g, hg⟩ : ∃ g, g = vget s.data.toList := ⟨_, rfl⟩
 have hX : x = if g.2.2 ≠ 0 then (0, 0, g.2.2) else if most < 0 ∨ most < (g.1 : Int) then (0, 0, 2) else g := by rw [hx, hg]; rfl
 have hsay := vget_says s.data.toList
 rw [← hg] at hsay
 have HG := Lib.hid hg
 rw [← hx]
 clear hx hg H
 obtain ⟨n, k, e⟩ := g
 simp only at hX hsay
 by_cases he : e = 0
 ·subst he
  have hn : n < 18446744073709551616 := by
   rcases hsay with h | h | h | h
   ·exact h.2.1
   all_goals (injection h with h _; omega)
  clear hsay
  rw [if_neg (by simp)] at hX
  by_cases h1 : most < 0
  ·rw [if_pos (.inl h1)] at hX
   subst hX
   go_enter Tryz.func66, Tryz.ntmps66
   go_wp2_with fail
   refine (vget_any s w hs).mono ?_
   rintro e w' ⟨rfl, rfl⟩
   rw [← HG.out]
   simp only [errV_zero]
   go_wp2
   go_ret3
   exact ⟨rfl, rfl⟩
  ·have hw : IntKind.u64.wrap most = most := by rw [IntKind.wrap_u64]; omega
   by_cases h2 : most < (n : Int)
   ·rw [if_pos (.inr h2)] at hX
    subst hX
    go_enter Tryz.func66, Tryz.ntmps66
    go_wp2_with fail
    refine (vget_any s w hs).mono ?_
    rintro e w' ⟨rfl, rfl⟩
    rw [← HG.out]
    simp only [errV_zero]
    go_wp2
    go_ret3
    exact ⟨rfl, rfl⟩
   ·rw [if_neg (by omega)] at hX
    subst hX
    have hi : IntKind.i64.wrap (n : Int) = (n : Int) := i64_small (by omega)
    go_enter Tryz.func66, Tryz.ntmps66
    go_wp2_with fail
    refine (vget_any s w hs).mono ?_
    rintro e w' ⟨rfl, rfl⟩
    rw [← HG.out]
    simp only [errV_zero]
    go_wp2
    go_ret3
    exact ⟨rfl, rfl⟩
 ·rw [if_pos he] at hX
  subst hX
  have hv := Lib.hid (errV_of he)
  go_enter Tryz.func66, Tryz.ntmps66
  go_wp2_with fail
  refine (vget_any s w hs).mono ?_
  rintro e w' ⟨rfl, rfl⟩
  rw [← HG.out]
  simp only [hv.out]
  go_wp2
  go_ret3
  exact ⟨retT3 rfl rfl hv.out.symm, rfl⟩
set_option maxHeartbeats 1000000 in
set_option maxRecDepth 100000 in
theorem rvint_any (s : ByteArray) (most : Int) (w : World) (hs : s.size ≤ maxLen) (hm : most ≤ 9223372036854775807) :
  Calls Tryz.prog 64 #[.string s, .int .i64 most] w fun e w' => e = .returned (.tuple #[.int .i64 ((vint s.data.toList most).1 : Int), .int .i64 ((vint s.data.toList most).2.1 : Int), .int .i64 (vint s.data.toList most).2.2]) ∧ w = w' := by
 have H := Lib.hid (show vint s.data.toList most = _ from rfl)
 unfold vint at H
 obtain ⟨x, hx⟩ : ∃ x, x = vint s.data.toList most := ⟨_, rfl⟩
 obtain ⟨g, hg⟩ : ∃ g, g = vget s.data.toList := ⟨_, rfl⟩
 have hX : x = if g.2.2 ≠ 0 then (0, 0, g.2.2) else if most < 0 ∨ most < (g.1 : Int) then (0, 0, 2) else g := by rw [hx, hg]; rfl
 have hsay := vget_says s.data.toList
 rw [← hg] at hsay
 have HG := Lib.hid hg
 rw [← hx]
 clear hx hg H
 obtain ⟨n, k, e⟩ := g
 simp only at hX hsay
 by_cases he : e = 0
 ·subst he
  have hn : n < 18446744073709551616 := by
   rcases hsay with h | h | h | h
   ·exact h.2.1
   all_goals (injection h with h _; omega)
  clear hsay
  rw [if_neg (by simp)] at hX
  by_cases h1 : most < 0
  ·rw [if_pos (.inl h1)] at hX
   subst hX
   go_enter Tryz.func64, Tryz.ntmps64
   go_wp2_with fail
   refine (runvary_any s w hs).mono ?_
   rintro e w' ⟨rfl, rfl⟩
   rw [← HG.out]
   go_wp2
   go_ret3
   exact ⟨rfl, rfl⟩
  ·have hw : IntKind.u64.wrap most = most := by rw [IntKind.wrap_u64]; omega
   by_cases h2 : most < (n : Int)
   ·rw [if_pos (.inr h2)] at hX
    subst hX
    go_enter Tryz.func64, Tryz.ntmps64
    go_wp2_with fail
    refine (runvary_any s w hs).mono ?_
    rintro e w' ⟨rfl, rfl⟩
    rw [← HG.out]
    go_wp2
    go_ret3
    exact ⟨rfl, rfl⟩
   ·rw [if_neg (by omega)] at hX
    subst hX
    have hi : IntKind.i64.wrap (n : Int) = (n : Int) := i64_small (by omega)
    go_enter Tryz.func64, Tryz.ntmps64
    go_wp2_with fail
    refine (runvary_any s w hs).mono ?_
    rintro e w' ⟨rfl, rfl⟩
    rw [← HG.out]
    go_wp2
    go_ret3
    exact ⟨rfl, rfl⟩
 ·rw [if_pos he] at hX
  subst hX
  have hne : (e != 0) = true := by rw [bne_iff_ne]; exact he
  go_enter Tryz.func64, Tryz.ntmps64
  go_wp2_with fail
  refine (runvary_any s w hs).mono ?_
  rintro e w' ⟨rfl, rfl⟩
  rw [← HG.out]
  go_wp2
  go_ret3
  exact ⟨rfl, rfl⟩
end Go.Proofs.YtkejlnjnoiidnaaGreatDoor
end

section
namespace Go.Proofs.YtkejlnjnoiidnaaGreatDoor
open Go.RowKit As
theorem retT3' {v v' u u' x x' : Value} (h1 : v = v') (h2 : u = u') (h3 : x = x') : Ending.returned (.tuple #[v, u, x]) = .returned (.tuple #[v', u', x']) := by rw [h1, h2, h3]
set_option maxRecDepth 100000 in
theorem runspan_any (s : ByteArray) (w : World) (hs : s.size ≤ maxLen) :
  Calls Tryz.prog 55 #[.string s] w fun e w' => e = .returned (.tuple #[.string (unspan s).1, .int .i64 ((unspan s).2.1 : Int), .int .i64 (unspan s).2.2]) ∧ w = w' := by
 have hS := Lib.hid hs
 unfold maxLen at hs
 have hsay := vget_says s.data.toList
 have hU : unspan s = unspan s := rfl
 obtain ⟨u, hu⟩ : ∃ u, u = unspan s := ⟨_, rfl⟩
 rw [← hu]
 unfold unspan at hu
 clear hU
 obtain ⟨g, hg⟩ : ∃ g, g = vget s.data.toList := ⟨_, rfl⟩
 rw [← hg] at hu hsay
 have HG := Lib.hid hg
 clear hg
 obtain ⟨n, k, e⟩ := g
 simp only at hu hsay
 by_cases he : e = 0
 ·subst he
  have hb : n < 18446744073709551616 ∧ 0 < k ∧ k ≤ 10 ∧ k ≤ s.size := by
   rcases hsay with h | h | h | h
   ·simpa using h
   all_goals (injection h with h1 h2; injection h2 with h2 h3; omega)
  obtain ⟨hn, hk0, hk10, hks⟩ := hb
  clear hsay
  rw [if_neg (by simp)] at hu
  by_cases h1 : 2000 < n
  ·rw [if_pos h1] at hu
   subst hu
   go_enter Tryz.func55, Tryz.ntmps55
   go_wp2_with fail
   refine (runvary_any s w hS.out).mono ?_
   rintro r w' ⟨rfl, rfl⟩
   rw [← HG.out]
   go_wp2
   go_ret3
   exact ⟨rfl, rfl⟩
  ·rw [if_neg h1] at hu
   by_cases h2 : s.size < n + k
   ·rw [if_pos h2] at hu
    subst hu
    go_enter Tryz.func55, Tryz.ntmps55
    go_wp2_with fail
    refine (runvary_any s w hS.out).mono ?_
    rintro r w' ⟨rfl, rfl⟩
    rw [← HG.out]
    go_wp2
    go_ret3
    exact ⟨rfl, rfl⟩
   ·rw [if_neg h2] at hu
    subst hu
    go_enter Tryz.func55, Tryz.ntmps55
    go_wp2_with fail
    refine (runvary_any s w hS.out).mono ?_
    rintro r w' ⟨rfl, rfl⟩
    rw [← HG.out]
    go_wp2
    go_ret3
    exact ⟨rfl, rfl⟩
 ·rw [if_pos he] at hu
  subst hu
  go_enter Tryz.func55, Tryz.ntmps55
  have hne : (e != 0) = true := by rw [bne_iff_ne]; exact he
  go_wp2_with fail
  refine (runvary_any s w hS.out).mono ?_
  rintro r w' ⟨rfl, rfl⟩
  rw [← HG.out]
  go_wp2
  go_ret3
  exact ⟨rfl, rfl⟩
set_option maxHeartbeats 1000000 in
set_option maxRecDepth 100000 in
theorem spanget_any (s : ByteArray) (w : World) (hs : s.size ≤ maxLen) (hg : Handle w) :
  Calls Tryz.prog 105 #[.string s] w fun e w' => e = .returned (.tuple #[.string (unspan s).1, .int .i64 ((unspan s).2.1 : Int), errV (unspan s).2.2]) ∧ Below w.heap.size w w' := by
 have hS := Lib.hid hs
 unfold maxLen at hs
 have hsay := vget_says s.data.toList
 obtain ⟨u, hu⟩ : ∃ u, u = unspan s := ⟨_, rfl⟩
 rw [← hu]
 unfold unspan at hu
 obtain ⟨v, hv⟩ : ∃ v, v = vint s.data.toList 2000 := ⟨_, rfl⟩
 have HV := Lib.hid hv
 unfold vint at hv
 generalize vget s.data.toList = g at *
 obtain ⟨n, k, e⟩ := g
 simp only at hu hsay hv
 by_cases he : e = 0
 ·subst he
  have hb : n < 18446744073709551616 ∧ 0 < k ∧ k ≤ 10 ∧ k ≤ s.size := by
   rcases hsay with h | h | h | h
   ·simpa using h
   all_goals (injection h with h1 h2; injection h2 with h2 h3; omega)
  obtain ⟨hn, hk0, hk10, hks⟩ := hb
  clear hsay
  rw [if_neg (by simp)] at hu hv
  by_cases h1 : 2000 < n
  ·rw [if_pos h1] at hu
   rw [if_pos (by right; omega)] at hv
   subst hu hv
   go_enter Tryz.func105, Tryz.ntmps105
   go_wp2_with fail
   refine (vint_any s 2000 w hS.out (by omega)).mono ?_
   rintro r w' ⟨rfl, rfl⟩
   rw [← HV.out]
   go_wp2_with fail
   refine (tell_any (errV_is w 2) hg).mono ?_
   rintro r w1 ⟨rfl, hb⟩
   go_wp2
   go_ret3
   exact ⟨rfl, hb⟩
  ·rw [if_neg h1] at hu
   rw [if_neg (by omega)] at hv
   subst hv
   by_cases h2 : s.size < n + k
   ·rw [if_pos h2] at hu
    subst hu
    go_enter Tryz.func105, Tryz.ntmps105
    go_wp2_with fail
    refine (vint_any s 2000 w hS.out (by omega)).mono ?_
    rintro r w' ⟨rfl, rfl⟩
    rw [← HV.out]
    simp only [errV_zero]
    go_wp2_with fail
    refine (tell_nil w).mono ?_
    rintro r w1 ⟨rfl, rfl⟩
    go_wp2
    go_ret3
    exact ⟨rfl, Below.refl _ _⟩
   ·rw [if_neg h2] at hu
    subst hu
    go_enter Tryz.func105, Tryz.ntmps105
    go_wp2_with fail
    refine (vint_any s 2000 w hS.out (by omega)).mono ?_
    rintro r w' ⟨rfl, rfl⟩
    rw [← HV.out]
    simp only [errV_zero]
    go_wp2_with fail
    refine (tell_nil w).mono ?_
    rintro r w1 ⟨rfl, rfl⟩
    go_wp2
    go_ret3
    exact ⟨rfl, Below.refl _ _⟩
 ·rw [if_pos he] at hu hv
  subst hu hv
  have he2 : e ≠ 2 := by
   rcases hsay with h | h | h | h
   ·exact absurd h.1 he
   all_goals (injection h with h1 h2; injection h2 with h2 h3; omega)
  have hne : (e == 2) = false := beq_eq_false_iff_ne.2 he2
  clear hsay
  have hE := Lib.hid (errV_of he)
  go_enter Tryz.func105, Tryz.ntmps105
  go_wp2_with fail
  refine (vint_any s 2000 w hS.out (by omega)).mono ?_
  rintro r w' ⟨rfl, rfl⟩
  rw [← HV.out]
  simp only [hE.out]
  go_wp2_with fail
  refine (tell_errno e w hg).mono ?_
  rintro r w1 ⟨rfl, hb⟩
  go_wp2
  go_ret3
  exact ⟨retT3' rfl rfl hE.out.symm, hb⟩
end Go.Proofs.YtkejlnjnoiidnaaGreatDoor
end

section
namespace Go.Proofs.YtkejlnjnoiidnaaGreatDoor
open Go Go.RowKit
theorem own_set {w : World} {base : Nat} {e : TypeId} {size n : Nat} {v : Value} {xs : List Value} {s j : Nat} (x : Value) (h : w.ownsRow base e size v n xs) (hs : s < base) : (w.setCell ⟨s, j, none⟩ x).ownsRow base e size v n xs := by
 refine h.kept (row := some s) ⟨rfl, rfl, rfl, by simp, fun k _ hk => heap_setCell_other w ⟨s, j, none⟩ k x (fun e => hk (by simp [e]))⟩ ?_
 cases hv : v.ownBlock with
 | none => exact .inl rfl
 | some k =>
  have := (h.lt k hv).1
  exact .inr (by simp; omega)
theorem own_less {w : World} {base base' : Nat} {e : TypeId} {size n : Nat} {v : Value} {xs : List Value} (h : w.ownsRow base e size v n xs) (hb : base' ≤ base) : w.ownsRow base' e size v n xs := by
 refine ⟨h.1, ?_⟩
 rcases h.2 with hn | ⟨g, cap, cur, hv, hbg, r⟩
 ·exact .inl hn
 ·exact .inr ⟨g, cap, cur, hv, Nat.le_trans hb hbg, r⟩
end Go.Proofs.YtkejlnjnoiidnaaGreatDoor
end

section
namespace Go.Proofs.YtkejlnjnoiidnaaGreatDoor
open Go.RowKit As
theorem strInfo : (Tryz.prog.info? 9).map (fun i => (i.zero, i.size, i.bytes)) = some (some (.string ⟨#[]⟩), 1, 16) := by kernel_rfl
theorem ownStr_snoc {w : World} {base : Nat} {E : TypeId} {v : Value} {l : List ByteArray} {b : ByteArray} {n : Nat} (hn : l.length = n) (h : w.ownsRow base E 1 v (n + 1) (l.map Value.string ++ [Value.string b])) : w.ownsRow base E 1 v (l ++ [b]).length ((l ++ [b]).map Value.string) := by
 subst hn; simpa using h
/-- A row of the call's own stands behind a call that leaves all that was there. -/
theorem ownsRow_below {w w' : World} {base : Nat} {e : TypeId} {size n : Nat} {v : Value} {xs : List Value} (h : w.ownsRow base e size v n xs) (hb : Below w.heap.size w w') (_ : base ≤ w.heap.size) : w'.ownsRow base e size v n xs := by
 refine h.kept (row := none) ⟨hb.os, hb.tape, hb.output, hb.size, fun i hi _ => hb.block i hi⟩ ?_
 cases v.ownBlock with
 | none => exact .inl rfl
 | some k => exact .inr (by simp)
end Go.Proofs.YtkejlnjnoiidnaaGreatDoor
end

section
namespace Go.Proofs.YtkejlnjnoiidnaaGreatDoor
open Go.RowKit As
end Go.Proofs.YtkejlnjnoiidnaaGreatDoor
end

section
namespace Go.Proofs.YtkejlnjnoiidnaaGreatDoor.Match

/-- From n on, f rounds at most: the first place that does not hold. -/
def upto (P : Nat → Bool) : Nat → Nat → Nat
 | 0, n => n
 | f + 1, n => if P n then upto P f (n + 1) else n
/-- How many bytes the places a and b have alike, 67 at most. -/
def same (l : List UInt8) (a b j : Nat) : Bool := decide (b + j < l.length) && l.getD (a + j) 0 == l.getD (b + j) 0
def alike (l : List UInt8) (a b : Nat) : Nat := upto (same l a b) 67 0
/-- What Find computes, in rounds upwards. -/
def findTo (l : List UInt8) (at_ : Nat) : Nat → Nat × Nat
 | 0 => (0, 0)
 | k + 1 => if 4 ≤ alike l (at_ - (k + 1)) at_ ∧ (findTo l at_ k).2 < alike l (at_ - (k + 1)) at_ then (k + 1, alike l (at_ - (k + 1)) at_) else findTo l at_ k
def find (l : List UInt8) (i : Nat) : Nat × Nat := if i < l.length then findTo l i (min i 1024) else (0, 0)
end Go.Proofs.YtkejlnjnoiidnaaGreatDoor.Match
end

section
namespace Go.Proofs.YtkejlnjnoiidnaaGreatDoor.Tokens
open Go.RowKit Match
structure St where
 at_ : Nat
 own : Nat
 done : List Tok
/-- What is told so far, the text of its own that still grows with it. -/
def flush (s : ByteArray) (x : St) : List Tok := if x.own < x.at_ then x.done ++ [(s.extract x.own x.at_, 0, 0)] else x.done
def step (s : ByteArray) (x : St) : St :=
 if x.at_ < s.size then
  if (find s.data.toList x.at_).2 = 0 then { x with at_ := x.at_ + 1 }
  else { at_ := x.at_ + (find s.data.toList x.at_).2, own := x.at_ + (find s.data.toList x.at_).2, done := flush s x ++ [(ByteArray.empty, ((find s.data.toList x.at_).1 : Int), ((find s.data.toList x.at_).2 : Int))] }
 else x
def st (s : ByteArray) : Nat → St
 | 0 => ⟨0, 0, []⟩
 | k + 1 => step s (st s k)
def tokens (s : ByteArray) : List Tok := flush s (st s s.size)
end Go.Proofs.YtkejlnjnoiidnaaGreatDoor.Tokens
end

section
namespace Go.Proofs.YtkejlnjnoiidnaaGreatDoor.Match
open Go.RowKit
theorem valI {k : IntKind} {a b : Int} (h : a = b) : Value.int k a = .int k b := by rw [h]

end Go.Proofs.YtkejlnjnoiidnaaGreatDoor.Match
end

section
namespace Go.Proofs.YtkejlnjnoiidnaaGreatDoor.Match
open Go.RowKit
theorem within_any (n a b : Int) (w : World) :
  Calls Tryz.prog 54 #[.int .i64 n, .int .i64 a, .int .i64 b] w fun e w' => e = .returned (.bool (decide (a ≤ n) && decide (n ≤ b))) ∧ w = w' := by
 go_enter Tryz.func54, Tryz.ntmps54
 go_wp2
 ·go_ret
  have h : a ≤ n := by omega
  exact ⟨by rw [decide_eq_true h, Bool.true_and]; rfl, rfl⟩
 ·go_ret
  have h : ¬ a ≤ n := by omega
  exact ⟨by rw [decide_eq_false h, Bool.false_and]; rfl, rfl⟩
end Go.Proofs.YtkejlnjnoiidnaaGreatDoor.Match
end

section
namespace Go.Proofs.YtkejlnjnoiidnaaGreatDoor.Tokens
open Go.RowKit Match
end Go.Proofs.YtkejlnjnoiidnaaGreatDoor.Tokens
end

section
namespace Go.Proofs.YtkejlnjnoiidnaaGreatDoor.Tokens
open Go.RowKit Match
end Go.Proofs.YtkejlnjnoiidnaaGreatDoor.Tokens
end

section
namespace Go.Proofs.YtkejlnjnoiidnaaGreatDoor
open Go.RowKit As Tokens
end Go.Proofs.YtkejlnjnoiidnaaGreatDoor
end

section
namespace Go.Proofs.YtkejlnjnoiidnaaGreatDoor
open Tokens Match
end Go.Proofs.YtkejlnjnoiidnaaGreatDoor
end

section
namespace Go.Proofs.YtkejlnjnoiidnaaGreatDoor
open Go.RowKit
theorem rof_any (w : World) (n c : Nat) (A : Option Addr) (l : List Ent) (x : Int) (hl : Ents w w.heap.size A n l) (hn : n ≤ maxLen) :
  Calls Tryz.prog 117 #[.slice A n c, .int .i64 x] w fun e w' => e = .returned (.int .i64 (vof l x)) ∧ w = w' := by
 unfold maxLen at hn
 have hlen := Lib.hid hl.len
 go_enter Tryz.func117, Tryz.ntmps117
 go_wp2
 go_loop [5, 8] (fun _ i => ∃ k : Nat, k ≤ n ∧ i = .int .i64 k ∧ ∀ (j : Nat) (y : Ent), j < k → l[j]? = some y → y.1 ≠ x) (fun _ i => n - (intOf i).toNat)
 case atStart => exact ⟨0, by omega, rfl, fun j y hj => by omega⟩
 case round =>
  obtain ⟨k, hk, rfl, hall⟩ := hrel
  have Hall := Lib.hid hall
  clear hall
  by_cases hlt : k < n
  ·obtain ⟨b, o, r, t, rfl, hb, hx, hf, c0, c1⟩ := hl.at_ hlt
   by_cases hr : r = x
   ·subst hr
    have hv := Lib.hid (vof_hit l r k t Hall.out hx)
    go_wp2_with fail
    go_ret
    exact ⟨retI hv.out.symm, rfl⟩
   ·have hr' : (r == x) = false := by simp [hr]
    have hx' := Lib.hid hx
    clear hx
    go_wp2_with fail
    go_round
    case rel => exact ⟨k + 1, by omega, by go_num, fun j y hj hy => ent_succ Hall.out hx'.out hr j y hj hy⟩
    case measure => simp [intOf]; omega
  ·obtain rfl : k = n := by omega
   go_wp2_with fail
   go_ret
   exact ⟨retI (vof_miss l x fun j y hy => Hall.out j y (ent_lt hlen.out hy) hy).symm, rfl⟩
end Go.Proofs.YtkejlnjnoiidnaaGreatDoor
end

section
namespace Go.Proofs.YtkejlnjnoiidnaaGreatDoor
open Go.RowKit

/-- An id: a time and a replica. -/
abbrev Id := Int × Int
def idRight (x : Id) : Bool := decide (1 ≤ x.1 ∧ x.1 ≤ 1099511627776 ∧ 0 ≤ x.2 ∧ x.2 ≤ 200)
def idCmp (a b : Id) : Int := if a.1 < b.1 ∨ (a.1 = b.1 ∧ a.2 < b.2) then -1 else if a = b then 0 else 1
theorem below1 (w : World) (o : Obj) : Below w.heap.size w (w.alloc o) := (Below.refl _ _).alloc (Nat.le_refl _) o
theorem below2 (w : World) (o o' : Obj) : Below w.heap.size w ((w.alloc o).alloc o') := (below1 w o).alloc (by simp) o'
theorem idright_any (t r : Int) (w : World) :
  Calls Tryz.prog 123 #[.agg #[.int .i64 t, .int .i64 r]] w fun e w' => e = .returned (.bool (idRight (t, r))) ∧ Below w.heap.size w w' := by
 go_enter Tryz.func123, Tryz.ntmps123
 go_wp2
 all_goals
  go_ret
  refine ⟨retB ?_, below1 _ _⟩
  unfold idRight
  first | (rw [decide_eq_decide]; omega) | (symm; rw [decide_eq_false_iff_not]; omega)
theorem ridright_any (t r : Int) (w : World) :
  Calls Tryz.prog 118 #[.agg #[.int .i64 t, .int .i64 r]] w fun e w' => e = .returned (.bool (idRight (t, r))) ∧ Below w.heap.size w w' := by
 go_enter Tryz.func118, Tryz.ntmps118
 go_wp2
 all_goals
  go_ret
  refine ⟨retB ?_, below1 _ _⟩
  unfold idRight
  first | (rw [decide_eq_decide]; omega) | (symm; rw [decide_eq_false_iff_not]; omega)
def cmpI (a b : Int) : Int := if a < b then -1 else if b < a then 1 else 0
theorem cmp_any (a b : Int) (w : World) :
  Calls Tryz.prog 125 #[.int .i64 a, .int .i64 b] w fun e w' => e = .returned (.int .i64 (cmpI a b)) ∧ w' = w := by
 rcases Int.lt_trichotomy a b with h | h | h
 ·go_enter Tryz.func125, Tryz.ntmps125
  go_wp2
  go_ret
  exact ⟨retI (by unfold cmpI; rw [if_pos h]), rfl⟩
 ·subst h
  go_enter Tryz.func125, Tryz.ntmps125
  go_wp2
  go_ret
  exact ⟨retI (by unfold cmpI; rw [if_neg (by omega), if_neg (by omega)]), rfl⟩
 ·go_enter Tryz.func125, Tryz.ntmps125
  go_wp2
  go_ret
  exact ⟨retI (by unfold cmpI; rw [if_neg (by omega), if_pos h]), rfl⟩
def orI (a b : Int) : Int := if a = 0 then b else a
theorem orI_n (a b : Int) (h : ¬ a = 0) : orI a b = a := by unfold orI; rw [if_neg h]
def OrRel (a b : Int) (i : Value) : Prop := i = .int .i64 0 ∨ (i = .int .i64 1 ∧ a = 0) ∨ (i = .int .i64 2 ∧ a = 0 ∧ b = 0)
theorem or_any (a b : Int) (g : Nat) (w : World) (h0 : w.cell? ⟨g, 0, none⟩ = some (.int .i64 a)) (h1 : w.cell? ⟨g, 1, none⟩ = some (.int .i64 b)) :
  Calls Tryz.prog 124 #[.slice (some ⟨g, 0, none⟩) 2 2] w fun e w' => e = .returned (.int .i64 (orI a b)) ∧ w' = w := by
 go_enter Tryz.func124, Tryz.ntmps124
 go_wp2
 go_loop [5, 8] (fun _ i => OrRel a b i) (fun _ i => 2 - (intOf i).toNat)
 case atStart => exact .inl rfl
 case round =>
  rcases hrel with rfl | ⟨rfl, rfl⟩ | ⟨rfl, rfl, rfl⟩
  ·by_cases ha : a = 0
   ·subst ha
    go_wp2
    go_round
    case rel => exact .inr (.inl ⟨rfl, rfl⟩)
    case measure => simp [intOf]
   ·have hb : (a != 0) = true := by rw [bne_iff_ne]; exact ha
    have hr := Lib.hid (orI_n a b ha)
    go_wp2
    go_ret
    exact ⟨retI hr.out.symm, rfl⟩
  ·by_cases hb : b = 0
   ·subst hb
    go_wp2
    go_round
    case rel => exact .inr (.inr ⟨rfl, rfl, rfl⟩)
    case measure => simp [intOf]
   ·have hb' : (b != 0) = true := by rw [bne_iff_ne]; exact hb
    go_wp2
    go_ret
    exact ⟨rfl, rfl⟩
  ·go_wp2
   go_ret
   exact ⟨rfl, rfl⟩
theorem new_drew (w : World) (c : Array Value) (t : TypeId) (n i : Nat) (v : Value) (hn : n = w.heap.size) (hv : c[i]? = some v) : (w.alloc (.cells c t)).drew.cell? ⟨n, i, none⟩ = some v := by
 show (w.alloc (.cells c t)).cell? ⟨n, i, none⟩ = some v
 rw [World.cell?_alloc_at c t n i hn, hv]
theorem idCmp_eq (t r t' r' : Int) : orI (cmpI t t') (cmpI r r') = idCmp (t, r) (t', r') := by
 have he : ((t, r) = (t', r')) ↔ (t = t' ∧ r = r') := by simp
 unfold orI cmpI idCmp
 simp only [he]
 by_cases a : t < t' <;> by_cases b : t' < t <;> by_cases c : r < r' <;> by_cases d : r' < r <;> by_cases e : t = t' <;> by_cases f : r = r' <;> simp [a, b, c, d, e, f] <;> omega
theorem below3 (w : World) (o o' o'' : Obj) : Below w.heap.size w (((w.alloc o).alloc o').alloc o'').drew := by
 have h : w.heap.size ≤ ((w.alloc o).alloc o').heap.size := by simp; omega
 exact ((below2 w o o').alloc h o'').drew
theorem compare_any (t r t' r' : Int) (w : World) :
  Calls Tryz.prog 82 #[.agg #[.int .i64 t, .int .i64 r], .agg #[.int .i64 t', .int .i64 r']] w fun e w' => e = .returned (.int .i64 (idCmp (t, r) (t', r'))) ∧ Below w.heap.size w w' := by
 go_enter Tryz.func82, Tryz.ntmps82
 go_wp2_with fail
 go_region_held3 (fun wx => wx.cell? ⟨w.heap.size, 0, none⟩ = some (.int .i64 t) ∧ wx.cell? ⟨w.heap.size, 1, none⟩ = some (.int .i64 r) ∧ wx.cell? ⟨w.heap.size + 1, 0, none⟩ = some (.int .i64 t') ∧ wx.cell? ⟨w.heap.size + 1, 1, none⟩ = some (.int .i64 r')) (go_keep)
  (first
   | (go_at_call_of 125 (Value.int .i64 t); refine (cmp_any t t' _).mono ?_; rintro e w' ⟨rfl, rfl⟩)
   | (go_at_call_of 125 (Value.int .i64 r); refine (cmp_any r r' _).mono ?_; rintro e w' ⟨rfl, rfl⟩)
   | (go_at_call 124; refine (or_any (cmpI t t') (cmpI r r') _ _ (new_drew _ _ _ _ 0 _ (by simp) rfl) (new_drew _ _ _ _ 1 _ (by simp) rfl)).mono ?_; rintro e w' ⟨rfl, rfl⟩))
 go_wp2
 go_ret
 exact ⟨retI (idCmp_eq t r t' r'), below3 _ _ _ _⟩
theorem idCmp_lt (t r t' r' : Int) (h : t < t' ∨ (t = t' ∧ r < r')) : idCmp (t, r) (t', r') = -1 := by unfold idCmp; rw [if_pos h]
theorem idCmp_same (t r : Int) : idCmp (t, r) (t, r) = 0 := by unfold idCmp; rw [if_neg (by simp), if_pos rfl]
theorem idCmp_gt (t r t' r' : Int) (h : ¬ (t < t' ∨ (t = t' ∧ r < r'))) (hn : ¬ (t = t' ∧ r = r')) : idCmp (t, r) (t', r') = 1 := by
 unfold idCmp; rw [if_neg h, if_neg (by simpa using hn)]
theorem rcompare_any (t r t' r' : Int) (w : World) :
  Calls Tryz.prog 73 #[.agg #[.int .i64 t, .int .i64 r], .agg #[.int .i64 t', .int .i64 r']] w fun e w' => e = .returned (.int .i64 (idCmp (t, r) (t', r'))) ∧ Below w.heap.size w w' := by
 rcases Int.lt_trichotomy t t' with h | h | h
 ·have hr := Lib.hid (idCmp_lt t r t' r' (.inl h))
  go_enter Tryz.func73, Tryz.ntmps73
  go_wp2
  go_ret
  exact ⟨retI hr.out.symm, below2 _ _ _⟩
 ·subst h
  rcases Int.lt_trichotomy r r' with h | h | h
  ·have hr := Lib.hid (idCmp_lt t r t r' (.inr ⟨rfl, h⟩))
   go_enter Tryz.func73, Tryz.ntmps73
   go_wp2
   go_ret
   exact ⟨retI hr.out.symm, below2 _ _ _⟩
  ·subst h
   have hr := Lib.hid (idCmp_same t r)
   go_enter Tryz.func73, Tryz.ntmps73
   go_wp2
   go_ret
   exact ⟨retI hr.out.symm, below2 _ _ _⟩
  ·have hr := Lib.hid (idCmp_gt t r t r' (by omega) (by omega))
   have hne : (r == r') = false := beq_eq_false_iff_ne.2 (by omega)
   have hlt : decide (r < r') = false := decide_eq_false (by omega)
   go_enter Tryz.func73, Tryz.ntmps73
   go_wp2
   go_ret
   exact ⟨retI hr.out.symm, below2 _ _ _⟩
 ·have hr := Lib.hid (idCmp_gt t r t' r' (by omega) (by omega))
  have hne : (t == t') = false := beq_eq_false_iff_ne.2 (by omega)
  have hlt : decide (t < t') = false := decide_eq_false (by omega)
  go_enter Tryz.func73, Tryz.ntmps73
  go_wp2
  go_ret
  exact ⟨retI hr.out.symm, below2 _ _ _⟩
def idWithin (x : Id) (f h : List Ent) : Bool := decide (vof f x.2 < x.1) && decide (x.1 ≤ vof h x.2)
theorem within1 {x : Id} {f h : List Ent} (a : vof f x.2 < x.1) : idWithin x f h = decide (x.1 ≤ vof h x.2) := by unfold idWithin; rw [decide_eq_true a, Bool.true_and]
theorem within0 {x : Id} {f h : List Ent} (a : ¬ vof f x.2 < x.1) : idWithin x f h = false := by unfold idWithin; rw [decide_eq_false a, Bool.false_and]
theorem iwithin_any (t r : Int) (n n' c c' : Nat) (A A' : Option Addr) (l l' : List Ent) (w : World) (h : Ents w w.heap.size A n l) (h' : Ents w w.heap.size A' n' l') (hn : n ≤ maxLen) (hn' : n' ≤ maxLen) :
  Calls Tryz.prog 83 #[.agg #[.int .i64 t, .int .i64 r], .slice A n c, .slice A' n' c'] w fun e w' => e = .returned (.bool (idWithin (t, r) l l')) ∧ Below w.heap.size w w' := by
 by_cases g : vof l r < t
 ·have hr := Lib.hid (within1 (x := (t, r)) (h := l') g)
  have b0 : Below w.heap.size w (w.alloc (.cells #[.int .i64 t, .int .i64 r] 51)) := below1 _ _
  have c0 := Inv.cell (w := w.alloc (.cells #[.int .i64 t, .int .i64 r] 51)) (a := ⟨w.heap.size, 0, none⟩) (v := .int .i64 t) (by rw [World.cell?_alloc_new]; rfl)
  have c1 := Inv.cell (w := w.alloc (.cells #[.int .i64 t, .int .i64 r] 51)) (a := ⟨w.heap.size, 1, none⟩) (v := .int .i64 r) (by rw [World.cell?_alloc_new]; rfl)
  go_enter Tryz.func83, Tryz.ntmps83
  go_wp2_with fail
  refine wp_region_inv (by kernel_rfl) (by kernel_rfl) ?_
  repeat (go_big_quiet_step ((first
    | (go_at_call_of 122 (Value.slice A n c); exact Calls.inv_of (of_any _ n c A l r (h.inv b0 _) hn))
    | (go_at_call_of 122 (Value.slice A' n' c'); exact Calls.inv_of (of_any _ n' c' A' l' r (h'.inv b0 _) hn')))))
  refine wpQuiet_nil ?_
  intro _ hw'
  obtain ⟨x, rfl⟩ := hw'
  go_wp2
  go_ret
  exact ⟨retB hr.out.symm, b0.trans (x.below.mono b0.size)⟩
 ·have hr := Lib.hid (within0 (x := (t, r)) (h := l') g)
  have g' : decide (vof l r < t) = false := decide_eq_false g
  have b0 : Below w.heap.size w (w.alloc (.cells #[.int .i64 t, .int .i64 r] 51)) := below1 _ _
  have c0 := Inv.cell (w := w.alloc (.cells #[.int .i64 t, .int .i64 r] 51)) (a := ⟨w.heap.size, 0, none⟩) (v := .int .i64 t) (by rw [World.cell?_alloc_new]; rfl)
  have c1 := Inv.cell (w := w.alloc (.cells #[.int .i64 t, .int .i64 r] 51)) (a := ⟨w.heap.size, 1, none⟩) (v := .int .i64 r) (by rw [World.cell?_alloc_new]; rfl)
  go_enter Tryz.func83, Tryz.ntmps83
  go_wp2_with fail
  refine wp_region_inv (by kernel_rfl) (by kernel_rfl) ?_
  repeat (go_big_quiet_step ((first
    | (go_at_call_of 122 (Value.slice A n c); exact Calls.inv_of (of_any _ n c A l r (h.inv b0 _) hn))
    | (go_at_call_of 122 (Value.slice A' n' c'); exact Calls.inv_of (of_any _ n' c' A' l' r (h'.inv b0 _) hn')))))
  refine wpQuiet_nil ?_
  intro _ hw'
  obtain ⟨x, rfl⟩ := hw'
  go_wp2
  go_ret
  exact ⟨retB hr.out.symm, b0.trans (x.below.mono b0.size)⟩
theorem rwithin_any (t r : Int) (n n' c c' : Nat) (A A' : Option Addr) (l l' : List Ent) (w : World) (h : Ents w w.heap.size A n l) (h' : Ents w w.heap.size A' n' l') (hn : n ≤ maxLen) (hn' : n' ≤ maxLen) :
  Calls Tryz.prog 74 #[.agg #[.int .i64 t, .int .i64 r], .slice A n c, .slice A' n' c'] w fun e w' => e = .returned (.bool (idWithin (t, r) l l')) ∧ Below w.heap.size w w' := by
 by_cases g : vof l r < t
 ·have hr := Lib.hid (within1 (x := (t, r)) (h := l') g)
  have b0 : Below w.heap.size w (w.alloc (.cells #[.int .i64 t, .int .i64 r] 51)) := below1 _ _
  have c0 := Inv.cell (w := w.alloc (.cells #[.int .i64 t, .int .i64 r] 51)) (a := ⟨w.heap.size, 0, none⟩) (v := .int .i64 t) (by rw [World.cell?_alloc_new]; rfl)
  have c1 := Inv.cell (w := w.alloc (.cells #[.int .i64 t, .int .i64 r] 51)) (a := ⟨w.heap.size, 1, none⟩) (v := .int .i64 r) (by rw [World.cell?_alloc_new]; rfl)
  go_enter Tryz.func74, Tryz.ntmps74
  go_wp2_with fail
  refine wp_region_inv (by kernel_rfl) (by kernel_rfl) ?_
  repeat (go_big_quiet_step ((first
    | (go_at_call_of 117 (Value.slice A n c); exact Calls.inv_same (rof_any _ n c A l r (h.inv b0 _) hn))
    | (go_at_call_of 117 (Value.slice A' n' c'); exact Calls.inv_same (rof_any _ n' c' A' l' r (h'.inv b0 _) hn')))))
  refine wpQuiet_nil ?_
  intro _ hw'
  obtain ⟨x, rfl⟩ := hw'
  go_wp2
  go_ret
  exact ⟨retB hr.out.symm, b0.trans (x.below.mono b0.size)⟩
 ·have hr := Lib.hid (within0 (x := (t, r)) (h := l') g)
  have g' : decide (vof l r < t) = false := decide_eq_false g
  have b0 : Below w.heap.size w (w.alloc (.cells #[.int .i64 t, .int .i64 r] 51)) := below1 _ _
  have c0 := Inv.cell (w := w.alloc (.cells #[.int .i64 t, .int .i64 r] 51)) (a := ⟨w.heap.size, 0, none⟩) (v := .int .i64 t) (by rw [World.cell?_alloc_new]; rfl)
  have c1 := Inv.cell (w := w.alloc (.cells #[.int .i64 t, .int .i64 r] 51)) (a := ⟨w.heap.size, 1, none⟩) (v := .int .i64 r) (by rw [World.cell?_alloc_new]; rfl)
  go_enter Tryz.func74, Tryz.ntmps74
  go_wp2_with fail
  refine wp_region_inv (by kernel_rfl) (by kernel_rfl) ?_
  repeat (go_big_quiet_step ((first
    | (go_at_call_of 117 (Value.slice A n c); exact Calls.inv_same (rof_any _ n c A l r (h.inv b0 _) hn))
    | (go_at_call_of 117 (Value.slice A' n' c'); exact Calls.inv_same (rof_any _ n' c' A' l' r (h'.inv b0 _) hn')))))
  refine wpQuiet_nil ?_
  intro _ hw'
  obtain ⟨x, rfl⟩ := hw'
  go_wp2
  go_ret
  exact ⟨retB hr.out.symm, b0.trans (x.below.mono b0.size)⟩
end Go.Proofs.YtkejlnjnoiidnaaGreatDoor
end

section
namespace Go.Proofs.YtkejlnjnoiidnaaGreatDoor
/-- What is wrong with a write: time, replica, kind, key, value, number. -/
def wright (w : Wr) : Int :=
 if w.2.2.1 < 1 ∨ 4 < w.2.2.1 then 1
 else if idRight (w.1, w.2.1) = false then 2
 else if 40 < w.2.2.2.1.size ∨ 300 < w.2.2.2.2.1.size then 4
 else if (w.2.2.1 ≠ 1 ∧ w.2.2.1 ≠ 4 ∧ w.2.2.2.2.1.size ≠ 0) ∨ (w.2.2.1 ≠ 3 ∧ w.2.2.1 ≠ 4 ∧ w.2.2.2.2.2 ≠ 0) then 3
 else if w.2.2.1 = 3 ∧ (w.2.2.2.2.2 < -1125899906842624 ∨ 1125899906842624 < w.2.2.2.2.2) ∨ w.2.2.1 = 4 ∧ (w.2.2.2.2.2 < 0 ∨ 1000 < w.2.2.2.2.2) then 2 else 0
def zagN (n : Nat) : Int := if n % 2 = 1 then -((n / 2 : Nat) : Int) - 1 else ((n / 2 : Nat) : Int)
def noWr : Wr := (0, 0, 0, strOf [], strOf [], 0)
def wend (w : Wr) (k : Nat) : Wr × Nat × Int := if wright w ≠ 0 then (noWr, 0, wright w) else (w, k, 0)
/-- A write with what bytes begin with. -/
def wfill (w : Wr) (s : ByteArray) : Wr × Nat × Int :=
 if w.2.2.1 = 1 then
  if (unspan s).2.2 ≠ 0 then (noWr, 0, (unspan s).2.2) else wend (w.1, w.2.1, w.2.2.1, w.2.2.2.1, (unspan s).1, 0) (unspan s).2.1
 else if w.2.2.1 = 3 then
  if (vget s.data.toList).2.2 ≠ 0 then (noWr, 0, (vget s.data.toList).2.2) else wend (w.1, w.2.1, w.2.2.1, w.2.2.2.1, strOf [], zagN (vget s.data.toList).1) (vget s.data.toList).2.1
 else if w.2.2.1 = 4 then
  if (vint s.data.toList 1000).2.2 ≠ 0 then (noWr, 0, (vint s.data.toList 1000).2.2)
  else if (unspan (s.extract (vint s.data.toList 1000).2.1 s.size)).2.2 ≠ 0 then (noWr, 0, (unspan (s.extract (vint s.data.toList 1000).2.1 s.size)).2.2)
  else wend (w.1, w.2.1, w.2.2.1, w.2.2.2.1, (unspan (s.extract (vint s.data.toList 1000).2.1 s.size)).1, ((vint s.data.toList 1000).1 : Int)) ((vint s.data.toList 1000).2.1 + (unspan (s.extract (vint s.data.toList 1000).2.1 s.size)).2.1)
 else wend (w.1, w.2.1, w.2.2.1, w.2.2.2.1, strOf [], 0) 0
end Go.Proofs.YtkejlnjnoiidnaaGreatDoor
end

section
namespace Go.Proofs.YtkejlnjnoiidnaaGreatDoor
/-- Each entry fits, the replicas rise, from k on. -/
def Rises (k : Int) (l : List Ent) : Prop := (∀ x ∈ l, k ≤ x.1 ∧ x.1 ≤ 200 ∧ 1 ≤ x.2 ∧ x.2 ≤ 1099511627776) ∧ l.Pairwise (fun x y => x.1 < y.1)
theorem Rises.tail {k : Int} {x : Ent} {l : List Ent} (h : Rises k (x :: l)) : Rises (x.1 + 1) l := by
 obtain ⟨h1, h2⟩ := h
 rw [List.pairwise_cons] at h2
 refine ⟨fun y hy => ?_, h2.2⟩
 have := h1 y (List.mem_cons_of_mem _ hy)
 have := h2.1 y hy
 omega
theorem Rises.head {k : Int} {x : Ent} {l : List Ent} (h : Rises k (x :: l)) : k ≤ x.1 ∧ x.1 ≤ 200 ∧ 1 ≤ x.2 ∧ x.2 ≤ 1099511627776 := h.1 x (by simp)
theorem Rises.cons {k : Int} {x : Ent} {l : List Ent} (h : Rises (x.1 + 1) l) (h0 : k ≤ x.1) (h1 : x.1 ≤ 200) (h2 : 1 ≤ x.2) (h3 : x.2 ≤ 1099511627776) : Rises k (x :: l) := by
 obtain ⟨a, b⟩ := h
 refine ⟨fun y hy => ?_, List.pairwise_cons.2 ⟨fun y hy => ?_, b⟩⟩
 ·rcases List.mem_cons.1 hy with rfl | hy
  ·exact ⟨h0, h1, h2, h3⟩
  ·have := a y hy; omega
 ·have := a y hy; omega
theorem Rises.less {k k' : Int} {l : List Ent} (h : Rises k l) (hk : k' ≤ k) : Rises k' l := ⟨fun x hx => by have := h.1 x hx; omega, h.2⟩
def vcov (a b : List Ent) : Bool := decide (∀ x ∈ b, x.2 ≤ vof a x.1)
def vcovers (a b : List Ent) : Bool := decide ((vright a).1 = 0) && decide ((vright b).1 = 0) && vcov a b
end Go.Proofs.YtkejlnjnoiidnaaGreatDoor
end

section
namespace Go.Proofs.YtkejlnjnoiidnaaGreatDoor
abbrev wid (w : Wr) : Id := (w.1, w.2.1)
/-- What is wrong from write i on, the id ahead being last. -/
def bgo (f h : List Ent) : List Wr → Id → Nat → Int × Int
 | [], _, _ => (0, -1)
 | w :: l, last, i => if wright w ≠ 0 then (wright w, i) else if 0 < i ∧ 0 ≤ idCmp last (wid w) then (10, i) else if idWithin (wid w) f h = false then (6, i) else bgo f h l (wid w) (i + 1)
def bright (f h : List Ent) (l : List Wr) : Int × Int :=
 if (vright f).1 ≠ 0 then ((vright f).1, -1) else if (vright h).1 ≠ 0 then ((vright h).1, -1) else if vcovers h f = false then (13, -1) else if 60 < l.length then (4, -1) else bgo f h l (0, 0) 0
/-- The id ahead of write k. -/
def lastId (l : List Wr) (k : Nat) : Id := if k = 0 then (0, 0) else wid (l.getD (k - 1) noWr)
theorem lastId_succ {l : List Wr} {k : Nat} {w : Wr} (h : l[k]? = some w) : lastId l (k + 1) = wid w := by
 unfold lastId; rw [if_neg (by omega)]; simp [List.getD, h]
/-- As it stands ahead of write k. -/
def BAt (f h : List Ent) (l : List Wr) (k : Nat) : Prop := bgo f h l (0, 0) 0 = bgo f h (l.drop k) (lastId l k) k
section
variable {f h : List Ent} {l : List Wr} {k : Nat} {w : Wr}
theorem BAt.zero : BAt f h l 0 := rfl
theorem BAt.bad (b : BAt f h l k) (hx : l[k]? = some w) (h1 : wright w ≠ 0) : bgo f h l (0, 0) 0 = (wright w, (k : Int)) := by
 unfold BAt at b; rw [b, drop_at hx]; simp only [bgo]; rw [if_pos h1]
theorem BAt.order (b : BAt f h l k) (hx : l[k]? = some w) (h1 : wright w = 0) (h2 : 0 < k) (h3 : 0 ≤ idCmp (lastId l k) (wid w)) : bgo f h l (0, 0) 0 = (10, (k : Int)) := by
 unfold BAt at b; rw [b, drop_at hx]; simp only [bgo]; rw [if_neg (by omega), if_pos ⟨h2, h3⟩]
theorem BAt.state (b : BAt f h l k) (hx : l[k]? = some w) (h1 : wright w = 0) (h2 : ¬ (0 < k ∧ 0 ≤ idCmp (lastId l k) (wid w))) (h3 : idWithin (wid w) f h = false) : bgo f h l (0, 0) 0 = (6, (k : Int)) := by
 unfold BAt at b; rw [b, drop_at hx]; simp only [bgo]; rw [if_neg (by omega), if_neg h2, if_pos h3]
theorem BAt.succ (b : BAt f h l k) (hx : l[k]? = some w) (h1 : wright w = 0) (h2 : ¬ (0 < k ∧ 0 ≤ idCmp (lastId l k) (wid w))) (h3 : idWithin (wid w) f h = true) : BAt f h l (k + 1) := by
 unfold BAt at *; rw [b, drop_at hx, lastId_succ hx]; simp only [bgo]; rw [if_neg (by omega), if_neg h2, if_neg (by simp [h3])]
theorem BAt.all (b : BAt f h l k) (hk : l.length ≤ k) : bgo f h l (0, 0) 0 = (0, -1) := by
 unfold BAt at b; rw [b, List.drop_eq_nil_of_le hk]; rfl
end
end Go.Proofs.YtkejlnjnoiidnaaGreatDoor
end

section
namespace Go.Proofs.YtkejlnjnoiidnaaGreatDoor
open Go.RowKit As
set_option maxHeartbeats 1000000 in
theorem rvright_any (w : World) (n c : Nat) (A : Option Addr) (l : List Ent) (hl : Ents w w.heap.size A n l) (hn : n ≤ maxLen) :
  Calls Tryz.prog 70 #[.slice A n c] w fun e w' => e = .returned (faultV (vright l)) ∧ Below w.heap.size w w' := by
 unfold maxLen at hn
 have hlen := hl.len
 by_cases hbig : 16 < n
 ·have hv := Lib.hid (vright_big (l := l) (by omega))
  have hd : decide (16 < n) = true := by simpa using hbig
  have hlen := Lib.hid hlen
  clear hl
  go_enter Tryz.func70, Tryz.ntmps70
  go_wp2_with fail
  refine (bareF_any _ _).mono ?_
  rintro e w' ⟨rfl, hb⟩
  have hz := hb.size
  obtain ⟨c0, c1, f0, f1⟩ := (Two.new w 0 0 29).below hb
  have S := set2 (.int .i64 4) (.int .i64 (-1)) c0 c1
  simp at hz
  go_wp2
  exact bodyPost_ret (v := .agg #[.int .i64 4, .int .i64 (-1)]) (by simp [results, Tryz.results70, go_sem, S.1, S.2]) rfl ⟨by rw [hv.out]; rfl, below_set2 _ _ ((below1 _ _).trans (hb.mono (by simp))) (Nat.le_refl _)⟩
 ·have hv := Lib.hid (vright_small (l := l) (by omega))
  have hd : decide (16 < n) = false := by simpa using hbig
  have hlen := Lib.hid hlen
  go_enter Tryz.func70, Tryz.ntmps70
  go_wp2
  go_loopw [3, 4, 5, 12] (fun last _ _ i wr => ∃ k : Nat, k ≤ n ∧ i = .int .i64 k ∧ last = .int .i64 (lastAt l k) ∧ VAt l k ∧ Two wr w.heap.size 0 0 ∧ Below w.heap.size w wr) (fun _ _ _ i _ => n - (intOf i).toNat)
  case atStart => exact ⟨0, by omega, rfl, rfl, VAt.zero l, Two.new _ _ _ _, below1 _ _⟩
  case round =>
   obtain ⟨k, hk, rfl, rfl, hat, hT, hbel⟩ := hrel
   have Hat := Lib.hid hat
   clear hat
   obtain ⟨c0, c1, f0, f1⟩ := hT
   have hs : w.heap.size < wr.heap.size := cell_lt c0
   by_cases hlt : k < n
   ·obtain ⟨b, o, r, t, rfl, hb, hx, hf, hc0, hc1⟩ := hl.at_ hlt
    have e0 := (hbel.cell (p := ⟨b, o + k * 2, none⟩) (by simp; omega)).trans hc0
    have e1 := (hbel.cell (p := ⟨b, o + k * 2 + 1, none⟩) (by simp; omega)).trans hc1
    clear hc0 hc1
    have hX := Lib.hid hx
    clear hx
    have hrt := Lib.hid hf
    clear hf
    obtain ⟨last, hla⟩ : ∃ last, last = lastAt l k := ⟨_, rfl⟩
    rw [← hla]
    have hla := Lib.hid hla
    by_cases hbad : entBad (r, t)
    ·have hres := Lib.hid (Hat.out.bad hX.out hbad)
     have hparts := bad_inB hbad
     clear hbad
     have S := set2_alloc (.int .i64 2) (.int .i64 (k : Int)) (.cells #[.int .i64 r, .int .i64 t] 79) hs c0 c1
     rcases hparts with B0' | ⟨B0', B1'⟩
     ·have B0 := Lib.hid B0'
      clear B0'
      go_wp2_with fail
      refine (within_is B0 _).mono ?_
      rintro e w' ⟨rfl, rfl⟩
      go_wp2
      exact bodyPost_ret (v := .agg #[.int .i64 2, .int .i64 (k : Int)]) (by simp [results, Tryz.results70, go_sem, S.1, S.2]) rfl ⟨by rw [hv.out, hres.out]; rfl, (below_set2 _ _ hbel (Nat.le_refl _)).alloc (by simp; omega) _⟩
     ·have B0 := Lib.hid B0'
      have B1 := Lib.hid B1'
      clear B0' B1'
      go_wp2_with fail
      refine (within_is B0 _).mono ?_
      rintro e w' ⟨rfl, rfl⟩
      go_wp2_with fail
      refine (within_is B1 _).mono ?_
      rintro e w' ⟨rfl, rfl⟩
      go_wp2
      exact bodyPost_ret (v := .agg #[.int .i64 2, .int .i64 (k : Int)]) (by simp [results, Tryz.results70, go_sem, S.1, S.2]) rfl ⟨by rw [hv.out, hres.out]; rfl, (below_set2 _ _ hbel (Nat.le_refl _)).alloc (by simp; omega) _⟩
    ·have hok : 0 ≤ r ∧ r ≤ 200 ∧ 1 ≤ t ∧ t ≤ 1099511627776 := by unfold entBad at hbad; simp only at hbad; omega
     obtain ⟨g0, g1, g2, g3⟩ := hok
     have B0 := Lib.hid (show inB r 0 200 = true by unfold inB; simp [g0, g1])
     have B1 := Lib.hid (show inB t 1 1099511627776 = true by unfold inB; simp [g2, g3])
     clear g0 g1 g2 g3
     have Hbad := Lib.hid hbad
     clear hbad
     by_cases ho : r ≤ last
     ·have hres := Lib.hid (Hat.out.order hX.out Hbad.out (by rw [← hla.out]; exact ho))
      have S := set2_alloc (.int .i64 10) (.int .i64 (k : Int)) (.cells #[.int .i64 r, .int .i64 t] 79) hs c0 c1
      go_wp2_with fail
      refine (within_is B0 _).mono ?_
      rintro e w' ⟨rfl, rfl⟩
      go_wp2_with fail
      refine (within_is B1 _).mono ?_
      rintro e w' ⟨rfl, rfl⟩
      go_wp2
      exact bodyPost_ret (v := .agg #[.int .i64 10, .int .i64 (k : Int)]) (by simp [results, Tryz.results70, go_sem, S.1, S.2]) rfl ⟨by rw [hv.out, hres.out]; rfl, (below_set2 _ _ hbel (Nat.le_refl _)).alloc (by simp; omega) _⟩
     ·have hnext := Lib.hid (Hat.out.succ hX.out Hbad.out (by rw [← hla.out]; exact ho))
      have hl2 := Lib.hid (lastAt_succ l k r t hX.out)
      go_wp2_with fail
      refine (within_is B0 _).mono ?_
      rintro e w' ⟨rfl, rfl⟩
      go_wp2_with fail
      refine (within_is B1 _).mono ?_
      rintro e w' ⟨rfl, rfl⟩
      go_wp2
      go_roundw
      case rel => exact ⟨k + 1, by omega, by go_num, by rw [hl2.out], hnext.out, (Two.mk c0 c1 f0 f1).below (below1 _ _), hbel.alloc (by omega) _⟩
      case measure => simp [intOf]; omega
   ·obtain rfl : k = n := by omega
    have hend := Lib.hid (Hat.out.all (by rw [hlen.out]; exact Nat.le_refl _))
    clear hlt
    go_wp2_with fail
    refine (good_any _).mono ?_
    rintro e w' ⟨rfl, hb⟩
    have hz := hb.size
    have f0 := (hb.frozen (p := ⟨w.heap.size, 0, none⟩) hs).trans f0
    have f1 := (hb.frozen (p := ⟨w.heap.size, 1, none⟩) hs).trans f1
    have c0 := (hb.cell (p := ⟨w.heap.size, 0, none⟩) hs).trans c0
    have c1 := (hb.cell (p := ⟨w.heap.size, 1, none⟩) hs).trans c1
    have S := set2 (.int .i64 0) (.int .i64 (-1)) c0 c1
    go_wp2
    exact bodyPost_ret (v := .agg #[.int .i64 0, .int .i64 (-1)]) (by simp [results, Tryz.results70, go_sem, S.1, S.2]) rfl ⟨by rw [hv.out, hend.out]; rfl, below_set2 _ _ (hbel.trans (hb.mono (by omega))) (Nat.le_refl _)⟩
end Go.Proofs.YtkejlnjnoiidnaaGreatDoor
end
