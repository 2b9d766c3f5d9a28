/- vary.Get and Unvary of the reference say what vget says.

How many bytes a number needs, and which they are, in plain Lean. No program in sight.

Vary of the reference makes what vput says.

span.Put, span.Get and Span, Unspan of the reference say what spanOf and unspan say.

crc.Seal, crc.Open and Seal, Open of the reference say what sealOf and openOf say.

So many texts with their lengths ahead, one behind the other, in plain Lean. No program in sight.

vector.Right and VectorRight of the reference say what vright says.

span.All and Spans of the reference say what spansOf says.

chunk.Cut says what cutOf says.

chunk.Right and ChunkRight of the reference say what chkRight says. -/
import Derived.Test.YtfefpcdgflgaeaaGreatDoorZ1
import Derived.Test.YtfefpcdgflgaeaaGreatDoorZ3
import Derived.WalkKit
import Derived.WalkLawsBesides
import Derived.WalkSpells
import Derived.Outline
import Derived.Lib.Hide
import Derived.Laws.BitsAllLaws
import Derived.Lib.BitFns
import Derived.Test.YtfefpcdgflgaeaaGreatDoorZ5
import Derived.Test.YtfefpcdgflgaeaaGreatDoorShelfLen
import Derived.OwnWalk
import Derived.Test.YtfefpcdgflgaeaaGreatDoorZ2
import Derived.Deep.Cut
import Derived.Deep.DeepCutAuto
import Derived.Deep.CutBlock
import Derived.Deep.QuietTactic
import Derived.BigQuiet
import Derived.Deep.RegionHeld3
import Derived.Deep.RegionWith
section
namespace Go.Proofs.YtfefpcdgflgaeaaGreatDoor
open Go.RowKit As
theorem sbyte (s : ByteArray) (k : Nat) (h : k < s.size) : s.data.toList[k]'(by simpa using h) = s[k] := rfl
theorem u64_byte (b : UInt8) : IntKind.u64.wrap (b.toNat : Int) = (b.toNat : Int) := by
 have := b.toNat_lt
 rw [IntKind.wrap_u64]; omega
/-- A byte's seven bits taken in. -/
theorem vor {a b k : Nat} (ha : a < 2 ^ (7 * k)) (hb : b < 256) (hf : a + b % 128 * 2 ^ (7 * k) < 18446744073709551616) :
  bits BinOp.or IntKind.u64 (a : Int) (IntKind.u64.wrap (bits BinOp.and IntKind.u64 (b : Int) 127 * 2 ^ (7 * k))) = ((a + b % 128 * 2 ^ (7 * k) : Nat) : Int) := by
 have e1 : bits BinOp.and IntKind.u64 (b : Int) 127 = ((b % 128 : Nat) : Int) := by
  have e := u64_and_nat b 127 (by omega) (by omega)
  rw [nat_mask7] at e
  exact e
 have hp : b % 128 * 2 ^ (7 * k) < 18446744073709551616 := by omega
 have e2 : ((b % 128 : Nat) : Int) * 2 ^ (7 * k) = ((b % 128 * 2 ^ (7 * k) : Nat) : Int) := by simp
 rw [e1, e2, IntKind.wrap_u64, Int.emod_eq_of_lt (by omega) (by omega), u64_or_nat a _ (by omega) hp, Nat.or_comm, nat_join (7 * k) _ _ (Nat.mul_mod_left _ _) ha, Nat.add_comm]
theorem vor_at (s : ByteArray) (k : Nat) (h : k < s.size) (h9 : k ≤ 9) (hb : ¬ (k = 9 ∧ 1 < s[k].toNat)) :
  bits BinOp.or IntKind.u64 (vval (s.data.toList.take k) : Int) (IntKind.u64.wrap (bits BinOp.and IntKind.u64 (s[k].toNat : Int) 127 * 2 ^ (7 * k))) = (vval (s.data.toList.take (k + 1)) : Int) := by
 have hl : k < s.data.toList.length := by simpa using h
 have hn := vval_next hl
 have hfit := vval_fits hl h9 (by rw [sbyte s k h]; exact hb)
 rw [sbyte s k h] at hn
 rw [hn] at hfit
 rw [hn, pow128]
 rw [pow128] at hfit
 have hlt := vval_take_lt s.data.toList k (by omega)
 rw [pow128] at hlt
 exact vor hlt s[k].toNat_lt hfit
theorem retT3 {n n' k k' : Int} {v v' : Value} {t t' : IntKind} (h1 : n = n') (h2 : k = k') (h3 : v = v') : Ending.returned (.tuple #[.int t n, .int t' k, v]) = .returned (.tuple #[.int t n', .int t' k', v']) := by rw [h1, h2, h3]
set_option maxHeartbeats 1000000 in
set_option maxRecDepth 100000 in
theorem vget_any (s : ByteArray) (w : World) (hs : s.size ≤ maxLen) :
  Calls Tryz.prog 82 #[.string s] w fun e w' => e = .returned (.tuple #[.int .u64 ((vget s.data.toList).1 : Int), .int .i64 ((vget s.data.toList).2.1 : Int), errV (vget s.data.toList).2.2]) ∧ w = w' := by
 unfold maxLen at hs
 go_enter Tryz.func82, Tryz.ntmps82
 go_wp2
 go_loop [5, 6, 7, 10] (fun n _ _ i => ∃ k : Nat, k ≤ s.size ∧ i = .int .i64 k ∧ n = .int .u64 (vval (s.data.toList.take k) : Int) ∧ VG s.data.toList k) (fun _ _ _ i => s.size - (intOf i).toNat)
 case atStart => exact ⟨0, by omega, rfl, rfl, VG.zero _⟩
 case round =>
  obtain ⟨k, hk, rfl, rfl, hvg⟩ := hrel
  have HV := Lib.hid hvg
  have h9 := hvg.2.1
  clear hvg
  by_cases hlt : k < s.size
  ·have hlt' : k < s.data.toList.length := by simpa using hlt
   have hsb := Lib.hid (sbyte s k hlt)
   have hb256 := s[k].toNat_lt
   have hw := u64_byte s[k]
   by_cases c1 : k = 9 ∧ 1 < s[k].toNat
   ·have hres := Lib.hid (HV.out.limit hlt' c1.1 (by rw [hsb.out]; exact c1.2))
    have d1 : ((k : Int) == 9) = true := by simp; omega
    have d2 : decide (1 < (s[k].toNat : Int)) = true := by simp; omega
    clear c1
    go_wp2
    go_ret3
    exact ⟨by rw [hres.out]; rfl, rfl⟩
   ·have hvor := Lib.hid (vor_at s k hlt h9 c1)
    by_cases c2 : s[k].toNat = 0 ∧ 0 < k
    ·have hres := Lib.hid (HV.out.form hlt' c2.2 (by rw [hsb.out]; exact c2.1))
     have d1 : decide (1 < (s[k].toNat : Int)) = false := by simp; omega
     have d2 : decide ((s[k].toNat : Int) < 128) = true := by simp; omega
     have d3 : ((s[k].toNat : Int) == 0) = true := by simp; omega
     have d4 : decide (0 < k) = true := by simp; omega
     clear c1 c2
     by_cases e9 : k = 9
     ·have d5 : ((k : Int) == 9) = true := by simp; omega
      clear e9
      go_wp2
      go_ret3
      exact ⟨by rw [hres.out]; rfl, rfl⟩
     ·have d5 : ((k : Int) == 9) = false := by simp; omega
      clear e9
      go_wp2
      go_ret3
      exact ⟨by rw [hres.out]; rfl, rfl⟩
    ·by_cases c3 : s[k].toNat < 128
     ·have hres := Lib.hid (HV.out.done hlt' (by rw [hsb.out]; exact c1) (by rw [hsb.out]; exact c3) (by rw [hsb.out]; exact c2))
      have d2 : decide ((s[k].toNat : Int) < 128) = true := by simp; omega
      by_cases e0 : s[k].toNat = 0
      ·have d3 : ((s[k].toNat : Int) == 0) = true := by simp; omega
       have d4 : decide (0 < k) = false := by simp; omega
       have d5 : ((k : Int) == 9) = false := by simp; omega
       clear c1 c2 c3 e0
       go_wp2
       go_ret3
       exact ⟨by rw [hres.out]; exact retT3 hvor.out (by go_num) rfl, rfl⟩
      ·have d3 : ((s[k].toNat : Int) == 0) = false := by simp; omega
       by_cases e9 : k = 9
       ·have d5 : ((k : Int) == 9) = true := by simp; omega
        have d1 : decide (1 < (s[k].toNat : Int)) = false := by simp; omega
        clear c1 c2 c3 e0 e9
        go_wp2
        go_ret3
        exact ⟨by rw [hres.out]; exact retT3 hvor.out (by go_num) rfl, rfl⟩
       ·have d5 : ((k : Int) == 9) = false := by simp; omega
        clear c1 c2 c3 e0 e9
        go_wp2
        go_ret3
        exact ⟨by rw [hres.out]; exact retT3 hvor.out (by go_num) rfl, rfl⟩
     ·have hnext := Lib.hid (HV.out.succ hlt' (by rw [hsb.out]; exact c1) (by rw [hsb.out]; exact c3))
      have d2 : decide ((s[k].toNat : Int) < 128) = false := by simp; omega
      have d5 : ((k : Int) == 9) = false := by simp; omega
      clear c1 c2 c3
      go_wp2
      go_round
      case rel => exact ⟨k + 1, by omega, by go_num, valI hvor.out, hnext.out⟩
      case measure => simp [intOf]; omega
  ·obtain rfl : k = s.size := by omega
   have hres := Lib.hid (HV.out.out (by simp))
   clear hlt
   go_wp2
   go_ret3
   exact ⟨by rw [hres.out]; rfl, rfl⟩
set_option maxHeartbeats 1000000 in
set_option maxRecDepth 100000 in
theorem runvary_any (s : ByteArray) (w : World) (hs : s.size ≤ maxLen) :
  Calls Tryz.prog 84 #[.string s] w fun e w' => e = .returned (.tuple #[.int .u64 ((vget s.data.toList).1 : Int), .int .i64 ((vget s.data.toList).2.1 : Int), .int .i64 (vget s.data.toList).2.2]) ∧ w = w' := by
 unfold maxLen at hs
 go_enter Tryz.func84, Tryz.ntmps84
 go_wp2
 go_loop [5] (fun i => ∃ k : Nat, k ≤ s.size ∧ i = .int .i64 k ∧ VG s.data.toList k) (fun i => s.size - (intOf i).toNat)
 case atStart => exact ⟨0, by omega, rfl, VG.zero _⟩
 case round =>
  obtain ⟨k, hk, rfl, hvg⟩ := hrel
  have HV := Lib.hid hvg
  have h9 := hvg.2.1
  clear hvg
  by_cases hlt : k < s.size
  ·have hlt' : k < s.data.toList.length := by simpa using hlt
   have hsb := Lib.hid (sbyte s k hlt)
   have hb256 := s[k].toNat_lt
   have d0 : ((k : Int) == (s.size : Int)) = false := by simp; omega
   by_cases c1 : k = 9 ∧ 1 < s[k].toNat
   ·have hres := Lib.hid (HV.out.limit hlt' c1.1 (by rw [hsb.out]; exact c1.2))
    have d1 : ((k : Int) == 9) = true := by simp; omega
    have d2 : decide (1 < (s[k].toNat : Int)) = true := by simp; omega
    clear c1
    go_wp2
    go_ret3
    exact ⟨by rw [hres.out]; rfl, rfl⟩
   ·by_cases c2 : s[k].toNat = 0 ∧ 0 < k
    ·have hres := Lib.hid (HV.out.form hlt' c2.2 (by rw [hsb.out]; exact c2.1))
     have d1 : decide (1 < (s[k].toNat : Int)) = false := by simp; omega
     have d3 : ((s[k].toNat : Int) == 0) = true := by simp; omega
     have d4 : decide (0 < k) = true := by simp; omega
     clear c1 c2
     by_cases e9 : k = 9
     ·have d5 : ((k : Int) == 9) = true := by simp; omega
      clear e9
      go_wp2
      go_ret3
      exact ⟨by rw [hres.out]; rfl, rfl⟩
     ·have d5 : ((k : Int) == 9) = false := by simp; omega
      clear e9
      go_wp2
      go_ret3
      exact ⟨by rw [hres.out]; rfl, rfl⟩
    ·have hC1 := Lib.hid c1
     by_cases c3 : s[k].toNat < 128
     ·have hres := Lib.hid (HV.out.done hlt' (by rw [hsb.out]; exact c1) (by rw [hsb.out]; exact c3) (by rw [hsb.out]; exact c2))
      have hfit := vval_fits hlt' h9 (by rw [hsb.out]; exact c1)
      have d2 : decide ((s[k].toNat : Int) < 128) = true := by simp; omega
      have hd : (((s[k].toNat : Int) == 0) = true ∧ decide (0 < k) = false ∧ ((k : Int) == 9) = false) ∨ (((s[k].toNat : Int) == 0) = false ∧ ((k : Int) == 9) = true ∧ decide (1 < (s[k].toNat : Int)) = false) ∨ (((s[k].toNat : Int) == 0) = false ∧ ((k : Int) == 9) = false) := by
       simp only [beq_iff_eq, beq_eq_false_iff_ne, decide_eq_false_iff_not]
       omega
      clear c1 c2 c3
      rcases hd with ⟨d3, d4, d5⟩ | ⟨d3, d5, d6⟩ | ⟨d3, d5⟩
      all_goals
       go_wp2
       go_loop [6, 7] (fun n j => ∃ m : Nat, m ≤ k + 1 ∧ j = .int .i64 ((m : Int) - 1) ∧ n = .int .u64 (vtail s.data.toList (k + 1) m : Int)) (fun _ j => (intOf j + 1).toNat)
       case atStart => exact ⟨k + 1, by omega, by go_num, by rw [vtail_end]; rfl⟩
       case round =>
        obtain ⟨m, hm, rfl, rfl⟩ := hrel
        cases m with
        | zero =>
         have ej : (((0 : Nat) : Int) - 1) = -1 := by omega
         rw [ej]
         clear ej
         go_wp2
         go_ret3
         exact ⟨by rw [hres.out]; exact retT3 rfl (by go_num) rfl, rfl⟩
        | succ m =>
         have ej : (((m + 1 : Nat) : Int) - 1) = (m : Int) := by omega
         rw [ej]
         clear ej
         have hms : m < s.size := by omega
         have hn := vtail_prev (l := s.data.toList) (i := k + 1) (k := m) (by omega) (by omega)
         rw [sbyte s m hms] at hn
         have hle := vtail_le s.data.toList (k + 1) m
         have hbm := s[m].toNat_lt
         have hN := Lib.hid hn
         have hV : vtail s.data.toList (k + 1) m < 18446744073709551616 := by omega
         clear hn
         go_wp2
         go_round
         case rel =>
          refine ⟨m, by omega, rfl, valI ?_⟩
          have hn := hN.out
          simp only [IntKind.wrap_u64]
          omega
         case measure => simp [intOf]
     ·have hnext := Lib.hid (HV.out.succ hlt' (by rw [hsb.out]; exact c1) (by rw [hsb.out]; exact c3))
      have d2 : decide ((s[k].toNat : Int) < 128) = false := by simp; omega
      have d3 : ((s[k].toNat : Int) == 0) = false := by simp; omega
      have d5 : ((k : Int) == 9) = false := by simp; omega
      clear c1 c2 c3
      go_wp2
      go_round
      case rel => exact ⟨k + 1, by omega, by go_num, hnext.out⟩
      case measure => simp [intOf]; omega
  ·obtain rfl : k = s.size := by omega
   have hres := Lib.hid (HV.out.out (by simp))
   clear hlt
   go_wp2
   go_ret3
   exact ⟨by rw [hres.out]; rfl, rfl⟩
/-- int of a number that fits. -/
theorem i64_small {n : Nat} (h : n < 9223372036854775808) : IntKind.i64.wrap (n : Int) = (n : Int) := IntWalk.i64_in _ (by omega)
set_option maxHeartbeats 1000000 in
set_option maxRecDepth 100000 in
theorem vint_any (s : ByteArray) (most : Int) (w : World) (hs : s.size ≤ maxLen) (hm : most ≤ 9223372036854775807) :
  Calls Tryz.prog 63 #[.string s, .int .i64 most] w fun e w' => e = .returned (.tuple #[.int .i64 ((vint s.data.toList most).1 : Int), .int .i64 ((vint s.data.toList most).2.1 : Int), errV (vint s.data.toList most).2.2]) ∧ w = w' := by
 have H := Lib.hid (show vint s.data.toList most = _ from rfl)
 unfold vint at H
 obtain ⟨x, hx⟩ : ∃ x, x = vint s.data.toList most := ⟨_, rfl⟩
 obtain ⟨g, hg⟩ : ∃ g, g = vget s.data.toList := ⟨_, rfl⟩
 have hX : x = if g.2.2 ≠ 0 then (0, 0, g.2.2) else if most < 0 ∨ most < (g.1 : Int) then (0, 0, 2) else g := by rw [hx, hg]; rfl
 have hsay := vget_says s.data.toList
 rw [← hg] at hsay
 have HG := Lib.hid hg
 rw [← hx]
 clear hx hg H
 obtain ⟨n, k, e⟩ := g
 simp only at hX hsay
 by_cases he : e = 0
 ·subst he
  have hn : n < 18446744073709551616 := by
   rcases hsay with h | h | h | h
   ·exact h.2.1
   all_goals (injection h with h _; omega)
  clear hsay
  rw [if_neg (by simp)] at hX
  by_cases h1 : most < 0
  ·rw [if_pos (.inl h1)] at hX
   subst hX
   go_enter Tryz.func63, Tryz.ntmps63
   go_wp2_with fail
   refine (vget_any s w hs).mono ?_
   rintro e w' ⟨rfl, rfl⟩
   rw [← HG.out]
   simp only [errV_zero]
   go_wp2
   go_ret3
   exact ⟨rfl, rfl⟩
  ·have hw : IntKind.u64.wrap most = most := by rw [IntKind.wrap_u64]; omega
   by_cases h2 : most < (n : Int)
   ·rw [if_pos (.inr h2)] at hX
    subst hX
    go_enter Tryz.func63, Tryz.ntmps63
    go_wp2_with fail
    refine (vget_any s w hs).mono ?_
    rintro e w' ⟨rfl, rfl⟩
    rw [← HG.out]
    simp only [errV_zero]
    go_wp2
    go_ret3
    exact ⟨rfl, rfl⟩
   ·rw [if_neg (by omega)] at hX
    subst hX
    have hi : IntKind.i64.wrap (n : Int) = (n : Int) := i64_small (by omega)
    go_enter Tryz.func63, Tryz.ntmps63
    go_wp2_with fail
    refine (vget_any s w hs).mono ?_
    rintro e w' ⟨rfl, rfl⟩
    rw [← HG.out]
    simp only [errV_zero]
    go_wp2
    go_ret3
    exact ⟨rfl, rfl⟩
 ·rw [if_pos he] at hX
  subst hX
  have hv := Lib.hid (errV_of he)
  go_enter Tryz.func63, Tryz.ntmps63
  go_wp2_with fail
  refine (vget_any s w hs).mono ?_
  rintro e w' ⟨rfl, rfl⟩
  rw [← HG.out]
  simp only [hv.out]
  go_wp2
  go_ret3
  exact ⟨retT3 rfl rfl hv.out.symm, rfl⟩
set_option maxHeartbeats 1000000 in
set_option maxRecDepth 100000 in
theorem rvint_any (s : ByteArray) (most : Int) (w : World) (hs : s.size ≤ maxLen) (hm : most ≤ 9223372036854775807) :
  Calls Tryz.prog 67 #[.string s, .int .i64 most] w fun e w' => e = .returned (.tuple #[.int .i64 ((vint s.data.toList most).1 : Int), .int .i64 ((vint s.data.toList most).2.1 : Int), .int .i64 (vint s.data.toList most).2.2]) ∧ w = w' := by
 have H := Lib.hid (show vint s.data.toList most = _ from rfl)
 unfold vint at H
 obtain ⟨x, hx⟩ : ∃ x, x = vint s.data.toList most := ⟨_, rfl⟩
 obtain ⟨g, hg⟩ : ∃ g, g = vget s.data.toList := ⟨_, rfl⟩
 have hX : x = if g.2.2 ≠ 0 then (0, 0, g.2.2) else if most < 0 ∨ most < (g.1 : Int) then (0, 0, 2) else g := by rw [hx, hg]; rfl
 have hsay := vget_says s.data.toList
 rw [← hg] at hsay
 have HG := Lib.hid hg
 rw [← hx]
 clear hx hg H
 obtain ⟨n, k, e⟩ := g
 simp only at hX hsay
 by_cases he : e = 0
 ·subst he
  have hn : n < 18446744073709551616 := by
   rcases hsay with h | h | h | h
   ·exact h.2.1
   all_goals (injection h with h _; omega)
  clear hsay
  rw [if_neg (by simp)] at hX
  by_cases h1 : most < 0
  ·rw [if_pos (.inl h1)] at hX
   subst hX
   go_enter Tryz.func67, Tryz.ntmps67
   go_wp2_with fail
   refine (runvary_any s w hs).mono ?_
   rintro e w' ⟨rfl, rfl⟩
   rw [← HG.out]
   go_wp2
   go_ret3
   exact ⟨rfl, rfl⟩
  ·have hw : IntKind.u64.wrap most = most := by rw [IntKind.wrap_u64]; omega
   by_cases h2 : most < (n : Int)
   ·rw [if_pos (.inr h2)] at hX
    subst hX
    go_enter Tryz.func67, Tryz.ntmps67
    go_wp2_with fail
    refine (runvary_any s w hs).mono ?_
    rintro e w' ⟨rfl, rfl⟩
    rw [← HG.out]
    go_wp2
    go_ret3
    exact ⟨rfl, rfl⟩
   ·rw [if_neg (by omega)] at hX
    subst hX
    have hi : IntKind.i64.wrap (n : Int) = (n : Int) := i64_small (by omega)
    go_enter Tryz.func67, Tryz.ntmps67
    go_wp2_with fail
    refine (runvary_any s w hs).mono ?_
    rintro e w' ⟨rfl, rfl⟩
    rw [← HG.out]
    go_wp2
    go_ret3
    exact ⟨rfl, rfl⟩
 ·rw [if_pos he] at hX
  subst hX
  have hne : (e != 0) = true := by rw [bne_iff_ne]; exact he
  go_enter Tryz.func67, Tryz.ntmps67
  go_wp2_with fail
  refine (runvary_any s w hs).mono ?_
  rintro e w' ⟨rfl, rfl⟩
  rw [← HG.out]
  go_wp2
  go_ret3
  exact ⟨rfl, rfl⟩
end Go.Proofs.YtfefpcdgflgaeaaGreatDoor
end

section
namespace Go.Proofs.YtfefpcdgflgaeaaGreatDoor
theorem bitLen7 : ∀ n : Fin 128, (Lib.bitLen n.val + 6) / 7 ≤ 1 := by decide +kernel
theorem bitLen_pos {n : Nat} (h : n ≠ 0) : 0 < Lib.bitLen n := by
 unfold Lib.bitLen Lib.bitLenAux
 rw [if_neg h]
 omega
theorem vput_size (f : Nat) : ∀ n : Nat, n < 128 ^ f → n < 18446744073709551616 → (vput n).length = max 1 ((Lib.bitLen n + 6) / 7) := by
 induction f with
 | zero =>
  intro n h _
  obtain rfl : n = 0 := by simpa using h
  rw [vput_small (by omega)]
  decide
 | succ f ih =>
  intro n h hn
  by_cases h7 : n < 128
  ·rw [vput_small h7]
   have := bitLen7 ⟨n, h7⟩
   simp only at this
   simp
   omega
  ·rw [vput_big h7, List.length_cons, ih (n / 128) (by rw [Nat.pow_succ] at h; omega) (by omega)]
   have hs := Lib.bitLen_shift 7 n (by omega) hn
   have hp := bitLen_pos (n := n / 128) (by omega)
   have e : n / 2 ^ 7 = n / 128 := rfl
   rw [hs, e]
   omega
/-- Byte i of a number. -/
def vbyte (n i : Nat) (last : Bool) : UInt8 := if last then UInt8.ofNat (n / 128 ^ i % 128) else UInt8.ofNat (n / 128 ^ i % 128 + 128)
theorem vput_get (i : Nat) : ∀ n : Nat, i < (vput n).length → (vput n)[i]? = some (vbyte n i (decide ((vput n).length = i + 1))) := by
 induction i with
 | zero =>
  intro n h
  by_cases h7 : n < 128
  ·rw [vput_small h7]
   simp [vbyte, Nat.mod_eq_of_lt h7]
  ·have hp := vput_pos (n / 128)
   rw [vput_big h7]
   have : ¬ (vput (n / 128)).length + 1 = 0 + 1 := by omega
   simp only [List.length_cons, List.getElem?_cons_zero, decide_eq_false this, vbyte]
   simp
 | succ i ih =>
  intro n h
  by_cases h7 : n < 128
  ·rw [vput_small h7] at h; simp at h
  ·rw [vput_big h7] at h ⊢
   simp only [List.length_cons] at h
   simp only [List.getElem?_cons_succ, List.length_cons]
   rw [ih (n / 128) (by omega)]
   have e : n / 128 / 128 ^ i = n / 128 ^ (i + 1) := by rw [Nat.div_div_eq_div_mul, Nat.pow_succ, Nat.mul_comm]
   have e2 : decide ((vput (n / 128)).length = i + 1) = decide ((vput (n / 128)).length + 1 = i + 1 + 1) := by rw [decide_eq_decide]; omega
   unfold vbyte
   rw [e, e2]
/-- The bytes ahead of byte i, and noughts from there on. -/
def vpart (n i : Nat) : List UInt8 := (vput n).take i ++ List.replicate ((vput n).length - i) 0
theorem vpart_zero (n : Nat) : vpart n 0 = List.replicate (vput n).length 0 := by simp [vpart]
theorem vpart_len (n i : Nat) (h : i ≤ (vput n).length) : (vpart n i).length = (vput n).length := by simp [vpart]; omega
theorem vpart_end (n : Nat) : vpart n (vput n).length = vput n := by simp [vpart]
theorem vpart_set (n i : Nat) (h : i < (vput n).length) : (vpart n i).set i (vbyte n i (decide ((vput n).length = i + 1))) = vpart n (i + 1) := by
 apply List.ext_getElem?
 intro j
 have hl : ((vput n).take i).length = i := by simp; omega
 have hg := vput_get i n h
 unfold vpart
 rw [List.getElem?_set]
 by_cases hij : i = j
 ·subst hij
  rw [if_pos rfl, if_pos (by simp; omega), List.getElem?_append_left (by simp; omega), List.getElem?_take, if_pos (by omega), hg]
 ·rw [if_neg hij]
  by_cases hj : j < i
  ·rw [List.getElem?_append_left (by simp; omega), List.getElem?_append_left (by simp; omega), List.getElem?_take, List.getElem?_take, if_pos hj, if_pos (by omega)]
  ·rw [List.getElem?_append_right (by simp; omega), List.getElem?_append_right (by simp; omega)]
   simp only [List.getElem?_replicate, List.length_take]
   by_cases hje : j < (vput n).length
   ·rw [if_pos (by omega), if_pos (by omega)]
   ·rw [if_neg (by omega), if_neg (by omega)]
end Go.Proofs.YtfefpcdgflgaeaaGreatDoor
end

section
namespace Go.Proofs.YtfefpcdgflgaeaaGreatDoor
open Go.RowKit
theorem rpow_any (k : Nat) (w : World) (hk : k ≤ 9) :
  Calls Tryz.prog 71 #[.int .u64 128, .int .i64 (k : Int)] w fun e w' => e = .returned (.int .u64 ((128 ^ k : Nat) : Int)) ∧ w = w' := by
 go_enter Tryz.func71, Tryz.ntmps71
 go_wp2
 go_loop [5, 7] (fun v i => ∃ j : Nat, j ≤ k ∧ i = .int .i64 j ∧ v = .int .u64 ((128 ^ j : Nat) : Int)) (fun _ i => k - (intOf i).toNat)
 case atStart => exact ⟨0, by omega, rfl, rfl⟩
 case round =>
  obtain ⟨j, hj, rfl, rfl⟩ := hrel
  by_cases hlt : j < k
  ·have hp := pow128_le (k := j) (by omega)
   have hq := pow128_le (k := j + 1) (by omega)
   have hs := Lib.hid (Nat.pow_succ (n := 128) (m := j))
   obtain ⟨x, hx⟩ : ∃ x, x = 128 ^ j := ⟨_, rfl⟩
   have HX := Lib.hid hx
   rw [← hx] at hp ⊢
   clear hx
   go_wp2
   go_round
   case rel =>
    refine ⟨j + 1, by omega, by go_num, valI ?_⟩
    have := hs.out
    rw [← HX.out] at this
    rw [this]
    rw [IntKind.wrap_u64]
    omega
   case measure => simp [intOf]; omega
  ·obtain rfl : j = k := by omega
   go_wp2
   go_ret
   exact ⟨rfl, rfl⟩
set_option maxHeartbeats 1000000 in
set_option maxRecDepth 100000 in
theorem rvary_any (n : Nat) (w : World) (hn : n < 18446744073709551616) :
    Calls Tryz.prog 44 #[.int .u64 (n : Int)] w fun e w' => e = .returned (.string ⟨(vput n).toArray⟩) ∧ Below w.heap.size w w' := by
  obtain ⟨i0, hi, hz0, hz1, hz2⟩ := info_parts byteInfo
  have hlen := vput_len10 hn
  have hpos := vput_pos n
  have hsz := vput_size 10 n (by have e : (128 : Nat) ^ 10 = 1180591620717411303424 := by decide
                                 omega) hn
  have hb64 : Lib.bitLen n ≤ 70 := by omega
  go_enter Tryz.func44, Tryz.ntmps44
  go_wp2_with fail
  refine (Tryz.bits_Len64 (n : Int) w (by omega) (by omega)).mono ?_
  rintro e w' ⟨rfl, rfl⟩
  simp only [Int.toNat_natCast]
  have hmx : max 1 (((Lib.bitLen n : Int) + 6) / 7) = ((vput n).length : Int) := by omega
  clear hsz
  have hE := Lib.hid (vpart_end n)
  have hZ := Lib.hid (vpart_zero n)
  have hSet := Lib.hid (vpart_set n)
  have hL := Lib.hid (vpart_len n)
  obtain ⟨m, hm⟩ : ∃ m, m = (vput n).length := ⟨_, rfl⟩
  rw [← hm] at hmx hlen hpos
  have HM := Lib.hid hm
  clear hm
  go_wp2_with fail
  obtain ⟨W, hrun, hT, hg⟩ := run_make_full (P := Tryz.prog) w' w'.heap.size 69 5 i0 (.int .u8 0) 1 Tryz.underlying69 hi hz0 hz1 .i64 .i64 m (by rw [hz2]; omega) (by unfold maxLen; omega) (Nat.le_refl _)
  have hb : Below w'.heap.size w' W := (Below.refl _ _).grown hg (Nat.le_refl _) (fun k hk => by cases hk)
  have hT0 : W.ownsRow w'.heap.size 5 1 (.slice (some ⟨w'.heap.size, 0, none⟩) m m) m (bytesV (vpart n 0)) := by
    have e : (madeCells (Value.int .u8 0).cells (m * 1)).toList = bytesV (vpart n 0) := by
      rw [hZ.out, Nat.mul_one, ← HM.out]
      show (madeCells #[Value.int .u8 0] m).toList = _
      rw [toList_madeCells_one]
      simp [bytesV, byteV]
    rw [e] at hT
    exact hT
  clear hT
  rw [hrun]
  clear hrun hmx hg
  go_wp2
  go_loopw [5, 15] (fun _ i wr => ∃ k : Nat, k ≤ m ∧ i = .int .i64 k ∧ wr.ownsRow w'.heap.size 5 1 (.slice (some ⟨w'.heap.size, 0, none⟩) m m) m (bytesV (vpart n k)) ∧ Below w'.heap.size w' wr) (fun _ i _ => m - (intOf i).toNat)
  case atStart => exact ⟨0, by omega, rfl, hT0, hb⟩
  case round =>
    clear hT0 hb
    obtain ⟨k, hk, rfl, hT, hbel⟩ := hrel
    by_cases hlt : k < m
    · have hlp := hL.out k (by rw [← HM.out]; omega)
      rw [← HM.out] at hlp
      have c0 : wr.cell? ⟨w'.heap.size, k, none⟩ = some (byteV ((vpart n k).getD k 0)) := by
        rw [hT.cellAt k (by omega), List.getElem?_map, List.getElem?_eq_getElem (by omega), getD_at _ _ _ (by omega)]; rfl
      have f0 : wr.frozen? ⟨w'.heap.size, k, none⟩ = false := hT.frozenAt k
      have hset := hSet.out k (by rw [← HM.out]; exact hlt)
      rw [← HM.out] at hset
      have HS := Lib.hid hset
      have HLP := Lib.hid hlp
      clear hset hlp
      obtain ⟨q, hq⟩ : ∃ q, q = n / 128 ^ k := ⟨_, rfl⟩
      have hqn : q ≤ n := by rw [hq]; exact Nat.div_le_self _ _
      have hw1 : IntKind.u64.wrap ((n : Int) / 128 ^ k) = (q : Int) := by
        have e : ((n / 128 ^ k : Nat) : Int) = (n : Int) / 128 ^ k := by simp
        rw [← e, ← hq, IntKind.wrap_u64]; omega
      have HQ := Lib.hid hq
      clear hq
      have hnz : ¬ ((128 : Int) ^ k = 0) := Int.pow_ne_zero (by omega)
      have hnz' : ((128 : Int) ^ k == 0) = false := beq_eq_false_iff_ne.2 hnz
      by_cases hlast : k + 1 < m
      · have hb1 : vbyte n k (decide (m = k + 1)) = UInt8.ofNat (q % 128 + 128) := by
          rw [decide_eq_false (by omega)]
          unfold vbyte
          rw [HQ.out]
          rfl
        have HB := Lib.hid hb1
        clear hb1
        go_wp2_with (go_at_call 71; refine (rpow_any k _ (by omega)).mono ?_; rintro e w2 ⟨rfl, rfl⟩)
        go_roundw
        case measure => simp [intOf]; omega
        case rel =>
          refine ⟨k + 1, by omega, by go_num, ?_, (hbel.setCell (Nat.le_refl _) _).setCell (Nat.le_refl _) _⟩
          have h1 := ((hT.stored k (.int .u8 ((q : Int) % 128))).1.stored k (byteV (UInt8.ofNat (q % 128 + 128)))).1
          rw [List.set_set, ← List.map_set, ← HB.out, HS.out] at h1
          have e2 : byteV (vbyte n k (decide (m = k + 1))) = Value.int .u8 ((q : Int) % 128 + 128) := by
            rw [HB.out]
            exact valI (by simp; omega)
          rw [e2] at h1
          exact h1
      · have hb1 : vbyte n k (decide (m = k + 1)) = UInt8.ofNat (q % 128) := by
          rw [decide_eq_true (by omega)]
          unfold vbyte
          rw [HQ.out]
          rfl
        have HB := Lib.hid hb1
        clear hb1
        go_wp2_with (go_at_call 71; refine (rpow_any k _ (by omega)).mono ?_; rintro e w2 ⟨rfl, rfl⟩)
        go_roundw
        case measure => simp [intOf]; omega
        case rel =>
          refine ⟨k + 1, by omega, by go_num, ?_, hbel.setCell (Nat.le_refl _) _⟩
          have h1 := (hT.stored k (byteV (UInt8.ofNat (q % 128)))).1
          rw [← List.map_set, ← HB.out, HS.out] at h1
          have e2 : byteV (vbyte n k (decide (m = k + 1))) = Value.int .u8 ((q : Int) % 128) := by
            rw [HB.out]
            exact valI (by simp; omega)
          rw [e2] at h1
          exact h1
    · obtain rfl : k = m := by omega
      rw [HM.out, hE.out, ← HM.out] at hT
      have hs1 := string_own (P := Tryz.prog) 69 5 9 Tryz.underlying69 Tryz.underlying5 Tryz.underlying9 hT HM.out.symm hpos
      go_wp2
      go_ret
      exact ⟨rfl, hbel⟩
end Go.Proofs.YtfefpcdgflgaeaaGreatDoor
end

section
namespace Go.Proofs.YtfefpcdgflgaeaaGreatDoor
open Go.RowKit As
theorem strOf_size (l : List UInt8) : (strOf l).size = l.length := by show l.toArray.size = _; simp
end Go.Proofs.YtfefpcdgflgaeaaGreatDoor
end

section
namespace Go.Proofs.YtfefpcdgflgaeaaGreatDoor
open Go.RowKit As
/-- The string of a slice that was built of bytes. -/
theorem string_new {P : Program} (w : World) (src e dst t : TypeId) (vs : Array Value) (l : List UInt8) (n : Nat) (hv : vs = (l.map byteV).toArray) (hn : n = l.length) (hs : P.underlying src = some (.slice e)) (he : P.underlying e = some (.int .u8)) (hd : P.underlying dst = some .string) :
  (convert src dst (.slice (some ⟨w.heap.size, 0, none⟩) n n)).run P (w.alloc (.cells vs t)) = .ok (.string (strOf l)) (w.alloc (.cells vs t)) := by
 subst hv hn
 refine string_of _ src e dst _ _ l hs he hd fun i hi => ⟨?_, ?_⟩
 ·rw [World.cell?_alloc_new]
  simp [List.getElem?_map, List.getElem?_eq_getElem hi]
 ·simp only [World.alloc, World.frozen?, Array.getElem?_push_size]
  simp
theorem u8_low (n : Nat) : IntKind.u8.wrap (n : Int) = ((UInt8.ofNat (n % 256)).toNat : Int) := by
 rw [IntKind.wrap_u8']
 have : (UInt8.ofNat (n % 256)).toNat = n % 256 := by simp
 rw [this]; omega
set_option maxRecDepth 100000 in
theorem seal_any (s : ByteArray) (w : World) (hs : s.size ≤ 1000000) :
  Calls Tryz.prog 42 #[.string s] w fun e w' => e = .returned (.string (sealOf s)) ∧ Below w.heap.size w w' := by
 obtain ⟨n, hn⟩ : ∃ n, n = crcOf s := ⟨_, rfl⟩
 have hlt := crcOf_lt s
 rw [← hn] at hlt
 have HN := Lib.hid hn
 clear hn
 go_enter Tryz.func42, Tryz.ntmps42
 go_wp2_with fail
 refine (Crc.sum_any s w (by unfold maxLen; omega)).mono ?_
 rintro e w' ⟨rfl, rfl⟩
 rw [show Crc.more 0 s.data.toList = n from HN.out.symm]
 go_wp2_with fail
 rw [string_new w 69 5 9 5 _ (lowB 4 n) 4 (by rw [lowB_four]; simp [byteV]; omega) (lowB_len 4 n).symm Tryz.underlying69 Tryz.underlying5 Tryz.underlying9]
 have h4 : (strOf (lowB 4 n)).size = 4 := four_size n
 generalize hF : strOf (lowB 4 n) = F at *
 have HF := Lib.hid hF
 clear hF
 have hcat : s.size + F.size ≤ 9223372036854775807 := by omega
 go_wp2_with fail
 go_ret
 exact ⟨by unfold sealOf four; rw [← HN.out, HF.out]; rfl, below1 _ _⟩
set_option maxRecDepth 100000 in
theorem rseal_any (s : ByteArray) (w : World) (hs : s.size ≤ 1000000) :
  Calls Tryz.prog 43 #[.string s] w fun e w' => e = .returned (.string (sealOf s)) ∧ Below w.heap.size w w' := by
 obtain ⟨n, hn⟩ : ∃ n, n = crcOf s := ⟨_, rfl⟩
 have hlt := crcOf_lt s
 rw [← hn] at hlt
 have HN := Lib.hid hn
 clear hn
 have h0 := Lib.hid (strOf_nil s)
 go_enter Tryz.func43, Tryz.ntmps43
 go_wp2_with fail
 refine (Crc.rsum_any s w (by omega)).mono ?_
 rintro e w' ⟨rfl, rfl⟩
 rw [show Crc.more 0 s.data.toList = n from HN.out.symm]
 go_wp2
 go_loopw [0, 3, 6] (fun a m i wr => ∃ k : Nat, k ≤ 4 ∧ i = .int .i64 k ∧ m = .int .u32 ((n / 256 ^ k : Nat) : Int) ∧ a = .string (s ++ strOf (lowB k n)) ∧ Below w.heap.size w wr) (fun _ _ i _ => 4 - (intOf i).toNat)
 case atStart => exact ⟨0, by omega, rfl, by simp, by rw [show lowB 0 n = [] from rfl, h0.out], Below.refl _ _⟩
 case round =>
  obtain ⟨k, hk, rfl, rfl, rfl, hbel⟩ := hrel
  have hB := hbel.size
  by_cases hlt : k < 4
  ·have hsn := Lib.hid (lowB_snoc k n)
   have hl := lowB_len k n
   obtain ⟨m, hm⟩ : ∃ m, m = n / 256 ^ k := ⟨_, rfl⟩
   have hmn : m ≤ n := by rw [hm]; exact Nat.div_le_self _ _
   rw [← hm]
   have hnx := Lib.hid (show n / 256 ^ (k + 1) = m / 256 by rw [hm, Nat.div_div_eq_div_mul, Nat.pow_succ])
   have HM := Lib.hid hm
   clear hm
   have hsz : (s ++ strOf (lowB k n)).size = s.size + k := by rw [ByteArray.size_append, strOf_len (lowB k n), hl]
   obtain ⟨T, hT⟩ : ∃ T, T = s ++ strOf (lowB k n) := ⟨_, rfl⟩
   rw [← hT] at hsz ⊢
   have HT := Lib.hid hT
   clear hT
   go_wp2_with fail
   rw [string_new wr 69 5 9 5 _ [UInt8.ofNat (m % 256)] 1 (by simp [byteV]) rfl Tryz.underlying69 Tryz.underlying5 Tryz.underlying9]
   have h1 : (strOf [UInt8.ofNat (m % 256)]).size = 1 := rfl
   generalize hF : strOf [UInt8.ofNat (m % 256)] = F at *
   have HF := Lib.hid hF
   clear hF
   have hcat : T.size + F.size ≤ 9223372036854775807 := by omega
   go_wp2_with fail
   go_roundw
   case rel => exact ⟨k + 1, by omega, by go_num, valI (by rw [hnx.out]; omega), by rw [HT.out, hsn.out, strOf_add, ← str_assoc, ← HF.out, HM.out], hbel.alloc hB _⟩
   case measure => simp [intOf]; omega
  ·obtain rfl : k = 4 := by omega
   go_wp2_with fail
   go_ret
   exact ⟨by unfold sealOf; rw [← HN.out]; rfl, hbel⟩
set_option maxRecDepth 100000 in
theorem open_any (s : ByteArray) (w : World) (hs : s.size ≤ 1000000) :
  Calls Tryz.prog 62 #[.string s] w fun e w' => e = .returned (.tuple #[.string (openOf s).1, errV (openOf s).2]) ∧ Below w.heap.size w w' := by
 by_cases h4 : s.size < 4
 ·have H := Lib.hid (open_short h4)
  have hd : decide (s.size < 4) = true := by simpa using h4
  go_enter Tryz.func62, Tryz.ntmps62
  go_wp2
  go_ret2
  exact ⟨by rw [H.out]; rfl, Below.refl _ _⟩
 ·have hd : decide (s.size < 4) = false := by simpa using h4
  have hsz : (s.extract 0 (s.size - 4)).size = s.size - 4 := by rw [ByteArray.size_extract]; omega
  have he := Lib.hid (show (s.extract 0 (s.size - 4)).size ≤ 1000000 by omega)
  clear hsz
  by_cases hg : sealOf (s.extract 0 (s.size - 4)) = s
  ·have H := Lib.hid (open_good h4 hg)
   have Hg := Lib.hid hg
   clear hg
   go_enter Tryz.func62, Tryz.ntmps62
   go_wp2_with fail
   refine (seal_any _ w he.out).mono ?_
   rintro e w' ⟨rfl, hb⟩
   rw [Hg.out]
   go_wp2
   go_ret2
   exact ⟨by rw [H.out]; rfl, hb⟩
  ·have H := Lib.hid (open_bad h4 hg)
   obtain ⟨Z, hZ⟩ : ∃ Z, Z = sealOf (s.extract 0 (s.size - 4)) := ⟨_, rfl⟩
   rw [← hZ] at hg
   have HZ := Lib.hid hZ
   clear hZ
   have hne := toList_ne hg
   clear hg
   go_enter Tryz.func62, Tryz.ntmps62
   go_wp2_with fail
   refine (seal_any _ w he.out).mono ?_
   rintro e w' ⟨rfl, hb⟩
   rw [← HZ.out]
   go_wp2
   go_ret2
   exact ⟨by rw [H.out]; rfl, hb⟩
set_option maxRecDepth 100000 in
theorem ropen_any (s : ByteArray) (w : World) (hs : s.size ≤ 1000000) :
  Calls Tryz.prog 65 #[.string s] w fun e w' => e = .returned (.tuple #[.string (openOf s).1, .int .i64 (openOf s).2]) ∧ Below w.heap.size w w' := by
 by_cases h4 : s.size < 4
 ·have H := Lib.hid (open_short h4)
  have hd : decide (s.size < 4) = true := by simpa using h4
  go_enter Tryz.func65, Tryz.ntmps65
  go_wp2
  go_ret2
  exact ⟨by rw [H.out]; rfl, Below.refl _ _⟩
 ·have hd : decide (s.size < 4) = false := by simpa using h4
  have hsz : (s.extract 0 (s.size - 4)).size = s.size - 4 := by rw [ByteArray.size_extract]; omega
  have he := Lib.hid (show (s.extract 0 (s.size - 4)).size ≤ 1000000 by omega)
  clear hsz
  by_cases hg : sealOf (s.extract 0 (s.size - 4)) = s
  ·have H := Lib.hid (open_good h4 hg)
   have Hg := Lib.hid hg
   clear hg
   go_enter Tryz.func65, Tryz.ntmps65
   go_wp2_with fail
   refine (rseal_any _ w he.out).mono ?_
   rintro e w' ⟨rfl, hb⟩
   rw [Hg.out]
   go_wp2
   go_ret2
   exact ⟨by rw [H.out]; rfl, hb⟩
  ·have H := Lib.hid (open_bad h4 hg)
   obtain ⟨Z, hZ⟩ : ∃ Z, Z = sealOf (s.extract 0 (s.size - 4)) := ⟨_, rfl⟩
   rw [← hZ] at hg
   have HZ := Lib.hid hZ
   clear hZ
   have hne := toList_ne hg
   clear hg
   go_enter Tryz.func65, Tryz.ntmps65
   go_wp2_with fail
   refine (rseal_any _ w he.out).mono ?_
   rintro e w' ⟨rfl, hb⟩
   rw [← HZ.out]
   go_wp2
   go_ret2
   exact ⟨by rw [H.out]; rfl, hb⟩
end Go.Proofs.YtfefpcdgflgaeaaGreatDoor
end

section
namespace Go.Proofs.YtfefpcdgflgaeaaGreatDoor
theorem extract_rest (s : ByteArray) (p : Nat) (h : p ≤ s.size) : (s.extract p s.size).size = s.size - p := by rw [ByteArray.size_extract]; omega
theorem extract_twice (s : ByteArray) (p k n : Nat) (h : p ≤ s.size) (hn : n = s.size - p) : (s.extract p s.size).extract k n = s.extract (p + k) s.size := by
 subst hn
 rw [ByteArray.extract_extract]
 congr 1
 omega
theorem extract_all (s : ByteArray) : s.extract 0 s.size = s := by simp
end Go.Proofs.YtfefpcdgflgaeaaGreatDoor
end

section
namespace Go.Proofs.YtfefpcdgflgaeaaGreatDoor
open Go.RowKit As
/-- An error that is what a pair says. -/
abbrev ErrOf (w : World) (v : Value) (f : Int × Int) : Prop := ErrIs w v f.1 f.2
theorem ErrOf.of {w : World} {v : Value} {e p : Int} {f : Int × Int} (h : ErrIs w v e p) (hf : f = (e, p)) : ErrOf w v f := by subst hf; exact h
/-- within. -/
def inB (n lo hi : Int) : Bool := decide (lo ≤ n ∧ n ≤ hi)
theorem within_any (n lo hi : Int) (w : World) : Calls Tryz.prog 69 #[.int .i64 n, .int .i64 lo, .int .i64 hi] w fun e w' => e = .returned (.bool (inB n lo hi)) ∧ w = w' := by
 by_cases h1 : lo ≤ n
 ·by_cases h2 : n ≤ hi
  ·have hb : inB n lo hi = true := by unfold inB; simp [h1, h2]
   have Hb := Lib.hid hb
   clear hb
   go_enter Tryz.func69, Tryz.ntmps69
   go_wp2
   go_ret
   exact ⟨retB Hb.out.symm, rfl⟩
  ·have hb : inB n lo hi = false := by unfold inB; simp [h1, h2]
   have Hb := Lib.hid hb
   clear hb
   go_enter Tryz.func69, Tryz.ntmps69
   go_wp2
   go_ret
   exact ⟨retB Hb.out.symm, rfl⟩
 ·have hb : inB n lo hi = false := by unfold inB; simp [h1]
  have Hb := Lib.hid hb
  clear hb
  go_enter Tryz.func69, Tryz.ntmps69
  go_wp2
  go_ret
  exact ⟨retB Hb.out.symm, rfl⟩
theorem within_is {n lo hi : Int} {b : Bool} (h : Hid (inB n lo hi = b)) (w : World) : Calls Tryz.prog 69 #[.int .i64 n, .int .i64 lo, .int .i64 hi] w fun e w' => e = .returned (.bool b) ∧ w = w' :=
 (within_any n lo hi w).mono fun _ _ ⟨a, b⟩ => ⟨by rw [a]; exact retB h, b⟩
/-- A new block of two numbers, later on. -/
structure Two (w : World) (s : Nat) (a b : Int) : Prop where
 c0 : w.cell? ⟨s, 0, none⟩ = some (.int .i64 a)
 c1 : w.cell? ⟨s, 1, none⟩ = some (.int .i64 b)
 f0 : w.frozen? ⟨s, 0, none⟩ = false
 f1 : w.frozen? ⟨s, 1, none⟩ = false
theorem Two.new (w : World) (a b : Int) (t : TypeId) : Two (w.alloc (.cells #[.int .i64 a, .int .i64 b] t)) w.heap.size a b :=
 ⟨by rw [World.cell?_alloc_at _ _ _ _ rfl]; rfl, by rw [World.cell?_alloc_at _ _ _ _ rfl]; rfl, by simp, by simp⟩
theorem Two.lt {w : World} {s : Nat} {a b : Int} (h : Two w s a b) : s < w.heap.size := cell_lt h.c0
theorem Two.keep {w w' : World} {s B : Nat} {a b : Int} (h : Two w s a b) (hb : Below B w w') (hs : s < B) : Two w' s a b :=
 ⟨(hb.cell (p := ⟨s, 0, none⟩) hs).trans h.c0, (hb.cell (p := ⟨s, 1, none⟩) hs).trans h.c1, (hb.frozen (p := ⟨s, 0, none⟩) hs).trans h.f0, (hb.frozen (p := ⟨s, 1, none⟩) hs).trans h.f1⟩
theorem Two.below {w w' : World} {s : Nat} {a b : Int} (h : Two w s a b) (hb : Below w.heap.size w w') : Two w' s a b := h.keep hb h.lt
end Go.Proofs.YtfefpcdgflgaeaaGreatDoor
end

section
namespace Go.Proofs.YtfefpcdgflgaeaaGreatDoor
open Go.RowKit As
end Go.Proofs.YtfefpcdgflgaeaaGreatDoor
end

section
namespace Go.Proofs.YtfefpcdgflgaeaaGreatDoor
open Go.RowKit As
/-- How long a text is. -/
def strLen' : Value → Nat
 | .string s => s.size
 | _ => 0
theorem chkInfo : (Tryz.prog.info? 77).map (fun i => (i.zero, i.size, i.bytes)) = some (some (.agg #[.int .u32 0, .int .i64 0, .int .i64 0, .string ⟨#[]⟩]), 4, 40) := by kernel_rfl
abbrev chkV (l : List Chk) : List Value := l.flatMap chkCells
theorem chkV_snoc {w : World} {base : Nat} {E : TypeId} {v : Value} {l : List Chk} {x : Chk} {n : Nat} (hn : l.length = n) (h : w.ownsRow base E 4 v (n + 1) (chkV l ++ chkCells x)) : w.ownsRow base E 4 v (l ++ [x]).length (chkV (l ++ [x])) := by
 subst hn
 simpa [chkV, List.flatMap_append] using h
theorem cells_new4 (w : World) (a b c d : Value) (t : TypeId) : ∀ j u, ([a, b, c, d] : List Value)[j]? = some u → (w.alloc (.cells #[a, b, c, d] t)).cell? ((⟨w.heap.size, 0, none⟩ : Addr).add j) = some u := by
 intro j u hu
 have hadd : (⟨w.heap.size, 0, none⟩ : Addr).add j = ⟨w.heap.size, j, none⟩ := by unfold Addr.add; split <;> simp_all
 rw [hadd, World.cell?_alloc_new]
 simpa using hu
set_option maxHeartbeats 2000000 in
set_option maxRecDepth 100000 in
theorem cut_any (s : ByteArray) (z : Int) (w : World) (hs : s.size ≤ 1000000) :
  Calls Tryz.prog 55 #[.string s, .int .i64 z] w fun e w' => ∃ v, e = .returned (.tuple #[v, errV (cutOf s z).2]) ∧ w'.ownsRow w.heap.size 77 4 v (cutOf s z).1.length (chkV (cutOf s z).1) ∧ Below w.heap.size w w' := by
 obtain ⟨i0, hi, hz0, hz1, hz2⟩ := info_parts chkInfo
 by_cases h0 : s.size = 0 ∨ 4096 < s.size
 ·have hr := Lib.hid (cut_limit (z := z) h0)
  have hq : s.toList.isEmpty = true ∨ (s.toList.isEmpty = false ∧ decide (4096 < (s.size : Int)) = true) := by
   rw [str_empty']
   simp only [decide_eq_true_eq, decide_eq_false_iff_not]; omega
  clear h0
  rcases hq with d0 | ⟨d0, d1⟩
  all_goals
   go_enter Tryz.func55, Tryz.ntmps55
   go_wp2
   go_ret2
   refine ⟨_, by rw [hr.out]; rfl, ?_, Below.refl _ _⟩
   rw [hr.out]; exact World.ownsRow_nil _ _ _ _
 ·have d0 : s.toList.isEmpty = false := by rw [str_empty']; simp only [decide_eq_false_iff_not]; omega
  have d1 : decide (4096 < (s.size : Int)) = false := by simp only [decide_eq_false_iff_not]; omega
  by_cases h1 : z < 1 ∨ 256 < z
  ·have hr := Lib.hid (cut_range h0 h1)
   have hq : decide (z < 1) = true ∨ (decide (z < 1) = false ∧ decide (256 < z) = true) := by
    simp only [decide_eq_true_eq, decide_eq_false_iff_not]; omega
   clear h0 h1
   rcases hq with e0 | ⟨e0, e1⟩
   all_goals
    go_enter Tryz.func55, Tryz.ntmps55
    go_wp2
    go_ret2
    refine ⟨_, by rw [hr.out]; rfl, ?_, Below.refl _ _⟩
    rw [hr.out]; exact World.ownsRow_nil _ _ _ _
  ·obtain ⟨y, rfl⟩ := Int.eq_ofNat_of_zero_le (show 0 ≤ z by omega)
   have hr := Lib.hid (cut_good h0 h1)
   have e0 : decide ((y : Int) < 1) = false := by simp only [decide_eq_false_iff_not]; omega
   have e1 : decide (256 < (y : Int)) = false := by simp only [decide_eq_false_iff_not]; omega
   have hy0 : 0 < y := by omega
   have hy1 : y ≤ 256 := by omega
   have hs0 : 0 < s.size := by omega
   have hs1 : s.size ≤ 4096 := by omega
   clear h0 h1
   go_enter Tryz.func55, Tryz.ntmps55
   go_wp2
   go_loopw [6, 7] (fun v p wr => ∃ k q : Nat, p = .int .i64 q ∧ q ≤ s.size + y ∧ Hid (Cut s y k q) ∧ wr.ownsRow w.heap.size 77 4 v (pieces s y k).length (chkV (pieces s y k)) ∧ Below w.heap.size w wr) (fun _ p _ => s.size - (intOf p).toNat)
   case atStart => exact ⟨0, 0, rfl, by omega, Lib.hid (Cut.zero s y), World.ownsRow_nil _ _ _ _, Below.refl _ _⟩
   case round =>
    obtain ⟨k, q, rfl, hq, hc, hT, hbel⟩ := hrel
    have hB := hbel.size
    by_cases hlt : q < s.size
    ·have hnext := Lib.hid (hc.out.succ hlt)
     have hpc := Lib.hid hc.out.piece
     have hkq := hc.out.le hy0
     have hpl := pieces_len s y k
     obtain ⟨L, hL⟩ : ∃ L, L = pieces s y k := ⟨_, rfl⟩
     rw [← hL] at hT hpl
     rw [← hL] at hpc
     have HL := Lib.hid hL
     clear hL
     have w1 : IntKind.i64.wrap ((q : Int) + (y : Int)) = ((q + y : Nat) : Int) := IntWalk.i64_in _ (by omega)
     go_wp2_with fail
     have hmin : min (s.size : Int) ((q : Int) + (y : Int)) = ((min s.size (q + y) : Nat) : Int) := by omega
     have hq1 : q ≤ min s.size (q + y) := by omega
     have hq2 : min s.size (q + y) ≤ s.size := by omega
     have hi1 : (0 : Int) ≤ (q : Int) := by omega
     have hi2 : (q : Int) ≤ ((min s.size (q + y) : Nat) : Int) := by omega
     have hi3 : ((min s.size (q + y) : Nat) : Int) ≤ (s.size : Int) := by omega
     have HPC : Hid (pieces s y (k + 1) = L ++ [((Crc.more 0 s.data.toList : Int), (s.size : Int), (q : Int), s.extract q (min s.size (q + y)))]) := hpc
     clear hpc
     generalize hMM : min s.size (q + y) = M at *
     have HM := Lib.hid hMM
     clear hMM
     generalize hCC : Crc.more 0 s.data.toList = C at *
     have HC := Lib.hid hCC
     clear hCC
     go_region_held3 (fun wx => w.heap.size ≤ wx.heap.size) (first | assumption | exact hb1.size | (simp; omega))
      (first
       | (go_at_call 52; refine (Crc.sum_any s _ (by unfold maxLen; omega)).mono ?_; rintro e w' ⟨rfl, rfl⟩; rw [HC.out])
       | (refine step_append_own rfl (.tmp 32) (.tmp 48) 96 rfl w.heap.size 77 i0 (.agg #[.int .u32 0, .int .i64 0, .int .i64 0, .string ⟨#[]⟩]) 4 40 Tryz.underlying96 hi hz0 hz1 hz2 rfl (by decide) u6 L.length (chkV L) rfl (hT.alloc _) ⟨wr.heap.size, 0, none⟩ 1 1 [.int .u32 (C : Int), .int .i64 (s.size : Int), .int .i64 (q : Int), .string (s.extract q M)] rfl rfl (cells_new4 _ _ _ _ _ _) (by intro u hu; simp at hu; rcases hu with rfl | rfl | rfl | rfl <;> rfl) (by unfold maxLen; omega) (by omega) (by simp; omega) ?_; intro v1 w2 hT2 hg2; have hb1 := grown_own (hbel.alloc hB _).drew hg2 (by simp; omega) (hT.alloc _); have hT3 := chkV_snoc (x := ((C : Int), (s.size : Int), (q : Int), s.extract q M)) rfl hT2))
     all_goals
      clear hmin w1
      go_wp2
      go_roundw
      case rel => exact ⟨k + 1, q + y, by go_num, by omega, hnext, by rw [HPC.out]; exact hT3, hb1⟩
      case measure => simp [intOf]; omega
    ·have hdone := Lib.hid (hc.out.done hy0 (by omega) hs0)
     go_wp2
     go_ret2
     refine ⟨_, by rw [hr.out]; rfl, ?_, hbel⟩
     rw [hr.out, ← hdone.out]; exact hT
set_option maxHeartbeats 2000000 in
set_option maxRecDepth 100000 in
theorem rcut_any (s : ByteArray) (z : Int) (w : World) (hs : s.size ≤ 1000000) :
  Calls Tryz.prog 53 #[.string s, .int .i64 z] w fun e w' => ∃ v, e = .returned (.tuple #[v, .int .i64 (cutOf s z).2]) ∧ w'.ownsRow w.heap.size 77 4 v (cutOf s z).1.length (chkV (cutOf s z).1) ∧ Below w.heap.size w w' := by
 obtain ⟨i0, hi, hz0, hz1, hz2⟩ := info_parts chkInfo
 by_cases h0 : s.size = 0 ∨ 4096 < s.size
 ·have hr := Lib.hid (cut_limit (z := z) h0)
  have B0 := Lib.hid (show inB (s.size : Int) 1 4096 = false by unfold inB; rw [decide_eq_false]; omega)
  clear h0
  go_enter Tryz.func53, Tryz.ntmps53
  go_wp2_with fail
  refine (within_is B0 _).mono ?_
  rintro e w' ⟨rfl, rfl⟩
  go_wp2
  go_ret2
  refine ⟨_, by rw [hr.out]; rfl, ?_, Below.refl _ _⟩
  rw [hr.out]; exact World.ownsRow_nil _ _ _ _
 ·have B0 := Lib.hid (show inB (s.size : Int) 1 4096 = true by unfold inB; rw [decide_eq_true]; omega)
  by_cases h1 : z < 1 ∨ 256 < z
  ·have hr := Lib.hid (cut_range h0 h1)
   have B1 := Lib.hid (show inB z 1 256 = false by unfold inB; rw [decide_eq_false]; omega)
   clear h0 h1
   go_enter Tryz.func53, Tryz.ntmps53
   go_wp2_with fail
   refine (within_is B0 _).mono ?_
   rintro e w' ⟨rfl, rfl⟩
   go_wp2_with fail
   refine (within_is B1 _).mono ?_
   rintro e w' ⟨rfl, rfl⟩
   go_wp2
   go_ret2
   refine ⟨_, by rw [hr.out]; rfl, ?_, Below.refl _ _⟩
   rw [hr.out]; exact World.ownsRow_nil _ _ _ _
  ·obtain ⟨y, rfl⟩ := Int.eq_ofNat_of_zero_le (show 0 ≤ z by omega)
   have hr := Lib.hid (cut_good h0 h1)
   have B1 := Lib.hid (show inB (y : Int) 1 256 = true by unfold inB; rw [decide_eq_true]; omega)
   have hy0 : 0 < y := by omega
   have hy1 : y ≤ 256 := by omega
   have hs0 : 0 < s.size := by omega
   have hs1 : s.size ≤ 4096 := by omega
   clear h0 h1
   go_enter Tryz.func53, Tryz.ntmps53
   go_wp2_with fail
   refine (within_is B0 _).mono ?_
   rintro e w' ⟨rfl, rfl⟩
   go_wp2_with fail
   refine (within_is B1 _).mono ?_
   rintro e w' ⟨rfl, rfl⟩
   go_wp2_with fail
   refine (Crc.rsum_any s w (by omega)).mono ?_
   rintro e w' ⟨rfl, rfl⟩
   have hcc := Lib.hid (show (crcOf s : Int) = (Crc.more 0 s.data.toList : Int) from rfl)
   generalize hCC : Crc.more 0 s.data.toList = C at *
   clear hCC
   have hall := Lib.hid (extract_all s)
   go_wp2
   go_loopw [6, 8, 9] (fun v r _ wr => ∃ k q : Nat, r = .string (s.extract q s.size) ∧ q ≤ s.size ∧ Hid (∃ q', Cut s y k q' ∧ q = min s.size q') ∧ wr.ownsRow w.heap.size 77 4 v (pieces s y k).length (chkV (pieces s y k)) ∧ Below w.heap.size w wr) (fun _ r _ _ => strLen' r)
   case atStart => exact ⟨0, 0, by rw [hall.out], by omega, Lib.hid ⟨0, Cut.zero s y, by omega⟩, World.ownsRow_nil _ _ _ _, Below.refl _ _⟩
   case round =>
    obtain ⟨k, q, rfl, hq, hc0, hT, hbel⟩ := hrel
    obtain ⟨q', hc, hqq⟩ := hc0.out
    have HC := Lib.hid hc
    have hB := hbel.size
    have hrs := extract_rest s q hq
    by_cases hlt : q < s.size
    ·have hq2 : q' = q := by omega
     rw [hq2] at hc
     have hnext := Lib.hid (hc.succ hlt)
     have hpc := Lib.hid hc.piece
     have hkq := hc.le hy0
     clear hc HC hc0 hqq
     have hpl := pieces_len s y k
     obtain ⟨L, hL⟩ : ∃ L, L = pieces s y k := ⟨_, rfl⟩
     rw [← hL] at hT hpl hpc
     have HL := Lib.hid hL
     clear hL
     have hE : (s.extract q s.size).toList.isEmpty = false := by rw [str_empty', hrs, decide_eq_false]; omega
     have hmm : min (y : Int) ((s.size - q : Nat) : Int) = ((min y (s.size - q) : Nat) : Int) := by omega
     have hx1 := Lib.hid (extract_twice s q (min y (s.size - q)) (s.size - q) hq rfl)
     have hx2 := Lib.hid (show (s.extract q s.size).extract 0 (min y (s.size - q)) = s.extract q (min s.size (q + y)) by
      rw [ByteArray.extract_extract]; congr 1; omega)
     have hnq := Lib.hid (show q + min y (s.size - q) = min s.size (q + y) by omega)
     obtain ⟨R, hR⟩ : ∃ R, R = s.extract q s.size := ⟨_, rfl⟩
     rw [← hR] at hrs hE hx1 hx2 ⊢
     have HR := Lib.hid hR
     clear hR
     obtain ⟨M, hM⟩ : ∃ M, M = min y (s.size - q) := ⟨_, rfl⟩
     rw [← hM] at hmm hx1 hx2 hnq
     have hM1 : M ≤ s.size - q := by omega
     have hM0 : 0 < M := by omega
     have HM := Lib.hid hM
     clear hM
     have HPC : Hid (pieces s y (k + 1) = L ++ [((C : Int), (s.size : Int), (q : Int), R.extract 0 M)]) := Lib.hid (by rw [hpc.out, hx2.out, hcc.out])
     have hsub : (s.size : Int) - ((s.size - q : Nat) : Int) = (q : Int) := by omega
     clear hpc
     go_wp2_with (first
      | (at_builtin; refine wpList_append_own _ rfl (.tmp 26) (.tmp 39) 96 rfl w.heap.size 77 i0 (.agg #[.int .u32 0, .int .i64 0, .int .i64 0, .string ⟨#[]⟩]) 4 40 Tryz.underlying96 hi hz0 hz1 hz2 rfl (by decide) u6 L.length (chkV L) rfl (hT.alloc _) ⟨wr.heap.size, 0, none⟩ 1 1 [.int .u32 (C : Int), .int .i64 (s.size : Int), .int .i64 (q : Int), .string (R.extract 0 M)] rfl rfl (cells_new4 _ _ _ _ _ _) (by intro u hu; simp at hu; rcases hu with rfl | rfl | rfl | rfl <;> rfl) (by unfold maxLen; omega) (by omega) (by simp; omega) ?_; intro v1 w2 hT2 hg2 _; have hb1 := grown_own (hbel.alloc hB _) hg2 (by simp; omega) (hT.alloc _); have hT3 := chkV_snoc (x := ((C : Int), (s.size : Int), (q : Int), R.extract 0 M)) rfl hT2))
     go_roundw
     case rel => exact ⟨k + 1, q + M, by rw [hx1.out], by omega, Lib.hid ⟨q + y, hnext.out, hnq.out⟩, by rw [HPC.out]; exact hT3, hb1⟩
     case measure => simp only [strLen']; rw [ByteArray.size_extract]; omega
    ·have hdone := Lib.hid (hc.done hy0 (by omega) hs0)
     have hE : (s.extract q s.size).toList.isEmpty = true := by rw [str_empty', hrs, decide_eq_true]; omega
     obtain ⟨R, hR⟩ : ∃ R, R = s.extract q s.size := ⟨_, rfl⟩
     rw [← hR] at hE ⊢
     clear hR hrs HC hc hc0 hqq
     go_wp2
     go_ret2
     refine ⟨_, by rw [hr.out]; rfl, ?_, hbel⟩
     rw [hr.out, ← hdone.out]; exact hT
end Go.Proofs.YtfefpcdgflgaeaaGreatDoor
end

section
namespace Go.Proofs.YtfefpcdgflgaeaaGreatDoor
set_option linter.unusedSimpArgs false
open Go.RowKit As
abbrev ckV (m t a : Int) (d : ByteArray) : Value := .agg #[.int .u32 m, .int .i64 t, .int .i64 a, .string d]
abbrev ckO (m t a : Int) (d : ByteArray) : Obj := .cells #[.int .u32 m, .int .i64 t, .int .i64 a, .string d] 77
/-- The piece's cells, later on. -/
structure CkAt (w : World) (B : Nat) (m t a : Int) (d : ByteArray) : Prop where
 c0 : w.cell? ⟨B, 0, none⟩ = some (.int .u32 m)
 c1 : w.cell? ⟨B, 1, none⟩ = some (.int .i64 t)
 c2 : w.cell? ⟨B, 2, none⟩ = some (.int .i64 a)
 c3 : w.cell? ⟨B, 3, none⟩ = some (.string d)
theorem CkAt.new (w : World) (m t a : Int) (d : ByteArray) : CkAt (w.alloc (ckO m t a d)) w.heap.size m t a d := by
 refine ⟨?_, ?_, ?_, ?_⟩ <;> (rw [World.cell?_alloc_new]; rfl)
theorem CkAt.below {w w' : World} {B : Nat} {m t a : Int} {d : ByteArray} (h : CkAt w B m t a d) (hb : Below w.heap.size w w') : CkAt w' B m t a d :=
 ⟨(hb.cell (cell_lt h.c0)).trans h.c0, (hb.cell (cell_lt h.c1)).trans h.c1, (hb.cell (cell_lt h.c2)).trans h.c2, (hb.cell (cell_lt h.c3)).trans h.c3⟩
set_option maxHeartbeats 1000000 in
set_option maxRecDepth 100000 in
theorem ckright_any (m t a : Int) (d : ByteArray) (w : World) : Calls Tryz.prog 64 #[ckV m t a d] w fun r w' => r = .returned (errV (chkRight t a d.size)) ∧ Below w.heap.size w w' := by
 have hW := CkAt.new w m t a d
 by_cases h1 : t < 1 ∨ 4096 < t ∨ a < 0 ∨ t < a
 ·have hr := Lib.hid (show chkRight t a d.size = 2 by unfold chkRight; rw [if_pos h1])
  have hq : decide (t < 1) = true ∨ (decide (t < 1) = false ∧ decide (4096 < t) = true) ∨ (decide (t < 1) = false ∧ decide (4096 < t) = false ∧ decide (a < 0) = true) ∨ (decide (t < 1) = false ∧ decide (4096 < t) = false ∧ decide (a < 0) = false ∧ decide (t < a) = true) := by
   simp only [decide_eq_true_eq, decide_eq_false_iff_not]; omega
  clear h1
  obtain ⟨c0, c1, c2, c3⟩ := hW
  rcases hq with d0 | ⟨d0, d1⟩ | ⟨d0, d1, d2⟩ | ⟨d0, d1, d2, d3⟩
  all_goals
   go_enter Tryz.func64, Tryz.ntmps64
   go_wp2
   go_ret
   exact ⟨by rw [hr.out]; rfl, below1 _ _⟩
 ·have d0 : decide (t < 1) = false := by simp only [decide_eq_false_iff_not]; omega
  have d1 : decide (4096 < t) = false := by simp only [decide_eq_false_iff_not]; omega
  have d2 : decide (a < 0) = false := by simp only [decide_eq_false_iff_not]; omega
  have d3 : decide (t < a) = false := by simp only [decide_eq_false_iff_not]; omega
  by_cases h2 : d.size = 0 ∨ 256 < d.size
  ·have hr := Lib.hid (show chkRight t a d.size = 4 by unfold chkRight; rw [if_neg h1, if_pos h2])
   have hq : d.toList.isEmpty = true ∨ (d.toList.isEmpty = false ∧ decide (256 < (d.size : Int)) = true) := by
    rw [str_empty']
    simp only [decide_eq_true_eq, decide_eq_false_iff_not]; omega
   clear h1 h2
   obtain ⟨c0, c1, c2, c3⟩ := hW
   rcases hq with e0 | ⟨e0, e1⟩
   all_goals
    go_enter Tryz.func64, Tryz.ntmps64
    go_wp2
    go_ret
    exact ⟨by rw [hr.out]; rfl, below1 _ _⟩
  ·have e0 : d.toList.isEmpty = false := by rw [str_empty']; simp only [decide_eq_false_iff_not]; omega
   have e1 : decide (256 < (d.size : Int)) = false := by simp only [decide_eq_false_iff_not]; omega
   have w1 : IntKind.i64.wrap (t - a) = t - a := IntWalk.i64_in _ (by omega)
   by_cases h3 : t - a < (d.size : Int)
   ·have hr := Lib.hid (show chkRight t a d.size = 2 by unfold chkRight; rw [if_neg h1, if_neg h2, if_pos h3])
    have f0 : decide (t - a < (d.size : Int)) = true := by simp only [decide_eq_true_eq]; omega
    clear h1 h2 h3
    obtain ⟨c0, c1, c2, c3⟩ := hW
    go_enter Tryz.func64, Tryz.ntmps64
    go_wp2
    go_ret
    exact ⟨by rw [hr.out]; rfl, below1 _ _⟩
   ·have hr := Lib.hid (show chkRight t a d.size = 0 by unfold chkRight; rw [if_neg h1, if_neg h2, if_neg h3])
    have f0 : decide (t - a < (d.size : Int)) = false := by simp only [decide_eq_false_iff_not]; omega
    clear h1 h2 h3
    obtain ⟨c0, c1, c2, c3⟩ := hW
    go_enter Tryz.func64, Tryz.ntmps64
    go_wp2
    go_ret
    exact ⟨by rw [hr.out]; rfl, below1 _ _⟩
set_option maxHeartbeats 1000000 in
set_option maxRecDepth 100000 in
theorem rckright_any (m t a : Int) (d : ByteArray) (w : World) (hd : d.size ≤ 1000000000000) : Calls Tryz.prog 68 #[ckV m t a d] w fun r w' => r = .returned (.int .i64 (chkRight t a d.size)) ∧ Below w.heap.size w w' := by
 have hW := CkAt.new w m t a d
 by_cases h1 : t < 1 ∨ 4096 < t ∨ a < 0 ∨ t < a
 ·have hr := Lib.hid (show chkRight t a d.size = 2 by unfold chkRight; rw [if_pos h1])
  by_cases h0 : t < 1 ∨ 4096 < t
  ·have B0 := Lib.hid (show inB t 1 4096 = false by unfold inB; rw [decide_eq_false]; omega)
   clear h1 h0
   obtain ⟨c0, c1, c2, c3⟩ := hW
   go_enter Tryz.func68, Tryz.ntmps68
   go_wp2_with fail
   refine (within_is B0 _).mono ?_
   rintro e w' ⟨rfl, rfl⟩
   go_wp2
   go_ret
   exact ⟨by rw [hr.out]; rfl, below1 _ _⟩
  ·have B0 := Lib.hid (show inB t 1 4096 = true by unfold inB; rw [decide_eq_true]; omega)
   have B1 := Lib.hid (show inB a 0 t = false by unfold inB; rw [decide_eq_false]; omega)
   clear h1 h0
   obtain ⟨c0, c1, c2, c3⟩ := hW
   go_enter Tryz.func68, Tryz.ntmps68
   go_wp2_with fail
   refine (within_is B0 _).mono ?_
   rintro e w' ⟨rfl, rfl⟩
   go_wp2_with fail
   refine (within_is B1 _).mono ?_
   rintro e w' ⟨rfl, rfl⟩
   go_wp2
   go_ret
   exact ⟨by rw [hr.out]; rfl, below1 _ _⟩
 ·have B0 := Lib.hid (show inB t 1 4096 = true by unfold inB; rw [decide_eq_true]; omega)
  have B1 := Lib.hid (show inB a 0 t = true by unfold inB; rw [decide_eq_true]; omega)
  by_cases h2 : d.size = 0 ∨ 256 < d.size
  ·have hr := Lib.hid (show chkRight t a d.size = 4 by unfold chkRight; rw [if_neg h1, if_pos h2])
   have B2 := Lib.hid (show inB (d.size : Int) 1 256 = false by unfold inB; rw [decide_eq_false]; omega)
   clear h1 h2
   obtain ⟨c0, c1, c2, c3⟩ := hW
   go_enter Tryz.func68, Tryz.ntmps68
   go_wp2_with fail
   refine (within_is B0 _).mono ?_
   rintro e w' ⟨rfl, rfl⟩
   go_wp2_with fail
   refine (within_is B1 _).mono ?_
   rintro e w' ⟨rfl, rfl⟩
   go_wp2_with fail
   refine (within_is B2 _).mono ?_
   rintro e w' ⟨rfl, rfl⟩
   go_wp2
   go_ret
   exact ⟨by rw [hr.out]; rfl, below1 _ _⟩
  ·have B2 := Lib.hid (show inB (d.size : Int) 1 256 = true by unfold inB; rw [decide_eq_true]; omega)
   have w1 : IntKind.i64.wrap (a + (d.size : Int)) = a + (d.size : Int) := IntWalk.i64_in _ (by omega)
   by_cases h3 : t - a < (d.size : Int)
   ·have hr := Lib.hid (show chkRight t a d.size = 2 by unfold chkRight; rw [if_neg h1, if_neg h2, if_pos h3])
    have f0 : decide (t < a + (d.size : Int)) = true := by simp only [decide_eq_true_eq]; omega
    clear h1 h2 h3
    obtain ⟨c0, c1, c2, c3⟩ := hW
    go_enter Tryz.func68, Tryz.ntmps68
    go_wp2_with fail
    refine (within_is B0 _).mono ?_
    rintro e w' ⟨rfl, rfl⟩
    go_wp2_with fail
    refine (within_is B1 _).mono ?_
    rintro e w' ⟨rfl, rfl⟩
    go_wp2_with fail
    refine (within_is B2 _).mono ?_
    rintro e w' ⟨rfl, rfl⟩
    go_wp2
    go_ret
    exact ⟨by rw [hr.out]; rfl, below1 _ _⟩
   ·have hr := Lib.hid (show chkRight t a d.size = 0 by unfold chkRight; rw [if_neg h1, if_neg h2, if_neg h3])
    have f0 : decide (t < a + (d.size : Int)) = false := by simp only [decide_eq_false_iff_not]; omega
    clear h1 h2 h3
    obtain ⟨c0, c1, c2, c3⟩ := hW
    go_enter Tryz.func68, Tryz.ntmps68
    go_wp2_with fail
    refine (within_is B0 _).mono ?_
    rintro e w' ⟨rfl, rfl⟩
    go_wp2_with fail
    refine (within_is B1 _).mono ?_
    rintro e w' ⟨rfl, rfl⟩
    go_wp2_with fail
    refine (within_is B2 _).mono ?_
    rintro e w' ⟨rfl, rfl⟩
    go_wp2
    go_ret
    exact ⟨by rw [hr.out]; rfl, below1 _ _⟩
end Go.Proofs.YtfefpcdgflgaeaaGreatDoor
end
