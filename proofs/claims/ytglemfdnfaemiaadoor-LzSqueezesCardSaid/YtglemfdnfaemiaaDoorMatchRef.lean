/- The Go functions within and Find of the reference compute what the plain functions of MatchLaw say. -/
import Derived.Test.YtglemfdnfaemiaaDoorMatchWalks
import Derived.Deep.DeepCutAuto
import Derived.Deep.Cut
import Derived.Deep.CutBlock
namespace Go.Proofs.YtglemfdnfaemiaaDoor.Match
open Go.RowKit
theorem within_any (n a b : Int) (w : World) :
    Calls Tryd.prog 90 #[.int .i64 n, .int .i64 a, .int .i64 b] w fun e w' => e = .returned (.bool (decide (a ≤ n) && decide (n ≤ b))) ∧ w = w' := by
  go_enter Tryd.func90, Tryd.ntmps90
  go_wp2
  · go_ret
    have h : a ≤ n := by omega
    exact ⟨by rw [decide_eq_true h, Bool.true_and]; rfl, rfl⟩
  · go_ret
    have h : ¬ a ≤ n := by omega
    exact ⟨by rw [decide_eq_false h, Bool.false_and]; rfl, rfl⟩
theorem rfind_out (s : ByteArray) (p : Int) (w : World) (h0s : s.size ≤ 1000000000) (h : p < 0 ∨ (s.size : Int) ≤ p) :
    Calls Tryd.prog 134 #[.string s, .int .i64 p] w fun e w' => FindOut e w w' := by
  have hc : (decide (0 ≤ p) && decide (p ≤ (s.size : Int) - 1)) = false := by
    rcases h with h | h
    · rw [decide_eq_false (by omega)]; rfl
    · rw [decide_eq_false (p := p ≤ (s.size : Int) - 1) (by omega), Bool.and_false]
  go_enter Tryd.func134, Tryd.ntmps134
  go_wp2_with fail
  refine (within_any _ _ _ _).mono ?_
  rintro e w' ⟨rfl, rfl⟩
  rw [hc]
  go_wp2
  go_ret2
  exact ⟨rfl, 0, rfl⟩
theorem down1 {A : Nat → Nat} {n hi f b : Nat} (h1 : 1 ≤ n) (hn : n ≤ hi) (h : Best A n hi f b) (g1 : b ≤ A n) (g4 : 4 ≤ A n) : Best A (n - 1) hi n (A n) := by
  obtain ⟨k, rfl⟩ : ∃ k, n = k + 1 := ⟨n - 1, by omega⟩
  exact h.down_yes hn g4 g1
theorem down2 {A : Nat → Nat} {n hi f b : Nat} (h1 : 1 ≤ n) (hn : n ≤ hi) (h : Best A n hi f b) (g : ¬ (b ≤ A n ∧ 4 ≤ A n)) : Best A (n - 1) hi f b := by
  obtain ⟨k, rfl⟩ : ∃ k, n = k + 1 := ⟨n - 1, by omega⟩
  exact h.down_no hn g
theorem numN {k : IntKind} {n : Nat} (h : 1 ≤ n) : Value.int k ((n : Int) - 1) = .int k ((n - 1 : Nat) : Int) := valI (by omega)
theorem val_alike (l : List UInt8) (x y n : Nat) (hn : n ≤ 67) (h : ∀ j, j < n → same l x y j = true) (h2 : n = 67 ∨ same l x y n = false) :
    Value.int .i64 (n : Int) = .int .i64 ((alike l x y : Nat) : Int) := by
  have e : alike l x y = n := upto_eq _ 67 0 n (fun j _ hj => h j hj) (Nat.zero_le _) (by omega) (h2.imp (by omega) id)
  rw [e]
theorem eqv_sym (a b : Int) : (a == b) = (b == a) := by rw [Bool.eq_iff_iff]; simp only [beq_iff_eq]; exact ⟨Eq.symm, Eq.symm⟩
theorem rfind_in (s : ByteArray) (i : Nat) (w : World) (hs : s.size ≤ 1000000000) (hi : i < s.size) :
    Calls Tryd.prog 134 #[.string s, .int .i64 (i : Int)] w fun e w' => FindEnd s.data.toList (i : Int) w e w' := by
  have hf := Lib.hid (find_in_eq s.data.toList i (by simpa using hi))
  have hc : (decide (0 ≤ (i : Int)) && decide ((i : Int) ≤ (s.size : Int) - 1)) = true := by
    rw [decide_eq_true (by omega), decide_eq_true (by omega)]; rfl
  obtain ⟨m, hm⟩ : ∃ m, m = min i 1024 := ⟨_, rfl⟩
  have hM := Lib.hid hm
  have hmi : m ≤ i := by omega
  have hm4 : m ≤ 1024 := by omega
  have hmin := min_if i
  rw [← hm] at hmin
  clear hm
  go_enter Tryd.func134, Tryd.ntmps134
  go_wp2_with fail
  refine (within_any _ _ _ _).mono ?_
  rintro e w' ⟨rfl, rfl⟩
  rw [hc]
  clear hc
  go_wp2
  go_loopw [6, 7, 8, 9] (fun b f k _ wr => (∃ n best far : Nat, n ≤ m ∧ k = .int .i64 n ∧ f = .int .i64 far ∧ b = .int .i64 best ∧ best ≤ 67 ∧ Best (fun k => alike s.data.toList (i - k) i) n m far best) ∧ ∃ q, wr = w.drewN q) (fun _ _ k _ _ => (intOf k).toNat)
  case atStart => exact ⟨⟨m, 0, 0, Nat.le_refl _, rfl, rfl, rfl, by omega, Best.start _ _⟩, 0, rfl⟩
  case round =>
    obtain ⟨⟨n, best, far, hn, rfl, rfl, rfl, hb67, hb⟩, q, rfl⟩ := hrel
    have Hb := Lib.hid hb
    clear hb
    by_cases hlt : 1 ≤ n
    · have dn : decide (1 ≤ n) = true := by simp; omega
      go_upto_block 2 with fail
      go_cut [9] (fun v wx => v = .int .i64 (alike s.data.toList (i - n) i : Nat) ∧ ∃ q', wx = w.drewN q')
      case first =>
        go_wp2_with fail
        go_loopw [9] (fun v wr => (∃ j : Nat, j ≤ 67 ∧ v = .int .i64 j ∧ ∀ k, k < j → same s.data.toList (i - n) i k = true) ∧ ∃ q, wr = w.drewN q) (fun v _ => 67 - (intOf v).toNat)
        case atStart => exact ⟨⟨0, by omega, rfl, fun j hj => by omega⟩, q, rfl⟩
        case round =>
          obtain ⟨⟨j, hj, rfl, hall⟩, q', rfl⟩ := hrel
          have Hall := Lib.hid hall
          clear hall
          by_cases h1 : j < 67
          · have d1 : decide ((j : Int) < 67) = true := by simp; omega
            by_cases h2 : i + j < s.size
            · have hx : i - n + j < s.size := by omega
              have d2 : decide ((i : Int) + (j : Int) < (s.size : Int)) = true := by simp; omega
              have Hs := Lib.hid ((same_eq s (i - n) i j h2 hx).trans (eqv_sym _ _))
              have u1 : (0 : Int) ≤ (i : Int) + (j : Int) - (n : Int) := by omega
              have u2 : (0 : Int) ≤ (i : Int) + (j : Int) := by omega
              have u3 : (i : Int) + (j : Int) - (n : Int) < (s.size : Int) := by omega
              have u4 : (i : Int) + (j : Int) < (s.size : Int) := by omega
              have u5 : (n : Int) ≤ (i : Int) + (j : Int) := by omega
              have u6 : n ≤ i + j := by omega
              have u7 : (i : Int) + (j : Int) < (s.size : Int) + (n : Int) := by omega
              have t1 : ((i : Int) + (j : Int) - (n : Int)).toNat = i - n + j := by omega
              have t2 : ((i : Int) + (j : Int)).toNat = i + j := by omega
              have e2 : IntKind.i64.wrap ((i : Int) + (j : Int) - (n : Int)) = (i : Int) + (j : Int) - (n : Int) := IntWalk.i64_in _ (by omega)
              have e1 : IntKind.i64.wrap ((i : Int) + (j : Int)) = (i : Int) + (j : Int) := IntWalk.i64_in _ (by omega)
              by_cases h3 : ((s[i + j].toNat : Int) == (s[i - n + j].toNat : Int)) = true
              · go_wp2_with fail
                go_quiet (fail)
                go_wp2
                go_roundw
                case rel => exact ⟨⟨j + 1, by omega, by go_num, all_succ Hall.out (Hs.out.trans h3)⟩, q' + nq, by first | rfl | rw [World.drewN_drewN]⟩
                case measure => simp [intOf]; omega
              · have h4 := Bool.eq_false_iff.2 h3
                clear h3
                go_wp2_with fail
                go_quiet (fail)
                go_wp2
                go_meet
                exact ⟨val_alike _ _ _ j hj Hall.out (.inr (Hs.out.trans h4)), q' + nq, by first | rfl | rw [World.drewN_drewN]⟩
            · have e1 : IntKind.i64.wrap ((i : Int) + (j : Int)) = (i : Int) + (j : Int) := IntWalk.i64_in _ (by omega)
              have d2 : decide ((i : Int) + (j : Int) < (s.size : Int)) = false := by simp; omega
              have Hs := Lib.hid (same_end s (i - n) i j h2)
              go_wp2_with fail
              go_quiet (fail)
              go_wp2
              go_meet
              exact ⟨val_alike _ _ _ j hj Hall.out (.inr Hs.out), q' + nq, by first | rfl | rw [World.drewN_drewN]⟩
          · have d1 : decide ((j : Int) < 67) = false := by simp; omega
            go_wp2_with fail
            go_quiet (fail)
            go_wp2
            go_meet
            exact ⟨val_alike _ _ _ j hj Hall.out (.inl (by omega)), q' + nq, by first | rfl | rw [World.drewN_drewN]⟩
      case rest =>
        obtain ⟨rfl, q', rfl⟩ := hcut
        have hal := alike_le s.data.toList (i - n) i
        by_cases g1 : best ≤ alike s.data.toList (i - n) i
        · by_cases g4 : 4 ≤ alike s.data.toList (i - n) i
          · go_wp2
            go_roundw
            case rel => exact ⟨⟨n - 1, _, n, by omega, numN hlt, rfl, rfl, hal, down1 hlt hn Hb.out g1 g4⟩, q', rfl⟩
            case measure => simp [intOf]; omega
          · go_wp2
            go_roundw
            case rel => exact ⟨⟨n - 1, _, _, by omega, numN hlt, rfl, rfl, hb67, down2 hlt hn Hb.out (fun h => g4 h.2)⟩, q', rfl⟩
            case measure => simp [intOf]; omega
        · go_wp2
          go_roundw
          case rel => exact ⟨⟨n - 1, _, _, by omega, numN hlt, rfl, rfl, hb67, down2 hlt hn Hb.out (fun h => g1 h.1)⟩, q', rfl⟩
          case measure => simp [intOf]; omega
    · obtain rfl : n = 0 := by omega
      go_wp2_with fail
      go_ret2
      refine ⟨?_, q, rfl⟩
      have hu := Best.uniq Hb.out (findTo_best s.data.toList i m)
      rw [Int.toNat_natCast, hf.out, ← hM.out, ← hu.1, ← hu.2]
      rfl
end Go.Proofs.YtglemfdnfaemiaaDoor.Match
