/- The Go functions alike and Find of package match, and Find of the reference, compute what the plain functions of MatchLaw say. -/
import Derived.Test.YtglemfdnfaemiaaDoorProg
import Derived.Test.YtglemfdnfaemiaaDoorMatchLaw
import Derived.WalkKit
import Derived.WalkLawsBesides
import Derived.WalkSpells
import Derived.Outline
import Derived.Lib.Hide
import Derived.Deep.QuietTactic
import Derived.BigQuiet
import Derived.Deep.Draws
import Derived.IntWalk
namespace Go.Proofs.YtglemfdnfaemiaaDoor.Match
open Go.RowKit
theorem valI {k : IntKind} {a b : Int} (h : a = b) : Value.int k a = .int k b := by rw [h]

theorem get_eq (s : ByteArray) (a b : Nat) (ha : a < s.size) (hb : b < s.size) : (s.data.toList.getD a 0 == s.data.toList.getD b 0) = (((s[a].toNat : Int)) == ((s[b].toNat : Int))) := by
  have e : ∀ k (h : k < s.size), s.data.toList.getD k 0 = s[k] := fun k h => by
    have h' : k < s.data.toList.length := by simpa using h
    simp only [List.getD, List.getElem?_eq_getElem h', Option.getD_some]
    rfl
  rw [e a ha, e b hb, Bool.eq_iff_iff]
  simp only [beq_iff_eq]
  constructor
  · rintro h; rw [h]
  · intro h; exact UInt8.toNat_inj.1 (by omega)
theorem same_eq (s : ByteArray) (x y n : Nat) (h : y + n < s.size) (hx : x + n < s.size) : same s.data.toList x y n = (((s[x + n].toNat : Int)) == ((s[y + n].toNat : Int))) := by
  unfold same
  rw [get_eq s _ _ hx h, decide_eq_true (by simpa using h), Bool.true_and]
theorem same_end (s : ByteArray) (x y n : Nat) (h : ¬ y + n < s.size) : same s.data.toList x y n = false := by
  unfold same
  rw [decide_eq_false (by simpa using h), Bool.false_and]

theorem all_succ {l : List UInt8} {x y n : Nat} (h : ∀ j, j < n → same l x y j = true) (hn : same l x y n = true) : ∀ j, j < n + 1 → same l x y j = true := by
  intro j hj
  by_cases e : j = n
  · subst e; exact hn
  · exact h j (by omega)
theorem ret_alike (l : List UInt8) (x y n : Nat) (hn : n ≤ 67) (h : ∀ j, j < n → same l x y j = true) (h2 : n = 67 ∨ same l x y n = false) :
    Ending.returned (.int .i64 (n : Int)) = .returned (.int .i64 (alike l ((x : Int)).toNat ((y : Int)).toNat : Int)) := by
  rw [Int.toNat_natCast, Int.toNat_natCast]
  have e : alike l x y = n := upto_eq _ 67 0 n (fun j _ hj => h j hj) (Nat.zero_le _) (by omega) (h2.imp (by omega) id)
  rw [e]
theorem alike_any (s : ByteArray) (a b : Int) (w : World) (hs : s.size ≤ 1000000000) (ha : 0 ≤ a) (hab : a ≤ b) (hb : b < s.size) :
    Calls Tryd.prog 148 #[.string s, .int .i64 a, .int .i64 b, .int .i64 67] w fun e w' => e = .returned (.int .i64 (alike s.data.toList a.toNat b.toNat)) ∧ ∃ q, w' = w.drewN q := by
  obtain ⟨x, rfl⟩ := Int.eq_ofNat_of_zero_le ha
  obtain ⟨y, rfl⟩ := Int.eq_ofNat_of_zero_le (Int.le_trans ha hab)
  go_enter Tryd.func148, Tryd.ntmps148
  go_wp2
  go_loopw [9] (fun v wr => (∃ n : Nat, n ≤ 67 ∧ v = .int .i64 n ∧ ∀ j, j < n → same s.data.toList x y j = true) ∧ ∃ q, wr = w.drewN q) (fun v _ => 67 - (intOf v).toNat)
  case atStart => exact ⟨⟨0, by omega, rfl, fun j hj => by omega⟩, 0, rfl⟩
  case round =>
    obtain ⟨⟨n, hn, rfl, hall⟩, q, rfl⟩ := hrel
    have Hall := Lib.hid hall
    clear hall
    by_cases h1 : n < 67
    · have d1 : decide ((n : Int) < 67) = true := by simp; omega
      by_cases h2 : y + n < s.size
      · have hx : x + n < s.size := by omega
        have d2 : decide ((y : Int) + (n : Int) < (s.size : Int)) = true := by simp; omega
        have Hs := Lib.hid (same_eq s x y n h2 hx)
        have u1 : (0 : Int) ≤ (x : Int) + (n : Int) := by omega
        have u2 : (0 : Int) ≤ (y : Int) + (n : Int) := by omega
        have u3 : (x : Int) + (n : Int) < (s.size : Int) := by omega
        have u4 : (y : Int) + (n : Int) < (s.size : Int) := by omega
        have t1 : ((x : Int) + (n : Int)).toNat = x + n := by omega
        have t2 : ((y : Int) + (n : Int)).toNat = y + n := by omega
        have e1 : IntKind.i64.wrap ((y : Int) + (n : Int)) = (y : Int) + (n : Int) := IntWalk.i64_in _ (by omega)
        have e2 : IntKind.i64.wrap ((x : Int) + (n : Int)) = (x : Int) + (n : Int) := IntWalk.i64_in _ (by omega)
        by_cases h3 : ((s[x + n].toNat : Int) == (s[y + n].toNat : Int)) = true
        · go_wp2_with fail
          go_quiet (fail)
          go_wp2
          go_roundw
          case rel => exact ⟨⟨n + 1, by omega, by go_num, all_succ Hall.out (Hs.out.trans h3)⟩, q + nq, by first | rfl | rw [World.drewN_drewN]⟩
          case measure => simp [intOf]; omega
        · have h4 := Bool.eq_false_iff.2 h3
          clear h3
          go_wp2_with fail
          go_quiet (fail)
          go_wp2
          go_ret
          exact ⟨ret_alike _ _ _ n hn Hall.out (.inr (Hs.out.trans h4)), q + nq, by first | rfl | rw [World.drewN_drewN]⟩
      · have e1 : IntKind.i64.wrap ((y : Int) + (n : Int)) = (y : Int) + (n : Int) := IntWalk.i64_in _ (by omega)
        have d2 : decide ((y : Int) + (n : Int) < (s.size : Int)) = false := by simp; omega
        have Hs := Lib.hid (same_end s x y n h2)
        go_wp2_with fail
        go_quiet (fail)
        go_wp2
        go_ret
        exact ⟨ret_alike _ _ _ n hn Hall.out (.inr Hs.out), q + nq, by first | rfl | rw [World.drewN_drewN]⟩
    · have d1 : decide ((n : Int) < 67) = false := by simp; omega
      go_wp2_with fail
      go_quiet (fail)
      go_wp2
      go_ret
      exact ⟨ret_alike _ _ _ n hn Hall.out (.inl (by omega)), q + nq, by first | rfl | rw [World.drewN_drewN]⟩

def FindEnd (l : List UInt8) (p : Int) (w : World) (e : Ending) (w' : World) : Prop :=
  e = .returned (.tuple #[.int .i64 ((find l p.toNat).1 : Nat), .int .i64 ((find l p.toNat).2 : Nat)]) ∧ ∃ q, w' = w.drewN q
def FindOut (e : Ending) (w w' : World) : Prop := e = .returned (.tuple #[.int .i64 0, .int .i64 0]) ∧ ∃ q, w' = w.drewN q
theorem find_out (s : ByteArray) (p : Int) (w : World) (h : p < 0 ∨ (s.size : Int) ≤ p) :
    Calls Tryd.prog 135 #[.string s, .int .i64 p] w fun e w' => FindOut e w w' := by
  by_cases h0 : p < 0
  · go_enter Tryd.func135, Tryd.ntmps135
    go_wp2
    go_ret2
    exact ⟨rfl, 0, rfl⟩
  · have h1 : (s.size : Int) ≤ p := by omega
    have h2 : 0 ≤ p := by omega
    go_enter Tryd.func135, Tryd.ntmps135
    go_wp2
    go_ret2
    exact ⟨rfl, 0, rfl⟩
theorem min_if (i : Nat) : (if (1024 : Int) < (i : Int) then (1024 : Int) else (i : Int)) = ((min i 1024 : Nat) : Int) := by
  split <;> omega
theorem find_in_eq (l : List UInt8) (i : Nat) (h : i < l.length) : find l i = findTo l i (min i 1024) := by unfold find; rw [if_pos h]
theorem to_yes (l : List UInt8) (i n : Nat) (h1 : 1 ≤ n) (g4 : 4 ≤ alike l (i - n) i) (gb : (findTo l i (n - 1)).2 < alike l (i - n) i) : findTo l i n = (n, alike l (i - n) i) := by
  obtain ⟨k, rfl⟩ : ∃ k, n = k + 1 := ⟨n - 1, by omega⟩
  simp only [Nat.add_sub_cancel] at gb
  simp only [findTo]
  rw [if_pos ⟨g4, gb⟩]
theorem to_no (l : List UInt8) (i n : Nat) (h1 : 1 ≤ n) (g : ¬ (4 ≤ alike l (i - n) i ∧ (findTo l i (n - 1)).2 < alike l (i - n) i)) : findTo l i n = findTo l i (n - 1) := by
  obtain ⟨k, rfl⟩ : ∃ k, n = k + 1 := ⟨n - 1, by omega⟩
  simp only [Nat.add_sub_cancel] at g
  simp only [findTo, Nat.add_sub_cancel]
  rw [if_neg g]
theorem find_in (s : ByteArray) (i : Nat) (w : World) (hs : s.size ≤ 1000000000) (hi : i < s.size) :
    Calls Tryd.prog 135 #[.string s, .int .i64 (i : Int)] w fun e w' => FindEnd s.data.toList (i : Int) w e w' := by
  have hf := Lib.hid (find_in_eq s.data.toList i (by simpa using hi))
  obtain ⟨m, hm⟩ : ∃ m, m = min i 1024 := ⟨_, rfl⟩
  have hM := Lib.hid hm
  have hmi : m ≤ i := by omega
  have hm4 : m ≤ 1024 := by omega
  have b0 : decide ((i : Int) < 0) = false := by simp
  have b1 : decide (s.size ≤ i) = false := by simp; omega
  have hmin := min_if i
  rw [← hm] at hmin
  clear hm
  go_enter Tryd.func135, Tryd.ntmps135
  go_wp2
  go_loopw [4, 5, 6] (fun f b k wr => (∃ n : Nat, 1 ≤ n ∧ n ≤ m + 1 ∧ k = .int .i64 n ∧ f = .int .i64 (findTo s.data.toList i (n - 1)).1 ∧ b = .int .i64 (findTo s.data.toList i (n - 1)).2) ∧ ∃ q, wr = w.drewN q) (fun _ _ k _ => 1026 - (intOf k).toNat)
  case atStart => exact ⟨⟨1, by omega, by omega, rfl, rfl, rfl⟩, 0, rfl⟩
  case round =>
    obtain ⟨⟨n, hn1, hn, rfl, rfl, rfl⟩, q, rfl⟩ := hrel
    have hle := findTo_le s.data.toList i (n - 1)
    by_cases hlt : n ≤ m
    · go_wp2_with fail
      refine (alike_any s _ _ _ hs (by omega) (by omega) (by omega)).mono ?_
      rintro e w' ⟨rfl, q', rfl⟩
      have t1 : ((i : Int) - (n : Int)).toNat = i - n := by omega
      rw [t1, Int.toNat_natCast]
      clear t1
      have hal := alike_le s.data.toList (i - n) i
      by_cases g4 : 4 ≤ alike s.data.toList (i - n) i
      · by_cases gb : (findTo s.data.toList i (n - 1)).2 < alike s.data.toList (i - n) i
        · have hy := Lib.hid (to_yes s.data.toList i n hn1 g4 gb)
          go_wp2
          go_roundw
          case rel => exact ⟨⟨n + 1, by omega, by omega, by go_num, by rw [Nat.add_sub_cancel, hy.out], by rw [Nat.add_sub_cancel, hy.out]⟩, q + q', by first | rfl | rw [World.drewN_drewN]⟩
          case measure => simp [intOf]; omega
        · have hy := Lib.hid (to_no s.data.toList i n hn1 (fun h => gb h.2))
          go_wp2
          go_roundw
          case rel => exact ⟨⟨n + 1, by omega, by omega, by go_num, by rw [Nat.add_sub_cancel, hy.out], by rw [Nat.add_sub_cancel, hy.out]⟩, q + q', by first | rfl | rw [World.drewN_drewN]⟩
          case measure => simp [intOf]; omega
      · have hy := Lib.hid (to_no s.data.toList i n hn1 (fun h => g4 h.1))
        go_wp2
        go_roundw
        case rel => exact ⟨⟨n + 1, by omega, by omega, by go_num, by rw [Nat.add_sub_cancel, hy.out], by rw [Nat.add_sub_cancel, hy.out]⟩, q + q', by first | rfl | rw [World.drewN_drewN]⟩
        case measure => simp [intOf]; omega
    · obtain rfl : n = m + 1 := by omega
      go_wp2_with fail
      go_ret2
      refine ⟨?_, q, rfl⟩
      rw [Int.toNat_natCast, hf.out, ← hM.out]
      rfl
end Go.Proofs.YtglemfdnfaemiaaDoor.Match
