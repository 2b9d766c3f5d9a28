/- Plain facts on a text's tokens. No program in sight.

The Go functions alike and Find of package match, and Find of the reference, compute what the plain functions of MatchLaw say.

The Go functions within and Find of the reference compute what the plain functions of MatchLaw say.

The Go function Tokens of package match computes what the plain function tokens says.

The reference's Tokens computes what the plain function tokens says.

lz.Squeeze and Squeeze of the reference: a text's tokens as bytes.

The tokens of a text that is not too long are right, in plain Lean. No program in sight.

How far a replica is known: VectorOf of the reference. -/
import Derived.Test.YtkejlnjnoiidnaaGreatDoorZ1
import Derived.Test.YtkejlnjnoiidnaaGreatDoorZ4
import Derived.Test.YtkejlnjnoiidnaaGreatDoorProg
import Derived.WalkKit
import Derived.WalkLawsBesides
import Derived.WalkSpells
import Derived.Outline
import Derived.Lib.Hide
import Derived.Deep.QuietTactic
import Derived.BigQuiet
import Derived.Deep.Draws
import Derived.IntWalk
import Derived.Deep.DeepCutAuto
import Derived.Deep.Cut
import Derived.Deep.CutBlock
import Derived.Test.YtkejlnjnoiidnaaGreatDoorZ2
import Derived.OwnWalk
import Derived.Maps.AppendAt
import Derived.KernelRfl
import Derived.Laws.OwnMore
import Derived.StillTailTactics
section
namespace Go.Proofs.YtkejlnjnoiidnaaGreatDoor.Tokens
open Go.RowKit Match
structure St where
 at_ : Nat
 own : Nat
 done : List Tok
/-- What is told so far, the text of its own that still grows with it. -/
def flush (s : ByteArray) (x : St) : List Tok := if x.own < x.at_ then x.done ++ [(s.extract x.own x.at_, 0, 0)] else x.done
def step (s : ByteArray) (x : St) : St :=
 if x.at_ < s.size then
  if (find s.data.toList x.at_).2 = 0 then { x with at_ := x.at_ + 1 }
  else { at_ := x.at_ + (find s.data.toList x.at_).2, own := x.at_ + (find s.data.toList x.at_).2, done := flush s x ++ [(ByteArray.empty, ((find s.data.toList x.at_).1 : Int), ((find s.data.toList x.at_).2 : Int))] }
 else x
def st (s : ByteArray) : Nat → St
 | 0 => ⟨0, 0, []⟩
 | k + 1 => step s (st s k)
def tokens (s : ByteArray) : List Tok := flush s (st s s.size)
theorem alike_end (l : List UInt8) (a b : Nat) (hb : b ≤ l.length) : b + alike l a b ≤ l.length := by
 rcases Nat.eq_zero_or_pos (alike l a b) with h | h
 ·omega
 ·have := upto_holds (same l a b) 67 0 (alike l a b - 1) (Nat.zero_le _) (by unfold alike at h ⊢; omega)
  unfold same at this
  simp at this
  omega
theorem findTo_end (l : List UInt8) (i k : Nat) (hi : i ≤ l.length) : i + (findTo l i k).2 ≤ l.length := by
 induction k with
 | zero => exact hi
 | succ k ih =>
  simp only [findTo]
  split
  ·exact alike_end l _ i hi
  ·exact ih
theorem find_end (l : List UInt8) (i : Nat) (hi : i ≤ l.length) : i + (find l i).2 ≤ l.length := by
 unfold find
 split
 ·exact findTo_end l i _ hi
 ·exact hi
theorem find_le (l : List UInt8) (i : Nat) : (find l i).1 ≤ 1024 ∧ (find l i).2 ≤ 67 := by
 unfold find
 split
 ·have := findTo_le l i (min i 1024); omega
 ·simp
theorem flush_len (s : ByteArray) (x : St) (h : x.done.length ≤ x.own) (ho : x.own ≤ x.at_) : (flush s x).length ≤ x.at_ := by
 unfold flush
 split
 ·simp; omega
 ·omega
theorem st_inv (s : ByteArray) (k : Nat) : (st s k).own ≤ (st s k).at_ ∧ (st s k).at_ ≤ s.size ∧ (st s k).done.length ≤ (st s k).own ∧ (k ≤ (st s k).at_ ∨ (st s k).at_ = s.size) := by
 induction k with
 | zero => exact ⟨Nat.le_refl _, Nat.zero_le _, Nat.le_refl _, .inl (Nat.le_refl _)⟩
 | succ k ih =>
  obtain ⟨h1, h2, h3, h4⟩ := ih
  have e : st s (k + 1) = step s (st s k) := rfl
  rw [e]
  clear e
  generalize st s k = x at *
  unfold step
  by_cases hlt : x.at_ < s.size
  ·rw [if_pos hlt]
   by_cases hz : (find s.data.toList x.at_).2 = 0
   ·rw [if_pos hz]
    exact ⟨by simp; omega, by simp; omega, h3, by simp; omega⟩
   ·rw [if_neg hz]
    have he := find_end s.data.toList x.at_ (by simpa using h2)
    have hf := flush_len s x h3 h1
    refine ⟨Nat.le_refl _, by simpa using he, by simp; omega, ?_⟩
    simp only
    omega
  ·rw [if_neg hlt]
   exact ⟨h1, h2, h3, by omega⟩
theorem st_fix (s : ByteArray) (k j : Nat) (h : s.size ≤ (st s k).at_) : st s (k + j) = st s k := by
 induction j with
 | zero => rfl
 | succ j ih =>
  show step s (st s (k + j)) = st s k
  rw [ih]
  unfold step
  rw [if_neg (by omega)]
theorem st_end (s : ByteArray) (k : Nat) (h : s.size ≤ (st s k).at_) : flush s (st s k) = tokens s := by
 unfold tokens
 have h2 := (st_inv s s.size).2.2.2
 have h3 := (st_inv s s.size).2.1
 have hz : s.size ≤ (st s s.size).at_ := by omega
 rcases Nat.le_total k s.size with hk | hk
 ·have := st_fix s k (s.size - k) h
  rw [Nat.add_sub_cancel' hk] at this
  rw [this]
 ·have := st_fix s s.size (k - s.size) hz
  rw [Nat.add_sub_cancel' hk] at this
  rw [this]
theorem step_none (s : ByteArray) (x : St) (h : x.at_ < s.size) (hz : (find s.data.toList x.at_).2 = 0) : step s x = ⟨x.at_ + 1, x.own, x.done⟩ := by unfold step; rw [if_pos h, if_pos hz]
theorem step_some (s : ByteArray) (x : St) (h : x.at_ < s.size) (hz : (find s.data.toList x.at_).2 ≠ 0) :
  step s x = ⟨x.at_ + (find s.data.toList x.at_).2, x.at_ + (find s.data.toList x.at_).2, flush s x ++ [(ByteArray.empty, ((find s.data.toList x.at_).1 : Int), ((find s.data.toList x.at_).2 : Int))]⟩ := by unfold step; rw [if_pos h, if_neg hz]
theorem flush_own (s : ByteArray) (x : St) (h : x.own < x.at_) : flush s x = x.done ++ [(s.extract x.own x.at_, 0, 0)] := by unfold flush; rw [if_pos h]
theorem flush_no (s : ByteArray) (x : St) (h : ¬ x.own < x.at_) : flush s x = x.done := by unfold flush; rw [if_neg h]
theorem tokens_len (s : ByteArray) : (tokens s).length ≤ s.size := by
 have := st_inv s s.size
 have h := flush_len s (st s s.size) this.2.2.1 this.1
 unfold tokens
 omega
theorem st_succ (s : ByteArray) (k : Nat) : st s (k + 1) = step s (st s k) := rfl
end Go.Proofs.YtkejlnjnoiidnaaGreatDoor.Tokens
end

section
namespace Go.Proofs.YtkejlnjnoiidnaaGreatDoor.Match
open Go.RowKit
theorem valI {k : IntKind} {a b : Int} (h : a = b) : Value.int k a = .int k b := by rw [h]

theorem get_eq (s : ByteArray) (a b : Nat) (ha : a < s.size) (hb : b < s.size) : (s.data.toList.getD a 0 == s.data.toList.getD b 0) = (((s[a].toNat : Int)) == ((s[b].toNat : Int))) := by
 have e : ∀ k (h : k < s.size), s.data.toList.getD k 0 = s[k] := fun k h => by
  have h' : k < s.data.toList.length := by simpa using h
  simp only [List.getD, List.getElem?_eq_getElem h', Option.getD_some]
  rfl
 rw [e a ha, e b hb, Bool.eq_iff_iff]
 simp only [beq_iff_eq]
 constructor
 ·rintro h; rw [h]
 ·intro h; exact UInt8.toNat_inj.1 (by omega)
theorem same_eq (s : ByteArray) (x y n : Nat) (h : y + n < s.size) (hx : x + n < s.size) : same s.data.toList x y n = (((s[x + n].toNat : Int)) == ((s[y + n].toNat : Int))) := by
 unfold same
 rw [get_eq s _ _ hx h, decide_eq_true (by simpa using h), Bool.true_and]
theorem same_end (s : ByteArray) (x y n : Nat) (h : ¬ y + n < s.size) : same s.data.toList x y n = false := by
 unfold same
 rw [decide_eq_false (by simpa using h), Bool.false_and]

theorem all_succ {l : List UInt8} {x y n : Nat} (h : ∀ j, j < n → same l x y j = true) (hn : same l x y n = true) : ∀ j, j < n + 1 → same l x y j = true := by
 intro j hj
 by_cases e : j = n
 ·subst e; exact hn
 ·exact h j (by omega)
theorem ret_alike (l : List UInt8) (x y n : Nat) (hn : n ≤ 67) (h : ∀ j, j < n → same l x y j = true) (h2 : n = 67 ∨ same l x y n = false) :
  Ending.returned (.int .i64 (n : Int)) = .returned (.int .i64 (alike l ((x : Int)).toNat ((y : Int)).toNat : Int)) := by
 rw [Int.toNat_natCast, Int.toNat_natCast]
 have e : alike l x y = n := upto_eq _ 67 0 n (fun j _ hj => h j hj) (Nat.zero_le _) (by omega) (h2.imp (by omega) id)
 rw [e]
theorem alike_any (s : ByteArray) (a b : Int) (w : World) (hs : s.size ≤ 1000000000) (ha : 0 ≤ a) (hab : a ≤ b) (hb : b < s.size) :
  Calls Tryz.prog 149 #[.string s, .int .i64 a, .int .i64 b, .int .i64 67] w fun e w' => e = .returned (.int .i64 (alike s.data.toList a.toNat b.toNat)) ∧ ∃ q, w' = w.drewN q := by
 obtain ⟨x, rfl⟩ := Int.eq_ofNat_of_zero_le ha
 obtain ⟨y, rfl⟩ := Int.eq_ofNat_of_zero_le (Int.le_trans ha hab)
 go_enter Tryz.func149, Tryz.ntmps149
 go_wp2
 go_loopw [9] (fun v wr => (∃ n : Nat, n ≤ 67 ∧ v = .int .i64 n ∧ ∀ j, j < n → same s.data.toList x y j = true) ∧ ∃ q, wr = w.drewN q) (fun v _ => 67 - (intOf v).toNat)
 case atStart => exact ⟨⟨0, by omega, rfl, fun j hj => by omega⟩, 0, rfl⟩
 case round =>
  obtain ⟨⟨n, hn, rfl, hall⟩, q, rfl⟩ := hrel
  have Hall := Lib.hid hall
  clear hall
  by_cases h1 : n < 67
  ·have d1 : decide ((n : Int) < 67) = true := by simp; omega
   by_cases h2 : y + n < s.size
   ·have hx : x + n < s.size := by omega
    have d2 : decide ((y : Int) + (n : Int) < (s.size : Int)) = true := by simp; omega
    have Hs := Lib.hid (same_eq s x y n h2 hx)
    have u1 : (0 : Int) ≤ (x : Int) + (n : Int) := by omega
    have u2 : (0 : Int) ≤ (y : Int) + (n : Int) := by omega
    have u3 : (x : Int) + (n : Int) < (s.size : Int) := by omega
    have u4 : (y : Int) + (n : Int) < (s.size : Int) := by omega
    have t1 : ((x : Int) + (n : Int)).toNat = x + n := by omega
    have t2 : ((y : Int) + (n : Int)).toNat = y + n := by omega
    have e1 : IntKind.i64.wrap ((y : Int) + (n : Int)) = (y : Int) + (n : Int) := IntWalk.i64_in _ (by omega)
    have e2 : IntKind.i64.wrap ((x : Int) + (n : Int)) = (x : Int) + (n : Int) := IntWalk.i64_in _ (by omega)
    by_cases h3 : ((s[x + n].toNat : Int) == (s[y + n].toNat : Int)) = true
    ·go_wp2_with fail
     go_quiet (fail)
     go_wp2
     go_roundw
     case rel => exact ⟨⟨n + 1, by omega, by go_num, all_succ Hall.out (Hs.out.trans h3)⟩, q + nq, by first | rfl | rw [World.drewN_drewN]⟩
     case measure => simp [intOf]; omega
    ·have h4 := Bool.eq_false_iff.2 h3
     clear h3
     go_wp2_with fail
     go_quiet (fail)
     go_wp2
     go_ret
     exact ⟨ret_alike _ _ _ n hn Hall.out (.inr (Hs.out.trans h4)), q + nq, by first | rfl | rw [World.drewN_drewN]⟩
   ·have e1 : IntKind.i64.wrap ((y : Int) + (n : Int)) = (y : Int) + (n : Int) := IntWalk.i64_in _ (by omega)
    have d2 : decide ((y : Int) + (n : Int) < (s.size : Int)) = false := by simp; omega
    have Hs := Lib.hid (same_end s x y n h2)
    go_wp2_with fail
    go_quiet (fail)
    go_wp2
    go_ret
    exact ⟨ret_alike _ _ _ n hn Hall.out (.inr Hs.out), q + nq, by first | rfl | rw [World.drewN_drewN]⟩
  ·have d1 : decide ((n : Int) < 67) = false := by simp; omega
   go_wp2_with fail
   go_quiet (fail)
   go_wp2
   go_ret
   exact ⟨ret_alike _ _ _ n hn Hall.out (.inl (by omega)), q + nq, by first | rfl | rw [World.drewN_drewN]⟩

def FindEnd (l : List UInt8) (p : Int) (w : World) (e : Ending) (w' : World) : Prop :=
 e = .returned (.tuple #[.int .i64 ((find l p.toNat).1 : Nat), .int .i64 ((find l p.toNat).2 : Nat)]) ∧ ∃ q, w' = w.drewN q
theorem min_if (i : Nat) : (if (1024 : Int) < (i : Int) then (1024 : Int) else (i : Int)) = ((min i 1024 : Nat) : Int) := by
 split <;> omega
theorem find_in_eq (l : List UInt8) (i : Nat) (h : i < l.length) : find l i = findTo l i (min i 1024) := by unfold find; rw [if_pos h]
theorem to_yes (l : List UInt8) (i n : Nat) (h1 : 1 ≤ n) (g4 : 4 ≤ alike l (i - n) i) (gb : (findTo l i (n - 1)).2 < alike l (i - n) i) : findTo l i n = (n, alike l (i - n) i) := by
 obtain ⟨k, rfl⟩ : ∃ k, n = k + 1 := ⟨n - 1, by omega⟩
 simp only [Nat.add_sub_cancel] at gb
 simp only [findTo]
 rw [if_pos ⟨g4, gb⟩]
theorem to_no (l : List UInt8) (i n : Nat) (h1 : 1 ≤ n) (g : ¬ (4 ≤ alike l (i - n) i ∧ (findTo l i (n - 1)).2 < alike l (i - n) i)) : findTo l i n = findTo l i (n - 1) := by
 obtain ⟨k, rfl⟩ : ∃ k, n = k + 1 := ⟨n - 1, by omega⟩
 simp only [Nat.add_sub_cancel] at g
 simp only [findTo, Nat.add_sub_cancel]
 rw [if_neg g]
theorem find_in (s : ByteArray) (i : Nat) (w : World) (hs : s.size ≤ 1000000000) (hi : i < s.size) :
  Calls Tryz.prog 131 #[.string s, .int .i64 (i : Int)] w fun e w' => FindEnd s.data.toList (i : Int) w e w' := by
 have hf := Lib.hid (find_in_eq s.data.toList i (by simpa using hi))
 obtain ⟨m, hm⟩ : ∃ m, m = min i 1024 := ⟨_, rfl⟩
 have hM := Lib.hid hm
 have hmi : m ≤ i := by omega
 have hm4 : m ≤ 1024 := by omega
 have b0 : decide ((i : Int) < 0) = false := by simp
 have b1 : decide (s.size ≤ i) = false := by simp; omega
 have hmin := min_if i
 rw [← hm] at hmin
 clear hm
 go_enter Tryz.func131, Tryz.ntmps131
 go_wp2
 go_loopw [4, 5, 6] (fun f b k wr => (∃ n : Nat, 1 ≤ n ∧ n ≤ m + 1 ∧ k = .int .i64 n ∧ f = .int .i64 (findTo s.data.toList i (n - 1)).1 ∧ b = .int .i64 (findTo s.data.toList i (n - 1)).2) ∧ ∃ q, wr = w.drewN q) (fun _ _ k _ => 1026 - (intOf k).toNat)
 case atStart => exact ⟨⟨1, by omega, by omega, rfl, rfl, rfl⟩, 0, rfl⟩
 case round =>
  obtain ⟨⟨n, hn1, hn, rfl, rfl, rfl⟩, q, rfl⟩ := hrel
  have hle := findTo_le s.data.toList i (n - 1)
  by_cases hlt : n ≤ m
  ·go_wp2_with fail
   refine (alike_any s _ _ _ hs (by omega) (by omega) (by omega)).mono ?_
   rintro e w' ⟨rfl, q', rfl⟩
   have t1 : ((i : Int) - (n : Int)).toNat = i - n := by omega
   rw [t1, Int.toNat_natCast]
   clear t1
   have hal := alike_le s.data.toList (i - n) i
   by_cases g4 : 4 ≤ alike s.data.toList (i - n) i
   ·by_cases gb : (findTo s.data.toList i (n - 1)).2 < alike s.data.toList (i - n) i
    ·have hy := Lib.hid (to_yes s.data.toList i n hn1 g4 gb)
     go_wp2
     go_roundw
     case rel => exact ⟨⟨n + 1, by omega, by omega, by go_num, by rw [Nat.add_sub_cancel, hy.out], by rw [Nat.add_sub_cancel, hy.out]⟩, q + q', by first | rfl | rw [World.drewN_drewN]⟩
     case measure => simp [intOf]; omega
    ·have hy := Lib.hid (to_no s.data.toList i n hn1 (fun h => gb h.2))
     go_wp2
     go_roundw
     case rel => exact ⟨⟨n + 1, by omega, by omega, by go_num, by rw [Nat.add_sub_cancel, hy.out], by rw [Nat.add_sub_cancel, hy.out]⟩, q + q', by first | rfl | rw [World.drewN_drewN]⟩
     case measure => simp [intOf]; omega
   ·have hy := Lib.hid (to_no s.data.toList i n hn1 (fun h => g4 h.1))
    go_wp2
    go_roundw
    case rel => exact ⟨⟨n + 1, by omega, by omega, by go_num, by rw [Nat.add_sub_cancel, hy.out], by rw [Nat.add_sub_cancel, hy.out]⟩, q + q', by first | rfl | rw [World.drewN_drewN]⟩
    case measure => simp [intOf]; omega
  ·obtain rfl : n = m + 1 := by omega
   go_wp2_with fail
   go_ret2
   refine ⟨?_, q, rfl⟩
   rw [Int.toNat_natCast, hf.out, ← hM.out]
   rfl
end Go.Proofs.YtkejlnjnoiidnaaGreatDoor.Match
end

section
namespace Go.Proofs.YtkejlnjnoiidnaaGreatDoor.Match
open Go.RowKit
theorem within_any (n a b : Int) (w : World) :
  Calls Tryz.prog 54 #[.int .i64 n, .int .i64 a, .int .i64 b] w fun e w' => e = .returned (.bool (decide (a ≤ n) && decide (n ≤ b))) ∧ w = w' := by
 go_enter Tryz.func54, Tryz.ntmps54
 go_wp2
 ·go_ret
  have h : a ≤ n := by omega
  exact ⟨by rw [decide_eq_true h, Bool.true_and]; rfl, rfl⟩
 ·go_ret
  have h : ¬ a ≤ n := by omega
  exact ⟨by rw [decide_eq_false h, Bool.false_and]; rfl, rfl⟩
theorem down1 {A : Nat → Nat} {n hi f b : Nat} (h1 : 1 ≤ n) (hn : n ≤ hi) (h : Best A n hi f b) (g1 : b ≤ A n) (g4 : 4 ≤ A n) : Best A (n - 1) hi n (A n) := by
 obtain ⟨k, rfl⟩ : ∃ k, n = k + 1 := ⟨n - 1, by omega⟩
 exact h.down_yes hn g4 g1
theorem down2 {A : Nat → Nat} {n hi f b : Nat} (h1 : 1 ≤ n) (hn : n ≤ hi) (h : Best A n hi f b) (g : ¬ (b ≤ A n ∧ 4 ≤ A n)) : Best A (n - 1) hi f b := by
 obtain ⟨k, rfl⟩ : ∃ k, n = k + 1 := ⟨n - 1, by omega⟩
 exact h.down_no hn g
theorem numN {k : IntKind} {n : Nat} (h : 1 ≤ n) : Value.int k ((n : Int) - 1) = .int k ((n - 1 : Nat) : Int) := valI (by omega)
theorem val_alike (l : List UInt8) (x y n : Nat) (hn : n ≤ 67) (h : ∀ j, j < n → same l x y j = true) (h2 : n = 67 ∨ same l x y n = false) :
  Value.int .i64 (n : Int) = .int .i64 ((alike l x y : Nat) : Int) := by
 have e : alike l x y = n := upto_eq _ 67 0 n (fun j _ hj => h j hj) (Nat.zero_le _) (by omega) (h2.imp (by omega) id)
 rw [e]
theorem eqv_sym (a b : Int) : (a == b) = (b == a) := by rw [Bool.eq_iff_iff]; simp only [beq_iff_eq]; exact ⟨Eq.symm, Eq.symm⟩
theorem rfind_in (s : ByteArray) (i : Nat) (w : World) (hs : s.size ≤ 1000000000) (hi : i < s.size) :
  Calls Tryz.prog 129 #[.string s, .int .i64 (i : Int)] w fun e w' => FindEnd s.data.toList (i : Int) w e w' := by
 have hf := Lib.hid (find_in_eq s.data.toList i (by simpa using hi))
 have hc : (decide (0 ≤ (i : Int)) && decide ((i : Int) ≤ (s.size : Int) - 1)) = true := by
  rw [decide_eq_true (by omega), decide_eq_true (by omega)]; rfl
 obtain ⟨m, hm⟩ : ∃ m, m = min i 1024 := ⟨_, rfl⟩
 have hM := Lib.hid hm
 have hmi : m ≤ i := by omega
 have hm4 : m ≤ 1024 := by omega
 have hmin := min_if i
 have hmin2 : min (i : Int) 1024 = ((min i 1024 : Nat) : Int) := by omega
 rw [← hm] at hmin hmin2
 clear hm
 go_enter Tryz.func129, Tryz.ntmps129
 go_wp2_with fail
 refine (within_any _ _ _ _).mono ?_
 rintro e w' ⟨rfl, rfl⟩
 rw [hc]
 clear hc
 go_wp2
 go_loopw [6, 7, 8, 9] (fun b f k _ wr => (∃ n best far : Nat, n ≤ m ∧ k = .int .i64 n ∧ f = .int .i64 far ∧ b = .int .i64 best ∧ best ≤ 67 ∧ Best (fun k => alike s.data.toList (i - k) i) n m far best) ∧ ∃ q, wr = w.drewN q) (fun _ _ k _ _ => (intOf k).toNat)
 case atStart => exact ⟨⟨m, 0, 0, Nat.le_refl _, rfl, rfl, rfl, by omega, Best.start _ _⟩, 0, rfl⟩
 case round =>
  obtain ⟨⟨n, best, far, hn, rfl, rfl, rfl, hb67, hb⟩, q, rfl⟩ := hrel
  have Hb := Lib.hid hb
  clear hb
  by_cases hlt : 1 ≤ n
  ·have dn : decide (1 ≤ n) = true := by simp; omega
   go_upto_block 2 with fail
   go_cut [9] (fun v wx => v = .int .i64 (alike s.data.toList (i - n) i : Nat) ∧ ∃ q', wx = w.drewN q')
   case first =>
    go_wp2_with fail
    go_loopw [9] (fun v wr => (∃ j : Nat, j ≤ 67 ∧ v = .int .i64 j ∧ ∀ k, k < j → same s.data.toList (i - n) i k = true) ∧ ∃ q, wr = w.drewN q) (fun v _ => 67 - (intOf v).toNat)
    case atStart => exact ⟨⟨0, by omega, rfl, fun j hj => by omega⟩, q, rfl⟩
    case round =>
     obtain ⟨⟨j, hj, rfl, hall⟩, q', rfl⟩ := hrel
     have Hall := Lib.hid hall
     clear hall
     by_cases h1 : j < 67
     ·have d1 : decide ((j : Int) < 67) = true := by simp; omega
      by_cases h2 : i + j < s.size
      ·have hx : i - n + j < s.size := by omega
       have d2 : decide ((i : Int) + (j : Int) < (s.size : Int)) = true := by simp; omega
       have Hs := Lib.hid ((same_eq s (i - n) i j h2 hx).trans (eqv_sym _ _))
       have u1 : (0 : Int) ≤ (i : Int) + (j : Int) - (n : Int) := by omega
       have u2 : (0 : Int) ≤ (i : Int) + (j : Int) := by omega
       have u3 : (i : Int) + (j : Int) - (n : Int) < (s.size : Int) := by omega
       have u4 : (i : Int) + (j : Int) < (s.size : Int) := by omega
       have u5 : (n : Int) ≤ (i : Int) + (j : Int) := by omega
       have u6 : n ≤ i + j := by omega
       have u7 : (i : Int) + (j : Int) < (s.size : Int) + (n : Int) := by omega
       have t1 : ((i : Int) + (j : Int) - (n : Int)).toNat = i - n + j := by omega
       have t2 : ((i : Int) + (j : Int)).toNat = i + j := by omega
       have e2 : IntKind.i64.wrap ((i : Int) + (j : Int) - (n : Int)) = (i : Int) + (j : Int) - (n : Int) := IntWalk.i64_in _ (by omega)
       have e1 : IntKind.i64.wrap ((i : Int) + (j : Int)) = (i : Int) + (j : Int) := IntWalk.i64_in _ (by omega)
       by_cases h3 : ((s[i + j].toNat : Int) == (s[i - n + j].toNat : Int)) = true
       ·go_wp2_with fail
        go_quiet (fail)
        go_wp2
        go_roundw
        case rel => exact ⟨⟨j + 1, by omega, by go_num, all_succ Hall.out (Hs.out.trans h3)⟩, q' + nq, by first | rfl | rw [World.drewN_drewN]⟩
        case measure => simp [intOf]; omega
       ·have h4 := Bool.eq_false_iff.2 h3
        clear h3
        go_wp2_with fail
        go_quiet (fail)
        go_wp2
        go_meet
        exact ⟨val_alike _ _ _ j hj Hall.out (.inr (Hs.out.trans h4)), q' + nq, by first | rfl | rw [World.drewN_drewN]⟩
      ·have e1 : IntKind.i64.wrap ((i : Int) + (j : Int)) = (i : Int) + (j : Int) := IntWalk.i64_in _ (by omega)
       have d2 : decide ((i : Int) + (j : Int) < (s.size : Int)) = false := by simp; omega
       have Hs := Lib.hid (same_end s (i - n) i j h2)
       go_wp2_with fail
       go_quiet (fail)
       go_wp2
       go_meet
       exact ⟨val_alike _ _ _ j hj Hall.out (.inr Hs.out), q' + nq, by first | rfl | rw [World.drewN_drewN]⟩
     ·have d1 : decide ((j : Int) < 67) = false := by simp; omega
      go_wp2_with fail
      go_quiet (fail)
      go_wp2
      go_meet
      exact ⟨val_alike _ _ _ j hj Hall.out (.inl (by omega)), q' + nq, by first | rfl | rw [World.drewN_drewN]⟩
   case rest =>
    obtain ⟨rfl, q', rfl⟩ := hcut
    have hal := alike_le s.data.toList (i - n) i
    by_cases g1 : best ≤ alike s.data.toList (i - n) i
    ·by_cases g4 : 4 ≤ alike s.data.toList (i - n) i
     ·go_wp2
      go_roundw
      case rel => exact ⟨⟨n - 1, _, n, by omega, numN hlt, rfl, rfl, hal, down1 hlt hn Hb.out g1 g4⟩, q', rfl⟩
      case measure => simp [intOf]; omega
     ·go_wp2
      go_roundw
      case rel => exact ⟨⟨n - 1, _, _, by omega, numN hlt, rfl, rfl, hb67, down2 hlt hn Hb.out (fun h => g4 h.2)⟩, q', rfl⟩
      case measure => simp [intOf]; omega
    ·go_wp2
     go_roundw
     case rel => exact ⟨⟨n - 1, _, _, by omega, numN hlt, rfl, rfl, hb67, down2 hlt hn Hb.out (fun h => g1 h.1)⟩, q', rfl⟩
     case measure => simp [intOf]; omega
  ·obtain rfl : n = 0 := by omega
   go_wp2_with fail
   go_ret2
   refine ⟨?_, q, rfl⟩
   have hu := Best.uniq Hb.out (findTo_best s.data.toList i m)
   rw [Int.toNat_natCast, hf.out, ← hM.out, ← hu.1, ← hu.2]
   rfl
end Go.Proofs.YtkejlnjnoiidnaaGreatDoor.Match
end

section
namespace Go.Proofs.YtkejlnjnoiidnaaGreatDoor.Tokens
open Go.RowKit Match
theorem tokInfo : (Tryz.prog.info? 174).map (fun i => (i.zero, i.size, i.bytes)) = some (some (.agg #[.string ⟨#[]⟩, .int .i64 0, .int .i64 0]), 3, 32) := by kernel_rfl
theorem cells_new (w : World) (c : Array Value) (t : TypeId) : ∀ j u, c.toList[j]? = some u → (w.alloc (.cells c t)).cell? ((⟨w.heap.size, 0, none⟩ : Addr).add j) = some u := by
 intro j u hu
 have hadd : (⟨w.heap.size, 0, none⟩ : Addr).add j = ⟨w.heap.size, j, none⟩ := by unfold Addr.add; split <;> simp_all
 rw [hadd, World.cell?_alloc_new]
 simpa using hu
theorem emptyB : (ByteArray.empty) = ⟨#[]⟩ := rfl
theorem cast_sum (p n : Nat) : (p : Int) + (n : Int) = ((p + n : Nat) : Int) := by omega
theorem rel_next {s : ByteArray} {k p o n : Nat} {done D : List Tok} (hX : ⟨p, o, done⟩ = st s k) (hS : step s ⟨p, o, done⟩ = ⟨p + n, p + n, D⟩) : (⟨p + n, p + n, D⟩ : St) = st s (k + 1) := by rw [st_succ, ← hX, hS]
abbrev tokV (l : List Tok) : List Value := l.flatMap tokCells
set_option maxRecDepth 100000 in
theorem tokens_any (s : ByteArray) (w : World) (hs : s.size ≤ 100000) :
  Calls Tryz.prog 96 #[.string s] w fun e w' => ∃ v, e = .returned v ∧ w'.ownsRow w.heap.size 174 3 v (tokens s).length (tokV (tokens s)) ∧ Below w.heap.size w w' := by
 obtain ⟨i0, hi, hz0, hz1, hz2⟩ := info_parts tokInfo
 go_enter Tryz.func96, Tryz.ntmps96
 go_wp2
 go_loopw [3, 4, 5, 6, 7] (fun v o a _ _ wr => ∃ k : Nat, ∃ x : St, x = st s k ∧ x.own ≤ x.at_ ∧ x.at_ ≤ s.size ∧ x.done.length ≤ x.own ∧ o = .int .i64 x.own ∧ a = .int .i64 x.at_ ∧ wr.ownsRow w.heap.size 174 3 v x.done.length (tokV x.done) ∧ Below w.heap.size w wr) (fun _ _ a _ _ _ => s.size - (intOf a).toNat)
 case atStart => exact ⟨0, ⟨0, 0, []⟩, rfl, Nat.le_refl _, Nat.zero_le _, Nat.le_refl _, rfl, rfl, World.ownsRow_nil _ _ _ _, Below.refl _ _⟩
 case round =>
  obtain ⟨k, x, hx, h1, h2, h3, rfl, rfl, hT, hbel⟩ := hrel
  obtain ⟨p, o, done⟩ := x
  have hX := Lib.hid hx
  clear hx
  simp only at h1 h2 h3 hT
  have hB := hbel.size
  by_cases hlt : p < s.size
  ·have hfe := find_end s.data.toList p (by simpa using h2)
   have hfl := find_le s.data.toList p
   go_wp2_with fail
   refine (find_in s p wr (by omega) hlt).mono ?_
   rintro e wq ⟨rfl, q, hq⟩
   have hTq : wq.ownsRow w.heap.size 174 3 u3 done.length (tokV done) := by rw [hq]; exact hT
   have hbq : Below w.heap.size w wq := by rw [hq]; exact below_drewN hbel q
   have hBq := hbq.size
   clear hq hT hbel hB
   rw [Int.toNat_natCast]
   obtain ⟨b, hb⟩ : ∃ b, b = (find s.data.toList p).1 := ⟨_, rfl⟩
   obtain ⟨n, hn⟩ : ∃ n, n = (find s.data.toList p).2 := ⟨_, rfl⟩
   have hstep := fun hz => step_none s ⟨p, o, done⟩ hlt hz
   have hstep2 := fun hz => step_some s ⟨p, o, done⟩ hlt hz
   have hnext := Lib.hid (st_succ s k)
   simp only at hstep hstep2
   rw [← hn] at hfe hfl hstep hstep2
   rw [← hb] at hfl hstep2
   rw [← hb, ← hn]
   clear hb hn
   have hpn : p + n < 1000000 := by omega
   have hfe := Lib.hid hfe
   by_cases hn0 : n = 0
   ·subst hn0
    have hS := Lib.hid (hstep rfl)
    clear hstep hstep2
    go_wp2_with fail
    go_roundw
    case rel => exact ⟨k + 1, ⟨p + 1, o, done⟩, by rw [hnext.out, ← hX.out, hS.out], by simp; omega, by simp; omega, h3, rfl, by go_num, hTq, hbq⟩
    case measure => simp [intOf]; omega
   ·have hnb : ((n : Int) == 0) = false := beq_eq_false_iff_ne.2 (by omega)
    have hS := hstep2 hn0
    clear hstep hstep2
    by_cases hown : o < p
    ·rw [flush_own s ⟨p, o, done⟩ hown] at hS
     simp only at hS
     have hS' := Lib.hid hS
     clear hS
     go_wp2_with (first
      | (at_builtin; refine wpList_append_own _ rfl (.tmp 25) (.tmp 31) 130 rfl w.heap.size 174 i0 (.agg #[.string ⟨#[]⟩, .int .i64 0, .int .i64 0]) 3 32 Tryz.underlying130 hi hz0 hz1 hz2 rfl (by decide) u3 done.length (tokV done) rfl (hTq.alloc _) ⟨wq.heap.size, 0, none⟩ 1 1 [.string (s.extract o p), .int .i64 0, .int .i64 0] rfl rfl (cells_new _ #[.string (s.extract o p), .int .i64 0, .int .i64 0] _) (by intro u hu; simp at hu; rcases hu with rfl | rfl <;> rfl) (by unfold maxLen; omega) (by omega) (by simp; omega) ?_; intro v1 w1 hT1 hg1 _; have hb1 := grown_own (hbq.alloc hBq _) hg1 (by simp; omega) (hTq.alloc _))
      | (at_builtin; refine wpList_append_own _ rfl (.tmp 33) (.tmp 37) 130 rfl w.heap.size 174 i0 (.agg #[.string ⟨#[]⟩, .int .i64 0, .int .i64 0]) 3 32 Tryz.underlying130 hi hz0 hz1 hz2 rfl (by decide) v1 (done.length + 1) _ rfl (hT1.alloc _) ⟨w1.heap.size, 0, none⟩ 1 1 [.string ⟨#[]⟩, .int .i64 (b : Int), .int .i64 (n : Int)] rfl rfl (cells_new _ #[.string ⟨#[]⟩, .int .i64 (b : Int), .int .i64 (n : Int)] _) (by intro u hu; simp at hu; rcases hu with rfl | rfl | rfl <;> rfl) (by unfold maxLen; omega) (by omega) (by have := hb1.size; simp; omega) ?_; intro v2 w2 hT2 hg2 _; have hb2 := grown_own (hb1.alloc hb1.size _) hg2 (by have := hb1.size; simp; omega) (hT1.alloc _)))
     go_roundw
     case rel =>
      rw [cast_sum p n]
      refine ⟨k + 1, ⟨p + n, p + n, _⟩, rel_next hX.out hS'.out, Nat.le_refl _, hfe.out, by simp; omega, rfl, rfl, ?_, hb2⟩
      simpa [tokV, tokCells, List.flatMap_append, emptyB] using hT2
     case measure =>
      rw [cast_sum p n]
      simp [intOf]; omega
    ·rw [flush_no s ⟨p, o, done⟩ hown] at hS
     simp only at hS
     have hS' := Lib.hid hS
     clear hS
     have hop : ¬ (o : Int) < (p : Int) := by omega
     go_wp2_with (first
      | (at_builtin; refine wpList_append_own _ rfl (.tmp 33) (.tmp 37) 130 rfl w.heap.size 174 i0 (.agg #[.string ⟨#[]⟩, .int .i64 0, .int .i64 0]) 3 32 Tryz.underlying130 hi hz0 hz1 hz2 rfl (by decide) u3 done.length (tokV done) rfl (hTq.alloc _) ⟨wq.heap.size, 0, none⟩ 1 1 [.string ⟨#[]⟩, .int .i64 (b : Int), .int .i64 (n : Int)] rfl rfl (cells_new _ #[.string ⟨#[]⟩, .int .i64 (b : Int), .int .i64 (n : Int)] _) (by intro u hu; simp at hu; rcases hu with rfl | rfl | rfl <;> rfl) (by unfold maxLen; omega) (by omega) (by simp; omega) ?_; intro v2 w2 hT2 hg2 _; have hb2 := grown_own (hbq.alloc hbq.size _) hg2 (by simp; omega) (hTq.alloc _)))
     go_roundw
     case rel =>
      rw [cast_sum p n]
      refine ⟨k + 1, ⟨p + n, p + n, _⟩, rel_next hX.out hS'.out, Nat.le_refl _, hfe.out, by simp; omega, rfl, rfl, ?_, hb2⟩
      simpa [tokV, tokCells, List.flatMap_append, emptyB] using hT2
     case measure =>
      rw [cast_sum p n]
      simp [intOf]; omega
  ·have hpe : p = s.size := by omega
   have hend := Lib.hid (st_end s k (by rw [← hX.out]; simp only; omega))
   subst hpe
   have hlt' : ¬ ((s.size : Nat) : Int) < ((s.size : Nat) : Int) := by omega
   by_cases hown : o < s.size
   ·have hF := Lib.hid (flush_own s ⟨s.size, o, done⟩ hown)
    go_wp2_with (first
      | (at_builtin; refine wpList_append_own _ rfl (.tmp 47) (.tmp 52) 130 rfl w.heap.size 174 i0 (.agg #[.string ⟨#[]⟩, .int .i64 0, .int .i64 0]) 3 32 Tryz.underlying130 hi hz0 hz1 hz2 rfl (by decide) u3 done.length (tokV done) rfl (hT.alloc _) ⟨wr.heap.size, 0, none⟩ 1 1 [.string (s.extract o s.size), .int .i64 0, .int .i64 0] rfl rfl (cells_new _ #[.string (s.extract o s.size), .int .i64 0, .int .i64 0] _) (by intro u hu; simp at hu; rcases hu with rfl | rfl <;> rfl) (by unfold maxLen; omega) (by omega) (by simp; omega) ?_; intro v1 w1 hT1 hg1 _; have hb1 := grown_own (hbel.alloc hB _) hg1 (by simp; omega) (hT.alloc _)))
    go_ret
    refine ⟨_, rfl, ?_, hb1⟩
    rw [← hend.out, ← hX.out, hF.out]
    simpa [tokV, tokCells, List.flatMap_append] using hT1
   ·have hF := Lib.hid (flush_no s ⟨s.size, o, done⟩ hown)
    go_wp2_with fail
    go_ret
    refine ⟨_, rfl, ?_, hbel⟩
    rw [← hend.out, ← hX.out, hF.out]
    exact hT
end Go.Proofs.YtkejlnjnoiidnaaGreatDoor.Tokens
end

section
namespace Go.Proofs.YtkejlnjnoiidnaaGreatDoor.Tokens
open Go.RowKit Match
/-- Ahead of a text of its own stands nothing, or a piece taken from earlier. -/
theorem st_last (s : ByteArray) (k : Nat) : (st s k).done = [] ∨ ∃ d b n, (st s k).done = d ++ [(ByteArray.empty, b, n)] := by
 induction k with
 | zero => exact .inl rfl
 | succ k ih =>
  rw [st_succ]
  by_cases hlt : (st s k).at_ < s.size
  ·by_cases hz : (find s.data.toList (st s k).at_).2 = 0
   ·rw [step_none s _ hlt hz]; exact ih
   ·rw [step_some s _ hlt hz]; exact .inr ⟨_, _, _, rfl⟩
  ·unfold step; rw [if_neg hlt]; exact ih
theorem own_some {w : World} {B : Nat} {e : TypeId} {size : Nat} {v : Value} {n : Nat} {xs : List Value} (h : w.ownsRow B e size v n xs) (hn : 0 < n) : ∃ g c, v = .slice (some ⟨g, 0, none⟩) n c ∧ B ≤ g ∧ g < w.heap.size := by
 rcases h.2 with ⟨_, h0⟩ | ⟨g, cap, cur, hv, hb, hh, _⟩
 ·omega
 ·exact ⟨g, cap, hv, hb, (Array.getElem?_eq_some_iff.1 hh).1⟩
theorem ext_succ (s : ByteArray) (o p : Nat) (h1 : o ≤ p) (_h2 : p < s.size) : s.extract o p ++ s.extract p (p + 1) = s.extract o (p + 1) := by
 rw [ByteArray.extract_append_extract]
 congr 1 <;> omega
/-- The tokens told so far, once a byte more is read that starts no piece. -/
theorem grow_one (s : ByteArray) (p o : Nat) (d : List Tok) (h1 : o ≤ p) : flush s ⟨p + 1, o, d⟩ = d ++ [(s.extract o (p + 1), 0, 0)] := flush_own s _ (by simp only; omega)
theorem ext_ne (s : ByteArray) (o p : Nat) (h : o < p) (h2 : p ≤ s.size) : (s.extract o p).toList.isEmpty = false := by
 rw [List.isEmpty_eq_false_iff]
 intro e
 have h3 := congrArg List.length e
 rw [ByteArray.toList_eq] at h3
 simp at h3
 omega
theorem ext_none (s : ByteArray) (o p : Nat) (h : o = p) : s.extract o p = ⟨#[]⟩ := by
 subst h
 apply ByteArray.ext
 simp
theorem tokV_app (d e : List Tok) : tokV (d ++ e) = tokV d ++ tokV e := List.flatMap_append
theorem tokV_len (d : List Tok) : (tokV d).length = d.length * 3 := by
 induction d with
 | nil => rfl
 | cons x d ih => simp [tokV, tokCells] at ih ⊢; omega
theorem tok_at (d : List Tok) (x : ByteArray) (y z : Int) : (tokV (d ++ [(x, y, z)]))[d.length * 3]? = some (.string x) := by
 rw [tokV_app, List.getElem?_append_right (by rw [tokV_len]; exact Nat.le_refl _), tokV_len, Nat.sub_self]
 rfl
theorem tok_set (d : List Tok) (x x' : ByteArray) (y z : Int) : (tokV (d ++ [(x, y, z)])).set (d.length * 3) (.string x') = tokV (d ++ [(x', y, z)]) := by
 rw [tokV_app, tokV_app, List.set_append_right _ _ (by rw [tokV_len]; exact Nat.le_refl _), tokV_len, Nat.sub_self]
 rfl
theorem tok_set' (d : List Tok) (n : Nat) (hn : d.length = n) (x x' : ByteArray) (y z : Int) : (tokV (d ++ [(x, y, z)])).set (n * 3) (.string x') = tokV (d ++ [(x', y, z)]) := by rw [← hn]; exact tok_set d x x' y z
theorem new_tok {w : World} {B T n : Nat} {v : Value} {D : List Tok} {E0 : ByteArray} (h : w.ownsRow B T 3 v (n + 1) (tokV D ++ [.string ⟨#[]⟩, .int .i64 0, .int .i64 0])) (hn : D.length = n) (hE : E0 = ⟨#[]⟩) :
  ∃ g c, v = .slice (some ⟨g, 0, none⟩) (n + 1) c ∧ B ≤ g ∧ w.ownsRow B T 3 (.slice (some ⟨g, 0, none⟩) (n + 1) c) (n + 1) (tokV (D ++ [(E0, 0, 0)])) ∧ w.cell? ⟨g, n * 3, none⟩ = some (.string E0) ∧ w.frozen? ⟨g, n * 3, none⟩ = false := by
 obtain ⟨g, c, rfl, hg, _⟩ := own_some h (by omega)
 subst hn hE
 have h2 : w.ownsRow B T 3 (.slice (some ⟨g, 0, none⟩) (D.length + 1) c) (D.length + 1) (tokV (D ++ [(⟨#[]⟩, 0, 0)])) := by rw [tokV_app]; exact h
 refine ⟨g, c, rfl, hg, h2, ?_, h2.frozenAt _⟩
 rw [h2.cellAt (D.length * 3) (by omega)]
 exact tok_at D _ _ _
set_option maxHeartbeats 1000000 in
set_option maxRecDepth 100000 in
theorem rtokens_any (s : ByteArray) (w : World) (hs : s.size ≤ 100000) :
  Calls Tryz.prog 94 #[.string s] w fun e w' => ∃ v, e = .returned v ∧ w'.ownsRow w.heap.size 174 3 v (tokens s).length (tokV (tokens s)) ∧ Below w.heap.size w w' := by
 obtain ⟨i0, hi, hz0, hz1, hz2⟩ := info_parts tokInfo
 go_enter Tryz.func94, Tryz.ntmps94
 go_wp2
 go_loopw [3, 4, 5, 6] (fun v a _ _ wr => ∃ k : Nat, ∃ x : St, x = st s k ∧ x.own ≤ x.at_ ∧ x.at_ ≤ s.size ∧ x.done.length ≤ x.own ∧ a = .int .i64 x.at_ ∧ wr.ownsRow w.heap.size 174 3 v (flush s x).length (tokV (flush s x)) ∧ Below w.heap.size w wr) (fun _ a _ _ _ => s.size - (intOf a).toNat)
 case atStart => exact ⟨0, ⟨0, 0, []⟩, rfl, Nat.le_refl _, Nat.zero_le _, Nat.le_refl _, rfl, World.ownsRow_nil _ _ _ _, Below.refl _ _⟩
 case round =>
  obtain ⟨k, x, hx, h1, h2, h3, rfl, hT, hbel⟩ := hrel
  have hla := st_last s k
  rw [← hx] at hla
  obtain ⟨p, o, done⟩ := x
  have hX := Lib.hid hx
  clear hx
  simp only at h1 h2 h3 hT hla
  have hB := hbel.size
  by_cases hlt : p < s.size
  ·have hfe := Nat.le_trans (find_end s.data.toList p (by simpa using h2)) (Nat.le_of_eq (show s.data.toList.length = s.size by simp))
   have hfl := find_le s.data.toList p
   go_wp2_with fail
   refine (rfind_in s p wr (by omega) hlt).mono ?_
   rintro e wq ⟨rfl, q, hq⟩
   have hTq : wq.ownsRow w.heap.size 174 3 u3 (flush s ⟨p, o, done⟩).length (tokV (flush s ⟨p, o, done⟩)) := by rw [hq]; exact hT
   have hbq : Below w.heap.size w wq := by rw [hq]; exact below_drewN hbel q
   have hBq := hbq.size
   clear hq hT hbel hB
   rw [Int.toNat_natCast]
   obtain ⟨b, hb⟩ : ∃ b, b = (find s.data.toList p).1 := ⟨_, rfl⟩
   obtain ⟨n, hn⟩ : ∃ n, n = (find s.data.toList p).2 := ⟨_, rfl⟩
   have hstep := fun hz => step_none s ⟨p, o, done⟩ hlt hz
   have hstep2 := fun hz => step_some s ⟨p, o, done⟩ hlt hz
   have hnext := Lib.hid (st_succ s k)
   simp only at hstep hstep2
   rw [← hn] at hfe hfl hstep hstep2
   rw [← hb] at hfl hstep2
   rw [← hb, ← hn]
   clear hb hn
   have hpn : p + n < 1000000 := by omega
   have hfe := Lib.hid hfe
   have hfl2 := flush_len s ⟨p, o, done⟩ h3 h1
   simp only at hfl2
   by_cases hn0 : n = 0
   ·subst hn0
    have hS := Lib.hid (hstep rfl)
    clear hstep hstep2
    by_cases hown : o < p
    ·have hF := flush_own s ⟨p, o, done⟩ hown
     simp only at hF
     rw [hF] at hTq hfl2
     rw [show (done ++ [(s.extract o p, (0 : Int), (0 : Int))]).length = done.length + 1 from by simp] at hTq hfl2
     obtain ⟨g, c, rfl, hg0, hg1⟩ := own_some hTq (by omega)
     have hne : ((s.extract o p).size == 0) = false := by simp; omega
     have hc0 : wq.cell? ⟨g, done.length * 3, none⟩ = some (.string (s.extract o p)) := by
      rw [hTq.cellAt _ (by omega)]
      exact tok_at done _ _ _
     have hf0 : wq.frozen? ⟨g, done.length * 3, none⟩ = false := hTq.frozenAt _
     have he : (s.extract o p).toList.isEmpty = false := ext_ne s o p hown h2
     have hz0 : (((done.length : Nat) : Int) + 1 == 0) = false := beq_eq_false_iff_ne.2 (by omega)
     have hlt3 : ((p : Nat) : Int) + 1 ≤ (s.size : Int) := by omega
     generalize hE : s.extract o p = E at *
     have hE' := Lib.hid hE
     clear hE
     have hTh := Lib.hid hTq
     clear hTq
     go_wp2_with fail
     have hEs : E.size ≤ s.size := by rw [← hE'.out, ByteArray.size_extract]; omega
     have hEs : E.size ≤ s.size := by rw [← hE'.out, ByteArray.size_extract]; omega
     have hEs : E.size ≤ s.size := by rw [← hE'.out, ByteArray.size_extract]; omega
     have hEs : E.size ≤ s.size := by rw [← hE'.out, ByteArray.size_extract]; omega
     have hEs : E.size ≤ s.size := by rw [← hE'.out, ByteArray.size_extract]; omega
     have hEs : E.size ≤ s.size := by rw [← hE'.out, ByteArray.size_extract]; omega
     have hEs : E.size ≤ s.size := by rw [← hE'.out, ByteArray.size_extract]; omega
     have hwn : IntKind.i64.wrap ((((done).length : Nat) : Int)) = (((done).length : Nat) : Int) := IntWalk.i64_in _ (by omega)
     have hwp : IntKind.i64.wrap (((p : Nat) : Int) + 1) = ((p : Nat) : Int) + 1 := IntWalk.i64_in _ (by omega)
     have hin : (0 : Int) ≤ (((done).length : Nat) : Int) ∧ (((done).length : Nat) : Int) < (((done).length : Nat) : Int) + 1 := by omega
     have htn : ((((done).length : Nat) : Int)).toNat = (done).length := by omega
     have hp1 : (0 : Int) ≤ ((p : Nat) : Int) + 1 := by omega
     have hp2 : ((p : Nat) : Int) ≤ ((p : Nat) : Int) + 1 := by omega
     have hc1 : (wq).drew.cell? ⟨g, (done).length * 3, none⟩ = some (.string E) := hc0
     have hsz : ¬ 9223372036854775807 < (E).size + (min (p + 1) s.size - p) := by have := hEs; omega
     refine wp_region_still_tail 13 (by kernel_rfl) (by kernel_rfl) ?_
     simp only [List.take_succ_cons, List.take_zero, List.drop_succ_cons, List.drop_zero]
     repeat (refine wpStill_step (fun K hK => ?_); go_simp; (try simp only [hwn, hwp, if_pos hin, if_pos hp1, if_pos hp2, if_neg hsz, htn, Int.toNat_natCast, hc1]); (try go_simp); refine hK _ ?_; clear hK K)
     refine wpStill_nil ?_
     change wpList _ _ _ _ _ (wq).drew
     go_wp2
     go_roundw
     case rel =>
      have hst := hTh.out.stored ((done).length * 3) (.string (E ++ s.extract p (p + 1)))
      have hset := tok_set' (done) (done).length rfl E (E ++ s.extract p (p + 1)) 0 0
      refine ⟨k + 1, ⟨p + 1, o, done⟩, ?_, ?_⟩
      ·rw [hnext.out, ← hX.out, hS.out]
      ·refine ⟨by simp; omega, by simp; omega, h3, by go_num, ?_, ?_⟩
       ·rw [grow_one s p o _ h1, ← ext_succ s o p h1 hlt, hE'.out, ← hset, show (done ++ [(E ++ s.extract p (p + 1), (0 : Int), (0 : Int))]).length = (done).length + 1 from by (rw [List.length_append, show (done).length = (done).length from rfl]; rfl)]
        exact hst.1
       ·exact Below.setCell (below_drewN hbq 1) hg0 _
     case measure => simp [intOf]; omega
    ·have hF := flush_no s ⟨p, o, done⟩ hown
     simp only at hF
     rw [hF] at hTq hfl2
     have hlt3 : ((p : Nat) : Int) + 1 ≤ (s.size : Int) := by omega
     have hop : o = p := by omega
     obtain ⟨E0, hE0⟩ : ∃ E0 : ByteArray, E0 = ⟨#[]⟩ := ⟨_, rfl⟩
     have hEs : E0.size ≤ s.size := by rw [hE0]; exact Nat.zero_le _
     have hE' := Lib.hid (show s.extract o p = E0 from (ext_none s o p hop).trans hE0.symm)
     have hE1 := Lib.hid hE0
     clear hE0
     rcases hla with hd | ⟨d, b', n', hd⟩
     ·subst hd
      obtain ⟨A, c, rfl⟩ := own_form hTq
      simp only [List.length_nil] at hTq hfl2
      go_wp2_with (first
       | (at_builtin; go_loud (refine wpList_append_own _ rfl (.tmp 41) (.tmp 43) 130 rfl w.heap.size 174 i0 (.agg #[.string ⟨#[]⟩, .int .i64 0, .int .i64 0]) 3 32 Tryz.underlying130 hi hz0 hz1 hz2 rfl (by decide) _ 0 (tokV (([] : List Tok))) rfl (hTq.alloc _) ⟨wq.heap.size, 0, none⟩ 1 1 [.string ⟨#[]⟩, .int .i64 0, .int .i64 0] rfl rfl (cells_new _ #[.string ⟨#[]⟩, .int .i64 0, .int .i64 0] _) (by intro u hu; simp at hu; rcases hu with rfl | rfl | rfl <;> rfl) (by unfold maxLen; omega) (by omega) (by simp; omega) ?_; intro v2 w2 hT2 hg2 _; have hb2 := grown_own (hbq.alloc hbq.size _) hg2 (by simp; omega) (hTq.alloc _); obtain ⟨g, c', rfl, hg0, hTn, hc2, hf2⟩ := new_tok hT2 rfl hE1.out; have hTh := Lib.hid hTn; clear hTn hT2)))
      have hwn : IntKind.i64.wrap ((0 : Int)) = (0 : Int) := IntWalk.i64_in _ (by omega)
      have hwp : IntKind.i64.wrap (((p : Nat) : Int) + 1) = ((p : Nat) : Int) + 1 := IntWalk.i64_in _ (by omega)
      have hin : (0 : Int) ≤ (0 : Int) ∧ (0 : Int) < (1 : Int) := by omega
      have htn : ((0 : Int)).toNat = 0 := by omega
      have hp1 : (0 : Int) ≤ ((p : Nat) : Int) + 1 := by omega
      have hp2 : ((p : Nat) : Int) ≤ ((p : Nat) : Int) + 1 := by omega
      have hc1 : (w2).drew.cell? ⟨g, 0, none⟩ = some (.string E0) := hc2
      have hsz : ¬ 9223372036854775807 < (E0).size + (min (p + 1) s.size - p) := by have := hEs; omega
      refine wp_region_still_tail 13 (by kernel_rfl) (by kernel_rfl) ?_
      simp only [List.take_succ_cons, List.take_zero, List.drop_succ_cons, List.drop_zero]
      repeat (refine wpStill_step (fun K hK => ?_); go_simp; (try simp only [hwn, hwp, if_pos hin, if_pos hp1, if_pos hp2, if_neg hsz, htn, Int.toNat_natCast, hc1]); (try go_simp); refine hK _ ?_; clear hK K)
      refine wpStill_nil ?_
      change wpList _ _ _ _ _ (w2).drew
      go_wp2
      go_roundw
      case rel =>
       have hst := hTh.out.stored (0 * 3) (.string (E0 ++ s.extract p (p + 1)))
       have hset := tok_set' (([] : List Tok)) 0 rfl E0 (E0 ++ s.extract p (p + 1)) 0 0
       refine ⟨k + 1, ⟨p + 1, o, ([] : List Tok)⟩, ?_, ?_⟩
       ·rw [hnext.out, ← hX.out, hS.out]
       ·refine ⟨by simp; omega, by simp; omega, h3, by go_num, ?_, ?_⟩
        ·rw [grow_one s p o _ h1, ← ext_succ s o p h1 hlt, hE'.out, ← hset, show (([] : List Tok) ++ [(E0 ++ s.extract p (p + 1), (0 : Int), (0 : Int))]).length = 0 + 1 from by (rw [List.length_append, show (([] : List Tok)).length = 0 from rfl]; rfl)]
         exact hst.1
        ·exact Below.setCell (below_drewN hb2 1) hg0 _
      case measure => simp [intOf]; omega

     ·have hdl : 0 < done.length := by rw [hd]; simp
      obtain ⟨m, hm⟩ : ∃ m, done.length = m + 1 := ⟨done.length - 1, by omega⟩
      have hmd : m = d.length := by rw [hd] at hm; simp at hm; omega
      rw [hm] at hTq hfl2
      obtain ⟨gq, c, rfl, hg0q, hg1q⟩ := own_some hTq (by omega)
      have hc0 : wq.cell? ⟨gq, m * 3, none⟩ = some (.string ⟨#[]⟩) := by
       rw [hTq.cellAt (m * 3) (by omega), hd, hmd]
       exact tok_at d _ _ _
      have hf0 : wq.frozen? ⟨gq, m * 3, none⟩ = false := hTq.frozenAt _
      clear hd hmd
      have hzm : ((((m + 1 : Nat) : Int)) == 0) = false := beq_eq_false_iff_ne.2 (by omega)
      have hzm' : (((m : Nat) : Int) + 1 == 0) = false := beq_eq_false_iff_ne.2 (by omega)
      go_wp2_with (first
       | (at_builtin; go_loud (refine wpList_append_own _ rfl (.tmp 41) (.tmp 43) 130 rfl w.heap.size 174 i0 (.agg #[.string ⟨#[]⟩, .int .i64 0, .int .i64 0]) 3 32 Tryz.underlying130 hi hz0 hz1 hz2 rfl (by decide) _ (m + 1) (tokV (done)) rfl (hTq.alloc _) ⟨wq.heap.size, 0, none⟩ 1 1 [.string ⟨#[]⟩, .int .i64 0, .int .i64 0] rfl rfl (cells_new _ #[.string ⟨#[]⟩, .int .i64 0, .int .i64 0] _) (by intro u hu; simp at hu; rcases hu with rfl | rfl | rfl <;> rfl) (by unfold maxLen; omega) (by omega) (by simp; omega) ?_; intro v2 w2 hT2 hg2 _; have hb2 := grown_own (hbq.alloc hbq.size _) hg2 (by simp; omega) (hTq.alloc _); obtain ⟨g, c', rfl, hg0, hTn, hc2, hf2⟩ := new_tok hT2 hm hE1.out; have hTh := Lib.hid hTn; clear hTn hT2)))
      have hwn : IntKind.i64.wrap (((m : Nat) : Int) + 1) = ((m : Nat) : Int) + 1 := IntWalk.i64_in _ (by omega)
      have hwp : IntKind.i64.wrap (((p : Nat) : Int) + 1) = ((p : Nat) : Int) + 1 := IntWalk.i64_in _ (by omega)
      have hin : (0 : Int) ≤ ((m : Nat) : Int) + 1 ∧ ((m : Nat) : Int) + 1 < ((m : Nat) : Int) + 1 + 1 := by omega
      have htn : (((m : Nat) : Int) + 1).toNat = (m + 1) := by omega
      have hp1 : (0 : Int) ≤ ((p : Nat) : Int) + 1 := by omega
      have hp2 : ((p : Nat) : Int) ≤ ((p : Nat) : Int) + 1 := by omega
      have hc1 : (w2).drew.cell? ⟨g, (m + 1) * 3, none⟩ = some (.string E0) := hc2
      have hsz : ¬ 9223372036854775807 < (E0).size + (min (p + 1) s.size - p) := by have := hEs; omega
      refine wp_region_still_tail 13 (by kernel_rfl) (by kernel_rfl) ?_
      simp only [List.take_succ_cons, List.take_zero, List.drop_succ_cons, List.drop_zero]
      repeat (refine wpStill_step (fun K hK => ?_); go_simp; (try simp only [hwn, hwp, if_pos hin, if_pos hp1, if_pos hp2, if_neg hsz, htn, Int.toNat_natCast, hc1]); (try go_simp); refine hK _ ?_; clear hK K)
      refine wpStill_nil ?_
      change wpList _ _ _ _ _ (w2).drew
      go_wp2
      go_roundw
      case rel =>
       have hst := hTh.out.stored ((m + 1) * 3) (.string (E0 ++ s.extract p (p + 1)))
       have hset := tok_set' (done) (m + 1) hm E0 (E0 ++ s.extract p (p + 1)) 0 0
       refine ⟨k + 1, ⟨p + 1, o, done⟩, ?_, ?_⟩
       ·rw [hnext.out, ← hX.out, hS.out]
       ·refine ⟨by simp; omega, by simp; omega, h3, by go_num, ?_, ?_⟩
        ·rw [grow_one s p o _ h1, ← ext_succ s o p h1 hlt, hE'.out, ← hset, show (done ++ [(E0 ++ s.extract p (p + 1), (0 : Int), (0 : Int))]).length = (m + 1) + 1 from by (rw [List.length_append, show (done).length = (m + 1) from hm]; rfl)]
         exact hst.1
        ·exact Below.setCell (below_drewN hb2 1) hg0 _
      case measure => simp [intOf]; omega

   ·have hnb : (0 : Int) < (n : Int) := by omega
    have hS := Lib.hid (hstep2 hn0)
    clear hstep hstep2
    generalize hF : flush s ⟨p, o, done⟩ = F at *
    go_wp2_with (first
      | (at_builtin; refine wpList_append_own _ rfl (.tmp 19) (.tmp 23) 130 rfl w.heap.size 174 i0 (.agg #[.string ⟨#[]⟩, .int .i64 0, .int .i64 0]) 3 32 Tryz.underlying130 hi hz0 hz1 hz2 rfl (by decide) u3 F.length (tokV F) rfl (hTq.alloc _) ⟨wq.heap.size, 0, none⟩ 1 1 [.string ⟨#[]⟩, .int .i64 (b : Int), .int .i64 (n : Int)] rfl rfl (cells_new _ #[.string ⟨#[]⟩, .int .i64 (b : Int), .int .i64 (n : Int)] _) (by intro u hu; simp at hu; rcases hu with rfl | rfl | rfl <;> rfl) (by unfold maxLen; omega) (by omega) (by simp; omega) ?_; intro v2 w2 hT2 hg2 _; have hb2 := grown_own (hbq.alloc hbq.size _) hg2 (by simp; omega) (hTq.alloc _)))
    go_roundw
    case rel =>
     rw [cast_sum p n]
     refine ⟨k + 1, ⟨p + n, p + n, _⟩, rel_next hX.out hS.out, Nat.le_refl _, hfe.out, by simp; omega, rfl, ?_, hb2⟩
     rw [flush_no s ⟨p + n, p + n, _⟩ (by simp)]
     simpa [tokV, tokCells, List.flatMap_append, emptyB] using hT2
    case measure =>
     rw [cast_sum p n]
     simp [intOf]; omega
  ·have hpe : p = s.size := by omega
   have hend := Lib.hid (st_end s k (by rw [← hX.out]; simp only; omega))
   subst hpe
   have hlt' : ¬ ((s.size : Nat) : Int) < ((s.size : Nat) : Int) := by omega
   go_wp2_with fail
   go_ret
   refine ⟨_, rfl, ?_, hbel⟩
   rw [← hend.out, ← hX.out]
   exact hT
end Go.Proofs.YtkejlnjnoiidnaaGreatDoor.Tokens
end

section
namespace Go.Proofs.YtkejlnjnoiidnaaGreatDoor
open Go.RowKit As Tokens
theorem flush_fits {s : ByteArray} (hs : s.size ≤ 140737488351232) {x : St} (h : ∀ t ∈ x.done, tokFits t) : ∀ t ∈ flush s x, tokFits t := by
 intro t ht
 unfold flush at ht
 split at ht
 ·rcases List.mem_append.1 ht with ht | ht
  ·exact h t ht
  ·simp only [List.mem_singleton] at ht
   subst ht
   refine ⟨?_, by simp, by simp⟩
   simp only [ByteArray.size_extract]; omega
 ·exact h t ht
theorem st_fits {s : ByteArray} (hs : s.size ≤ 140737488351232) (k : Nat) : ∀ t ∈ (st s k).done, tokFits t := by
 induction k with
 | zero => intro t ht; simp [st] at ht
 | succ k ih =>
  intro t ht
  have e : st s (k + 1) = Tokens.step s (st s k) := rfl
  rw [e] at ht
  unfold Tokens.step at ht
  split at ht
  ·split at ht
   ·exact ih t ht
   ·simp only at ht
    rcases List.mem_append.1 ht with ht | ht
    ·exact flush_fits hs ih t ht
    ·simp only [List.mem_singleton] at ht
     subst ht
     have hf := find_le s.data.toList (st s k).at_
     refine ⟨by show (ByteArray.empty).size ≤ _; simp, ?_, ?_⟩ <;> simp only <;> omega
  ·exact ih t ht
theorem tokens_fits {s : ByteArray} (hs : s.size ≤ 140737488351232) : ∀ t ∈ tokens s, tokFits t := flush_fits hs (st_fits hs _)
theorem toks_of_own {w : World} {base : Nat} {E : TypeId} {A : Option Addr} {n c : Nat} {s : ByteArray} (hs : s.size ≤ 140737488351232) (h : w.ownsRow base E 3 (.slice A n c) n (tokV (tokens s))) : Toks w w.heap.size A n (tokens s) := ⟨Sl.of_own h, tokens_fits hs⟩
/-- A text in fewer bytes. -/
def squeezeOf (s : ByteArray) : ByteArray × Int × Int := if 20000 < s.size then (⟨#[]⟩, 4, -1) else twrite (tokens s)
theorem squeeze_big {s : ByteArray} (h : 20000 < s.size) : squeezeOf s = (⟨#[]⟩, 4, -1) := by unfold squeezeOf; rw [if_pos h]
theorem squeeze_ok {s : ByteArray} (h : ¬ 20000 < s.size) : squeezeOf s = twrite (tokens s) := by unfold squeezeOf; rw [if_neg h]
set_option maxRecDepth 100000 in
theorem squeeze_any (s : ByteArray) (w : World) (hs : s.size ≤ 100000) :
  Calls Tryz.prog 46 #[.string s] w fun e w' => ∃ v, e = .returned (.tuple #[.string (squeezeOf s).1, v]) ∧ ErrOf w' v (squeezeOf s).2 ∧ Below w.heap.size w w' := by
 by_cases h : 20000 < s.size
 ·have hd : decide (20000 < s.size) = true := by simpa using h
  have hr := Lib.hid (squeeze_big h)
  go_enter Tryz.func46, Tryz.ntmps46
  go_wp2
  go_ret2
  rw [hr.out]
  exact ⟨_, rfl, .bare 4 (by omega), Below.refl _ _⟩
 ·have hd : decide (20000 < s.size) = false := by simpa using h
  have hr := Lib.hid (squeeze_ok h)
  have hlen := tokens_len s
  go_enter Tryz.func46, Tryz.ntmps46
  go_wp2_with fail
  refine (tokens_any s w hs).mono ?_
  rintro e w1 ⟨v1, rfl, hT, hb1⟩
  obtain ⟨A, c, rfl⟩ := own_form hT
  go_wp2_with fail
  refine (twrite_any w1 _ c A (tokens s) (toks_of_own (by omega) hT) (by omega)).mono ?_
  rintro e w2 ⟨v2, rfl, hv, hb2⟩
  have hb12 := hb1.trans (hb2.mono hb1.size)
  go_wp2
  go_ret2
  rw [hr.out]
  exact ⟨_, rfl, hv, hb12⟩
set_option maxRecDepth 100000 in
theorem rsqueeze_any (s : ByteArray) (w : World) (hs : s.size ≤ 100000) :
  Calls Tryz.prog 45 #[.string s] w fun e w' => e = .returned (.tuple #[.string (squeezeOf s).1, faultV (squeezeOf s).2]) ∧ Below w.heap.size w w' := by
 by_cases h : 20000 < s.size
 ·have hd : decide (20000 < s.size) = true := by simpa using h
  have hr := Lib.hid (squeeze_big h)
  go_enter Tryz.func45, Tryz.ntmps45
  go_wp2_with fail
  refine (bareF_any _ _).mono ?_
  rintro e w' ⟨rfl, hb⟩
  obtain ⟨c0, c1, f0, f1⟩ := (Two.new w 0 0 29).below hb
  have S := set2 (.int .i64 4) (.int .i64 (-1)) c0 c1
  go_wp2
  exact bodyPost_ret (v := .tuple #[.string ⟨#[]⟩, .agg #[.int .i64 4, .int .i64 (-1)]]) (by simp [results, Tryz.results45, go_sem, S.1, S.2]) rfl ⟨by rw [hr.out]; rfl, below_set2 _ _ ((below1 _ _).trans (hb.mono (by simp))) (Nat.le_refl _)⟩
 ·have hd : decide (20000 < s.size) = false := by simpa using h
  have hr := Lib.hid (squeeze_ok h)
  have hlen := tokens_len s
  go_enter Tryz.func45, Tryz.ntmps45
  go_wp2_with fail
  refine (rtokens_any s _ hs).mono ?_
  rintro e w1 ⟨v1, rfl, hT, hb1⟩
  obtain ⟨A, c, rfl⟩ := own_form hT
  go_wp2_with fail
  refine (rtwrite_any w1 _ c A (tokens s) (toks_of_own (by omega) hT) (by omega)).mono ?_
  rintro e w2 ⟨rfl, hb2⟩
  have hb12 := hb1.trans (hb2.mono hb1.size)
  obtain ⟨c0, c1, f0, f1⟩ := (Two.new w 0 0 29).below hb12
  unfold faultV
  generalize hX : twrite (tokens s) = X at *
  obtain ⟨t, e1, p1⟩ := X
  clear hX
  have S := set2 (.int .i64 e1) (.int .i64 p1) c0 c1
  go_wp2
  exact bodyPost_ret (v := .tuple #[.string t, .agg #[.int .i64 e1, .int .i64 p1]]) (by simp [results, Tryz.results45, go_sem, S.1, S.2]) rfl ⟨by rw [hr.out]; rfl, below_set2 _ _ ((below1 _ _).trans (hb12.mono (by simp))) (Nat.le_refl _)⟩
end Go.Proofs.YtkejlnjnoiidnaaGreatDoor
end

section
namespace Go.Proofs.YtkejlnjnoiidnaaGreatDoor
open Tokens Match
def tsz (t : Tok) : Nat := if t.1.size ≠ 0 then t.1.size else t.2.2.toNat
def tot (l : List Tok) : Nat := (l.map tsz).sum
theorem tot_snoc (l : List Tok) (t : Tok) : tot (l ++ [t]) = tot l + tsz t := by simp [tot]
theorem trgo_snoc (t : Tok) (l : List Tok) : ∀ (n i : Nat), (trgo l n i).1 = 0 → trgo (l ++ [t]) n i = trgo [t] (n + tot l) (i + l.length) := by
 induction l with
 | nil => intro n i _; rfl
 | cons x l ih =>
  intro n i h
  have ha : n + tot (x :: l) = n + tsz x + tot l := by simp [tot]; omega
  have hb : i + (x :: l).length = i + 1 + l.length := by simp; omega
  rw [ha, hb, List.cons_append]
  unfold trgo at h
  rw [trgo]
  split at h
  ·simp at h
  ·rename_i h1
   rw [if_neg h1]
   split at h
   ·rename_i h2
    rw [if_pos h2]
    have ht : tsz x = x.1.size := by unfold tsz; rw [if_pos h2]
    split at h
    ·simp at h
    ·rename_i h3
     rw [if_neg h3, ih _ _ h, ht]
   ·rename_i h2
    rw [if_neg h2]
    have ht : tsz x = x.2.2.toNat := by unfold tsz; rw [if_neg h2]
    split at h
    ·simp at h
    ·rename_i h3
     rw [if_neg h3]
     split at h
     ·simp at h
     ·rename_i h4
      rw [if_neg h4]
      split at h
      ·simp at h
      ·rename_i h5
       rw [if_neg h5, ih _ _ h, ht]
theorem findTo_good (l : List UInt8) (i k : Nat) (h : (findTo l i k).2 ≠ 0) : 4 ≤ (findTo l i k).2 ∧ 1 ≤ (findTo l i k).1 := by
 induction k with
 | zero => exact absurd rfl h
 | succ k ih =>
  simp only [findTo] at h ⊢
  split
  ·rename_i h1
   exact ⟨h1.1, by simp⟩
  ·rename_i h1
   rw [if_neg h1] at h
   exact ih h
theorem find_good (l : List UInt8) (i : Nat) (h : (find l i).2 ≠ 0) : 4 ≤ (find l i).2 ∧ 1 ≤ (find l i).1 ∧ (find l i).1 ≤ i := by
 unfold find at h ⊢
 split
 ·rename_i h1
  rw [if_pos h1] at h
  have h2 := findTo_good l i (min i 1024) h
  have h3 := (findTo_le l i (min i 1024)).1
  exact ⟨h2.1, h2.2, by omega⟩
 ·rename_i h1
  rw [if_neg h1] at h
  exact absurd rfl h
/-- What is told so far is right, and as long as it reaches. -/
def Told (x : St) : Prop := (trgo x.done 0 0).1 = 0 ∧ tot x.done = x.own
theorem flush_right {s : ByteArray} {x : St} (h : Told x) (h1 : x.own ≤ x.at_) (h2 : x.at_ ≤ s.size) (h3 : s.size ≤ 20000) : (trgo (flush s x) 0 0).1 = 0 ∧ tot (flush s x) = x.at_ := by
 unfold flush
 split
 ·rename_i hlt
  have hz : (s.extract x.own x.at_).size = x.at_ - x.own := by rw [ByteArray.size_extract]; omega
  have hn : (s.extract x.own x.at_).size ≠ 0 := by omega
  have ht : tsz (s.extract x.own x.at_, 0, 0) = x.at_ - x.own := by unfold tsz; rw [if_pos hn]; exact hz
  refine ⟨?_, by rw [tot_snoc, h.2, ht]; omega⟩
  rw [trgo_snoc _ _ 0 0 h.1, h.2]
  unfold trgo
  rw [if_neg (by unfold tokArg; simp only; omega), if_pos hn]
  rw [if_neg (by simp only [hz]; omega)]
  rfl
 ·exact ⟨h.1, by rw [h.2]; omega⟩
theorem st_told {s : ByteArray} (h3 : s.size ≤ 20000) (k : Nat) : Told (st s k) := by
 induction k with
 | zero => exact ⟨rfl, rfl⟩
 | succ k ih =>
  obtain ⟨h1, h2, _, _⟩ := st_inv s k
  have e : st s (k + 1) = Tokens.step s (st s k) := rfl
  rw [e]
  clear e
  generalize st s k = x at *
  unfold Tokens.step
  by_cases hlt : x.at_ < s.size
  ·rw [if_pos hlt]
   by_cases hz : (find s.data.toList x.at_).2 = 0
   ·rw [if_pos hz]
    exact ih
   ·rw [if_neg hz]
    obtain ⟨g1, g2⟩ := flush_right ih h1 h2 h3
    have he := find_end s.data.toList x.at_ (by simpa using h2)
    have hg := find_good s.data.toList x.at_ hz
    have hl := find_le s.data.toList x.at_
    have hs : s.data.toList.length = s.size := by simp
    have hn : ¬ ((ByteArray.empty).size ≠ 0) := by simp
    have ht : tsz (ByteArray.empty, ((find s.data.toList x.at_).1 : Int), ((find s.data.toList x.at_).2 : Int)) = (find s.data.toList x.at_).2 := by unfold tsz; rw [if_neg hn]; simp
    refine ⟨?_, by show tot _ = x.at_ + _; rw [tot_snoc, g2, ht]⟩
    show (trgo (flush s x ++ [_]) 0 0).1 = 0
    rw [trgo_snoc _ _ 0 0 g1, g2]
    unfold trgo
    rw [if_neg (by unfold tokArg; simp only [ByteArray.size_empty]; omega), if_neg hn, if_neg (by unfold tokRange; simp only; omega), if_neg (by simp only; omega), if_neg (by simp only; omega)]
    rfl
  ·rw [if_neg hlt]
   exact ih
theorem tokens_right {s : ByteArray} (h : s.size ≤ 20000) : (tright (tokens s)).1 = 0 := by
 obtain ⟨h1, h2, _, _⟩ := st_inv s s.size
 exact (flush_right (st_told h s.size) h1 h2 h).1
end Go.Proofs.YtkejlnjnoiidnaaGreatDoor
end

section
namespace Go.Proofs.YtkejlnjnoiidnaaGreatDoor
open Go.RowKit
theorem rof_any (w : World) (n c : Nat) (A : Option Addr) (l : List Ent) (x : Int) (hl : Ents w w.heap.size A n l) (hn : n ≤ maxLen) :
  Calls Tryz.prog 117 #[.slice A n c, .int .i64 x] w fun e w' => e = .returned (.int .i64 (vof l x)) ∧ w = w' := by
 unfold maxLen at hn
 have hlen := Lib.hid hl.len
 go_enter Tryz.func117, Tryz.ntmps117
 go_wp2
 go_loop [5, 8] (fun _ i => ∃ k : Nat, k ≤ n ∧ i = .int .i64 k ∧ ∀ (j : Nat) (y : Ent), j < k → l[j]? = some y → y.1 ≠ x) (fun _ i => n - (intOf i).toNat)
 case atStart => exact ⟨0, by omega, rfl, fun j y hj => by omega⟩
 case round =>
  obtain ⟨k, hk, rfl, hall⟩ := hrel
  have Hall := Lib.hid hall
  clear hall
  by_cases hlt : k < n
  ·obtain ⟨b, o, r, t, rfl, hb, hx, hf, c0, c1⟩ := hl.at_ hlt
   by_cases hr : r = x
   ·subst hr
    have hv := Lib.hid (vof_hit l r k t Hall.out hx)
    go_wp2_with fail
    go_ret
    exact ⟨retI hv.out.symm, rfl⟩
   ·have hr' : (r == x) = false := by simp [hr]
    have hx' := Lib.hid hx
    clear hx
    go_wp2_with fail
    go_round
    case rel => exact ⟨k + 1, by omega, by go_num, fun j y hj hy => ent_succ Hall.out hx'.out hr j y hj hy⟩
    case measure => simp [intOf]; omega
  ·obtain rfl : k = n := by omega
   go_wp2_with fail
   go_ret
   exact ⟨retI (vof_miss l x fun j y hy => Hall.out j y (ent_lt hlen.out hy) hy).symm, rfl⟩
end Go.Proofs.YtkejlnjnoiidnaaGreatDoor
end
