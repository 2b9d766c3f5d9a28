/- The Go functions alike and Find of package match, and Find of the reference, compute what the plain functions of MatchLaw say. -/
import Derived.Test.YtnaclpfcldoebaaDoorProg
import Derived.Test.YtnaclpfcldoebaaDoorMatchLaw
import Derived.WalkKit
import Derived.WalkLawsBesides
import Derived.WalkSpells
import Derived.Outline
import Derived.Lib.Hide
import Derived.Deep.QuietTactic
import Derived.BigQuiet
import Derived.Deep.Draws
import Derived.IntWalk
namespace Go.Proofs.YtnaclpfcldoebaaDoor.Match
open Go.RowKit
theorem valI {k : IntKind} {a b : Int} (h : a = b) : Value.int k a = .int k b := by rw [h]

theorem get_eq (s : ByteArray) (a b : Nat) (ha : a < s.size) (hb : b < s.size) : (s.data.toList.getD a 0 == s.data.toList.getD b 0) = (((s[a].toNat : Int)) == ((s[b].toNat : Int))) := by
  have e : ∀ k (h : k < s.size), s.data.toList.getD k 0 = s[k] := fun k h => by
    have h' : k < s.data.toList.length := by simpa using h
    simp only [List.getD, List.getElem?_eq_getElem h', Option.getD_some]
    rfl
  rw [e a ha, e b hb, Bool.eq_iff_iff]
  simp only [beq_iff_eq]
  constructor
  · rintro h; rw [h]
  · intro h; exact UInt8.toNat_inj.1 (by omega)
theorem same_eq (s : ByteArray) (x y n : Nat) (h : y + n < s.size) (hx : x + n < s.size) : same s.data.toList x y n = (((s[x + n].toNat : Int)) == ((s[y + n].toNat : Int))) := by
  unfold same
  rw [get_eq s _ _ hx h, decide_eq_true (by simpa using h), Bool.true_and]
theorem same_end (s : ByteArray) (x y n : Nat) (h : ¬ y + n < s.size) : same s.data.toList x y n = false := by
  unfold same
  rw [decide_eq_false (by simpa using h), Bool.false_and]

theorem all_succ {l : List UInt8} {x y n : Nat} (h : ∀ j, j < n → same l x y j = true) (hn : same l x y n = true) : ∀ j, j < n + 1 → same l x y j = true := by
  intro j hj
  by_cases e : j = n
  · subst e; exact hn
  · exact h j (by omega)
theorem ret_alike (l : List UInt8) (x y n : Nat) (hn : n ≤ 67) (h : ∀ j, j < n → same l x y j = true) (h2 : n = 67 ∨ same l x y n = false) :
    Ending.returned (.int .i64 (n : Int)) = .returned (.int .i64 (alike l ((x : Int)).toNat ((y : Int)).toNat : Int)) := by
  rw [Int.toNat_natCast, Int.toNat_natCast]
  have e : alike l x y = n := upto_eq _ 67 0 n (fun j _ hj => h j hj) (Nat.zero_le _) (by omega) (h2.imp (by omega) id)
  rw [e]

def FindEnd (l : List UInt8) (p : Int) (w : World) (e : Ending) (w' : World) : Prop :=
  e = .returned (.tuple #[.int .i64 ((find l p.toNat).1 : Nat), .int .i64 ((find l p.toNat).2 : Nat)]) ∧ ∃ q, w' = w.drewN q
def FindOut (e : Ending) (w w' : World) : Prop := e = .returned (.tuple #[.int .i64 0, .int .i64 0]) ∧ ∃ q, w' = w.drewN q
theorem min_if (i : Nat) : (if (1024 : Int) < (i : Int) then (1024 : Int) else (i : Int)) = ((min i 1024 : Nat) : Int) := by
  split <;> omega
theorem find_in_eq (l : List UInt8) (i : Nat) (h : i < l.length) : find l i = findTo l i (min i 1024) := by unfold find; rw [if_pos h]
theorem to_yes (l : List UInt8) (i n : Nat) (h1 : 1 ≤ n) (g4 : 4 ≤ alike l (i - n) i) (gb : (findTo l i (n - 1)).2 < alike l (i - n) i) : findTo l i n = (n, alike l (i - n) i) := by
  obtain ⟨k, rfl⟩ : ∃ k, n = k + 1 := ⟨n - 1, by omega⟩
  simp only [Nat.add_sub_cancel] at gb
  simp only [findTo]
  rw [if_pos ⟨g4, gb⟩]
theorem to_no (l : List UInt8) (i n : Nat) (h1 : 1 ≤ n) (g : ¬ (4 ≤ alike l (i - n) i ∧ (findTo l i (n - 1)).2 < alike l (i - n) i)) : findTo l i n = findTo l i (n - 1) := by
  obtain ⟨k, rfl⟩ : ∃ k, n = k + 1 := ⟨n - 1, by omega⟩
  simp only [Nat.add_sub_cancel] at g
  simp only [findTo, Nat.add_sub_cancel]
  rw [if_neg g]
end Go.Proofs.YtnaclpfcldoebaaDoor.Match
