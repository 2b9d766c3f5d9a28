/- The Go functions within and Find of the reference compute what the plain functions of MatchLaw say. -/
import Derived.Test.YtnaclpfcldoebaaDoorMatchWalks
import Derived.Deep.DeepCutAuto
import Derived.Deep.Cut
import Derived.Deep.CutBlock
namespace Go.Proofs.YtnaclpfcldoebaaDoor.Match
open Go.RowKit
theorem within_any (n a b : Int) (w : World) :
    Calls Tryd.prog 79 #[.int .i64 n, .int .i64 a, .int .i64 b] w fun e w' => e = .returned (.bool (decide (a ≤ n) && decide (n ≤ b))) ∧ w = w' := by
  go_enter Tryd.func79, Tryd.ntmps79
  go_wp2
  · go_ret
    have h : a ≤ n := by omega
    exact ⟨by rw [decide_eq_true h, Bool.true_and]; rfl, rfl⟩
  · go_ret
    have h : ¬ a ≤ n := by omega
    exact ⟨by rw [decide_eq_false h, Bool.false_and]; rfl, rfl⟩
theorem down1 {A : Nat → Nat} {n hi f b : Nat} (h1 : 1 ≤ n) (hn : n ≤ hi) (h : Best A n hi f b) (g1 : b ≤ A n) (g4 : 4 ≤ A n) : Best A (n - 1) hi n (A n) := by
  obtain ⟨k, rfl⟩ : ∃ k, n = k + 1 := ⟨n - 1, by omega⟩
  exact h.down_yes hn g4 g1
theorem down2 {A : Nat → Nat} {n hi f b : Nat} (h1 : 1 ≤ n) (hn : n ≤ hi) (h : Best A n hi f b) (g : ¬ (b ≤ A n ∧ 4 ≤ A n)) : Best A (n - 1) hi f b := by
  obtain ⟨k, rfl⟩ : ∃ k, n = k + 1 := ⟨n - 1, by omega⟩
  exact h.down_no hn g
theorem numN {k : IntKind} {n : Nat} (h : 1 ≤ n) : Value.int k ((n : Int) - 1) = .int k ((n - 1 : Nat) : Int) := valI (by omega)
theorem val_alike (l : List UInt8) (x y n : Nat) (hn : n ≤ 67) (h : ∀ j, j < n → same l x y j = true) (h2 : n = 67 ∨ same l x y n = false) :
    Value.int .i64 (n : Int) = .int .i64 ((alike l x y : Nat) : Int) := by
  have e : alike l x y = n := upto_eq _ 67 0 n (fun j _ hj => h j hj) (Nat.zero_le _) (by omega) (h2.imp (by omega) id)
  rw [e]
theorem eqv_sym (a b : Int) : (a == b) = (b == a) := by rw [Bool.eq_iff_iff]; simp only [beq_iff_eq]; exact ⟨Eq.symm, Eq.symm⟩
end Go.Proofs.YtnaclpfcldoebaaDoor.Match
