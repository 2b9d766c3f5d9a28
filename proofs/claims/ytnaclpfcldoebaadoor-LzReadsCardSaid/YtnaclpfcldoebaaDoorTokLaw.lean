/- Plain facts on a text's tokens. No program in sight. -/
import Derived.Test.YtnaclpfcldoebaaDoorEqualS
import Derived.Test.YtnaclpfcldoebaaDoorMatchLaw
namespace Go.Proofs.YtnaclpfcldoebaaDoor.Tokens
open Go.RowKit Match
structure St where
  at_ : Nat
  own : Nat
  done : List Tok
/-- What is told so far, the text of its own that still grows with it. -/
def flush (s : ByteArray) (x : St) : List Tok := if x.own < x.at_ then x.done ++ [(s.extract x.own x.at_, 0, 0)] else x.done
def step (s : ByteArray) (x : St) : St :=
  if x.at_ < s.size then
    if (find s.data.toList x.at_).2 = 0 then { x with at_ := x.at_ + 1 }
    else { at_ := x.at_ + (find s.data.toList x.at_).2, own := x.at_ + (find s.data.toList x.at_).2, done := flush s x ++ [(ByteArray.empty, ((find s.data.toList x.at_).1 : Int), ((find s.data.toList x.at_).2 : Int))] }
  else x
def st (s : ByteArray) : Nat → St
  | 0 => ⟨0, 0, []⟩
  | k + 1 => step s (st s k)
def tokens (s : ByteArray) : List Tok := flush s (st s s.size)
theorem alike_end (l : List UInt8) (a b : Nat) (hb : b ≤ l.length) : b + alike l a b ≤ l.length := by
  rcases Nat.eq_zero_or_pos (alike l a b) with h | h
  · omega
  · have := upto_holds (same l a b) 67 0 (alike l a b - 1) (Nat.zero_le _) (by unfold alike at h ⊢; omega)
    unfold same at this
    simp at this
    omega
theorem findTo_end (l : List UInt8) (i k : Nat) (hi : i ≤ l.length) : i + (findTo l i k).2 ≤ l.length := by
  induction k with
  | zero => exact hi
  | succ k ih =>
    simp only [findTo]
    split
    · exact alike_end l _ i hi
    · exact ih
theorem find_end (l : List UInt8) (i : Nat) (hi : i ≤ l.length) : i + (find l i).2 ≤ l.length := by
  unfold find
  split
  · exact findTo_end l i _ hi
  · exact hi
theorem find_le (l : List UInt8) (i : Nat) : (find l i).1 ≤ 1024 ∧ (find l i).2 ≤ 67 := by
  unfold find
  split
  · have := findTo_le l i (min i 1024); omega
  · simp
theorem flush_len (s : ByteArray) (x : St) (h : x.done.length ≤ x.own) (ho : x.own ≤ x.at_) : (flush s x).length ≤ x.at_ := by
  unfold flush
  split
  · simp; omega
  · omega
theorem st_inv (s : ByteArray) (k : Nat) : (st s k).own ≤ (st s k).at_ ∧ (st s k).at_ ≤ s.size ∧ (st s k).done.length ≤ (st s k).own ∧ (k ≤ (st s k).at_ ∨ (st s k).at_ = s.size) := by
  induction k with
  | zero => exact ⟨Nat.le_refl _, Nat.zero_le _, Nat.le_refl _, .inl (Nat.le_refl _)⟩
  | succ k ih =>
    obtain ⟨h1, h2, h3, h4⟩ := ih
    have e : st s (k + 1) = step s (st s k) := rfl
    rw [e]
    clear e
    generalize st s k = x at *
    unfold step
    by_cases hlt : x.at_ < s.size
    · rw [if_pos hlt]
      by_cases hz : (find s.data.toList x.at_).2 = 0
      · rw [if_pos hz]
        exact ⟨by simp; omega, by simp; omega, h3, by simp; omega⟩
      · rw [if_neg hz]
        have he := find_end s.data.toList x.at_ (by simpa using h2)
        have hf := flush_len s x h3 h1
        refine ⟨Nat.le_refl _, by simpa using he, by simp; omega, ?_⟩
        simp only
        omega
    · rw [if_neg hlt]
      exact ⟨h1, h2, h3, by omega⟩
theorem st_fix (s : ByteArray) (k j : Nat) (h : s.size ≤ (st s k).at_) : st s (k + j) = st s k := by
  induction j with
  | zero => rfl
  | succ j ih =>
    show step s (st s (k + j)) = st s k
    rw [ih]
    unfold step
    rw [if_neg (by omega)]
theorem st_end (s : ByteArray) (k : Nat) (h : s.size ≤ (st s k).at_) : flush s (st s k) = tokens s := by
  unfold tokens
  have h2 := (st_inv s s.size).2.2.2
  have h3 := (st_inv s s.size).2.1
  have hz : s.size ≤ (st s s.size).at_ := by omega
  rcases Nat.le_total k s.size with hk | hk
  · have := st_fix s k (s.size - k) h
    rw [Nat.add_sub_cancel' hk] at this
    rw [this]
  · have := st_fix s s.size (k - s.size) hz
    rw [Nat.add_sub_cancel' hk] at this
    rw [this]
theorem step_none (s : ByteArray) (x : St) (h : x.at_ < s.size) (hz : (find s.data.toList x.at_).2 = 0) : step s x = ⟨x.at_ + 1, x.own, x.done⟩ := by unfold step; rw [if_pos h, if_pos hz]
theorem step_some (s : ByteArray) (x : St) (h : x.at_ < s.size) (hz : (find s.data.toList x.at_).2 ≠ 0) :
    step s x = ⟨x.at_ + (find s.data.toList x.at_).2, x.at_ + (find s.data.toList x.at_).2, flush s x ++ [(ByteArray.empty, ((find s.data.toList x.at_).1 : Int), ((find s.data.toList x.at_).2 : Int))]⟩ := by unfold step; rw [if_pos h, if_neg hz]
theorem flush_own (s : ByteArray) (x : St) (h : x.own < x.at_) : flush s x = x.done ++ [(s.extract x.own x.at_, 0, 0)] := by unfold flush; rw [if_pos h]
theorem flush_no (s : ByteArray) (x : St) (h : ¬ x.own < x.at_) : flush s x = x.done := by unfold flush; rw [if_neg h]
theorem tokens_len (s : ByteArray) : (tokens s).length ≤ s.size := by
  have := st_inv s s.size
  have h := flush_len s (st s s.size) this.2.2.1 this.1
  unfold tokens
  omega
theorem st_succ (s : ByteArray) (k : Nat) : st s (k + 1) = step s (st s k) := rfl
end Go.Proofs.YtnaclpfcldoebaaDoor.Tokens
