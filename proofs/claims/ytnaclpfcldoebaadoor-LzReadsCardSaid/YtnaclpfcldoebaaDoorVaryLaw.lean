/- Numbers in as few bytes as they need, in plain Lean: what a text begins with, and what a number is. No program in sight. -/
import Derived.Test.YtnaclpfcldoebaaDoorMem
namespace Go.Proofs.YtnaclpfcldoebaaDoor
/-- What bytes come to, the lowest first, seven bits of each. -/
def vval : List UInt8 → Nat
  | [] => 0
  | b :: l => b.toNat % 128 + 128 * vval l
theorem vval_lt (l : List UInt8) : vval l < 128 ^ l.length := by
  induction l with
  | nil => simp [vval]
  | cons b l ih =>
    simp only [vval, List.length_cons, Nat.pow_succ]
    have : b.toNat % 128 < 128 := Nat.mod_lt _ (by omega)
    omega
theorem vval_snoc (l : List UInt8) (b : UInt8) : vval (l ++ [b]) = vval l + b.toNat % 128 * 128 ^ l.length := by
  induction l with
  | nil => simp [vval]
  | cons c l ih =>
    simp only [List.cons_append, vval, ih, List.length_cons, Nat.pow_succ]
    rw [Nat.mul_add, Nat.add_assoc]
    congr 2
    rw [Nat.mul_left_comm, Nat.mul_comm (128 ^ l.length) 128]
/-- From byte i on. -/
def vgo (l : List UInt8) : List UInt8 → Nat → Nat × Nat × Int
  | [], _ => (0, 0, 7)
  | b :: r, i => if i = 9 ∧ 1 < b.toNat then (0, 0, 4) else if b.toNat = 0 ∧ 0 < i then (0, 0, 3) else if b.toNat < 128 then (vval (l.take (i + 1)), i + 1, 0) else vgo l r (i + 1)
/-- The number that bytes begin with, how many bytes it has, what is wrong. -/
def vget (l : List UInt8) : Nat × Nat × Int := vgo l l 0
def VG (l : List UInt8) (k : Nat) : Prop := vget l = vgo l (l.drop k) k ∧ k ≤ 9 ∧ k ≤ l.length
theorem VG.zero (l : List UInt8) : VG l 0 := ⟨rfl, by omega, by omega⟩
theorem dropc {α : Type} {l : List α} {k : Nat} (hk : k < l.length) : l.drop k = l[k] :: l.drop (k + 1) := List.drop_eq_getElem_cons hk
theorem VG.out {l : List UInt8} {k : Nat} (h : VG l k) (hk : l.length ≤ k) : vget l = (0, 0, 7) := by
  rw [h.1, List.drop_eq_nil_of_le hk]; rfl
theorem VG.limit {l : List UInt8} {k : Nat} (h : VG l k) (hk : k < l.length) (h9 : k = 9) (hb : 1 < l[k].toNat) : vget l = (0, 0, 4) := by
  rw [h.1, dropc hk]; simp only [vgo]; rw [if_pos ⟨h9, hb⟩]
theorem VG.form {l : List UInt8} {k : Nat} (h : VG l k) (hk : k < l.length) (h0 : 0 < k) (hb : l[k].toNat = 0) : vget l = (0, 0, 3) := by
  rw [h.1, dropc hk]; simp only [vgo]; rw [if_neg (by omega), if_pos ⟨hb, h0⟩]
theorem VG.done {l : List UInt8} {k : Nat} (h : VG l k) (hk : k < l.length) (h9 : ¬ (k = 9 ∧ 1 < l[k].toNat)) (hb : l[k].toNat < 128) (h0 : ¬ (l[k].toNat = 0 ∧ 0 < k)) : vget l = (vval (l.take (k + 1)), k + 1, 0) := by
  rw [h.1, dropc hk]; simp only [vgo]; rw [if_neg h9, if_neg h0, if_pos hb]
theorem VG.succ {l : List UInt8} {k : Nat} (h : VG l k) (hk : k < l.length) (h9 : ¬ (k = 9 ∧ 1 < l[k].toNat)) (hb : ¬ l[k].toNat < 128) : VG l (k + 1) := by
  refine ⟨?_, by have := h.2.1; omega, by omega⟩
  rw [h.1, dropc hk]; simp only [vgo]; rw [if_neg h9, if_neg (by omega), if_neg hb]
theorem vval_next {l : List UInt8} {k : Nat} (hk : k < l.length) : vval (l.take (k + 1)) = vval (l.take k) + l[k].toNat % 128 * 128 ^ k := by
  rw [List.take_succ_eq_append_getElem hk, vval_snoc, List.length_take, Nat.min_eq_left (by omega)]
theorem vval_take_lt (l : List UInt8) (k : Nat) (hk : k ≤ l.length) : vval (l.take k) < 128 ^ k := by
  have := vval_lt (l.take k)
  rwa [List.length_take, Nat.min_eq_left hk] at this
theorem pow128 (k : Nat) : 128 ^ k = 2 ^ (7 * k) := by rw [Nat.pow_mul]
theorem pow128_le {k : Nat} (h : k ≤ 9) : 128 ^ k ≤ 9223372036854775808 := by
  have := Nat.pow_le_pow_right (n := 128) (by omega) h
  exact Nat.le_trans this (by decide)
/-- It never has more than 64 bits. -/
theorem vval_fits {l : List UInt8} {k : Nat} (hk : k < l.length) (h9 : k ≤ 9) (hb : ¬ (k = 9 ∧ 1 < l[k].toNat)) : vval (l.take (k + 1)) < 18446744073709551616 := by
  rcases Nat.lt_or_ge k 9 with h | h
  · have h1 := vval_take_lt l (k + 1) (by omega)
    have h2 := pow128_le (k := k + 1) (by omega)
    omega
  · obtain rfl : k = 9 := by omega
    rw [vval_next hk]
    have h1 := vval_take_lt l 9 (by omega)
    have h3 : l[9].toNat ≤ 1 := by omega
    have h4 : l[9].toNat % 128 = l[9].toNat := Nat.mod_eq_of_lt (by omega)
    rw [h4]
    have e9 : 128 ^ 9 = 9223372036854775808 := by decide
    rw [e9] at h1 ⊢
    rcases (by omega : l[9].toNat = 0 ∨ l[9].toNat = 1) with e | e <;> rw [e] <;> omega
/-- The end of a number: what the reference sums up, from the last byte on down. -/
def vtail (l : List UInt8) (i k : Nat) : Nat := vval ((l.take i).drop k)
theorem vtail_end (l : List UInt8) (i : Nat) : vtail l i i = 0 := by
  unfold vtail; rw [List.drop_eq_nil_of_le (by rw [List.length_take]; omega)]; rfl
theorem vtail_prev {l : List UInt8} {i k : Nat} (hk : k < i) (hl : i ≤ l.length) : vtail l i k = l[k].toNat % 128 + 128 * vtail l i (k + 1) := by
  unfold vtail
  have h : k < (l.take i).length := by rw [List.length_take]; omega
  rw [dropc h]
  simp [vval]
theorem vtail_le (l : List UInt8) (i k : Nat) : vtail l i k ≤ vval (l.take i) := by
  unfold vtail
  induction k generalizing i with
  | zero => simp
  | succ k ih =>
    have h := ih i
    rcases Nat.lt_or_ge k (l.take i).length with hlt | hge
    · rw [dropc hlt] at h
      simp only [vval] at h
      omega
    · rw [List.drop_eq_nil_of_le (by omega)]
      simp [vval]
theorem vtail_zero (l : List UInt8) (i : Nat) : vtail l i 0 = vval (l.take i) := rfl
/-- What vget can say. -/
theorem vgo_says (l : List UInt8) : ∀ (r : List UInt8) (i : Nat), i + r.length = l.length → r = l.drop i → i ≤ 9 → (vgo l r i).2.2 = 0 ∧ (vgo l r i).1 < 18446744073709551616 ∧ 0 < (vgo l r i).2.1 ∧ (vgo l r i).2.1 ≤ 10 ∧ (vgo l r i).2.1 ≤ l.length ∨ (vgo l r i) = (0, 0, 3) ∨ (vgo l r i) = (0, 0, 4) ∨ (vgo l r i) = (0, 0, 7) := by
  intro r
  induction r with
  | nil => intro i _ _ _; exact .inr (.inr (.inr rfl))
  | cons b r ih =>
    intro i hl hd h9
    have hi : i < l.length := by simp at hl; omega
    have hb : b = l[i] := by
      have := dropc hi
      rw [← hd] at this
      exact (List.cons.inj this).1
    have hr : r = l.drop (i + 1) := by
      have := dropc hi
      rw [← hd] at this
      exact (List.cons.inj this).2
    simp only [vgo]
    by_cases h1 : i = 9 ∧ 1 < b.toNat
    · rw [if_pos h1]; exact .inr (.inr (.inl rfl))
    · rw [if_neg h1]
      by_cases h2 : b.toNat = 0 ∧ 0 < i
      · rw [if_pos h2]; exact .inr (.inl rfl)
      · rw [if_neg h2]
        by_cases h3 : b.toNat < 128
        · rw [if_pos h3]
          left
          refine ⟨rfl, vval_fits hi h9 (by rw [← hb]; exact h1), by simp, by simp; omega, by simp; omega⟩
        · rw [if_neg h3]
          exact ih (i + 1) (by simp at hl; omega) hr (by omega)
theorem vget_says (l : List UInt8) : (vget l).2.2 = 0 ∧ (vget l).1 < 18446744073709551616 ∧ 0 < (vget l).2.1 ∧ (vget l).2.1 ≤ 10 ∧ (vget l).2.1 ≤ l.length ∨ vget l = (0, 0, 3) ∨ vget l = (0, 0, 4) ∨ vget l = (0, 0, 7) :=
  vgo_says l l 0 (by simp) rfl (by omega)
/-- A number of no more than so much. -/
def vint (l : List UInt8) (most : Int) : Nat × Nat × Int := if (vget l).2.2 ≠ 0 then (0, 0, (vget l).2.2) else if most < 0 ∨ most < ((vget l).1 : Int) then (0, 0, 2) else vget l
theorem vint_says (l : List UInt8) (most : Int) : (vint l most).2.2 = 0 ∧ ((vint l most).1 : Int) ≤ most ∧ 0 ≤ most ∧ 0 < (vint l most).2.1 ∧ (vint l most).2.1 ≤ 10 ∧ (vint l most).2.1 ≤ l.length ∨ ∃ e : Int, vint l most = (0, 0, e) ∧ (e = 2 ∨ e = 3 ∨ e = 4 ∨ e = 7) := by
  unfold vint
  rcases vget_says l with ⟨h0, h1, h2, h3, h4⟩ | h | h | h
  · rw [if_neg (by omega)]
    by_cases hm : most < 0 ∨ most < ((vget l).1 : Int)
    · rw [if_pos hm]; exact .inr ⟨2, rfl, .inl rfl⟩
    · rw [if_neg hm]; exact .inl ⟨h0, by omega, by omega, h2, h3, h4⟩
  · rw [h]; exact .inr ⟨3, by simp, by omega⟩
  · rw [h]; exact .inr ⟨4, by simp, by omega⟩
  · rw [h]; exact .inr ⟨7, by simp, by omega⟩

/-- A number as bytes. -/
def vput (n : Nat) : List UInt8 := if n < 128 then [UInt8.ofNat n] else UInt8.ofNat (n % 128 + 128) :: vput (n / 128)
termination_by n
decreasing_by omega
theorem vput_small {n : Nat} (h : n < 128) : vput n = [UInt8.ofNat n] := by rw [vput, if_pos h]
theorem vput_big {n : Nat} (h : ¬ n < 128) : vput n = UInt8.ofNat (n % 128 + 128) :: vput (n / 128) := by rw [vput, if_neg h]
theorem vput_len (n k : Nat) (h : n < 128 ^ (k + 1)) : (vput n).length ≤ k + 1 := by
  induction k generalizing n with
  | zero => rw [vput_small (by simpa using h)]; simp
  | succ k ih =>
    by_cases hn : n < 128
    · rw [vput_small hn]; simp
    · rw [vput_big hn]
      have := ih (n / 128) (by rw [Nat.pow_succ] at h; omega)
      simp only [List.length_cons]
      omega
theorem vput_len10 {n : Nat} (h : n < 18446744073709551616) : (vput n).length ≤ 10 := vput_len n 9 (by have e : (128 : Nat) ^ (9 + 1) = 1180591620717411303424 := by decide
                                                                                                       omega)
theorem vput_pos (n : Nat) : 0 < (vput n).length := by
  by_cases hn : n < 128
  · rw [vput_small hn]; simp
  · rw [vput_big hn]; simp
end Go.Proofs.YtnaclpfcldoebaaDoor
