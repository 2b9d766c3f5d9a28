/- Plain facts on bits turned in a list of bytes. No program in sight. -/
namespace Go.Proofs.Ytoaekpnppinolaa.Turn
/-- Bit p of the bytes is turned. -/
def step (l : List UInt8) (p : Nat) : List UInt8 := l.set (p / 8) (UInt8.ofNat ((l.getD (p / 8) 0).toNat ^^^ 2 ^ (p % 8)))
theorem step_len (l : List UInt8) (p : Nat) : (step l p).length = l.length := by simp [step]
/-- The first k bits of m turn those from a on. -/
def to (l : List UInt8) (m a : Nat) : Nat → List UInt8
  | 0 => l
  | k + 1 => if m / 2 ^ k % 2 = 1 then step (to l m a k) (a + k) else to l m a k
theorem to_len (l : List UInt8) (m a k : Nat) : (to l m a k).length = l.length := by
  induction k with
  | zero => rfl
  | succ k ih =>
    simp only [to]
    split
    · rw [step_len, ih]
    · exact ih
theorem to_yes (l : List UInt8) (m a k : Nat) (h : m / 2 ^ k % 2 = 1) : to l m a (k + 1) = step (to l m a k) (a + k) := by simp only [to]; rw [if_pos h]
theorem to_no (l : List UInt8) (m a k : Nat) (h : ¬ m / 2 ^ k % 2 = 1) : to l m a (k + 1) = to l m a k := by simp only [to]; rw [if_neg h]
def turn (l : List UInt8) (m : Nat) : List UInt8 := if l.length < 4 then l else to l m (m / 4294967296 % (8 * l.length - 31)) 32
/-- Where the rest of the bits is nought nothing turns any more. -/
theorem to_rest (l : List UInt8) (m a k j : Nat) (h : ∀ i, k ≤ i → i < k + j → ¬ m / 2 ^ i % 2 = 1) : to l m a (k + j) = to l m a k := by
  induction j with
  | zero => rfl
  | succ j ih =>
    rw [← Nat.add_assoc, to_no _ _ _ _ (h (k + j) (by omega) (by omega))]
    exact ih fun i h1 h2 => h i h1 (by omega)
theorem low_bit (m k : Nat) (hk : k < 32) : m % 4294967296 / 2 ^ k % 2 = m / 2 ^ k % 2 := by
  have e : 4294967296 = 2 ^ k * 2 ^ (32 - k) := by rw [← Nat.pow_add]; have : k + (32 - k) = 32 := by omega
                                                   rw [this]
  rw [e, Nat.mod_mul_right_div_self]
  have h2 : 2 ^ (32 - k) = 2 * 2 ^ (31 - k) := by rw [← Nat.pow_succ']; congr 1; omega
  rw [h2, Nat.mod_mul_right_mod]
theorem to_low_end (l : List UInt8) (m a k : Nat) (hk : k ≤ 32) (h : m % 4294967296 / 2 ^ k = 0) : to l m a k = to l m a 32 := by
  have := to_rest l m a k (32 - k) (fun i h1 h2 => by
    rw [← low_bit m i (by omega)]
    have e : m % 4294967296 / 2 ^ i = 0 := by
      have : i = k + (i - k) := by omega
      rw [this, Nat.pow_add, ← Nat.div_div_eq_div_mul, h, Nat.zero_div]
    rw [e]
    omega)
  have e : k + (32 - k) = 32 := by omega
  rw [e] at this
  exact this.symm
theorem low_zero (m : Nat) : m % 4294967296 / 2 ^ 32 = 0 := by
  have e : (2 : Nat) ^ 32 = 4294967296 := by decide
  rw [e]
  omega
end Go.Proofs.Ytoaekpnppinolaa.Turn
