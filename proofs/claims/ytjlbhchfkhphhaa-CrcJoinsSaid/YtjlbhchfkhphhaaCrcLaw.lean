/- Plain facts on the sum of a text: a table-free sum byte by byte is the sum bit by bit. No program in sight. -/
namespace Go.Proofs.Ytjlbhchfkhphhaa.Crc

def poly : Nat := 2197175160
/-- One bit's step. -/
def stp (n : Nat) : Nat := if n % 2 = 1 then (n / 2) ^^^ poly else n / 2
def iter : Nat → Nat → Nat
  | 0, n => n
  | k + 1, n => iter k (stp n)
def one (n : Nat) : Nat := iter 8 n
/-- A byte's step, as the program takes it. -/
def byteStep (n b : Nat) : Nat := one ((n % 256) ^^^ b) ^^^ (n / 256)
/-- All bytes' steps. -/
def run (n : Nat) (l : List UInt8) : Nat := l.foldl (fun n b => byteStep n b.toNat) n
/-- A bit taken in. -/
def bitStep (n bit : Nat) : Nat := stp (n ^^^ bit)
def bits8 : Nat → Nat → Nat → Nat
  | 0, n, _ => n
  | k + 1, n, b => bits8 k (bitStep n (b % 2)) (b / 2)

theorem xor_half (a b : Nat) : (a ^^^ b) / 2 = (a / 2) ^^^ (b / 2) := Nat.xor_div_two
theorem xor_low (a b : Nat) : (a ^^^ b) % 2 = (a % 2 + b % 2) % 2 := by
  have h := Nat.xor_mod_two_pow (a := a) (b := b) (n := 1)
  simp only [Nat.pow_one] at h
  rw [h]
  rcases Nat.mod_two_eq_zero_or_one a with ha | ha <;> rcases Nat.mod_two_eq_zero_or_one b with hb | hb <;> rw [ha, hb] <;> decide
theorem stp_xor (a b : Nat) : stp (a ^^^ b) = stp a ^^^ stp b := by
  unfold stp
  rw [xor_half, xor_low]
  rcases Nat.mod_two_eq_zero_or_one a with ha | ha <;> rcases Nat.mod_two_eq_zero_or_one b with hb | hb <;> simp [ha, hb]
  · rw [Nat.xor_assoc]
  · rw [Nat.xor_assoc, Nat.xor_assoc, Nat.xor_comm poly (b / 2)]
  · rw [Nat.xor_assoc (a / 2) poly, ← Nat.xor_assoc poly, Nat.xor_comm poly (b / 2), Nat.xor_assoc (b / 2), Nat.xor_self, Nat.xor_zero]
theorem stp_double (b : Nat) : stp (2 * b) = b := by unfold stp; rw [if_neg (by omega)]; omega
theorem iter_xor (k a b : Nat) : iter k (a ^^^ b) = iter k a ^^^ iter k b := by
  induction k generalizing a b with
  | zero => rfl
  | succ k ih => show iter k (stp (a ^^^ b)) = iter k (stp a) ^^^ iter k (stp b); rw [stp_xor, ih]
theorem iter_shift (k b : Nat) : iter k (2 ^ k * b) = b := by
  induction k with
  | zero => simp [iter]
  | succ k ih =>
    show iter k (stp (2 ^ (k + 1) * b)) = b
    have e : 2 ^ (k + 1) * b = 2 * (2 ^ k * b) := by rw [Nat.pow_succ, Nat.mul_comm (2 ^ k) 2, Nat.mul_assoc]
    rw [e, stp_double, ih]
theorem xor_split (k n : Nat) : n = (n % 2 ^ k) ^^^ (2 ^ k * (n / 2 ^ k)) := by
  apply Nat.eq_of_testBit_eq
  intro i
  rw [Nat.testBit_xor, Nat.testBit_mod_two_pow, Nat.testBit_two_pow_mul, Nat.testBit_div_two_pow]
  by_cases h : i < k
  · have h2 : ¬ k ≤ i := by omega
    simp [h, h2]
  · have h2 : k ≤ i := by omega
    simp [h, h2]
theorem bits8_eq (k n b : Nat) : bits8 k n b = iter k (n ^^^ (b % 2 ^ k)) := by
  induction k generalizing n b with
  | zero => simp [bits8, iter, Nat.mod_one]
  | succ k ih =>
    show bits8 k (bitStep n (b % 2)) (b / 2) = iter k (stp (n ^^^ (b % 2 ^ (k + 1))))
    rw [ih]
    congr 1
    have e : b % 2 ^ (k + 1) = (b % 2) ^^^ (2 * (b / 2 % 2 ^ k)) := by
      have h := xor_split 1 (b % 2 ^ (k + 1))
      simp only [Nat.pow_one] at h
      rw [h]
      have h1 : b % 2 ^ (k + 1) % 2 = b % 2 := by
        rw [Nat.pow_succ, Nat.mod_mul_left_mod]
      have h2 : b % 2 ^ (k + 1) / 2 = b / 2 % 2 ^ k := by
        rw [Nat.pow_succ, Nat.mul_comm, Nat.mod_mul_right_div_self]
      rw [h1, h2]
    rw [e, ← Nat.xor_assoc, stp_xor (n ^^^ (b % 2)), stp_double]
    rfl
theorem byteStep_eq (n b : Nat) (hb : b < 256) : byteStep n b = bits8 8 n b := by
  rw [bits8_eq]
  have hb' : b % 2 ^ 8 = b := Nat.mod_eq_of_lt hb
  rw [hb']
  have h := xor_split 8 n
  have e : n ^^^ b = ((n % 256) ^^^ b) ^^^ (2 ^ 8 * (n / 256)) := by
    rw [Nat.xor_assoc, Nat.xor_comm b, ← Nat.xor_assoc]
    congr 1
  rw [e, iter_xor, iter_shift]
  rfl
theorem poly_lt : poly < 4294967296 := by decide
theorem stp_lt {n : Nat} (h : n < 4294967296) : stp n < 4294967296 := by
  unfold stp
  split
  · exact Nat.xor_lt_two_pow (n := 32) (by omega) poly_lt
  · omega
theorem iter_lt (k : Nat) {n : Nat} (h : n < 4294967296) : iter k n < 4294967296 := by
  induction k generalizing n with
  | zero => exact h
  | succ k ih => exact ih (stp_lt h)
theorem iter_succ (k n : Nat) : iter (k + 1) n = stp (iter k n) := by
  induction k generalizing n with
  | zero => rfl
  | succ k ih => show iter (k + 1) (stp n) = stp (iter k (stp n)); exact ih (stp n)
theorem byteStep_lt {n b : Nat} (h : n < 4294967296) (hb : b < 256) : byteStep n b < 4294967296 := by
  unfold byteStep
  refine Nat.xor_lt_two_pow (n := 32) (iter_lt 8 ?_) (by omega)
  have := Nat.xor_lt_two_pow (n := 8) (x := n % 256) (y := b) (by omega) hb
  omega
theorem run_lt {n : Nat} (h : n < 4294967296) (l : List UInt8) : run n l < 4294967296 := by
  induction l generalizing n with
  | nil => exact h
  | cons b l ih => exact ih (byteStep_lt h b.toNat_lt)
theorem run_snoc (n : Nat) (l : List UInt8) (b : UInt8) : run n (l ++ [b]) = byteStep (run n l) b.toNat := by simp [run, List.foldl_append]

/-- After i bits of a text: bit i % 8 of byte i / 8 is taken next. -/
def carried (n : Nat) (l : List UInt8) (i : Nat) : Nat := bits8 (i % 8) (run n (l.take (i / 8))) (l.getD (i / 8) 0).toNat
theorem bits8_snoc (k n b : Nat) : bits8 (k + 1) n b = bitStep (bits8 k n b) (b / 2 ^ k % 2) := by
  induction k generalizing n b with
  | zero => simp [bits8]
  | succ k ih =>
    show bits8 (k + 1) (bitStep n (b % 2)) (b / 2) = _
    rw [ih]
    have e : b / 2 / 2 ^ k = b / 2 ^ (k + 1) := by rw [Nat.div_div_eq_div_mul, Nat.pow_succ, Nat.mul_comm 2]
    rw [e]
    rfl
theorem carried_zero (n : Nat) (l : List UInt8) : carried n l 0 = n := by simp [carried, bits8, run]
theorem carried_succ (n : Nat) (l : List UInt8) (i : Nat) (h : i < 8 * l.length) :
    carried n l (i + 1) = bitStep (carried n l i) ((l.getD (i / 8) 0).toNat / 2 ^ (i % 8) % 2) := by
  unfold carried
  have hi : i / 8 < l.length := by omega
  have hg : l.getD (i / 8) 0 = l[i / 8] := by simp [List.getD, hi]
  rcases Nat.lt_or_ge (i % 8) 7 with h7 | h7
  · have e1 : (i + 1) % 8 = i % 8 + 1 := by omega
    have e2 : (i + 1) / 8 = i / 8 := by omega
    rw [e1, e2, bits8_snoc]
  · have e0 : i % 8 = 7 := by omega
    have e1 : (i + 1) % 8 = 0 := by omega
    have e2 : (i + 1) / 8 = i / 8 + 1 := by omega
    rw [e1, e2, e0, ← bits8_snoc]
    rw [List.take_succ_eq_append_getElem hi, run_snoc, byteStep_eq _ _ (UInt8.toNat_lt _), hg]
    rfl
theorem carried_end (n : Nat) (l : List UInt8) : carried n l (8 * l.length) = run n l := by
  unfold carried
  have e1 : 8 * l.length % 8 = 0 := by omega
  have e2 : 8 * l.length / 8 = l.length := by omega
  rw [e1, e2, List.take_length]
  rfl
theorem bitStep_lt {n b : Nat} (h : n < 4294967296) (hb : b < 2) : bitStep n b < 4294967296 :=
  stp_lt (Nat.xor_lt_two_pow (n := 32) h (by omega))
theorem bits8_lt (k : Nat) {n b : Nat} (h : n < 4294967296) : bits8 k n b < 4294967296 := by
  induction k generalizing n b with
  | zero => exact h
  | succ k ih => exact ih (bitStep_lt h (by omega))
theorem carried_lt {n : Nat} (h : n < 4294967296) (l : List UInt8) (i : Nat) : carried n l i < 4294967296 := bits8_lt _ (run_lt h _)
/-- A bit taken in, as the reference does it. -/
theorem bitStep_ref (n b : Nat) (hb : b < 2) : bitStep n b = if ((n % 2) ^^^ b) = 1 then (n / 2) ^^^ poly else n / 2 := by
  unfold bitStep stp
  rw [xor_half, xor_low]
  have h0 : b / 2 = 0 := by omega
  rw [h0, Nat.xor_zero]
  rcases Nat.mod_two_eq_zero_or_one n with ha | ha <;> rcases (by omega : b = 0 ∨ b = 1) with rfl | rfl <;> simp [ha]
end Go.Proofs.Ytjlbhchfkhphhaa.Crc
