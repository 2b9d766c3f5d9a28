/- Plain facts on the sum of two texts: a linear step, told by what it does to each bit, squared again and again. No program in sight. -/
import Derived.Test.YtjlbhchfkhphhaaCrcLaw
namespace Go.Proofs.Ytjlbhchfkhphhaa.Crc

theorem iter_zero_n (k : Nat) : iter k 0 = 0 := by
  have h := iter_xor k 0 0
  rw [Nat.xor_self, Nat.xor_self] at h
  exact h
theorem iter_add (a b n : Nat) : iter (a + b) n = iter b (iter a n) := by
  induction a generalizing n with
  | zero => rw [Nat.zero_add]; rfl
  | succ a ih => rw [Nat.succ_add]; exact ih (stp n)
/-- What a nought byte does. -/
theorem nought (n : Nat) : byteStep n 0 = iter 8 n := by
  rw [byteStep_eq n 0 (by omega), bits8_eq]
  simp
theorem mat_at (n : Nat) : one (n % 256) ^^^ (n / 256) = iter 8 n := by
  rw [← nought]; unfold byteStep; rw [Nat.xor_zero]
/-- The sum of those values of f whose bits n has, of the k lowest. -/
def some_ (f : Nat → Nat) (n : Nat) : Nat → Nat
  | 0 => 0
  | k + 1 => if n / 2 ^ k % 2 = 1 then some_ f n k ^^^ f k else some_ f n k
theorem low_succ (n k : Nat) : n % 2 ^ (k + 1) = if n / 2 ^ k % 2 = 1 then (n % 2 ^ k) ^^^ 2 ^ k else n % 2 ^ k := by
  have h := xor_split k (n % 2 ^ (k + 1))
  have h1 : n % 2 ^ (k + 1) % 2 ^ k = n % 2 ^ k := by rw [Nat.pow_succ]; exact Nat.mod_mul_right_mod _ _ _
  have h2 : n % 2 ^ (k + 1) / 2 ^ k = n / 2 ^ k % 2 := by rw [Nat.pow_succ, Nat.mod_mul_right_div_self]
  rw [h1, h2] at h
  rw [h]
  rcases Nat.mod_two_eq_zero_or_one (n / 2 ^ k) with e | e <;> rw [e] <;> simp
theorem some_iter (j n k : Nat) : some_ (fun i => iter j (2 ^ i)) n k = iter j (n % 2 ^ k) := by
  induction k with
  | zero => simp [some_, Nat.mod_one, iter_zero_n]
  | succ k ih =>
    show (if n / 2 ^ k % 2 = 1 then some_ (fun i => iter j (2 ^ i)) n k ^^^ iter j (2 ^ k) else some_ (fun i => iter j (2 ^ i)) n k) = _
    rw [low_succ, ih]
    split
    · rw [iter_xor]
    · rfl
theorem some_full (j n : Nat) (h : n < 4294967296) : some_ (fun i => iter j (2 ^ i)) n 32 = iter j n := by
  rw [some_iter, Nat.mod_eq_of_lt (by simpa using h)]
theorem run_noughts (n k : Nat) : run n (List.replicate k 0) = iter (8 * k) n := by
  induction k generalizing n with
  | zero => rfl
  | succ k ih =>
    rw [List.replicate_succ]
    show run (byteStep n (0 : UInt8).toNat) (List.replicate k 0) = _
    rw [ih]
    have e : (0 : UInt8).toNat = 0 := rfl
    rw [e, nought, ← iter_add]
    congr 1
    omega
theorem some_lt {f : Nat → Nat} (hf : ∀ i, f i < 4294967296) (n k : Nat) : some_ f n k < 4294967296 := by
  induction k with
  | zero => simp [some_]
  | succ k ih =>
    show (if n / 2 ^ k % 2 = 1 then some_ f n k ^^^ f k else some_ f n k) < _
    split
    · exact Nat.xor_lt_two_pow (n := 32) ih (hf k)
    · exact ih
/-- One turn of the squaring: so many steps of which the lowest bit's are done. -/
theorem turn_odd (j n a : Nat) (h : n % 2 = 1) : iter (j * n) a = iter (2 * j * (n / 2)) (iter j a) := by
  rw [← iter_add]
  congr 1
  have : n = 2 * (n / 2) + 1 := by omega
  conv => lhs; rw [this]
  rw [Nat.mul_add, Nat.mul_one, Nat.mul_comm 2 j, Nat.mul_assoc, Nat.add_comm]
theorem turn_even (j n a : Nat) (h : n % 2 = 0) : iter (j * n) a = iter (2 * j * (n / 2)) a := by
  congr 1
  have : n = 2 * (n / 2) := by omega
  conv => lhs; rw [this]
  rw [Nat.mul_comm 2 j, Nat.mul_assoc]
theorem square (j n : Nat) : iter j (iter j n) = iter (2 * j) n := by
  rw [← iter_add]; congr 1; omega
end Go.Proofs.Ytjlbhchfkhphhaa.Crc
