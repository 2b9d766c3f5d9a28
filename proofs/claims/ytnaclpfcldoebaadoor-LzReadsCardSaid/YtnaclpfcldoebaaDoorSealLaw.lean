/- A text with its sum behind, and without, in plain Lean. No program in sight. -/
import Derived.Test.YtnaclpfcldoebaaDoorSpanLaw
import Derived.Test.YtnaclpfcldoebaaDoorCrcLaw
namespace Go.Proofs.YtnaclpfcldoebaaDoor
def crcOf (s : ByteArray) : Nat := 4294967295 - Crc.run 4294967295 s.data.toList
theorem crcOf_lt (s : ByteArray) : crcOf s < 4294967296 := by unfold crcOf; omega
/-- k bytes of a number, the lowest first. -/
def lowB : Nat → Nat → List UInt8
  | 0, _ => []
  | k + 1, n => UInt8.ofNat (n % 256) :: lowB k (n / 256)
theorem lowB_len (k n : Nat) : (lowB k n).length = k := by
  induction k generalizing n with
  | zero => rfl
  | succ k ih => simp [lowB, ih]
theorem lowB_snoc (k n : Nat) : lowB (k + 1) n = lowB k n ++ [UInt8.ofNat (n / 256 ^ k % 256)] := by
  induction k generalizing n with
  | zero => simp [lowB]
  | succ k ih =>
    rw [lowB, ih (n / 256), lowB, Nat.div_div_eq_div_mul, Nat.pow_succ, Nat.mul_comm 256]
    rfl
theorem lowB_four (n : Nat) : lowB 4 n = [UInt8.ofNat (n % 256), UInt8.ofNat (n / 256 % 256), UInt8.ofNat (n / 65536 % 256), UInt8.ofNat (n / 16777216 % 256)] := by
  simp [lowB, Nat.div_div_eq_div_mul]
abbrev four (n : Nat) : ByteArray := strOf (lowB 4 n)
theorem strOf_len (l : List UInt8) : (strOf l).size = l.length := by show l.toArray.size = _; simp
theorem strOf_add (a b : List UInt8) : strOf (a ++ b) = strOf a ++ strOf b := by
  apply ByteArray.ext
  show (a ++ b).toArray = (strOf a ++ strOf b).data
  rw [ByteArray.data_append]
  simp
theorem strOf_nil (s : ByteArray) : s ++ strOf [] = s := by
  apply ByteArray.ext
  rw [ByteArray.data_append]
  simp
theorem nil_strOf (s : ByteArray) : strOf [] ++ s = s := by
  apply ByteArray.ext
  rw [ByteArray.data_append]
  simp
theorem str_assoc (a b c : ByteArray) : a ++ b ++ c = a ++ (b ++ c) := by
  apply ByteArray.ext
  simp only [ByteArray.data_append, Array.append_assoc]
def sealOf (s : ByteArray) : ByteArray := s ++ four (crcOf s)
theorem four_size (n : Nat) : (four n).size = 4 := by rw [strOf_len, lowB_len]
theorem sealOf_size (s : ByteArray) : (sealOf s).size = s.size + 4 := by unfold sealOf; rw [ByteArray.size_append, four_size]
/-- A text without its sum; what is wrong. -/
def openOf (s : ByteArray) : ByteArray × Int := if s.size < 4 then (strOf [], 7) else if sealOf (s.extract 0 (s.size - 4)) = s then (s.extract 0 (s.size - 4), 0) else (strOf [], 15)
theorem open_short {s : ByteArray} (h : s.size < 4) : openOf s = (strOf [], 7) := by unfold openOf; rw [if_pos h]
theorem open_good {s : ByteArray} (h : ¬ s.size < 4) (h2 : sealOf (s.extract 0 (s.size - 4)) = s) : openOf s = (s.extract 0 (s.size - 4), 0) := by unfold openOf; rw [if_neg h, if_pos h2]
theorem open_bad {s : ByteArray} (h : ¬ s.size < 4) (h2 : ¬ sealOf (s.extract 0 (s.size - 4)) = s) : openOf s = (strOf [], 15) := by unfold openOf; rw [if_neg h, if_neg h2]
theorem open_says (s : ByteArray) : ((openOf s).2 = 0 ∧ (openOf s).1.size + 4 = s.size) ∨ openOf s = (strOf [], 7) ∨ openOf s = (strOf [], 15) := by
  by_cases h : s.size < 4
  · exact .inr (.inl (open_short h))
  · by_cases h2 : sealOf (s.extract 0 (s.size - 4)) = s
    · rw [open_good h h2]
      exact .inl ⟨rfl, by simp only [ByteArray.size_extract]; omega⟩
    · exact .inr (.inr (open_bad h h2))
end Go.Proofs.YtnaclpfcldoebaaDoor
