/- A text in pieces, in plain Lean. No program in sight. -/
import Derived.Test.YtglemfdnfaemiaaDoorSealLaw
import Derived.Test.YtglemfdnfaemiaaDoorEqualC
namespace Go.Proofs.YtglemfdnfaemiaaDoor
def piece (s : ByteArray) (z k : Nat) : Chk := ((crcOf s : Int), (s.size : Int), ((k * z : Nat) : Int), s.extract (k * z) (min s.size (k * z + z)))
def pieces (s : ByteArray) (z : Nat) : Nat → List Chk
  | 0 => []
  | k + 1 => pieces s z k ++ [piece s z k]
theorem pieces_len (s : ByteArray) (z k : Nat) : (pieces s z k).length = k := by
  induction k with
  | zero => rfl
  | succ k ih => simp [pieces, ih]
def howMany (s : ByteArray) (z : Nat) : Nat := (s.size + z - 1) / z
def cutOf (s : ByteArray) (z : Int) : List Chk × Int := if s.size = 0 ∨ 4096 < s.size then ([], 4) else if z < 1 ∨ 256 < z then ([], 2) else (pieces s z.toNat (howMany s z.toNat), 0)
theorem cut_limit {s : ByteArray} {z : Int} (h : s.size = 0 ∨ 4096 < s.size) : cutOf s z = ([], 4) := by unfold cutOf; rw [if_pos h]
theorem cut_range {s : ByteArray} {z : Int} (h : ¬ (s.size = 0 ∨ 4096 < s.size)) (h2 : z < 1 ∨ 256 < z) : cutOf s z = ([], 2) := by unfold cutOf; rw [if_neg h, if_pos h2]
theorem cut_good {s : ByteArray} {z : Nat} (h : ¬ (s.size = 0 ∨ 4096 < s.size)) (h2 : ¬ ((z : Int) < 1 ∨ 256 < (z : Int))) : cutOf s (z : Int) = (pieces s z (howMany s z), 0) := by unfold cutOf; rw [if_neg h, if_neg h2]; rfl
/-- k pieces are done, p bytes of the text ahead of the next. -/
def Cut (s : ByteArray) (z k p : Nat) : Prop := p = k * z ∧ (k = 0 ∨ p < s.size + z)
theorem Cut.zero (s : ByteArray) (z : Nat) : Cut s z 0 0 := ⟨by simp, .inl rfl⟩
theorem Cut.succ {s : ByteArray} {z k p : Nat} (h : Cut s z k p) (hp : p < s.size) : Cut s z (k + 1) (p + z) := ⟨by rw [h.1, Nat.succ_mul], .inr (by omega)⟩
theorem Cut.le {s : ByteArray} {z k p : Nat} (h : Cut s z k p) (hz : 0 < z) : k ≤ p := by rw [h.1]; exact Nat.le_mul_of_pos_right k hz
theorem Cut.done {s : ByteArray} {z k p : Nat} (h : Cut s z k p) (hz : 0 < z) (hp : s.size ≤ p) (h0 : 0 < s.size) : k = howMany s z := by
  unfold howMany
  obtain ⟨rfl, h2⟩ := h
  have hk : 0 < k := by
    rcases Nat.eq_zero_or_pos k with rfl | h
    · rw [Nat.zero_mul] at hp; omega
    · exact h
  have e : k * z = (k - 1) * z + z := by
    have : k = (k - 1) + 1 := by omega
    conv => lhs; rw [this]
    rw [Nat.succ_mul]
  exact (Nat.div_eq_of_lt_le (by omega) (by rw [Nat.succ_mul]; omega)).symm
theorem Cut.piece {s : ByteArray} {z k p : Nat} (h : Cut s z k p) : pieces s z (k + 1) = pieces s z k ++ [((crcOf s : Int), (s.size : Int), (p : Int), s.extract p (min s.size (p + z)))] := by
  simp only [pieces, Go.Proofs.YtglemfdnfaemiaaDoor.piece, ← h.1]
theorem howMany_le {s : ByteArray} {z : Nat} (hz : 0 < z) : howMany s z ≤ s.size := by
  unfold howMany
  rw [Nat.div_le_iff_le_mul_add_pred hz]
  have : s.size ≤ z * s.size := Nat.le_mul_of_pos_left _ hz
  omega
end Go.Proofs.YtglemfdnfaemiaaDoor
