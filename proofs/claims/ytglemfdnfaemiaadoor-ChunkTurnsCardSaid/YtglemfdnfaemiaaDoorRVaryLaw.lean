/- How many bytes a number needs, and which they are, in plain Lean. No program in sight. -/
import Derived.Test.YtglemfdnfaemiaaDoorVaryLaw
import Derived.Lib.BitFns
namespace Go.Proofs.YtglemfdnfaemiaaDoor
theorem bitLen7 : ∀ n : Fin 128, (Lib.bitLen n.val + 6) / 7 ≤ 1 := by decide +kernel
theorem bitLen_pos {n : Nat} (h : n ≠ 0) : 0 < Lib.bitLen n := by
  unfold Lib.bitLen Lib.bitLenAux
  rw [if_neg h]
  omega
theorem vput_size (f : Nat) : ∀ n : Nat, n < 128 ^ f → n < 18446744073709551616 → (vput n).length = max 1 ((Lib.bitLen n + 6) / 7) := by
  induction f with
  | zero =>
    intro n h _
    obtain rfl : n = 0 := by simpa using h
    rw [vput_small (by omega)]
    decide
  | succ f ih =>
    intro n h hn
    by_cases h7 : n < 128
    · rw [vput_small h7]
      have := bitLen7 ⟨n, h7⟩
      simp only at this
      simp
      omega
    · rw [vput_big h7, List.length_cons, ih (n / 128) (by rw [Nat.pow_succ] at h; omega) (by omega)]
      have hs := Lib.bitLen_shift 7 n (by omega) hn
      have hp := bitLen_pos (n := n / 128) (by omega)
      have e : n / 2 ^ 7 = n / 128 := rfl
      rw [hs, e]
      omega
/-- Byte i of a number. -/
def vbyte (n i : Nat) (last : Bool) : UInt8 := if last then UInt8.ofNat (n / 128 ^ i % 128) else UInt8.ofNat (n / 128 ^ i % 128 + 128)
theorem vput_get (i : Nat) : ∀ n : Nat, i < (vput n).length → (vput n)[i]? = some (vbyte n i (decide ((vput n).length = i + 1))) := by
  induction i with
  | zero =>
    intro n h
    by_cases h7 : n < 128
    · rw [vput_small h7]
      simp [vbyte, Nat.mod_eq_of_lt h7]
    · have hp := vput_pos (n / 128)
      rw [vput_big h7]
      have : ¬ (vput (n / 128)).length + 1 = 0 + 1 := by omega
      simp only [List.length_cons, List.getElem?_cons_zero, decide_eq_false this, vbyte]
      simp
  | succ i ih =>
    intro n h
    by_cases h7 : n < 128
    · rw [vput_small h7] at h; simp at h
    · rw [vput_big h7] at h ⊢
      simp only [List.length_cons] at h
      simp only [List.getElem?_cons_succ, List.length_cons]
      rw [ih (n / 128) (by omega)]
      have e : n / 128 / 128 ^ i = n / 128 ^ (i + 1) := by rw [Nat.div_div_eq_div_mul, Nat.pow_succ, Nat.mul_comm]
      have e2 : decide ((vput (n / 128)).length = i + 1) = decide ((vput (n / 128)).length + 1 = i + 1 + 1) := by rw [decide_eq_decide]; omega
      unfold vbyte
      rw [e, e2]
/-- The bytes ahead of byte i, and noughts from there on. -/
def vpart (n i : Nat) : List UInt8 := (vput n).take i ++ List.replicate ((vput n).length - i) 0
theorem vpart_zero (n : Nat) : vpart n 0 = List.replicate (vput n).length 0 := by simp [vpart]
theorem vpart_len (n i : Nat) (h : i ≤ (vput n).length) : (vpart n i).length = (vput n).length := by simp [vpart]; omega
theorem vpart_end (n : Nat) : vpart n (vput n).length = vput n := by simp [vpart]
theorem vpart_set (n i : Nat) (h : i < (vput n).length) : (vpart n i).set i (vbyte n i (decide ((vput n).length = i + 1))) = vpart n (i + 1) := by
  apply List.ext_getElem?
  intro j
  have hl : ((vput n).take i).length = i := by simp; omega
  have hg := vput_get i n h
  unfold vpart
  rw [List.getElem?_set]
  by_cases hij : i = j
  · subst hij
    rw [if_pos rfl, if_pos (by simp; omega), List.getElem?_append_left (by simp; omega), List.getElem?_take, if_pos (by omega), hg]
  · rw [if_neg hij]
    by_cases hj : j < i
    · rw [List.getElem?_append_left (by simp; omega), List.getElem?_append_left (by simp; omega), List.getElem?_take, List.getElem?_take, if_pos hj, if_pos (by omega)]
    · rw [List.getElem?_append_right (by simp; omega), List.getElem?_append_right (by simp; omega)]
      simp only [List.getElem?_replicate, List.length_take]
      by_cases hje : j < (vput n).length
      · rw [if_pos (by omega), if_pos (by omega)]
      · rw [if_neg (by omega), if_neg (by omega)]
end Go.Proofs.YtglemfdnfaemiaaDoor
