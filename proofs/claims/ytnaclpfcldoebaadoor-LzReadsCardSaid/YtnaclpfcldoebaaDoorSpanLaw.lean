/- Texts with their lengths ahead, in plain Lean. No program in sight. -/
import Derived.Test.YtnaclpfcldoebaaDoorVaryLaw
namespace Go.Proofs.YtnaclpfcldoebaaDoor
abbrev strOf (l : List UInt8) : ByteArray := ⟨l.toArray⟩
/-- A text with its length ahead; what is wrong. -/
def spanOf (s : ByteArray) : ByteArray × Int := if 2000 < s.size then (strOf [], 4) else (strOf (vput s.size) ++ s, 0)
/-- The text that a text begins with. -/
def unspan (s : ByteArray) : ByteArray × Nat × Int :=
  if (vget s.data.toList).2.2 ≠ 0 then (strOf [], 0, (vget s.data.toList).2.2)
  else if 2000 < (vget s.data.toList).1 then (strOf [], 0, 4)
  else if s.size < (vget s.data.toList).1 + (vget s.data.toList).2.1 then (strOf [], 0, 7)
  else (s.extract (vget s.data.toList).2.1 ((vget s.data.toList).2.1 + (vget s.data.toList).1), (vget s.data.toList).2.1 + (vget s.data.toList).1, 0)
theorem unspan_says (s : ByteArray) : ((unspan s).2.2 = 0 ∧ 0 < (unspan s).2.1 ∧ (unspan s).2.1 ≤ s.size ∧ (unspan s).2.1 ≤ 2010 ∧ (unspan s).1.size ≤ 2000 ∧ (unspan s).1.size ≤ s.size) ∨ ∃ e : Int, unspan s = (strOf [], 0, e) ∧ (e = 3 ∨ e = 4 ∨ e = 7) := by
  have h := vget_says s.data.toList
  unfold unspan
  rcases h with ⟨h0, h1, h2, h3, h4⟩ | h | h | h
  · rw [if_neg (by omega)]
    by_cases a : 2000 < (vget s.data.toList).1
    · rw [if_pos a]; exact .inr ⟨4, rfl, by omega⟩
    · rw [if_neg a]
      by_cases b : s.size < (vget s.data.toList).1 + (vget s.data.toList).2.1
      · rw [if_pos b]; exact .inr ⟨7, rfl, by omega⟩
      · rw [if_neg b]
        refine .inl ⟨rfl, by simp only; omega, by simp only; omega, by simp only; omega, ?_, ?_⟩
        · simp only [ByteArray.size_extract]; omega
        · simp only [ByteArray.size_extract]; omega
  · rw [h]; exact .inr ⟨3, by simp, by omega⟩
  · rw [h]; exact .inr ⟨4, by simp, by omega⟩
  · rw [h]; exact .inr ⟨7, by simp, by omega⟩
end Go.Proofs.YtnaclpfcldoebaaDoor
