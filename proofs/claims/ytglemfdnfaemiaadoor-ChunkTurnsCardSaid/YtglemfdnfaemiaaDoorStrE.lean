/- Whether a text is empty. Any program. -/
import Derived.Test.YtglemfdnfaemiaaDoorEqual
namespace Go.Proofs.YtglemfdnfaemiaaDoor
theorem str_empty' (s : ByteArray) : s.toList.isEmpty = decide (s.size = 0) := by
  rw [ByteArray.toList_eq]
  by_cases h : s.size = 0
  · rw [decide_eq_true h]
    have : s.data.toList = [] := by
      apply List.length_eq_zero_iff.1
      simpa using h
    rw [this]; rfl
  · rw [decide_eq_false h]
    rw [List.isEmpty_eq_false_iff]
    intro e
    apply h
    have := congrArg List.length e
    simpa using this
end Go.Proofs.YtglemfdnfaemiaaDoor
