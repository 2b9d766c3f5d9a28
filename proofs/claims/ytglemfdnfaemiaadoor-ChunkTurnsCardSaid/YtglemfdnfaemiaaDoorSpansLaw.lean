/- So many texts with their lengths ahead, one behind the other, in plain Lean. No program in sight. -/
import Derived.Test.YtglemfdnfaemiaaDoorSpanLaw
namespace Go.Proofs.YtglemfdnfaemiaaDoor
/-- So many more from byte p on, i texts being done: they, how far, what is wrong, where. -/
def spansGo (s : ByteArray) : Nat → Nat → Nat → List ByteArray → List ByteArray × Nat × Int × Int
  | 0, _, p, acc => (acc, p, 0, -1)
  | r + 1, i, p, acc => if (unspan (s.extract p s.size)).2.2 ≠ 0 then ([], 0, (unspan (s.extract p s.size)).2.2, (i : Int)) else spansGo s r (i + 1) (p + (unspan (s.extract p s.size)).2.1) (acc ++ [(unspan (s.extract p s.size)).1])
def spansOf (s : ByteArray) (n : Nat) : List ByteArray × Nat × Int × Int := spansGo s n 0 0 []
theorem spans_bad {s : ByteArray} {r i p : Nat} {acc : List ByteArray} {X : List ByteArray × Nat × Int × Int} (h : X = spansGo s (r + 1) i p acc) (he : (unspan (s.extract p s.size)).2.2 ≠ 0) : X = ([], 0, (unspan (s.extract p s.size)).2.2, (i : Int)) := by
  rw [h]; simp only [spansGo]; rw [if_pos he]
theorem spans_next {s : ByteArray} {r i p : Nat} {acc : List ByteArray} {X : List ByteArray × Nat × Int × Int} (h : X = spansGo s (r + 1) i p acc) (he : (unspan (s.extract p s.size)).2.2 = 0) : X = spansGo s r (i + 1) (p + (unspan (s.extract p s.size)).2.1) (acc ++ [(unspan (s.extract p s.size)).1]) := by
  rw [h]; simp only [spansGo]; rw [if_neg (by omega)]
theorem spansGo_len (s : ByteArray) : ∀ (r i p : Nat) (acc : List ByteArray), (spansGo s r i p acc).1.length ≤ acc.length + r := by
  intro r
  induction r with
  | zero => intro i p acc; simp [spansGo]
  | succ r ih =>
    intro i p acc
    simp only [spansGo]
    split
    · simp
    · refine Nat.le_trans (ih _ _ _) ?_
      simp only [List.length_append, List.length_cons, List.length_nil]; omega
theorem spans_len (s : ByteArray) (n : Nat) : (spansOf s n).1.length ≤ n := by have := spansGo_len s n 0 0 []; simpa [spansOf] using this
theorem extract_rest (s : ByteArray) (p : Nat) (h : p ≤ s.size) : (s.extract p s.size).size = s.size - p := by rw [ByteArray.size_extract]; omega
theorem extract_twice (s : ByteArray) (p k n : Nat) (h : p ≤ s.size) (hn : n = s.size - p) : (s.extract p s.size).extract k n = s.extract (p + k) s.size := by
  subst hn
  rw [ByteArray.extract_extract]
  congr 1
  omega
theorem extract_all (s : ByteArray) : s.extract 0 s.size = s := by simp
end Go.Proofs.YtglemfdnfaemiaaDoor
