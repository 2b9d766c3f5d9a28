/- The keys that a table and numbers tell, in plain Lean. No program in sight. -/
import Derived.Test.YtglemfdnfaemiaaDoorSpanLaw
namespace Go.Proofs.YtglemfdnfaemiaaDoor
/-- The first key of a table that stands there twice, from k on. -/
def twiceGo (t : List ByteArray) : List ByteArray → Nat → Int
  | [], _ => -1
  | s :: l, k => if s ∈ t.take k then k else twiceGo t l (k + 1)
def twice (t : List ByteArray) : Int := twiceGo t t 0
/-- Numbers from i on, so many keys being told. -/
def klgo (t : List ByteArray) : List Int → Nat → Nat → List ByteArray → List ByteArray × Int × Int
  | [], _, next, out => if next < t.length then ([], 8, -1) else (out, 0, -1)
  | n :: l, i, next, out => if n < 0 ∨ (t.length : Int) ≤ n then ([], 2, i) else if (next : Int) < n then ([], 13, i) else klgo t l (i + 1) (if n = (next : Int) then next + 1 else next) (out ++ [t.getD n.toNat (strOf [])])
def klist (t : List ByteArray) (a : List Int) : List ByteArray × Int × Int := if 0 ≤ twice t then ([], 9, twice t) else klgo t a 0 0 []
/-- None twice ahead of k. -/
def KT (t : List ByteArray) (k : Nat) : Prop := twice t = twiceGo t (t.drop k) k
theorem KT.zero (t : List ByteArray) : KT t 0 := rfl
theorem kdrop {α : Type} {l : List α} {k : Nat} {x : α} (h : l[k]? = some x) : l.drop k = x :: l.drop (k + 1) := by
  obtain ⟨hk, e⟩ := List.getElem?_eq_some_iff.1 h
  rw [List.drop_eq_getElem_cons hk, e]
theorem KT.hit {t : List ByteArray} {k : Nat} {s : ByteArray} (h : KT t k) (hx : t[k]? = some s) (hs : s ∈ t.take k) : twice t = (k : Int) := by
  unfold KT at h; rw [h, kdrop hx]; simp only [twiceGo]; rw [if_pos hs]
theorem KT.succ {t : List ByteArray} {k : Nat} {s : ByteArray} (h : KT t k) (hx : t[k]? = some s) (hs : ¬ s ∈ t.take k) : KT t (k + 1) := by
  unfold KT at *; rw [h, kdrop hx]; simp only [twiceGo]; rw [if_neg hs]
theorem KT.all {t : List ByteArray} {k : Nat} (h : KT t k) (hk : t.length ≤ k) : twice t = -1 := by
  unfold KT at h; rw [h, List.drop_eq_nil_of_le hk]; rfl
theorem klist_twice {t : List ByteArray} {a : List Int} {k : Nat} (h : twice t = (k : Int)) : klist t a = ([], 9, (k : Int)) := by
  unfold klist; rw [h, if_pos (by omega)]
theorem klist_once {t : List ByteArray} {a : List Int} (h : twice t = -1) : klist t a = klgo t a 0 0 [] := by
  unfold klist; rw [h, if_neg (by omega)]
/-- As it stands ahead of number i. -/
structure KA (t : List ByteArray) (a : List Int) (i next : Nat) (out : List ByteArray) : Prop where
  eq : klgo t a 0 0 [] = klgo t (a.drop i) i next out
  len : out.length = i
  le : next ≤ t.length
  le' : next ≤ i
theorem KA.zero (t : List ByteArray) (a : List Int) : KA t a 0 0 [] := ⟨rfl, rfl, Nat.zero_le _, Nat.zero_le _⟩
section
variable {t : List ByteArray} {a : List Int} {i next : Nat} {out : List ByteArray} {n : Int}
theorem KA.range (h : KA t a i next out) (hx : a[i]? = some n) (h1 : n < 0 ∨ (t.length : Int) ≤ n) : klgo t a 0 0 [] = ([], 2, (i : Int)) := by
  rw [h.eq, kdrop hx]; simp only [klgo]; rw [if_pos h1]
theorem KA.false (h : KA t a i next out) (hx : a[i]? = some n) (h1 : ¬ (n < 0 ∨ (t.length : Int) ≤ n)) (h2 : (next : Int) < n) : klgo t a 0 0 [] = ([], 13, (i : Int)) := by
  rw [h.eq, kdrop hx]; simp only [klgo]; rw [if_neg h1, if_pos h2]
theorem KA.new (h : KA t a i next out) (hx : a[i]? = some n) (h1 : ¬ (n < 0 ∨ (t.length : Int) ≤ n)) (h2 : n = (next : Int)) : KA t a (i + 1) (next + 1) (out ++ [t.getD n.toNat (strOf [])]) := by
  refine ⟨?_, by simp [h.len], by omega, by have := h.le'; omega⟩
  rw [h.eq, kdrop hx]; simp only [klgo]; rw [if_neg h1, if_neg (by omega), if_pos h2]
theorem KA.old (h : KA t a i next out) (hx : a[i]? = some n) (h1 : ¬ (n < 0 ∨ (t.length : Int) ≤ n)) (h2 : n < (next : Int)) : KA t a (i + 1) next (out ++ [t.getD n.toNat (strOf [])]) := by
  refine ⟨?_, by simp [h.len], h.le, by have := h.le'; omega⟩
  rw [h.eq, kdrop hx]; simp only [klgo]; rw [if_neg h1, if_neg (by omega), if_neg (by omega)]
theorem KA.less (h : KA t a i next out) (hi : a.length ≤ i) (h1 : next < t.length) : klgo t a 0 0 [] = ([], 8, -1) := by
  rw [h.eq, List.drop_eq_nil_of_le hi]; simp only [klgo]; rw [if_pos h1]
theorem KA.done (h : KA t a i next out) (hi : a.length ≤ i) (h1 : ¬ next < t.length) : klgo t a 0 0 [] = (out, 0, -1) := by
  rw [h.eq, List.drop_eq_nil_of_le hi]; simp only [klgo]; rw [if_neg h1]
end
theorem klgo_len (t : List ByteArray) : ∀ (a : List Int) (i next : Nat) (out : List ByteArray), (klgo t a i next out).1.length ≤ out.length + a.length := by
  intro a
  induction a with
  | nil => intro i next out; simp only [klgo]; split <;> simp
  | cons n a ih =>
    intro i next out
    simp only [klgo]
    split
    · simp
    · split
      · simp
      · refine Nat.le_trans (ih _ _ _) ?_
        simp only [List.length_append, List.length_cons, List.length_nil]; omega
theorem klist_len (t : List ByteArray) (a : List Int) : (klist t a).1.length ≤ a.length := by
  unfold klist
  split
  · simp
  · have := klgo_len t a 0 0 []; simpa using this
end Go.Proofs.YtglemfdnfaemiaaDoor
