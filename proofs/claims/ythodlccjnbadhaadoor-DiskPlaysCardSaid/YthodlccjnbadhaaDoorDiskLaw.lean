/- A disk, in plain Lean: what lasts, what was written since. No program in sight. -/
import Derived.Test.YthodlccjnbadhaaDoorIntMap
namespace Go.Proofs.YthodlccjnbadhaaDoor
set_option linter.unusedVariables false
abbrev DF := Nat → Option ByteArray
def zeros (n : Nat) : ByteArray := ⟨(List.replicate n 0).toArray⟩
theorem zeros_size (n : Nat) : (zeros n).size = n := by unfold zeros; simp [ByteArray.size]
/-- A sector's bytes, filled up. -/
def padz (s : ByteArray) : ByteArray := s ++ zeros (32 - s.size)
theorem padz_size {s : ByteArray} (h : s.size ≤ 32) : (padz s).size = 32 := by unfold padz; rw [ByteArray.size_append, zeros_size]; omega
/-- What a sector has that lasts. -/
def safeAt (S : DF) (i : Nat) : ByteArray := (S i).getD (zeros 32)
def nowAt (S X : DF) (i : Nat) : ByteArray := (X i).getD (safeAt S i)
/-- Those that were written, rising. -/
def dirty (N : Nat) (X : DF) : List Nat := (List.range N).filter fun i => (X i).isSome
def mbit (mask k : Nat) : Bool := mask / 2 ^ (min k 63) % 2 == 1
/-- What lasts when of the first k of l those last that the mask tells. -/
def lasts (mask : Nat) (X : DF) (l : List Nat) (S : DF) : Nat → DF
  | 0 => S
  | k + 1 => if mbit mask k = true then upd (lasts mask X l S k) (l.getD k 0) ((X (l.getD k 0)).getD ⟨#[]⟩) else lasts mask X l S k
def crashed (N mask : Nat) (S X : DF) : DF := lasts mask X (dirty N X) S (dirty N X).length
/-- The disk fits: what it tells is told of sectors that there are, each of 32 bytes. -/
structure DFit (N : Nat) (S X : DF) : Prop where
  n : N ≤ 140
  s : ∀ i s, S i = some s → s.size = 32 ∧ i < N
  x : ∀ i s, X i = some s → s.size = 32 ∧ i < N
theorem dirty_le (N : Nat) (X : DF) : (dirty N X).length ≤ N := by
  unfold dirty
  have := List.length_filter_le (fun i => (X i).isSome) (List.range N)
  rw [List.length_range] at this
  exact this
theorem dirty_mem {N : Nat} {X : DF} {i : Nat} (h : i ∈ dirty N X) : i < N ∧ ∃ s, X i = some s := by
  unfold dirty at h
  rw [List.mem_filter, List.mem_range] at h
  exact ⟨h.1, Option.isSome_iff_exists.1 h.2⟩
theorem dirty_at {N : Nat} {X : DF} {k : Nat} (h : k < (dirty N X).length) : (dirty N X)[k]? = some ((dirty N X).getD k 0) ∧ (dirty N X).getD k 0 < N ∧ ∃ s, X ((dirty N X).getD k 0) = some s := by
  have e : (dirty N X)[k]? = some ((dirty N X).getD k 0) := by
    rw [List.getD_eq_getElem?_getD, List.getElem?_eq_getElem h]; rfl
  have := dirty_mem (List.mem_of_getElem? e)
  exact ⟨e, this.1, this.2⟩
theorem DFit.safe {N : Nat} {S X : DF} (h : DFit N S X) (i : Nat) : (safeAt S i).size = 32 := by
  unfold safeAt
  cases hs : S i with
  | none => exact zeros_size 32
  | some s => exact (h.s i s hs).1
theorem DFit.now {N : Nat} {S X : DF} (h : DFit N S X) (i : Nat) : (nowAt S X i).size = 32 := by
  unfold nowAt
  cases hs : X i with
  | none => exact h.safe i
  | some s => exact (h.x i s hs).1
theorem DFit.new {N : Nat} (h : N ≤ 140) : DFit N (fun _ => none) (fun _ => none) := ⟨h, fun _ _ h => (by cases h), fun _ _ h => (by cases h)⟩
theorem DFit.write {N : Nat} {S X : DF} (h : DFit N S X) {i : Nat} (hi : i < N) {s : ByteArray} (hs : s.size ≤ 32) : DFit N S (upd X i (padz s)) := by
  refine ⟨h.n, h.s, fun j t hj => ?_⟩
  by_cases e : j = i
  · subst e
    rw [upd_same] at hj
    injection hj with hj
    subst hj
    exact ⟨padz_size hs, hi⟩
  · rw [upd_other X _ e] at hj
    exact h.x j t hj
theorem DFit.last {N mask : Nat} {S X : DF} (h : DFit N S X) : ∀ k, k ≤ (dirty N X).length → DFit N (lasts mask X (dirty N X) S k) X := by
  intro k
  induction k with
  | zero => intro _; exact h
  | succ k ih =>
    intro hk
    obtain ⟨_, h2, s, h3⟩ := dirty_at (N := N) (X := X) (k := k) (by omega)
    have h4 := ih (by omega)
    rw [lasts]
    split
    · refine ⟨h.n, fun j t hj => ?_, h.x⟩
      by_cases e : j = (dirty N X).getD k 0
      · subst e
        rw [upd_same, h3] at hj
        injection hj with hj
        rw [← hj]
        exact h.x _ s h3
      · rw [upd_other _ _ e] at hj
        exact h4.s j t hj
    · exact h4
theorem DFit.crash {N mask : Nat} {S X : DF} (h : DFit N S X) : DFit N (crashed N mask S X) (fun _ => none) :=
  ⟨h.n, (h.last (dirty N X).length (Nat.le_refl _)).s, fun _ _ h => (by cases h)⟩
theorem safe_upd (S : DF) (i j : Nat) (s : ByteArray) : safeAt (upd S i s) j = if j = i then s else safeAt S j := by
  unfold safeAt upd
  split <;> rfl
theorem dirty_zero (X : DF) : dirty 0 X = [] := rfl
theorem dirty_yes {X : DF} {k : Nat} (h : (X k).isSome = true) : dirty (k + 1) X = dirty k X ++ [k] := by unfold dirty; rw [List.range_succ, List.filter_append]; simp [h]
theorem dirty_no {X : DF} {k : Nat} (h : (X k).isSome = false) : dirty (k + 1) X = dirty k X := by unfold dirty; rw [List.range_succ, List.filter_append]; simp [h]
end Go.Proofs.YthodlccjnbadhaaDoor
