/- What is wrong with a batch, in plain Lean. No program in sight. -/
import Derived.Test.YtglemfdnfaemiaaDoorWriteLaw
import Derived.Test.YtglemfdnfaemiaaDoorVecJoinLaw
namespace Go.Proofs.YtglemfdnfaemiaaDoor
abbrev wid (w : Wr) : Id := (w.1, w.2.1)
/-- What is wrong from write i on, the id ahead being last. -/
def bgo (f h : List Ent) : List Wr → Id → Nat → Int × Int
  | [], _, _ => (0, -1)
  | w :: l, last, i => if wright w ≠ 0 then (wright w, i) else if 0 < i ∧ 0 ≤ idCmp last (wid w) then (10, i) else if idWithin (wid w) f h = false then (6, i) else bgo f h l (wid w) (i + 1)
def bright (f h : List Ent) (l : List Wr) : Int × Int :=
  if (vright f).1 ≠ 0 then ((vright f).1, -1) else if (vright h).1 ≠ 0 then ((vright h).1, -1) else if vcovers h f = false then (13, -1) else if 60 < l.length then (4, -1) else bgo f h l (0, 0) 0
/-- The id ahead of write k. -/
def lastId (l : List Wr) (k : Nat) : Id := if k = 0 then (0, 0) else wid (l.getD (k - 1) noWr)
theorem lastId_succ {l : List Wr} {k : Nat} {w : Wr} (h : l[k]? = some w) : lastId l (k + 1) = wid w := by
  unfold lastId; rw [if_neg (by omega)]; simp [List.getD, h]
/-- As it stands ahead of write k. -/
def BAt (f h : List Ent) (l : List Wr) (k : Nat) : Prop := bgo f h l (0, 0) 0 = bgo f h (l.drop k) (lastId l k) k
section
variable {f h : List Ent} {l : List Wr} {k : Nat} {w : Wr}
theorem BAt.zero : BAt f h l 0 := rfl
theorem BAt.bad (b : BAt f h l k) (hx : l[k]? = some w) (h1 : wright w ≠ 0) : bgo f h l (0, 0) 0 = (wright w, (k : Int)) := by
  unfold BAt at b; rw [b, drop_at hx]; simp only [bgo]; rw [if_pos h1]
theorem BAt.order (b : BAt f h l k) (hx : l[k]? = some w) (h1 : wright w = 0) (h2 : 0 < k) (h3 : 0 ≤ idCmp (lastId l k) (wid w)) : bgo f h l (0, 0) 0 = (10, (k : Int)) := by
  unfold BAt at b; rw [b, drop_at hx]; simp only [bgo]; rw [if_neg (by omega), if_pos ⟨h2, h3⟩]
theorem BAt.state (b : BAt f h l k) (hx : l[k]? = some w) (h1 : wright w = 0) (h2 : ¬ (0 < k ∧ 0 ≤ idCmp (lastId l k) (wid w))) (h3 : idWithin (wid w) f h = false) : bgo f h l (0, 0) 0 = (6, (k : Int)) := by
  unfold BAt at b; rw [b, drop_at hx]; simp only [bgo]; rw [if_neg (by omega), if_neg h2, if_pos h3]
theorem BAt.succ (b : BAt f h l k) (hx : l[k]? = some w) (h1 : wright w = 0) (h2 : ¬ (0 < k ∧ 0 ≤ idCmp (lastId l k) (wid w))) (h3 : idWithin (wid w) f h = true) : BAt f h l (k + 1) := by
  unfold BAt at *; rw [b, drop_at hx, lastId_succ hx]; simp only [bgo]; rw [if_neg (by omega), if_neg h2, if_neg (by simp [h3])]
theorem BAt.all (b : BAt f h l k) (hk : l.length ≤ k) : bgo f h l (0, 0) 0 = (0, -1) := by
  unfold BAt at b; rw [b, List.drop_eq_nil_of_le hk]; rfl
end
/-- A right batch. -/
theorem bgo_ok (f h : List Ent) (l : List Wr) : ∀ (last : Id) (i : Nat), (bgo f h l last i).1 = 0 → bgo f h l last i = (0, -1) ∧ ∀ w ∈ l, wright w = 0 ∧ idWithin (wid w) f h = true := by
  induction l with
  | nil => intro _ _ _; simp [bgo]
  | cons w l ih =>
    intro last i
    simp only [bgo]
    split
    · rename_i h1; intro h2; exact absurd h2 h1
    · rename_i h1
      split
      · intro h; simp at h
      · split
        · intro h; simp at h
        · rename_i h3
          intro h4
          obtain ⟨e, a⟩ := ih _ _ h4
          refine ⟨e, fun x hx => ?_⟩
          rcases List.mem_cons.1 hx with rfl | hx
          · exact ⟨by omega, by simpa using h3⟩
          · exact a x hx
theorem bright_ok {f h : List Ent} {l : List Wr} (e : (bright f h l).1 = 0) : bright f h l = (0, -1) ∧ (vright f).1 = 0 ∧ (vright h).1 = 0 ∧ l.length ≤ 60 ∧ ∀ w ∈ l, wright w = 0 ∧ idWithin (wid w) f h = true := by
  unfold bright at *
  split at e
  · rename_i h1; exact absurd e h1
  · rename_i h1
    split at e
    · rename_i h2; exact absurd e h2
    · rename_i h2
      split at e
      · simp at e
      · split at e
        · simp at e
        · rename_i h3 h4
          obtain ⟨a, b⟩ := bgo_ok f h l _ _ e
          rw [if_neg h1, if_neg h2, if_neg h3, if_neg h4]
          exact ⟨a, by omega, by omega, by omega, b⟩
end Go.Proofs.YtglemfdnfaemiaaDoor
