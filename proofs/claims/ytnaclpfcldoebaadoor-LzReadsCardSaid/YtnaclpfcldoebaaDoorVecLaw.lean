/- What is wrong with a vector, in plain Lean. No program in sight. -/
import Derived.Test.YtnaclpfcldoebaaDoorEnts
namespace Go.Proofs.YtnaclpfcldoebaaDoor
/-- An entry beyond what there is. -/
def entBad (x : Ent) : Prop := x.1 < 0 ∨ 200 < x.1 ∨ x.2 < 1 ∨ 1099511627776 < x.2
instance (x : Ent) : Decidable (entBad x) := by unfold entBad; infer_instance
/-- What is wrong from entry i on, the replica ahead being last. -/
def vrgo : List Ent → Int → Nat → Int × Int
  | [], _, _ => (0, -1)
  | x :: l, last, i => if entBad x then (2, i) else if x.1 ≤ last then (10, i) else vrgo l x.1 (i + 1)
def vright (l : List Ent) : Int × Int := if 16 < l.length then (4, -1) else vrgo l (-1) 0
/-- The replica ahead of entry k. -/
def lastAt (l : List Ent) (k : Nat) : Int := if k = 0 then -1 else (l.getD (k - 1) (-1, 0)).1
theorem lastAt_zero (l : List Ent) : lastAt l 0 = -1 := rfl
theorem lastAt_succ (l : List Ent) (k : Nat) (r t : Int) (h : l[k]? = some (r, t)) : lastAt l (k + 1) = r := by
  unfold lastAt
  rw [if_neg (by omega)]
  simp [List.getD, h]
/-- As it stands ahead of entry k. -/
def VAt (l : List Ent) (k : Nat) : Prop := vrgo l (-1) 0 = vrgo (l.drop k) (lastAt l k) k
theorem VAt.zero (l : List Ent) : VAt l 0 := rfl
theorem drop_at {α : Type} {l : List α} {k : Nat} {x : α} (h : l[k]? = some x) : l.drop k = x :: l.drop (k + 1) := by
  obtain ⟨hk, e⟩ := List.getElem?_eq_some_iff.1 h
  rw [List.drop_eq_getElem_cons hk, e]
theorem VAt.bad {l : List Ent} {k : Nat} {x : Ent} (h : VAt l k) (hx : l[k]? = some x) (hb : entBad x) : vrgo l (-1) 0 = (2, (k : Int)) := by
  unfold VAt at h
  rw [h, drop_at hx]
  simp only [vrgo]
  rw [if_pos hb]
theorem VAt.order {l : List Ent} {k : Nat} {x : Ent} (h : VAt l k) (hx : l[k]? = some x) (hb : ¬ entBad x) (ho : x.1 ≤ lastAt l k) : vrgo l (-1) 0 = (10, (k : Int)) := by
  unfold VAt at h
  rw [h, drop_at hx]
  simp only [vrgo]
  rw [if_neg hb, if_pos ho]
theorem VAt.succ {l : List Ent} {k : Nat} {r t : Int} (h : VAt l k) (hx : l[k]? = some (r, t)) (hb : ¬ entBad (r, t)) (ho : ¬ r ≤ lastAt l k) : VAt l (k + 1) := by
  unfold VAt at *
  rw [h, drop_at hx]
  simp only [vrgo]
  rw [if_neg hb, if_neg ho, lastAt_succ l k r t hx]
theorem VAt.all {l : List Ent} {k : Nat} (h : VAt l k) (hk : l.length ≤ k) : vrgo l (-1) 0 = (0, -1) := by
  unfold VAt at h
  rw [h, List.drop_eq_nil_of_le hk]
  rfl
theorem vright_big {l : List Ent} (h : 16 < l.length) : vright l = (4, -1) := by unfold vright; rw [if_pos h]
theorem vright_small {l : List Ent} (h : ¬ 16 < l.length) : vright l = vrgo l (-1) 0 := by unfold vright; rw [if_neg h]
theorem vright_ok_len {l : List Ent} (h : (vright l).1 = 0) : l.length ≤ 16 := by
  rcases Nat.lt_or_ge 16 l.length with h' | h'
  · rw [vright_big h'] at h; simp at h
  · exact h'
theorem vrgo_place (l : List Ent) : ∀ (last : Int) (i : Nat), (vrgo l last i).1 = 0 → (vrgo l last i).2 = -1 := by
  induction l with
  | nil => intro _ _ _; rfl
  | cons x l ih =>
    intro last i
    simp only [vrgo]
    split
    · intro h; simp at h
    · split
      · intro h; simp at h
      · exact ih _ _
theorem vright_place {l : List Ent} (h : (vright l).1 = 0) : (vright l).2 = -1 := by
  unfold vright at *
  split
  · rfl
  · rename_i h'; rw [if_neg h'] at h; exact vrgo_place l _ _ h
/-- A right vector: each entry fits, and the replicas rise. -/
theorem vrgo_ok (l : List Ent) : ∀ (last : Int) (i : Nat), (vrgo l last i).1 = 0 → (∀ x ∈ l, ¬ entBad x) ∧ (∀ x ∈ l, last < x.1) ∧ l.Pairwise (fun x y => x.1 < y.1) := by
  induction l with
  | nil => intro _ _ _; simp
  | cons x l ih =>
    intro last i
    simp only [vrgo]
    split
    · intro h; simp at h
    · rename_i hb
      split
      · intro h; simp at h
      · rename_i ho
        intro h
        obtain ⟨h1, h2, h3⟩ := ih _ _ h
        refine ⟨?_, ?_, ?_⟩
        · intro y hy
          rcases List.mem_cons.1 hy with rfl | hy
          · exact hb
          · exact h1 y hy
        · intro y hy
          rcases List.mem_cons.1 hy with rfl | hy
          · omega
          · have := h2 y hy; omega
        · exact List.pairwise_cons.2 ⟨h2, h3⟩
theorem vright_ok {l : List Ent} (h : (vright l).1 = 0) : (∀ x ∈ l, ¬ entBad x) ∧ l.Pairwise (fun x y => x.1 < y.1) := by
  rw [vright_small (by have := vright_ok_len h; omega)] at h
  obtain ⟨h1, _, h3⟩ := vrgo_ok l _ _ h
  exact ⟨h1, h3⟩
end Go.Proofs.YtnaclpfcldoebaaDoor
