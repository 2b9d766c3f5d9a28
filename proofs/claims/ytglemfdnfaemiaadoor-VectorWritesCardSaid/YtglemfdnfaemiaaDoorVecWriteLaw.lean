/- A vector as bytes, in plain Lean: runs of replicas beside each other. No program in sight. -/
import Derived.Test.YtglemfdnfaemiaaDoorVecJoinLaw
import Derived.Test.YtglemfdnfaemiaaDoorSpanLaw
namespace Go.Proofs.YtglemfdnfaemiaaDoor
/-- The runs, one entry more. -/
def rstep (rs : List (List Ent)) (x : Ent) : List (List Ent) :=
  match rs.getLast? with
  | none => [[x]]
  | some r => if (r.getLast?.getD (0, 0)).1 + 1 = x.1 then rs.dropLast ++ [r ++ [x]] else rs ++ [[x]]
def runs (l : List Ent) : List (List Ent) := l.foldl rstep []
theorem runs_snoc (l : List Ent) (x : Ent) : runs (l ++ [x]) = rstep (runs l) x := by simp [runs, List.foldl_append]
theorem runs_take {l : List Ent} {k : Nat} {x : Ent} (h : l[k]? = some x) : runs (l.take (k + 1)) = rstep (runs (l.take k)) x := by
  obtain ⟨hk, e⟩ := List.getElem?_eq_some_iff.1 h
  rw [List.take_succ_eq_append_getElem hk, e, runs_snoc]
/-- A run's times. -/
def times (r : List Ent) : List UInt8 := r.flatMap fun x => vput x.2.toNat
/-- The bytes of runs, and the last replica so far (-1: none). -/
def bstep (b : List UInt8 × Int) (r : List Ent) : List UInt8 × Int :=
  (b.1 ++ (vput (if b.2 < 0 then (r.head?.getD (0, 0)).1 else (r.head?.getD (0, 0)).1 - b.2 - 2).toNat ++ vput (r.length - 1) ++ times r), (r.getLast?.getD (0, 0)).1)
def rbytes (rs : List (List Ent)) : List UInt8 × Int := rs.foldl bstep ([], -1)
theorem rbytes_snoc (rs : List (List Ent)) (r : List Ent) : rbytes (rs ++ [r]) = bstep (rbytes rs) r := by simp [rbytes, List.foldl_append]
def vbytes (l : List Ent) : List UInt8 := vput (runs l).length ++ (rbytes (runs l)).1
def vwrite (l : List Ent) : ByteArray × Int × Int := if (vright l).1 ≠ 0 then (strOf [], vright l) else (strOf (vbytes l), 0, -1)
/-- Entries beside each other. -/
def Chain (r : List Ent) : Prop := ∀ j x y, r[j]? = some x → r[j + 1]? = some y → x.1 + 1 = y.1
theorem chain_at {r : List Ent} (h : Chain r) {x : Ent} (h0 : r[0]? = some x) : ∀ (j : Nat) (y : Ent), r[j]? = some y → y.1 = x.1 + j := by
  intro j
  induction j with
  | zero => intro y hy; rw [h0] at hy; injection hy with hy; subst hy; simp
  | succ j ih =>
    intro y hy
    have hj : j < r.length := by have := (List.getElem?_eq_some_iff.1 hy).1; omega
    have h1 := ih _ (List.getElem?_eq_getElem hj)
    have h2 := h j _ _ (List.getElem?_eq_getElem hj) hy
    omega
/-- A break ahead of entry k. -/
def Brk (l : List Ent) (k : Nat) : Prop := k = 0 ∨ ∃ x, l[k - 1]? = some x ∧ ∀ y, l[k]? = some y → x.1 + 1 ≠ y.1
theorem runs_ne (l : List Ent) : ∀ r ∈ runs l, r ≠ [] := by
  suffices h : ∀ l : List Ent, ∀ r ∈ runs l.reverse, r ≠ [] by have := h l.reverse; simpa using this
  intro l
  induction l with
  | nil => intro r hr; simp [runs] at hr
  | cons x l ih =>
    intro r hr
    rw [List.reverse_cons, runs_snoc] at hr
    unfold rstep at hr
    split at hr
    · simp at hr; subst hr; simp
    · rename_i q hq
      split at hr
      · rcases List.mem_append.1 hr with hr | hr
        · exact ih r (List.dropLast_subset _ hr)
        · simp at hr; subst hr; simp
      · rcases List.mem_append.1 hr with hr | hr
        · exact ih r hr
        · simp at hr; subst hr; simp
theorem runs_last (l : List Ent) (x : Ent) : ∃ rs r, runs (l ++ [x]) = rs ++ [r] ∧ r.getLast? = some x := by
  rw [runs_snoc]
  unfold rstep
  split
  · exact ⟨[], [x], rfl, rfl⟩
  · rename_i q hq
    split
    · exact ⟨_, q ++ [x], rfl, by simp⟩
    · exact ⟨_, [x], rfl, rfl⟩
theorem runs_flat (l : List Ent) : (runs l).flatten = l := by
  suffices h : ∀ l : List Ent, (runs l.reverse).flatten = l.reverse by have := h l.reverse; simpa using this
  intro l
  induction l with
  | nil => rfl
  | cons x l ih =>
    rw [List.reverse_cons, runs_snoc]
    unfold rstep
    split
    · rename_i hq
      rw [List.getLast?_eq_none_iff] at hq
      rw [hq] at ih
      rw [← ih]; rfl
    · rename_i q hq
      obtain ⟨rs, hrs⟩ := List.getLast?_eq_some_iff.1 hq
      rw [hrs] at ih ⊢
      split
      · rw [← ih]; simp
      · rw [← ih]; simp
theorem runs_len (l : List Ent) : (runs l).length ≤ l.length := by
  suffices h : ∀ l : List Ent, (runs l.reverse).length ≤ l.length by have := h l.reverse; simpa using this
  intro l
  induction l with
  | nil => exact Nat.le_refl _
  | cons x l ih =>
    rw [List.reverse_cons, runs_snoc]
    unfold rstep
    split
    · simp
    · split
      · simp; omega
      · simp; exact ih
theorem runs_grow (l r : List Ent) (n : Nat) (h : Brk (l ++ r) l.length) (hc : Chain r) (hn : 0 < n) (hr : n ≤ r.length) : runs (l ++ r.take n) = runs l ++ [r.take n] := by
  induction n with
  | zero => omega
  | succ n ih =>
    have hlt : n < r.length := by omega
    rw [List.take_succ_eq_append_getElem hlt, ← List.append_assoc, runs_snoc]
    rcases Nat.eq_zero_or_pos n with rfl | hn'
    · simp only [List.take_zero, List.append_nil, List.nil_append]
      unfold rstep
      split
      · rename_i hq
        rw [List.getLast?_eq_none_iff] at hq
        rw [hq]; rfl
      · rename_i q hq
        rcases List.eq_nil_or_concat l with rfl | ⟨l', x, rfl⟩
        · simp [runs] at hq
        · obtain ⟨rs, r', e1, e2⟩ := runs_last l' x
          rw [List.concat_eq_append] at hq h ⊢
          rw [e1] at hq
          rw [List.getLast?_append] at hq
          simp at hq
          subst hq
          rw [e2]
          rcases h with h | ⟨z, hz, hb⟩
          · simp at h
          · have ez : z = x := by
              simp at hz
              exact hz.symm
            subst ez
            have := hb r[0] (by simp [List.getElem?_append])
            rw [if_neg (by simpa using this)]
    · rw [ih hn' (by omega)]
      unfold rstep
      rw [List.getLast?_append]
      simp only [List.getLast?_singleton, Option.some_or]
      have hne : r.take n ≠ [] := by
        intro e
        have := congrArg List.length e
        rw [List.length_take, List.length_nil] at this
        omega
      have hl : (r.take n).getLast? = some r[n - 1] := by
        rw [List.getLast?_eq_getElem?, List.length_take, Nat.min_eq_left (by omega), List.getElem?_take_of_lt (by omega), List.getElem?_eq_getElem]
      rw [hl]
      have hcc := hc (n - 1) _ _ (List.getElem?_eq_getElem (by omega)) (by rw [Nat.sub_add_cancel hn']; exact List.getElem?_eq_getElem hlt)
      rw [if_pos (by simpa using hcc)]
      simp
end Go.Proofs.YtglemfdnfaemiaaDoor
