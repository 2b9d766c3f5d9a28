/- The tokens, and the text, that bytes are, in plain Lean. No program in sight. -/
import Derived.Test.YtnaclpfcldoebaaDoorVecReadLaw
import Derived.Test.YtnaclpfcldoebaaDoorTextLaw
namespace Go.Proofs.YtnaclpfcldoebaaDoor
/-- The number without a bound at byte p. -/
def uat (s : ByteArray) (p : Nat) : Nat × Nat × Int := vget (s.extract p s.size).data.toList
theorem uat_of (s : ByteArray) (p : Nat) : ∃ (n k : Nat) (e : Int), uat s p = (n, k, e) ∧ (e = 0 ∧ n < 18446744073709551616 ∧ 0 < k ∧ k ≤ 10 ∧ p + k ≤ s.size ∨ e ≠ 0 ∧ n = 0 ∧ k = 0) := by
  have el : (s.extract p s.size).data.toList.length = s.size - p := by simp
  rcases vget_says (s.extract p s.size).data.toList with ⟨h0, h1, h2, h3, h4⟩ | h | h | h
  · refine ⟨(uat s p).1, (uat s p).2.1, (uat s p).2.2, rfl, .inl ⟨h0, h1, h2, h3, ?_⟩⟩
    unfold uat
    omega
  · exact ⟨0, 0, 3, h, .inr ⟨by omega, rfl, rfl⟩⟩
  · exact ⟨0, 0, 4, h, .inr ⟨by omega, rfl, rfl⟩⟩
  · exact ⟨0, 0, 7, h, .inr ⟨by omega, rfl, rfl⟩⟩
/-- Tokens, where they begin, what is wrong, where. -/
abbrev LR := List Tok × List Int × Int × Int
def lgo (s : ByteArray) : Nat → Nat → List Tok → List Int → LR
  | 0, _, acc, st => (acc, st, 0, -1)
  | f + 1, p, acc, st =>
    if s.size ≤ p then (acc, st, 0, -1)
    else if (uat s p).2.2 ≠ 0 then ([], [], (uat s p).2.2, (p : Int))
    else if (uat s p).1 % 2 = 0 then
      if (uat s p).1 / 2 = 0 then ([], [], 3, (p : Int))
      else if s.size < p + (uat s p).2.1 + (uat s p).1 / 2 then ([], [], 7, (s.size : Int))
      else lgo s f (p + (uat s p).2.1 + (uat s p).1 / 2) (acc ++ [(s.extract (p + (uat s p).2.1) (p + (uat s p).2.1 + (uat s p).1 / 2), 0, 0)]) (st ++ [(p : Int)])
    else if 63 < (uat s p).1 / 2 then ([], [], 2, (p : Int))
    else if (vat s (p + (uat s p).2.1) 1023).2.2 ≠ 0 then ([], [], (vat s (p + (uat s p).2.1) 1023).2.2, ((p + (uat s p).2.1 : Nat) : Int))
    else lgo s f (p + (uat s p).2.1 + (vat s (p + (uat s p).2.1) 1023).2.1) (acc ++ [(⟨#[]⟩, ((vat s (p + (uat s p).2.1) 1023).1 : Int) + 1, (((uat s p).1 / 2 : Nat) : Int) + 4)]) (st ++ [(p : Int)])
/-- As it stands at byte p. -/
def LAt (s : ByteArray) (X : LR) (p : Nat) (acc : List Tok) (st : List Int) : Prop := ∃ f, s.size < p + f ∧ X = lgo s f p acc st
def lrall (s : ByteArray) : LR := lgo s (s.size + 1) 0 [] []
section
variable {s : ByteArray} {X : LR} {p n k m j : Nat} {e : Int} {acc : List Tok} {st : List Int}
theorem LAt.start (s : ByteArray) : LAt s (lrall s) 0 [] [] := ⟨s.size + 1, by omega, rfl⟩
theorem LAt.fuel (h : LAt s X p acc st) (hp : p < s.size) : ∃ f, s.size < p + (f + 1) ∧ X = lgo s (f + 1) p acc st := by
  obtain ⟨f, h1, h2⟩ := h
  cases f with
  | zero => omega
  | succ f => exact ⟨f, h1, h2⟩
theorem LAt.done (h : LAt s X p acc st) (hp : s.size ≤ p) : X = (acc, st, 0, -1) := by
  obtain ⟨f, h1, rfl⟩ := h
  cases f with
  | zero => rfl
  | succ f => simp only [lgo]; rw [if_pos hp]
theorem LAt.num (h : LAt s X p acc st) (hp : p < s.size) (ha : uat s p = (n, k, e)) (he : e ≠ 0) : X = ([], [], e, (p : Int)) := by
  obtain ⟨f, h1, rfl⟩ := h.fuel hp
  simp only [lgo]; rw [if_neg (by omega), ha, if_pos he]
theorem LAt.form (h : LAt s X p acc st) (hp : p < s.size) (ha : uat s p = (n, k, 0)) (h2 : n % 2 = 0) (h0 : n / 2 = 0) : X = ([], [], 3, (p : Int)) := by
  obtain ⟨f, h1, rfl⟩ := h.fuel hp
  simp only [lgo]; rw [if_neg (by omega), ha, if_neg (by simp), if_pos h2, if_pos h0]
theorem LAt.miss (h : LAt s X p acc st) (hp : p < s.size) (ha : uat s p = (n, k, 0)) (h2 : n % 2 = 0) (h0 : n / 2 ≠ 0) (h3 : s.size < p + k + n / 2) : X = ([], [], 7, (s.size : Int)) := by
  obtain ⟨f, h1, rfl⟩ := h.fuel hp
  simp only [lgo]; rw [if_neg (by omega), ha, if_neg (by simp), if_pos h2, if_neg h0, if_pos h3]
theorem LAt.own (h : LAt s X p acc st) (hp : p < s.size) (ha : uat s p = (n, k, 0)) (h2 : n % 2 = 0) (h0 : n / 2 ≠ 0) (h3 : ¬ s.size < p + k + n / 2) :
    LAt s X (p + k + n / 2) (acc ++ [(s.extract (p + k) (p + k + n / 2), 0, 0)]) (st ++ [(p : Int)]) := by
  obtain ⟨f, h1, rfl⟩ := h.fuel hp
  refine ⟨f, by omega, ?_⟩
  simp only [lgo]; rw [if_neg (by omega), ha, if_neg (by simp), if_pos h2, if_neg h0, if_neg h3]
theorem LAt.range (h : LAt s X p acc st) (hp : p < s.size) (ha : uat s p = (n, k, 0)) (h2 : ¬ n % 2 = 0) (h3 : 63 < n / 2) : X = ([], [], 2, (p : Int)) := by
  obtain ⟨f, h1, rfl⟩ := h.fuel hp
  simp only [lgo]; rw [if_neg (by omega), ha, if_neg (by simp), if_neg h2, if_pos h3]
theorem LAt.back (h : LAt s X p acc st) (hp : p < s.size) (ha : uat s p = (n, k, 0)) (h2 : ¬ n % 2 = 0) (h3 : ¬ 63 < n / 2) (hb : vat s (p + k) 1023 = (m, j, e)) (he : e ≠ 0) : X = ([], [], e, ((p + k : Nat) : Int)) := by
  obtain ⟨f, h1, rfl⟩ := h.fuel hp
  simp only [lgo]; rw [if_neg (by omega), ha, if_neg (by simp), if_neg h2, if_neg h3]
  simp only
  rw [hb, if_pos he]
theorem LAt.rep (h : LAt s X p acc st) (hp : p < s.size) (ha : uat s p = (n, k, 0)) (hk : 0 < k) (h2 : ¬ n % 2 = 0) (h3 : ¬ 63 < n / 2) (hb : vat s (p + k) 1023 = (m, j, 0)) :
    LAt s X (p + k + j) (acc ++ [(⟨#[]⟩, (m : Int) + 1, ((n / 2 : Nat) : Int) + 4)]) (st ++ [(p : Int)]) := by
  obtain ⟨f, h1, rfl⟩ := h.fuel hp
  refine ⟨f, by omega, ?_⟩
  simp only [lgo]; rw [if_neg (by omega), ha, if_neg (by simp), if_neg h2, if_neg h3]
  simp only
  rw [hb, if_neg (by simp)]
end
theorem trgo_err (l : List Tok) : ∀ (n i : Nat), (trgo l n i).1 ≠ 0 → ∃ k : Nat, (trgo l n i).2 = ((i + k : Nat) : Int) ∧ k < l.length := by
  induction l with
  | nil => intro n i h; exact absurd rfl h
  | cons t l ih =>
    intro n i h
    have step : ∀ n', (trgo l n' (i + 1)).1 ≠ 0 → ∃ k : Nat, (trgo l n' (i + 1)).2 = ((i + k : Nat) : Int) ∧ k < (t :: l).length := fun n' h' => by
      obtain ⟨k, h1, h2⟩ := ih n' (i + 1) h'
      exact ⟨k + 1, by rw [h1]; congr 1; omega, by simp; omega⟩
    have z : ∀ e : Int, ∃ k : Nat, ((e, (i : Int)) : Int × Int).2 = ((i + k : Nat) : Int) ∧ k < (t :: l).length := fun e => ⟨0, rfl, by simp⟩
    unfold trgo at h ⊢
    split
    · exact z _
    · rename_i h1
      rw [if_neg h1] at h
      split
      · rename_i h2
        rw [if_pos h2] at h
        split
        · exact z _
        · rename_i h3
          rw [if_neg h3] at h
          exact step _ h
      · rename_i h2
        rw [if_neg h2] at h
        split
        · exact z _
        · rename_i h3
          rw [if_neg h3] at h
          split
          · exact z _
          · rename_i h4
            rw [if_neg h4] at h
            split
            · exact z _
            · rename_i h5
              rw [if_neg h5] at h
              exact step _ h
theorem tright_err {l : List Tok} (h : (tright l).1 ≠ 0) : ∃ k : Nat, (tright l).2 = (k : Int) ∧ k < l.length := by
  obtain ⟨k, h1, h2⟩ := trgo_err l 0 0 h
  exact ⟨k, by rw [tright, h1]; congr 1; omega, h2⟩
/-- The tokens, what is wrong, where. -/
def lread (s : ByteArray) : List Tok × Int × Int :=
  if (lrall s).2.2.1 ≠ 0 then ([], (lrall s).2.2.1, (lrall s).2.2.2)
  else if (tright (lrall s).1).1 ≠ 0 then ([], (tright (lrall s).1).1, (lrall s).2.1.getD (tright (lrall s).1).2.toNat 0)
  else ((lrall s).1, 0, -1)
theorem lread_bad {s : ByteArray} {X : LR} {e p : Int} (hX : lrall s = X) (h : X = ([], [], e, p)) (he : e ≠ 0) : lread s = ([], e, p) := by
  unfold lread; rw [hX, h, if_pos he]
theorem lread_false {s : ByteArray} {X : LR} {l : List Tok} {st : List Int} (hX : lrall s = X) (h : X = (l, st, 0, -1)) (he : (tright l).1 ≠ 0) : lread s = ([], (tright l).1, st.getD (tright l).2.toNat 0) := by
  unfold lread; rw [hX, h, if_neg (by simp), if_pos he]
theorem lread_good {s : ByteArray} {X : LR} {l : List Tok} {st : List Int} (hX : lrall s = X) (h : X = (l, st, 0, -1)) (he : (tright l).1 = 0) : lread s = (l, 0, -1) := by
  unfold lread; rw [hX, h, if_neg (by simp), if_neg (by simpa using he)]
theorem lread_none {s : ByteArray} (h : (lread s).2.1 ≠ 0) : (lread s).1 = [] := by
  unfold lread at h ⊢
  split
  · rfl
  · rename_i h1
    rw [if_neg h1] at h
    split
    · rfl
    · rename_i h2
      rw [if_neg h2] at h
      exact absurd rfl h
theorem lread_ok {s : ByteArray} (h : (lread s).2.1 = 0) : lread s = ((lread s).1, 0, -1) := by
  unfold lread at h ⊢
  split
  · rename_i h1; rw [if_pos h1] at h; exact absurd h h1
  · rename_i h1
    rw [if_neg h1] at h
    split
    · rename_i h2; rw [if_pos h2] at h; exact absurd h h2
    · rfl
/-- The text, what is wrong, where. -/
def lswell (s : ByteArray) : ByteArray × Int × Int := if (lread s).2.1 ≠ 0 then (⟨#[]⟩, (lread s).2) else textOf (lread s).1
end Go.Proofs.YtnaclpfcldoebaaDoor
