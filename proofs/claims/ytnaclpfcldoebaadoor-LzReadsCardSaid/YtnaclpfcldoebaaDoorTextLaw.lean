/- What is wrong with tokens, and the text that they make, in plain Lean. No program in sight. -/
import Derived.Test.YtnaclpfcldoebaaDoorEqualS
namespace Go.Proofs.YtnaclpfcldoebaaDoor
/-- A token has both a text of its own and a place to repeat, or neither. -/
def tokArg (t : Tok) : Prop := t.1.size = 0 ∧ t.2.2 = 0 ∧ t.2.1 = 0 ∨ t.1.size ≠ 0 ∧ (t.2.2 ≠ 0 ∨ t.2.1 ≠ 0)
def tokRange (t : Tok) : Prop := t.2.2 < 4 ∨ 67 < t.2.2 ∨ t.2.1 < 1 ∨ 1024 < t.2.1
instance (t : Tok) : Decidable (tokArg t) := by unfold tokArg; infer_instance
instance (t : Tok) : Decidable (tokRange t) := by unfold tokRange; infer_instance
/-- What is wrong from token i on, n bytes being ahead. -/
def trgo : List Tok → Nat → Nat → Int × Int
  | [], _, _ => (0, -1)
  | t :: l, n, i =>
    if tokArg t then (1, i)
    else if t.1.size ≠ 0 then (if 20000 < n + t.1.size then (4, i) else trgo l (n + t.1.size) (i + 1))
    else if tokRange t then (2, i)
    else if (n : Int) < t.2.1 then (7, i)
    else if 20000 < n + t.2.2.toNat then (4, i) else trgo l (n + t.2.2.toNat) (i + 1)
def tright (l : List Tok) : Int × Int := trgo l 0 0
/-- As it stands ahead of token k. -/
def TAt (l : List Tok) (k n : Nat) : Prop := tright l = trgo (l.drop k) n k ∧ n ≤ 20000
theorem TAt.zero (l : List Tok) : TAt l 0 0 := ⟨rfl, by omega⟩
theorem tdrop {α : Type} {l : List α} {k : Nat} {x : α} (h : l[k]? = some x) : l.drop k = x :: l.drop (k + 1) := by
  obtain ⟨hk, e⟩ := List.getElem?_eq_some_iff.1 h
  rw [List.drop_eq_getElem_cons hk, e]
section
variable {l : List Tok} {k n : Nat} {t : Tok}
theorem TAt.arg (h : TAt l k n) (hx : l[k]? = some t) (h1 : tokArg t) : tright l = (1, (k : Int)) := by
  rw [h.1, tdrop hx]; simp only [trgo]; rw [if_pos h1]
theorem TAt.ownBig (h : TAt l k n) (hx : l[k]? = some t) (h1 : ¬ tokArg t) (h2 : t.1.size ≠ 0) (h3 : 20000 < n + t.1.size) : tright l = (4, (k : Int)) := by
  rw [h.1, tdrop hx]; simp only [trgo]; rw [if_neg h1, if_pos h2, if_pos h3]
theorem TAt.ownNext (h : TAt l k n) (hx : l[k]? = some t) (h1 : ¬ tokArg t) (h2 : t.1.size ≠ 0) (h3 : ¬ 20000 < n + t.1.size) : TAt l (k + 1) (n + t.1.size) := by
  refine ⟨?_, by omega⟩
  rw [h.1, tdrop hx]; simp only [trgo]; rw [if_neg h1, if_pos h2, if_neg h3]
theorem TAt.range (h : TAt l k n) (hx : l[k]? = some t) (h1 : ¬ tokArg t) (h2 : t.1.size = 0) (h3 : tokRange t) : tright l = (2, (k : Int)) := by
  rw [h.1, tdrop hx]; simp only [trgo]; rw [if_neg h1, if_neg (by omega), if_pos h3]
theorem TAt.missing (h : TAt l k n) (hx : l[k]? = some t) (h1 : ¬ tokArg t) (h2 : t.1.size = 0) (h3 : ¬ tokRange t) (h4 : (n : Int) < t.2.1) : tright l = (7, (k : Int)) := by
  rw [h.1, tdrop hx]; simp only [trgo]; rw [if_neg h1, if_neg (by omega), if_neg h3, if_pos h4]
theorem TAt.big (h : TAt l k n) (hx : l[k]? = some t) (h1 : ¬ tokArg t) (h2 : t.1.size = 0) (h3 : ¬ tokRange t) (h4 : ¬ (n : Int) < t.2.1) (h5 : 20000 < n + t.2.2.toNat) : tright l = (4, (k : Int)) := by
  rw [h.1, tdrop hx]; simp only [trgo]; rw [if_neg h1, if_neg (by omega), if_neg h3, if_neg h4, if_pos h5]
theorem TAt.next (h : TAt l k n) (hx : l[k]? = some t) (h1 : ¬ tokArg t) (h2 : t.1.size = 0) (h3 : ¬ tokRange t) (h4 : ¬ (n : Int) < t.2.1) (h5 : ¬ 20000 < n + t.2.2.toNat) : TAt l (k + 1) (n + t.2.2.toNat) := by
  refine ⟨?_, by omega⟩
  rw [h.1, tdrop hx]; simp only [trgo]; rw [if_neg h1, if_neg (by omega), if_neg h3, if_neg h4, if_neg h5]
theorem TAt.all (h : TAt l k n) (hk : l.length ≤ k) : tright l = (0, -1) := by
  rw [h.1, List.drop_eq_nil_of_le hk]; rfl
end
theorem trgo_place (l : List Tok) : ∀ (n i : Nat), (trgo l n i).1 = 0 → (trgo l n i).2 = -1 := by
  induction l with
  | nil => intro _ _ _; rfl
  | cons t l ih =>
    intro n i
    simp only [trgo]
    split
    · intro h; simp at h
    · split
      · split
        · intro h; simp at h
        · exact ih _ _
      · split
        · intro h; simp at h
        · split
          · intro h; simp at h
          · split
            · intro h; simp at h
            · exact ih _ _
theorem tright_place {l : List Tok} (h : (tright l).1 = 0) : tright l = (0, -1) := Prod.ext h (trgo_place l _ _ h)
/-- Right tokens, with n bytes ahead: each is a text of its own, or repeats what is there; never more than 20000 bytes. -/
def TOk : List Tok → Nat → Prop
  | [], n => n ≤ 20000
  | t :: l, n => (t.1.size ≠ 0 ∧ t.2.1 = 0 ∧ t.2.2 = 0 ∧ n + t.1.size ≤ 20000 ∧ TOk l (n + t.1.size)) ∨ (t.1.size = 0 ∧ 4 ≤ t.2.2 ∧ t.2.2 ≤ 67 ∧ 1 ≤ t.2.1 ∧ t.2.1 ≤ 1024 ∧ t.2.1 ≤ (n : Int) ∧ n + t.2.2.toNat ≤ 20000 ∧ TOk l (n + t.2.2.toNat))
theorem trgo_ok (l : List Tok) : ∀ (n i : Nat), n ≤ 20000 → (trgo l n i).1 = 0 → TOk l n := by
  induction l with
  | nil => intro n _ hn _; exact hn
  | cons t l ih =>
    intro n i hn
    simp only [trgo]
    split
    · intro h; simp at h
    · rename_i ha
      split
      · rename_i h1
        split
        · intro h; simp at h
        · rename_i h2
          intro h
          refine .inl ⟨h1, ?_, ?_, by omega, ih _ _ (by omega) h⟩
          · unfold tokArg at ha; omega
          · unfold tokArg at ha; omega
      · rename_i h1
        split
        · intro h; simp at h
        · rename_i h2
          split
          · intro h; simp at h
          · rename_i h3
            split
            · intro h; simp at h
            · rename_i h4
              intro h
              unfold tokRange at h2
              exact .inr ⟨by omega, by omega, by omega, by omega, by omega, by omega, by omega, ih _ _ (by omega) h⟩
theorem tright_ok {l : List Tok} (h : (tright l).1 = 0) : TOk l 0 := trgo_ok l 0 0 (by omega) h
/-- k bytes more, each one the one b back. -/
def rep (out : List UInt8) (b : Nat) : Nat → List UInt8
  | 0 => out
  | k + 1 => rep out b k ++ [(rep out b k).getD ((rep out b k).length - b) 0]
def tstep (out : List UInt8) (t : Tok) : List UInt8 := if t.1.size ≠ 0 then out ++ t.1.data.toList else rep out t.2.1.toNat t.2.2.toNat
def ttext (l : List Tok) : List UInt8 := l.foldl tstep []
/-- The text that tokens make, and what is wrong. -/
def textOf (l : List Tok) : ByteArray × Int × Int := if (tright l).1 ≠ 0 then (⟨#[]⟩, tright l) else (⟨(ttext l).toArray⟩, 0, -1)
theorem text_bad {l : List Tok} (h : (tright l).1 ≠ 0) : textOf l = (⟨#[]⟩, tright l) := by unfold textOf; rw [if_pos h]
theorem text_good {l : List Tok} (h : (tright l).1 = 0) : textOf l = (⟨(ttext l).toArray⟩, 0, -1) := by unfold textOf; rw [if_neg (by omega)]
theorem rep_len (out : List UInt8) (b k : Nat) : (rep out b k).length = out.length + k := by
  induction k with
  | zero => rfl
  | succ k ih => simp only [rep, List.length_append, ih, List.length_cons, List.length_nil]; omega
theorem getD_left {α : Type} (a b : List α) (d : α) (i : Nat) (h : i < a.length) : (a ++ b).getD i d = a.getD i d := by
  simp only [List.getD, List.getElem?_append_left h]
theorem getD_right {α : Type} (a b : List α) (d : α) (i : Nat) (h : a.length ≤ i) : (a ++ b).getD i d = b.getD (i - a.length) d := by
  simp only [List.getD, List.getElem?_append_right h]
/-- A text over and over, so many bytes of it. -/
def over (p : List UInt8) : Nat → List UInt8
  | 0 => []
  | k + 1 => over p k ++ [p.getD (k % p.length) 0]
theorem over_len (p : List UInt8) (k : Nat) : (over p k).length = k := by
  induction k with
  | zero => rfl
  | succ k ih => simp [over, ih]
theorem over_at (p : List UInt8) (k i : Nat) (hi : i < k) : (over p k).getD i 0 = p.getD (i % p.length) 0 := by
  induction k with
  | zero => omega
  | succ k ih =>
    simp only [over]
    rcases Nat.lt_or_ge i k with h | h
    · rw [getD_left _ _ _ _ (by rw [over_len]; exact h)]; exact ih h
    · obtain rfl : i = k := by omega
      rw [getD_right _ _ _ _ (by rw [over_len]; omega), over_len]; simp
theorem rep_over (out : List UInt8) (b k : Nat) (hb : 1 ≤ b) (hl : b ≤ out.length) : rep out b k = out ++ over (out.drop (out.length - b)) k := by
  induction k with
  | zero => simp [rep, over]
  | succ k ih =>
    have hp : (out.drop (out.length - b)).length = b := by simp; omega
    simp only [rep, over]
    rw [rep_len, ih, List.append_assoc]
    congr 2
    rw [hp]
    rcases Nat.lt_or_ge k b with h | h
    · rw [getD_left _ _ _ _ (by omega), Nat.mod_eq_of_lt h]
      simp only [List.getD, List.getElem?_drop]
      congr 3
      omega
    · rw [getD_right _ _ _ _ (by omega), over_at _ _ _ (by omega), hp]
      congr 2
      rw [show out.length + k - b - out.length = k - b by omega]
      rw [← Nat.add_mod_right (k - b) b, Nat.sub_add_cancel h]
/-- The reference's doubling keeps the period. -/
theorem over_double (p q : List UInt8) (m : Nat) (hq : q = over p (m * p.length)) : q ++ q = over p (2 * m * p.length) := by
  apply List.ext_getElem?
  intro i
  have hl : q.length = m * p.length := by rw [hq, over_len]
  have e : 2 * m * p.length = m * p.length + m * p.length := by rw [Nat.mul_assoc, Nat.two_mul]
  rcases Nat.lt_or_ge i (2 * m * p.length) with h | h
  · have g1 : (q ++ q)[i]? = some ((q ++ q).getD i 0) := by
      rw [List.getElem?_eq_getElem (by simp; omega)]
      simp [List.getD, List.getElem?_eq_getElem (show i < (q ++ q).length by simp; omega)]
    have g2 : (over p (2 * m * p.length))[i]? = some ((over p (2 * m * p.length)).getD i 0) := by
      rw [List.getElem?_eq_getElem (by rw [over_len]; exact h)]
      simp [List.getD, List.getElem?_eq_getElem (show i < (over p (2 * m * p.length)).length by rw [over_len]; exact h)]
    rw [g1, g2, over_at _ _ _ h]
    congr 1
    rcases Nat.lt_or_ge i (m * p.length) with h' | h'
    · rw [getD_left _ _ _ _ (by omega), hq, over_at _ _ _ h']
    · rw [getD_right _ _ _ _ (by omega), hl, hq, over_at _ _ _ (by omega)]
      congr 1
      have : i = (i - m * p.length) + m * p.length := by omega
      conv => rhs; rw [this]
      rw [Nat.mul_comm m, Nat.add_mul_mod_self_left]
  · rw [List.getElem?_eq_none (by simp; omega), List.getElem?_eq_none (by rw [over_len]; exact h)]
theorem over_self (p : List UInt8) : over p p.length = p := by
  apply List.ext_getElem?
  intro i
  rcases Nat.lt_or_ge i p.length with h | h
  · have := over_at p p.length i h
    rw [Nat.mod_eq_of_lt h] at this
    simp only [List.getD] at this
    rw [List.getElem?_eq_getElem h, List.getElem?_eq_getElem (by rw [over_len]; exact h)] at *
    simpa using this
  · rw [List.getElem?_eq_none h, List.getElem?_eq_none (by rw [over_len]; exact h)]
theorem over_take (p : List UInt8) (k n : Nat) (h : k ≤ n) : (over p n).take k = over p k := by
  induction n with
  | zero => obtain rfl : k = 0 := by omega
            rfl
  | succ n ih =>
    rcases Nat.lt_or_ge n k with h' | h'
    · obtain rfl : k = n + 1 := by omega
      rw [List.take_of_length_le (by rw [over_len]; exact Nat.le_refl _)]
    · simp only [over]
      rw [List.take_append_of_le_length (by rw [over_len]; exact h')]
      exact ih h'
theorem ttext_len (l : List Tok) : ∀ (out : List UInt8), TOk l out.length → (l.foldl tstep out).length ≤ 20000 := by
  induction l with
  | nil => intro out h; exact h
  | cons t l ih =>
    intro out h
    simp only [List.foldl_cons]
    apply ih
    rcases h with ⟨h1, _, _, _, h⟩ | ⟨h1, _, _, _, _, _, _, h⟩
    · unfold tstep; rw [if_pos h1, List.length_append]
      have : t.1.data.toList.length = t.1.size := by simp
      rw [this]; exact h
    · unfold tstep; rw [if_neg (by omega), rep_len]; exact h
end Go.Proofs.YtnaclpfcldoebaaDoor
