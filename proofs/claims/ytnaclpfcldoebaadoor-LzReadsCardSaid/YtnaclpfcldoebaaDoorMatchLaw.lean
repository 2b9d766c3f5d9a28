/- Plain facts on repetitions in a text: how many bytes two places have alike; the longest, and of those as long the nearest. No program in sight. -/
namespace Go.Proofs.YtnaclpfcldoebaaDoor.Match

/-- From n on, f rounds at most: the first place that does not hold. -/
def upto (P : Nat → Bool) : Nat → Nat → Nat
  | 0, n => n
  | f + 1, n => if P n then upto P f (n + 1) else n
theorem upto_eq (P : Nat → Bool) (f n m : Nat) (h1 : ∀ j, n ≤ j → j < m → P j = true) (hn : n ≤ m) (hm : m ≤ n + f) (h2 : m = n + f ∨ P m = false) : upto P f n = m := by
  induction f generalizing n with
  | zero => simp only [upto]; omega
  | succ f ih =>
    simp only [upto]
    by_cases hnm : n = m
    · subst hnm
      rcases h2 with h2 | h2
      · omega
      · rw [h2]; rfl
    · rw [h1 n (Nat.le_refl _) (by omega)]
      exact ih (n + 1) (fun j hj hjm => h1 j (by omega) hjm) (by omega) (by omega) (h2.imp (by omega) id)
theorem upto_le (P : Nat → Bool) (f n : Nat) : upto P f n ≤ n + f := by
  induction f generalizing n with
  | zero => simp [upto]
  | succ f ih =>
    simp only [upto]
    split
    · have := ih (n + 1); omega
    · omega
theorem upto_holds (P : Nat → Bool) (f n : Nat) : ∀ j, n ≤ j → j < upto P f n → P j = true := by
  induction f generalizing n with
  | zero => intro j h1 h2; simp only [upto] at h2; omega
  | succ f ih =>
    intro j h1 h2
    simp only [upto] at h2
    by_cases hp : P n = true
    · rw [if_pos hp] at h2
      by_cases hj : j = n
      · subst hj; exact hp
      · exact ih (n + 1) j (by omega) h2
    · rw [if_neg hp] at h2; omega
/-- How many bytes the places a and b have alike, 67 at most. -/
def same (l : List UInt8) (a b j : Nat) : Bool := decide (b + j < l.length) && l.getD (a + j) 0 == l.getD (b + j) 0
def alike (l : List UInt8) (a b : Nat) : Nat := upto (same l a b) 67 0
theorem alike_le (l : List UInt8) (a b : Nat) : alike l a b ≤ 67 := by have := upto_le (same l a b) 67 0; unfold alike; omega

/-- The best of those above lo, up to hi. -/
def Best (A : Nat → Nat) (lo hi far best : Nat) : Prop :=
  (far = 0 ∧ best = 0 ∧ ∀ k, lo < k → k ≤ hi → A k < 4) ∨
  (lo < far ∧ far ≤ hi ∧ A far = best ∧ 4 ≤ best ∧ (∀ k, lo < k → k ≤ hi → A k ≤ best) ∧ ∀ k, lo < k → k < far → A k < best)
theorem Best.start (A : Nat → Nat) (k : Nat) : Best A k k 0 0 := .inl ⟨rfl, rfl, fun j h1 h2 => by omega⟩
theorem Best.uniq {A : Nat → Nat} {lo hi f b f' b' : Nat} (h : Best A lo hi f b) (h' : Best A lo hi f' b') : f = f' ∧ b = b' := by
  rcases h with ⟨h1, h2, h3⟩ | ⟨h1, h2, h3, h4, h5, h6⟩ <;> rcases h' with ⟨g1, g2, g3⟩ | ⟨g1, g2, g3, g4, g5, g6⟩
  · omega
  · have := h3 f' g1 g2; omega
  · have := g3 f h1 h2; omega
  · have e1 := h5 f' g1 g2
    have e2 := g5 f h1 h2
    have hb : b = b' := by omega
    refine ⟨?_, hb⟩
    rcases Nat.lt_trichotomy f f' with h | h | h
    · have := g6 f h1 h; omega
    · exact h
    · have := h6 f' g1 h; omega
/-- A round upwards. -/
theorem Best.up_yes {A : Nat → Nat} {lo hi f b : Nat} (h : Best A lo hi f b) (hl : lo ≤ hi) (h4 : 4 ≤ A (hi + 1)) (hb : b < A (hi + 1)) : Best A lo (hi + 1) (hi + 1) (A (hi + 1)) := by
  refine .inr ⟨by omega, Nat.le_refl _, rfl, h4, ?_, ?_⟩
  · intro k k1 k2
    by_cases hk : k = hi + 1
    · subst hk; exact Nat.le_refl _
    · rcases h with ⟨_, _, h3⟩ | ⟨_, _, _, _, h5, _⟩
      · have := h3 k k1 (by omega); omega
      · have := h5 k k1 (by omega); omega
  · intro k k1 k2
    rcases h with ⟨_, _, h3⟩ | ⟨_, _, _, _, h5, _⟩
    · have := h3 k k1 (by omega); omega
    · have := h5 k k1 (by omega); omega
theorem Best.up_no {A : Nat → Nat} {lo hi f b : Nat} (h : Best A lo hi f b) (hn : ¬ (4 ≤ A (hi + 1) ∧ b < A (hi + 1))) : Best A lo (hi + 1) f b := by
  rcases h with ⟨h1, h2, h3⟩ | ⟨h1, h2, h3, h4, h5, h6⟩
  · refine .inl ⟨h1, h2, fun k k1 k2 => ?_⟩
    by_cases hk : k = hi + 1
    · subst hk; omega
    · exact h3 k k1 (by omega)
  · refine .inr ⟨h1, by omega, h3, h4, fun k k1 k2 => ?_, h6⟩
    by_cases hk : k = hi + 1
    · subst hk; omega
    · exact h5 k k1 (by omega)
/-- A round downwards. -/
theorem Best.down_yes {A : Nat → Nat} {lo hi f b : Nat} (h : Best A (lo + 1) hi f b) (hl : lo < hi) (h4 : 4 ≤ A (lo + 1)) (hb : b ≤ A (lo + 1)) : Best A lo hi (lo + 1) (A (lo + 1)) := by
  refine .inr ⟨by omega, hl, rfl, h4, ?_, fun k k1 k2 => by omega⟩
  intro k k1 k2
  by_cases hk : k = lo + 1
  · subst hk; exact Nat.le_refl _
  · rcases h with ⟨_, _, h3⟩ | ⟨_, _, _, _, h5, _⟩
    · have := h3 k (by omega) (by omega); omega
    · have := h5 k (by omega) (by omega); omega
theorem Best.down_no {A : Nat → Nat} {lo hi f b : Nat} (h : Best A (lo + 1) hi f b) (_hl : lo < hi) (hn : ¬ (b ≤ A (lo + 1) ∧ 4 ≤ A (lo + 1))) : Best A lo hi f b := by
  rcases h with ⟨h1, h2, h3⟩ | ⟨h1, h2, h3, h4, h5, h6⟩
  · refine .inl ⟨h1, h2, fun k k1 k2 => ?_⟩
    by_cases hk : k = lo + 1
    · subst hk; omega
    · exact h3 k (by omega) (by omega)
  · refine .inr ⟨by omega, h2, h3, h4, fun k k1 k2 => ?_, fun k k1 k2 => ?_⟩
    · by_cases hk : k = lo + 1
      · subst hk; omega
      · exact h5 k (by omega) (by omega)
    · by_cases hk : k = lo + 1
      · subst hk; omega
      · exact h6 k (by omega) (by omega)
/-- What Find computes, in rounds upwards. -/
def findTo (l : List UInt8) (at_ : Nat) : Nat → Nat × Nat
  | 0 => (0, 0)
  | k + 1 => if 4 ≤ alike l (at_ - (k + 1)) at_ ∧ (findTo l at_ k).2 < alike l (at_ - (k + 1)) at_ then (k + 1, alike l (at_ - (k + 1)) at_) else findTo l at_ k
theorem findTo_best (l : List UInt8) (at_ k : Nat) : Best (fun k => alike l (at_ - k) at_) 0 k (findTo l at_ k).1 (findTo l at_ k).2 := by
  induction k with
  | zero => exact Best.start _ 0
  | succ k ih =>
    simp only [findTo]
    split
    · rename_i h; exact ih.up_yes (Nat.zero_le _) h.1 h.2
    · rename_i h; exact ih.up_no h
def find (l : List UInt8) (i : Nat) : Nat × Nat := if i < l.length then findTo l i (min i 1024) else (0, 0)
theorem findTo_le (l : List UInt8) (i k : Nat) : (findTo l i k).1 ≤ k ∧ (findTo l i k).2 ≤ 67 := by
  induction k with
  | zero => exact ⟨Nat.le_refl _, Nat.zero_le _⟩
  | succ k ih =>
    simp only [findTo]
    split
    · exact ⟨Nat.le_refl _, alike_le _ _ _⟩
    · exact ⟨by omega, ih.2⟩
end Go.Proofs.YtnaclpfcldoebaaDoor.Match
