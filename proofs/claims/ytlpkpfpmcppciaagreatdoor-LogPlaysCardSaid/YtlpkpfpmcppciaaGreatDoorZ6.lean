/- What writes come to, in plain Lean: cells by keys. No program in sight.

A log in plain Lean: what Local, Accept and Since leave and answer.

A log in memory, the program's and the reference's alike. -/
import Derived.Test.YtlpkpfpmcppciaaGreatDoorZ1
import Derived.Test.YtlpkpfpmcppciaaGreatDoorZ5
import Derived.Lib.Bytealg
import Derived.IntWalk
import Derived.Test.YtlpkpfpmcppciaaGreatDoorZ2
import Derived.Test.YtlpkpfpmcppciaaGreatDoorZ3
import Derived.Test.YtlpkpfpmcppciaaGreatDoorZ3b
import Derived.OwnWalk
import Derived.Deep.AppendLies
import Derived.KernelRfl
section
namespace Go.Proofs.YtlpkpfpmcppciaaGreatDoor
open Go.RowKit
set_option linter.unusedVariables false
set_option linter.unusedSimpArgs false
structure Cel where
 has : Bool
 text : ByteArray
 sum : Int
 list : List ByteArray
def Cel.zero : Cel := ⟨false, ⟨#[]⟩, 0, []⟩
def Cel.full (c : Cel) : Bool := c.has || (c.sum != 0) || decide (0 < c.list.length)
def insAt (l : List ByteArray) (k : Nat) (v : ByteArray) : List ByteArray := l.take k ++ v :: l.drop k
/-- One write of the cell's key. -/
def Cel.step (c : Cel) (x : Wr) : Cel :=
 if x.2.2.1 = 1 then { c with has := true, text := x.2.2.2.2.1 } else if x.2.2.1 = 2 then Cel.zero else if x.2.2.1 = 3 then { c with sum := wrap64 (c.sum + x.2.2.2.2.2) } else if x.2.2.1 = 4 then { c with list := insAt c.list (min x.2.2.2.2.2.toNat c.list.length) x.2.2.2.2.1 } else c
/-- The cell of a key, by all writes. -/
def cellOf (k : ByteArray) (l : List Wr) : Cel := l.foldl (fun c x => if x.2.2.2.1 = k then c.step x else c) Cel.zero
theorem cellOf_snoc (k : ByteArray) (l : List Wr) (x : Wr) : cellOf k (l ++ [x]) = if x.2.2.2.1 = k then (cellOf k l).step x else cellOf k l := by simp [cellOf, List.foldl_append]
/-- The store: a cell, or none. -/
abbrev Sto := ByteArray → Option Cel
def Sto.nil : Sto := fun _ => none
def Sto.put (f : Sto) (k : ByteArray) (c : Option Cel) : Sto := fun j => if j = k then c else f j
def Sto.do (f : Sto) (x : Wr) : Sto := f.put x.2.2.2.1 (if x.2.2.1 = 2 then none else some (((f x.2.2.2.1).getD Cel.zero).step x))
def stoOf (l : List Wr) : Sto := l.foldl Sto.do Sto.nil
theorem stoOf_snoc (l : List Wr) (x : Wr) : stoOf (l ++ [x]) = (stoOf l).do x := by simp [stoOf, List.foldl_append]
theorem stoOf_cell (k : ByteArray) (l : List Wr) : (stoOf l k).getD Cel.zero = cellOf k l := by
 suffices h : ∀ r : List Wr, (stoOf r.reverse k).getD Cel.zero = cellOf k r.reverse by
  have := h l.reverse
  simpa using this
 intro r
 induction r with
 | nil => rfl
 | cons x r ih =>
  rw [List.reverse_cons, stoOf_snoc, cellOf_snoc]
  unfold Sto.do Sto.put
  by_cases hk : x.2.2.2.1 = k
  ·subst hk
   rw [if_pos rfl, if_pos rfl]
   by_cases h2 : x.2.2.1 = 2
   ·rw [if_pos h2]
    unfold Cel.step
    rw [if_neg (by omega), if_pos h2]
    rfl
   ·rw [if_neg h2, ih]
    rfl
  ·rw [if_neg (fun e => hk e.symm), if_neg hk, ih]
theorem stoOf_in {k : ByteArray} {l : List Wr} (h : ∀ x ∈ l, x.2.2.2.1 ≠ k) : stoOf l k = none := by
 suffices g : ∀ r : List Wr, (∀ x ∈ r.reverse, x.2.2.2.1 ≠ k) → stoOf r.reverse k = none by
  have := g l.reverse (by simpa using h)
  simpa using this
 intro r
 induction r with
 | nil => intro _; rfl
 | cons x r ih =>
  intro hr
  rw [List.reverse_cons, stoOf_snoc]
  unfold Sto.do Sto.put
  rw [if_neg (fun e => hr x (by simp) e.symm)]
  exact ih fun y hy => hr y (by simp only [List.reverse_cons, List.mem_append]; exact .inl hy)
/-! Keys by their bytes. -/
def kcmp (a b : ByteArray) : Int := Lib.compareBytes a.data.toList b.data.toList
theorem cb_self : ∀ l : List UInt8, Lib.compareBytes l l = 0
 | [] => rfl
 | a :: l => by
  unfold Lib.compareBytes
  rw [if_neg (UInt8.lt_irrefl a), if_neg (UInt8.lt_irrefl a)]
  exact cb_self l
theorem cb_zero : ∀ {l m : List UInt8}, Lib.compareBytes l m = 0 → l = m
 | [], [], _ => rfl
 | [], _ :: _, h => by unfold Lib.compareBytes at h; omega
 | _ :: _, [], h => by unfold Lib.compareBytes at h; omega
 | a :: l, b :: m, h => by
  unfold Lib.compareBytes at h
  by_cases h1 : a < b
  ·rw [if_pos h1] at h; omega
  by_cases h2 : b < a
  ·rw [if_neg h1, if_pos h2] at h; omega
  rw [if_neg h1, if_neg h2] at h
  have : a = b := UInt8.le_antisymm (UInt8.not_lt.1 h2) (UInt8.not_lt.1 h1)
  rw [this, cb_zero h]
theorem cb_anti : ∀ (l m : List UInt8), Lib.compareBytes l m = - Lib.compareBytes m l
 | [], [] => rfl
 | [], _ :: _ => rfl
 | _ :: _, [] => rfl
 | a :: l, b :: m => by
  unfold Lib.compareBytes
  by_cases h1 : a < b
  ·have h2 : ¬ b < a := fun h => UInt8.lt_irrefl a (UInt8.lt_trans h1 h)
   rw [if_pos h1, if_neg h2, if_pos h1]
  by_cases h2 : b < a
  ·rw [if_neg h1, if_pos h2, if_pos h2]; rfl
  rw [if_neg h1, if_neg h2, if_neg h2, if_neg h1]
  exact cb_anti l m
theorem cb_trans : ∀ {l m n : List UInt8}, Lib.compareBytes l m < 0 → Lib.compareBytes m n ≤ 0 → Lib.compareBytes l n < 0
 | [], [], _, h, _ => by unfold Lib.compareBytes at h; omega
 | [], b :: m, [], _, h2 => by unfold Lib.compareBytes at h2; omega
 | [], b :: m, c :: n, _, _ => by unfold Lib.compareBytes; omega
 | a :: l, [], _, h, _ => by unfold Lib.compareBytes at h; omega
 | a :: l, b :: m, [], _, h2 => by unfold Lib.compareBytes at h2; omega
 | a :: l, b :: m, c :: n, h, h2 => by
  unfold Lib.compareBytes at h h2 ⊢
  by_cases hab : a < b
  ·by_cases hbc : b < c
   ·rw [if_pos (UInt8.lt_trans hab hbc)]; omega
   rw [if_neg hbc] at h2
   by_cases hcb : c < b
   ·rw [if_pos hcb] at h2; omega
   have : b = c := UInt8.le_antisymm (UInt8.not_lt.1 hcb) (UInt8.not_lt.1 hbc)
   subst this
   rw [if_pos hab]; omega
  rw [if_neg hab] at h
  by_cases hba : b < a
  ·rw [if_pos hba] at h; omega
  rw [if_neg hba] at h
  have : a = b := UInt8.le_antisymm (UInt8.not_lt.1 hba) (UInt8.not_lt.1 hab)
  subst this
  by_cases hac : a < c
  ·rw [if_pos hac]; omega
  rw [if_neg hac] at h2 ⊢
  by_cases hca : c < a
  ·rw [if_pos hca] at h2; omega
  rw [if_neg hca] at h2 ⊢
  exact cb_trans h h2
theorem kcmp_zero {a b : ByteArray} (h : kcmp a b = 0) : a = b := by
 have := cb_zero h
 cases a; cases b
 simp only [ByteArray.mk.injEq]
 exact Array.ext' this
theorem kcmp_self (a : ByteArray) : kcmp a a = 0 := cb_self _
theorem kcmp_anti (a b : ByteArray) : kcmp a b = - kcmp b a := cb_anti _ _
theorem kcmp_trans {a b c : ByteArray} (h : kcmp a b < 0) (h2 : kcmp b c ≤ 0) : kcmp a c < 0 := cb_trans h h2
/-- Two lists that rise strictly and have the same members are one. -/
theorem rising_one {α : Type} {lt : α → α → Prop} (irr : ∀ x, ¬ lt x x) (asy : ∀ x y, lt x y → ¬ lt y x) : ∀ {l m : List α}, l.Pairwise lt → m.Pairwise lt → (∀ x, x ∈ l ↔ x ∈ m) → l = m
 | [], [], _, _, _ => rfl
 | [], b :: m, _, _, h => by have := (h b).2 (by simp); simp at this
 | a :: l, [], _, _, h => by have := (h a).1 (by simp); simp at this
 | a :: l, b :: m, h1, h2, h => by
  rw [List.pairwise_cons] at h1 h2
  have hab : a = b := by
   rcases List.mem_cons.1 ((h a).1 (by simp)) with e | e
   ·exact e
   rcases List.mem_cons.1 ((h b).2 (by simp)) with e' | e'
   ·exact e'.symm
   exact absurd (h2.1 a e) (asy _ _ (h1.1 b e'))
  subst hab
  rw [rising_one irr asy h1.2 h2.2 fun x => ⟨fun hx => ?_, fun hx => ?_⟩]
  ·rcases List.mem_cons.1 ((h x).1 (List.mem_cons_of_mem _ hx)) with e | e
   ·subst e; exact absurd (h1.1 x hx) (irr x)
   ·exact e
  ·rcases List.mem_cons.1 ((h x).2 (List.mem_cons_of_mem _ hx)) with e | e
   ·subst e; exact absurd (h2.1 x hx) (irr x)
   ·exact e
/-- All cells that have something, by rising keys. -/
structure IsOut (l : List Wr) (o : List (ByteArray × Cel)) : Prop where
 rises : o.Pairwise fun a b => kcmp a.1 b.1 < 0
 mem : ∀ k c, (k, c) ∈ o ↔ c = cellOf k l ∧ c.full = true
theorem IsOut.one {l : List Wr} {o o' : List (ByteArray × Cel)} (h : IsOut l o) (h' : IsOut l o') : o = o' :=
 rising_one (lt := fun a b => kcmp a.1 b.1 < 0) (fun x => by rw [kcmp_self]; omega) (fun x y h => by rw [kcmp_anti]; omega) h.rises h'.rises fun ⟨k, c⟩ => (h.mem k c).trans (h'.mem k c).symm
theorem cell_nil {k : ByteArray} {l : List Wr} (h : ∀ x ∈ l, x.2.2.2.1 ≠ k) : cellOf k l = Cel.zero := by
 rw [← stoOf_cell, stoOf_in h]
 rfl
/-- What the program collects: the full cells of whichever order, sorted. -/
theorem isOut_of {l : List Wr} {o : List (ByteArray × Cel)} (hs : o.Pairwise fun a b => ¬ kcmp b.1 a.1 < 0) (hn : (o.map (·.1)).Nodup) (hm : ∀ k c, (k, c) ∈ o ↔ stoOf l k = some c ∧ c.full = true) : IsOut l o := by
 refine ⟨?_, fun k c => (hm k c).trans ⟨fun ⟨h1, h2⟩ => ⟨by rw [← stoOf_cell, h1]; rfl, h2⟩, fun ⟨h1, h2⟩ => ⟨?_, h2⟩⟩⟩
 ·have hn' := List.pairwise_map.1 hn
  refine (hs.and hn').imp fun {a b} ⟨h1, h2⟩ => ?_
  have := kcmp_anti a.1 b.1
  by_cases h0 : kcmp a.1 b.1 = 0
  ·exact absurd (kcmp_zero h0) h2
  ·omega
 ·cases h : stoOf l k with
  | some d =>
   have := stoOf_cell k l
   rw [h] at this
   rw [h1, ← this]
   rfl
  | none =>
   exfalso
   have := stoOf_cell k l
   rw [h] at this
   rw [h1, ← this] at h2
   cases h2
/-- What the reference collects: over all keys, sorted. -/
theorem isOut_ref {l : List Wr} {ks : List ByteArray} (hs : ks.Pairwise fun a b => ¬ kcmp b a < 0) (hn : ks.Nodup) (hm : ∀ x ∈ l, x.2.2.2.1 ∈ ks) : IsOut l ((ks.map fun k => (k, cellOf k l)).filter fun p => p.2.full) := by
 refine ⟨?_, fun k c => ?_⟩
 ·refine List.Pairwise.filter _ (List.pairwise_map.2 ((hs.and hn).imp fun {a b} ⟨h1, h2⟩ => ?_))
  have := kcmp_anti a b
  by_cases h0 : kcmp a b = 0
  ·exact absurd (kcmp_zero h0) h2
  ·show kcmp a b < 0
   omega
 ·rw [List.mem_filter, List.mem_map]
  constructor
  ·rintro ⟨⟨j, hj, e⟩, hf⟩
   injection e with e1 e2
   subst e1
   exact ⟨e2.symm, hf⟩
  ·rintro ⟨rfl, hf⟩
   refine ⟨⟨k, ?_, rfl⟩, hf⟩
   by_cases hk : ∃ x ∈ l, x.2.2.2.1 = k
   ·obtain ⟨x, hx, rfl⟩ := hk
    exact hm x hx
   ·rw [cell_nil (fun x hx e => hk ⟨x, hx, e⟩)] at hf
    cases hf
theorem cb_lt : ∀ {l m : List UInt8}, Lib.compareBytes l m < 0 ↔ l < m
 | [], [] => by
  rw [cb_self]
  exact ⟨fun h => by omega, fun h => absurd h (List.not_lt_nil _)⟩
 | [], b :: m => ⟨fun _ => List.nil_lt_cons _ _, fun _ => by unfold Lib.compareBytes; omega⟩
 | a :: l, [] => ⟨fun h => by unfold Lib.compareBytes at h; omega, fun h => absurd h (List.not_lt_nil _)⟩
 | a :: l, b :: m => by
  rw [List.cons_lt_cons_iff]
  unfold Lib.compareBytes
  by_cases h1 : a < b
  ·rw [if_pos h1]
   exact ⟨fun _ => .inl h1, fun _ => by omega⟩
  by_cases h2 : b < a
  ·rw [if_neg h1, if_pos h2]
   exact ⟨fun h => by omega, fun h => by
    rcases h with h | ⟨rfl, _⟩
    ·exact absurd h h1
    ·exact absurd h2 (UInt8.lt_irrefl _)⟩
  have : a = b := UInt8.le_antisymm (UInt8.not_lt.1 h2) (UInt8.not_lt.1 h1)
  subst this
  rw [if_neg h1, if_neg h1, cb_lt]
  exact ⟨fun h => .inr ⟨rfl, h⟩, fun h => by
   rcases h with h | ⟨_, h⟩
   ·exact absurd h h1
   ·exact h⟩
theorem cb_le {l m : List UInt8} : l ≤ m ↔ ¬ Lib.compareBytes m l < 0 := by
 rw [cb_lt]
 exact Iff.rfl
/-- Keys, sorted. -/
def sortK (T : List ByteArray) : List ByteArray := ((T.map fun s => s.data.toList).mergeSort fun x y => decide (x ≤ y)).map fun l => ⟨l.toArray⟩
theorem sortK_perm (T : List ByteArray) : (sortK T).Perm T := by
 unfold sortK
 refine ((List.mergeSort_perm _ _).map _).trans ?_
 rw [List.map_map]
 rw [show ((fun l : List UInt8 => (⟨l.toArray⟩ : ByteArray)) ∘ fun s : ByteArray => s.data.toList) = id from funext fun s => by cases s; simp]
 rw [List.map_id]
theorem sortK_rises (T : List ByteArray) : (sortK T).Pairwise fun a b => ¬ kcmp b a < 0 := by
 unfold sortK
 rw [List.pairwise_map]
 refine (List.pairwise_mergeSort (le := fun x y : List UInt8 => decide (x ≤ y)) (fun a b c h1 h2 => ?_) (fun a b => ?_) _).imp fun {a b} h => ?_
 ·simp only [decide_eq_true_eq, cb_le] at h1 h2 ⊢
  intro h
  by_cases h0 : Lib.compareBytes b a = 0
  ·rw [cb_zero h0] at h2
   exact h2 h
  ·have h3 : Lib.compareBytes a b < 0 := by have := cb_anti a b; omega
   have := cb_trans (n := b) h (by omega)
   exact h2 this
 ·simp only [Bool.or_eq_true, decide_eq_true_eq, cb_le]
  have := cb_anti a b
  omega
 ·simp only [decide_eq_true_eq, cb_le] at h
  simpa [kcmp] using h
end Go.Proofs.YtlpkpfpmcppciaaGreatDoor
end

section
namespace Go.Proofs.YtlpkpfpmcppciaaGreatDoor
set_option linter.unusedSimpArgs false
set_option linter.unusedVariables false
open Go.RowKit
open Go.Sort (SWO)
theorem idNeg {a b : Int × Int} : idCmp a b < 0 ↔ a.1 < b.1 ∨ (a.1 = b.1 ∧ a.2 < b.2) := by
 unfold idCmp
 split
 ·rename_i h; exact ⟨fun _ => h, fun _ => by decide⟩
 ·rename_i h
  split
  ·exact ⟨fun q => absurd q (by decide), fun q => absurd q h⟩
  ·exact ⟨fun q => absurd q (by decide), fun q => absurd q h⟩
/-- The latest time of a vector. -/
def lastT (V : List Ent) : Int := V.foldl (fun t x => max t x.2) 0
theorem foldl_max (V : List Ent) : ∀ t : Int, t ≤ V.foldl (fun t x => max t x.2) t ∧ (∀ x ∈ V, x.2 ≤ V.foldl (fun t x => max t x.2) t) ∧ (V.foldl (fun t x => max t x.2) t = t ∨ ∃ x ∈ V, V.foldl (fun t x => max t x.2) t = x.2) := by
 induction V with
 | nil => intro t; exact ⟨Int.le_refl _, fun x hx => (List.not_mem_nil hx).elim, .inl rfl⟩
 | cons y V ih =>
  intro t
  obtain ⟨h1, h2, h3⟩ := ih (max t y.2)
  refine ⟨?_, ?_, ?_⟩
  ·show t ≤ V.foldl (fun t x => max t x.2) (max t y.2)
   omega
  ·intro x hx
   show x.2 ≤ V.foldl (fun t x => max t x.2) (max t y.2)
   rcases List.mem_cons.1 hx with rfl | hx
   ·omega
   ·exact h2 x hx
  ·show V.foldl (fun t x => max t x.2) (max t y.2) = t ∨ ∃ x ∈ y :: V, V.foldl (fun t x => max t x.2) (max t y.2) = x.2
   rcases h3 with h3 | ⟨x, hx, h3⟩
   ·rcases Int.le_total t y.2 with h | h
    ·exact .inr ⟨y, by simp, by rw [h3]; omega⟩
    ·exact .inl (by rw [h3]; omega)
   ·exact .inr ⟨x, by simp [hx], h3⟩
theorem lastT_nonneg (V : List Ent) : 0 ≤ lastT V := (foldl_max V 0).1
theorem lastT_ge {V : List Ent} {x : Ent} (h : x ∈ V) : x.2 ≤ lastT V := (foldl_max V 0).2.1 x h
theorem lastT_take {V : List Ent} {k : Nat} {x : Ent} (h : V[k]? = some x) : lastT (V.take (k + 1)) = max (lastT (V.take k)) x.2 := by
 obtain ⟨h1, h2⟩ := List.getElem?_eq_some_iff.1 h
 unfold lastT
 rw [List.take_succ_eq_append_getElem h1, h2, List.foldl_append]
 rfl
theorem vof_mem {l : List Ent} {r : Int} (h : vof l r ≠ 0) : ∃ t, (r, t) ∈ l ∧ vof l r = t := by
 induction l with
 | nil => simp [vof] at h
 | cons y l ih =>
  obtain ⟨s, t⟩ := y
  by_cases e : s = r
  ·subst e
   exact ⟨t, by simp, vof_cons_eq⟩
  ·rw [vof_cons_ne e] at h ⊢
   obtain ⟨u, h1, h2⟩ := ih h
   exact ⟨u, by simp [h1], h2⟩
theorem vof_le_last (V : List Ent) (r : Int) : vof V r ≤ lastT V := by
 by_cases h : vof V r = 0
 ·rw [h]; exact lastT_nonneg V
 ·obtain ⟨t, h1, h2⟩ := vof_mem h
  rw [h2]
  exact lastT_ge (x := (r, t)) h1
/-- A vector that rises and isn't too long is right. -/
theorem vrgo_rises (l : List Ent) : ∀ (last : Int) (i : Nat), -1 ≤ last → Rises (last + 1) l → vrgo l last i = (0, -1) := by
 induction l with
 | nil => intro last i _ _; rfl
 | cons y l ih =>
  intro last i hl0 h
  obtain ⟨r, t⟩ := y
  have hh := h.head
  simp only at hh
  have hb : ¬ entBad (r, t) := by unfold entBad; simp only; omega
  have ho : ¬ r ≤ last := by omega
  have ht := ih r (i + 1) (by omega) h.tail
  rw [vrgo, if_neg hb, if_neg ho]
  exact ht
theorem vright_rises {l : List Ent} (h : Rises 0 l) (hl : l.length ≤ 16) : (vright l).1 = 0 := by
 rw [vright_small (by omega), vrgo_rises l (-1) 0 (by omega) (show Rises (-1 + 1) l from h)]
theorem join_right {a b : List Ent} (h : (vjoin a b).2 = 0) : (vright a).1 = 0 ∧ (vright b).1 = 0 ∧ (vmerge a b).length ≤ 16 ∧ (vjoin a b).1 = vmerge a b := by
 by_cases h1 : (vright a).1 = 0
 ·by_cases h2 : (vright b).1 = 0
  ·by_cases h3 : 16 < (vmerge a b).length
   ·rw [join_big h1 h2 h3] at h; cases h
   ·exact ⟨h1, h2, by omega, by rw [join_good h1 h2 h3]⟩
  ·rw [join_bad' h1 h2] at h; exact absurd h h2
 ·rw [join_bad h1] at h; exact absurd h h1
theorem join_vright {a b : List Ent} (h : (vjoin a b).2 = 0) : (vright (vjoin a b).1).1 = 0 := by
 obtain ⟨h1, h2, h3, h4⟩ := join_right h
 rw [h4]
 exact vright_rises (merge_says (rises_of h1) (rises_of h2)).1 h3
theorem join_vof {a b : List Ent} (h : (vjoin a b).2 = 0) (r : Int) : vof (vjoin a b).1 r = max (vof a r) (vof b r) := by
 obtain ⟨h1, h2, h3, h4⟩ := join_right h
 rw [h4]
 exact (merge_says (rises_of h1) (rises_of h2)).2 r
/-- Rising by ids. -/
def Rise (S : List Wr) : Prop := S.Pairwise fun x y => wlt x y = true
theorem wlt_iff {x y : Wr} : wlt x y = true ↔ x.1 < y.1 ∨ (x.1 = y.1 ∧ x.2.1 < y.2.1) := by
 unfold wlt
 rw [decide_eq_true_iff, idNeg]
theorem wlt_false {x y : Wr} : wlt x y = false ↔ ¬ (x.1 < y.1 ∨ (x.1 = y.1 ∧ x.2.1 < y.2.1)) := by
 rw [← wlt_iff]
 cases wlt x y <;> simp
theorem wid_eq {x y : Wr} : wid x = wid y ↔ x.1 = y.1 ∧ x.2.1 = y.2.1 := by unfold wid; rw [Prod.mk.injEq]
structure SortOf (L S : List Wr) : Prop where
 perm : S.Perm L
 rise : Rise S
/-- No two of one id. -/
def Ids (L : List Wr) : Prop := L.Pairwise fun x y => wid x ≠ wid y
theorem Rise.ids {S : List Wr} (h : Rise S) : Ids S := h.imp fun {x y} hxy e => by
 have := wlt_iff.1 hxy
 have := wid_eq.1 e
 omega
theorem Ids.perm {L S : List Wr} (h : Ids L) (hp : S.Perm L) : Ids S := (hp.pairwise_iff (fun {x y} hxy e => hxy e.symm)).2 h
theorem SortOf.ids {L S : List Wr} (h : SortOf L S) : Ids L := (h.perm.pairwise_iff (fun {x y} hxy e => hxy e.symm)).1 h.rise.ids
theorem SortOf.len {L S : List Wr} (h : SortOf L S) : S.length = L.length := h.perm.length_eq
theorem rise_of {M : List Wr} (hs : Srd wlt M) (hi : Ids M) : Rise M := by
 have := hs.and hi
 refine this.imp fun {x y} h => ?_
 obtain ⟨h1, h2⟩ := h
 have h1 := wlt_false.1 h1
 have h2 : ¬ (x.1 = y.1 ∧ x.2.1 = y.2.1) := fun e => h2 (wid_eq.2 e)
 exact wlt_iff.2 (by omega)
theorem SortOf.one {L S M : List Wr} (h : SortOf L S) (hp : M.Perm L) (hs : Srd wlt M) : M = S := by
 have hM : Rise M := rise_of hs (h.ids.perm hp)
 refine rising_one (lt := fun x y => wlt x y = true) (fun x hx => ?_) (fun x y hx hy => ?_) hM h.rise (fun x => ?_)
 ·have := wlt_iff.1 hx; omega
 ·have := wlt_iff.1 hx; have := wlt_iff.1 hy; omega
 ·exact (hp.mem_iff).trans h.perm.mem_iff.symm
theorem SortOf.nil : SortOf [] [] := ⟨.refl _, List.Pairwise.nil⟩
/-- What stays true of a log. -/
structure LFit (V : List Ent) (L : List Wr) : Prop where
 vr : (vright V).1 = 0
 wr : ∀ x ∈ L, wright x = 0
 cov : ∀ x ∈ L, x.1 ≤ vof V x.2.1
 len : L.length ≤ 300
theorem LFit.nil : LFit [] [] := ⟨rfl, fun x hx => (List.not_mem_nil hx).elim, fun x hx => (List.not_mem_nil hx).elim, by simp⟩
/-- One's own write. -/
def ownW (rep t : Int) (x : Wr) : Wr := (t, rep, x.2.2)
abbrev Lg := List Ent × List Wr
def lloc (rep : Int) (V : List Ent) (L : List Wr) (x : Wr) : Lg × Id × Int :=
 if 1099511627776 ≤ lastT V then ((V, L), (0, 0), 4)
 else if wright (ownW rep (lastT V + 1) x) ≠ 0 then ((V, L), (0, 0), wright (ownW rep (lastT V + 1) x))
 else if 300 ≤ L.length then ((V, L), (0, 0), 12)
 else if (vjoin V [(rep, lastT V + 1)]).2 ≠ 0 then ((V, L), (0, 0), (vjoin V [(rep, lastT V + 1)]).2)
 else (((vjoin V [(rep, lastT V + 1)]).1, L ++ [ownW rep (lastT V + 1) x]), (lastT V + 1, rep), 0)
theorem lastT_right {V : List Ent} (h : (vright V).1 = 0) : lastT V ≤ 1099511627776 := by
 have hr := rises_of h
 rcases (foldl_max V 0).2.2 with e | ⟨x, hx, e⟩
 ·unfold lastT; rw [e]; decide
 ·unfold lastT; rw [e]; exact (hr.1 x hx).2.2.2
theorem vof_one {r t q : Int} : vof [(r, t)] q = if r = q then t else 0 := by simp [vof]
theorem LFit.loc1 {rep : Int} {V : List Ent} {L S : List Wr} {x : Wr} (h : LFit V L) (hs : SortOf L S) (h0 : ¬ 1099511627776 ≤ lastT V) (h1 : wright (ownW rep (lastT V + 1) x) = 0) (h2 : ¬ 300 ≤ L.length) (h3 : (vjoin V [(rep, lastT V + 1)]).2 = 0) :
  LFit (vjoin V [(rep, lastT V + 1)]).1 (L ++ [ownW rep (lastT V + 1) x]) ∧ SortOf (L ++ [ownW rep (lastT V + 1) x]) (S ++ [ownW rep (lastT V + 1) x]) := by
 have hj := fun r => join_vof h3 r
 refine ⟨⟨join_vright h3, ?_, ?_, by rw [List.length_append]; simp; omega⟩, ⟨hs.perm.append_right _, ?_⟩⟩
 ·intro y hy
  rcases List.mem_append.1 hy with hy | hy
  ·exact h.wr y hy
  ·rw [List.mem_singleton.1 hy]; exact h1
 ·intro y hy
  rw [hj]
  rcases List.mem_append.1 hy with hy | hy
  ·have := h.cov y hy; omega
  ·rw [List.mem_singleton.1 hy, vof_one]
   show lastT V + 1 ≤ max (vof V rep) (if rep = rep then lastT V + 1 else 0)
   rw [if_pos rfl]
   omega
 ·refine List.pairwise_append.2 ⟨hs.rise, List.pairwise_singleton _ _, fun y hy z hz => ?_⟩
  rw [List.mem_singleton.1 hz]
  have hc := h.cov y (hs.perm.mem_iff.1 hy)
  have hl := vof_le_last V y.2.1
  exact wlt_iff.2 (.inl (show y.1 < lastT V + 1 by omega))
/-- Whether an id is there; whether another write has it. -/
def knows (L : List Wr) (x : Wr) : Bool := L.any fun y => decide (wid y = wid x)
def clash (L : List Wr) (x : Wr) : Bool := L.any fun y => decide (wid y = wid x) && !decide (y = x)
def fresh (L l : List Wr) : List Wr := l.filter fun x => !knows L x
theorem fresh_len (L l : List Wr) : (fresh L l).length ≤ l.length := List.length_filter_le _ _
theorem fresh_take {L l : List Wr} {k : Nat} {x : Wr} (h : l[k]? = some x) : fresh L (l.take (k + 1)) = fresh L (l.take k) ++ (if knows L x then [] else [x]) := by
 obtain ⟨h1, h2⟩ := List.getElem?_eq_some_iff.1 h
 unfold fresh
 rw [List.take_succ_eq_append_getElem h1, h2, List.filter_append]
 congr 1
 cases hk : knows L x <;> simp [hk]
/-- The first write of which another one is there. -/
def clashAt (L : List Wr) : List Wr → Nat → Option Nat
 | [], _ => none
 | x :: l, k => if clash L x then some k else clashAt L l (k + 1)
def CAt (L l : List Wr) (k : Nat) : Prop := clashAt L l 0 = clashAt L (l.drop k) k
theorem CAt.zero (L l : List Wr) : CAt L l 0 := rfl
theorem CAt.bad {L l : List Wr} {k : Nat} {x : Wr} (h : CAt L l k) (hx : l[k]? = some x) (hc : clash L x = true) : clashAt L l 0 = some k := by
 unfold CAt at h
 rw [h, drop_at hx, clashAt, if_pos hc]
theorem CAt.succ {L l : List Wr} {k : Nat} {x : Wr} (h : CAt L l k) (hx : l[k]? = some x) (hc : clash L x = false) : CAt L l (k + 1) := by
 unfold CAt at h ⊢
 rw [h, drop_at hx, clashAt, if_neg (by simp [hc])]
theorem CAt.all {L l : List Wr} {k : Nat} (h : CAt L l k) (hk : l.length ≤ k) : clashAt L l 0 = none := by
 unfold CAt at h
 rw [h, List.drop_eq_nil_of_le hk]
 rfl
def lacc (V : List Ent) (L : List Wr) (f h : List Ent) (l : List Wr) : Lg × Nat × Int × Int :=
 if (bright f h l).1 ≠ 0 then ((V, L), 0, bright f h l)
 else if vcovers V f = false then ((V, L), 0, 10, -1)
 else if (vjoin V h).2 ≠ 0 then ((V, L), 0, (vjoin V h).2, -1)
 else match clashAt L l 0 with
  | some k => ((V, L), 0, 9, (k : Int))
  | none => if 300 < L.length + (fresh L l).length then ((V, L), 0, 12, -1) else (((vjoin V h).1, L ++ fresh L l), (fresh L l).length, 0, -1)
/-- The writes of a right batch rise. -/
theorem bgo_rise (f h : List Ent) (l : List Wr) : ∀ (last : Id) (i : Nat), (bgo f h l last i).1 = 0 → l.Pairwise (fun x y => wlt x y = true) ∧ (0 < i → ∀ w ∈ l, last.1 < w.1 ∨ (last.1 = w.1 ∧ last.2 < w.2.1)) := by
 induction l with
 | nil => intro last i _; exact ⟨List.Pairwise.nil, fun _ w hw => (List.not_mem_nil hw).elim⟩
 | cons x l ih =>
  intro last i hb
  rw [bgo] at hb
  by_cases h1 : wright x ≠ 0
  ·rw [if_pos h1] at hb; exact absurd hb h1
  rw [if_neg h1] at hb
  by_cases h2 : 0 < i ∧ 0 ≤ idCmp last (wid x)
  ·rw [if_pos h2] at hb; cases hb
  rw [if_neg h2] at hb
  by_cases h3 : idWithin (wid x) f h = false
  ·rw [if_pos h3] at hb; cases hb
  rw [if_neg h3] at hb
  obtain ⟨q1, q2⟩ := ih _ _ hb
  have q2 := q2 (by omega)
  refine ⟨List.pairwise_cons.2 ⟨fun y hy => wlt_iff.2 (q2 y hy), q1⟩, fun hi w hw => ?_⟩
  have hlt : last.1 < x.1 ∨ (last.1 = x.1 ∧ last.2 < x.2.1) := by
   have : idCmp last (wid x) < 0 := by
    rcases Int.lt_or_le (idCmp last (wid x)) 0 with h | h
    ·exact h
    ·exact absurd ⟨hi, h⟩ h2
   exact idNeg.1 this
  rcases List.mem_cons.1 hw with rfl | hw
  ·exact hlt
  ·have := q2 w hw
   unfold wid at this
   simp only at this
   omega
theorem bright_rise {f h : List Ent} {l : List Wr} (e : (bright f h l).1 = 0) : Rise l := by
 unfold bright at e
 split at e
 ·rename_i q; exact absurd e q
 split at e
 ·rename_i q; exact absurd e q
 split at e
 ·cases e
 split at e
 ·cases e
 exact (bgo_rise f h l _ _ e).1
theorem knows_iff {L : List Wr} {x : Wr} : knows L x = true ↔ ∃ y ∈ L, wid y = wid x := by unfold knows; simp
theorem knows_no {L : List Wr} {x : Wr} : knows L x = false ↔ ∀ y ∈ L, wid y ≠ wid x := by unfold knows; simp
theorem clash_iff {L : List Wr} {x : Wr} : clash L x = true ↔ ∃ y ∈ L, wid y = wid x ∧ y ≠ x := by unfold clash; simp
theorem clash_no {L : List Wr} {x : Wr} : clash L x = false ↔ ∀ y ∈ L, wid y = wid x → y = x := by unfold clash; simp
/-- Where a write stands, or would stand. -/
structure PosOf (N : List Wr) (x : Wr) (p : Nat) : Prop where
 le : p ≤ N.length
 lo : ∀ (j : Nat) (y : Wr), j < p → N[j]? = some y → wlt y x = true
 hi : ∀ (j : Nat) (y : Wr), p ≤ j → N[j]? = some y → wlt y x = false
/-- Whether it is there. -/
def foundAt (N : List Wr) (x : Wr) (p : Nat) : Bool := match N[p]? with | some y => decide (wid y = wid x) | none => false
theorem PosOf.found {N : List Wr} {x : Wr} {p : Nat} (h : PosOf N x p) (hr : Rise N) : foundAt N x p = knows N x := by
 unfold foundAt
 rw [Bool.eq_iff_iff]
 constructor
 ·intro hf
  split at hf
  ·rename_i y hy
   exact knows_iff.2 ⟨y, List.mem_of_getElem? hy, of_decide_eq_true hf⟩
  ·cases hf
 ·intro hk
  obtain ⟨y, hy, e⟩ := knows_iff.1 hk
  obtain ⟨j, hj, ej⟩ := List.mem_iff_getElem.1 hy
  have hjy : N[j]? = some y := by rw [List.getElem?_eq_getElem hj, ej]
  have he := wid_eq.1 e
  have h1 : p ≤ j := by
   rcases Nat.lt_or_ge j p with q | q
   ·have := wlt_iff.1 (h.lo j y q hjy); omega
   ·exact q
  have hpl : p < N.length := by omega
  have hz := h.hi p N[p] (Nat.le_refl _) (List.getElem?_eq_getElem hpl)
  have h2 : p = j := by
   rcases Nat.lt_or_ge p j with q | q
   ·have := (List.pairwise_iff_getElem.1 hr) p j hpl hj q
    rw [ej] at this
    have := wlt_iff.1 this
    have := wlt_false.1 hz
    omega
   ·omega
  subst h2
  rw [hjy]
  exact decide_eq_true e
theorem Ids.same {L : List Wr} (h : Ids L) {x y : Wr} (hx : x ∈ L) (hy : y ∈ L) (e : wid x = wid y) : x = y := by
 obtain ⟨i, hi, rfl⟩ := List.mem_iff_getElem.1 hx
 obtain ⟨j, hj, rfl⟩ := List.mem_iff_getElem.1 hy
 rcases Nat.lt_trichotomy i j with q | q | q
 ·exact absurd e ((List.pairwise_iff_getElem.1 h) i j hi hj q)
 ·subst q; rfl
 ·exact absurd e.symm ((List.pairwise_iff_getElem.1 h) j i hj hi q)
/-- One put where it would stand. -/
theorem PosOf.put {N : List Wr} {x : Wr} {p : Nat} (h : PosOf N x p) (hr : Rise N) (hk : knows N x = false) : Rise (N.take p ++ x :: N.drop p) ∧ (N.take p ++ x :: N.drop p).Perm (N ++ [x]) := by
 constructor
 ·have ht : Rise (N.take p) := hr.sublist (List.take_sublist _ _)
  have hd : Rise (N.drop p) := hr.sublist (List.drop_sublist _ _)
  have hlo : ∀ y ∈ N.take p, wlt y x = true := fun y hy => by
   obtain ⟨j, hj, e⟩ := List.mem_iff_getElem.1 hy
   have hjp : j < p := by rw [List.length_take] at hj; omega
   exact h.lo j y hjp (by rw [← List.getElem?_take_of_lt hjp, List.getElem?_eq_getElem hj, e])
  have hhi : ∀ y ∈ N.drop p, wlt x y = true := fun y hy => by
   obtain ⟨j, hj, e⟩ := List.mem_iff_getElem.1 hy
   have h1 := h.hi (p + j) y (by omega) (by rw [← List.getElem?_drop, List.getElem?_eq_getElem hj, e])
   have h2 := knows_no.1 hk y (List.mem_of_mem_drop hy)
   have h1 := wlt_false.1 h1
   have h2 : ¬ (y.1 = x.1 ∧ y.2.1 = x.2.1) := fun q => h2 (wid_eq.2 q)
   exact wlt_iff.2 (by omega)
  refine List.pairwise_append.2 ⟨ht, List.pairwise_cons.2 ⟨hhi, hd⟩, fun y hy z hz => ?_⟩
  rcases List.mem_cons.1 hz with rfl | hz
  ·exact hlo y hy
  ·have h1 := wlt_iff.1 (hlo y hy)
   have h2 := wlt_iff.1 (hhi z hz)
   exact wlt_iff.2 (by omega)
 ·have h1 : (N.take p ++ x :: N.drop p).Perm (x :: (N.take p ++ N.drop p)) := List.perm_middle
  rw [List.take_append_drop] at h1
  exact h1.trans (List.perm_append_comm (l₁ := [x]) (l₂ := N))
/-- How the sorted writes stand behind k writes of a batch. -/
structure Mid (L l : List Wr) (k : Nat) (N : List Wr) : Prop where
 s : SortOf (L ++ fresh L (l.take k)) N
theorem Mid.zero {L S l : List Wr} (h : SortOf L S) : Mid L l 0 S := ⟨by simpa [fresh] using h⟩
theorem Mid.knows {L l N : List Wr} {k : Nat} {x : Wr} (h : Mid L l k N) (hl : Rise l) (hx : l[k]? = some x) : Go.Proofs.YtlpkpfpmcppciaaGreatDoor.knows N x = Go.Proofs.YtlpkpfpmcppciaaGreatDoor.knows L x := by
 rw [Bool.eq_iff_iff, knows_iff, knows_iff]
 constructor
 ·rintro ⟨y, hy, e⟩
  rcases List.mem_append.1 (h.s.perm.mem_iff.1 hy) with hy | hy
  ·exact ⟨y, hy, e⟩
  ·exfalso
   have hy := (List.mem_filter.1 hy).1
   obtain ⟨j, hj, ej⟩ := List.mem_iff_getElem.1 hy
   obtain ⟨hk, ek⟩ := List.getElem?_eq_some_iff.1 hx
   have hjk : j < k := by rw [List.length_take] at hj; omega
   have := (List.pairwise_iff_getElem.1 hl.ids) j k (by omega) hk hjk
   rw [ek] at this
   rw [List.getElem_take] at ej
   rw [ej] at this
   exact this e
 ·rintro ⟨y, hy, e⟩
  exact ⟨y, h.s.perm.mem_iff.2 (List.mem_append_left _ hy), e⟩
/-- The write that stands there is the log's. -/
theorem Mid.clash {L l N : List Wr} {k p : Nat} {x y : Wr} (h : Mid L l k N) (hl : Rise l) (hx : l[k]? = some x) (hy : N[p]? = some y) (e : wid y = wid x) : Go.Proofs.YtlpkpfpmcppciaaGreatDoor.clash L x = !decide (y = x) := by
 have hk := h.knows hl hx
 have hyN := List.mem_of_getElem? hy
 have hkL : Go.Proofs.YtlpkpfpmcppciaaGreatDoor.knows L x = true := by rw [← hk]; exact knows_iff.2 ⟨y, hyN, e⟩
 obtain ⟨z, hz, ez⟩ := knows_iff.1 hkL
 have hzy : z = y := h.s.rise.ids.same (h.s.perm.mem_iff.2 (List.mem_append_left _ hz)) hyN (ez.trans e.symm)
 subst hzy
 rw [Bool.eq_iff_iff, clash_iff]
 constructor
 ·rintro ⟨u, hu, eu, hn⟩
  have := h.s.ids.same (List.mem_append_left _ hu) (List.mem_append_left _ hz) (eu.trans ez.symm)
  subst this
  simpa using hn
 ·intro hn
  exact ⟨z, hz, ez, by simpa using hn⟩
theorem clash_unknown {L : List Wr} {x : Wr} (h : knows L x = false) : clash L x = false := clash_no.2 fun y hy e => absurd e (knows_no.1 h y hy)
theorem Mid.same {L l N : List Wr} {k : Nat} {x : Wr} (h : Mid L l k N) (hx : l[k]? = some x) (hk : Go.Proofs.YtlpkpfpmcppciaaGreatDoor.knows L x = true) : Mid L l (k + 1) N := ⟨by
 rw [fresh_take hx, hk]
 simpa using h.s⟩
theorem Mid.put {L l N : List Wr} {k p : Nat} {x : Wr} (h : Mid L l k N) (hl : Rise l) (hx : l[k]? = some x) (hk : Go.Proofs.YtlpkpfpmcppciaaGreatDoor.knows L x = false) (hp : PosOf N x p) : Mid L l (k + 1) (N.take p ++ x :: N.drop p) := ⟨by
 have hN : Go.Proofs.YtlpkpfpmcppciaaGreatDoor.knows N x = false := by rw [h.knows hl hx]; exact hk
 obtain ⟨h1, h2⟩ := hp.put h.s.rise hN
 rw [fresh_take hx, hk]
 refine ⟨h2.trans ?_, h1⟩
 have := h.s.perm.append_right [x]
 rw [List.append_assoc] at this
 exact this⟩
theorem Mid.len {L l N : List Wr} {k : Nat} (h : Mid L l k N) : N.length = L.length + (fresh L (l.take k)).length := by rw [h.s.len, List.length_append]
theorem Mid.all {L l N : List Wr} {k : Nat} (h : Mid L l k N) (hk : l.length ≤ k) : SortOf (L ++ fresh L l) N := by
 have := h.s
 rwa [List.take_of_length_le hk] at this
theorem LFit.accept {V : List Ent} {L : List Wr} {f h : List Ent} {l : List Wr} (hL : LFit V L) (h0 : (bright f h l).1 = 0) (h2 : (vjoin V h).2 = 0) (h3 : ¬ 300 < L.length + (fresh L l).length) : LFit (vjoin V h).1 (L ++ fresh L l) := by
 obtain ⟨_, _, _, _, hall⟩ := bright_ok h0
 refine ⟨join_vright h2, ?_, ?_, by rw [List.length_append]; omega⟩
 ·intro y hy
  rcases List.mem_append.1 hy with hy | hy
  ·exact hL.wr y hy
  ·exact (hall y (List.mem_filter.1 hy).1).1
 ·intro y hy
  rw [join_vof h2]
  rcases List.mem_append.1 hy with hy | hy
  ·have := hL.cov y hy; omega
  ·have := (hall y (List.mem_filter.1 hy).1).2
   unfold idWithin wid at this
   simp only [Bool.and_eq_true, decide_eq_true_eq] at this
   omega
/-- The writes behind a vector. -/
def after (f : List Ent) (S : List Wr) : List Wr := S.filter fun x => decide (vof f x.2.1 < x.1)
theorem after_take {f : List Ent} {S : List Wr} {k : Nat} {x : Wr} (h : S[k]? = some x) : after f (S.take (k + 1)) = after f (S.take k) ++ (if vof f x.2.1 < x.1 then [x] else []) := by
 obtain ⟨h1, h2⟩ := List.getElem?_eq_some_iff.1 h
 unfold after
 rw [List.take_succ_eq_append_getElem h1, h2, List.filter_append]
 congr 1
 by_cases hk : vof f x.2.1 < x.1 <;> simp [hk]
theorem after_take_len (f : List Ent) (S : List Wr) (k : Nat) : (after f (S.take k)).length ≤ k := Nat.le_trans (List.length_filter_le _ _) (by rw [List.length_take]; omega)
theorem after_prefix (f : List Ent) (S : List Wr) (k : Nat) : after f (S.take k) = (after f S).take (after f (S.take k)).length := by
 have : after f S = after f (S.take k) ++ after f (S.drop k) := by
  unfold after
  rw [← List.filter_append, List.take_append_drop]
 rw [this, List.take_left]
/-- How far a replica is known, of a vector and writes. -/
def topT (f : List Ent) (all : List Wr) (r : Int) : Int := all.foldl (fun t x => if x.2.1 = r then max t x.1 else t) (vof f r)
theorem topT_snoc (f : List Ent) (all : List Wr) (x : Wr) (r : Int) : topT f (all ++ [x]) r = if x.2.1 = r then max (topT f all r) x.1 else topT f all r := by
 unfold topT
 rw [List.foldl_append]
 rfl
def sinceHave (f : List Ent) (all : List Wr) : List Ent := canon (topT f all) 0 201
/-- What Since answers: Have and Writes, and what is wrong. -/
def lsince (V : List Ent) (S : List Wr) (f : List Ent) : (List Ent × List Ent × List Wr) × Int :=
 if (vright f).1 ≠ 0 then (([], [], []), (vright f).1)
 else if vcovers V f = false then (([], [], []), 13)
 else if (after f S).length ≤ 60 then ((f, V, after f S), 0)
 else ((f, sinceHave f ((after f S).take 60), (after f S).take 60), 0)
theorem canon_mono {g h : Int → Int} (hh : ∀ r, 0 < g r → 0 < h r) : ∀ (m k : Nat), (canon g k m).length ≤ (canon h k m).length := by
 intro m
 induction m with
 | zero => intro k; exact Nat.le_refl _
 | succ m ih =>
  intro k
  rw [canon_cons, canon_cons, List.length_append, List.length_append]
  have := ih (k + 1)
  by_cases hg : 0 < g (k : Int)
  ·rw [if_pos hg, if_pos (hh _ hg)]; simp; omega
  ·rw [if_neg hg]; simp; omega
/-- Have, as the program joins it. -/
structure Joined (f : List Ent) (all : List Wr) (H : List Ent) : Prop where
 r : Rises 0 H
 v : ∀ q : Int, vof H q = topT f all q
theorem Joined.is {f : List Ent} {all : List Wr} {H : List Ent} (h : Joined f all H) : H = sinceHave f all := by
 unfold sinceHave
 rw [← canon_self 201 0 H (by simpa using h.r) (fun x hx => by have := (h.r.1 x hx).2.1; simp; omega)]
 exact canon_congr fun r _ => h.v r
theorem Joined.len {V f : List Ent} {all : List Wr} {H : List Ent} (h : Joined f all H) (hV : (vright V).1 = 0) (hf : ∀ q, vof f q ≤ vof V q) (ha : ∀ x ∈ all, x.1 ≤ vof V x.2.1) : H.length ≤ 16 := by
 have hr := rises_of hV
 have h1 := vright_ok_len hV
 rw [← canon_self 201 0 V (by simpa using hr) (fun x hx => by have := (hr.1 x hx).2.1; simp; omega)] at h1
 rw [h.is]
 refine Nat.le_trans (canon_mono (fun q hq => ?_) 201 0) h1
 have : topT f all q ≤ vof V q := by
  clear h hq
  unfold topT
  have : ∀ (l : List Wr) (t : Int), t ≤ vof V q → (∀ x ∈ l, x.1 ≤ vof V x.2.1) → l.foldl (fun t x => if x.2.1 = q then max t x.1 else t) t ≤ vof V q := by
   intro l
   induction l with
   | nil => intro t ht _; exact ht
   | cons y l ih =>
    intro t ht hl
    refine ih _ ?_ fun x hx => hl x (List.mem_cons_of_mem _ hx)
    have := hl y (by simp)
    show (if y.2.1 = q then max t y.1 else t) ≤ vof V q
    by_cases e : y.2.1 = q
    ·subst e; rw [if_pos rfl]; omega
    ·rw [if_neg e]; exact ht
  exact this all _ (hf q) ha
 omega
theorem Joined.zero {f : List Ent} (h : (vright f).1 = 0) : Joined f [] f := ⟨rises_of h, fun q => rfl⟩
theorem id_parts {x : Wr} (h : wright x = 0) : 1 ≤ x.1 ∧ x.1 ≤ 1099511627776 ∧ 0 ≤ x.2.1 ∧ x.2.1 ≤ 200 := by
 unfold wright at h
 split at h
 ·cases h
 split at h
 ·cases h
 rename_i h1
 have : idRight (x.1, x.2.1) = true := by simpa using h1
 unfold idRight at this
 exact of_decide_eq_true this
theorem rises_one {r t : Int} (h1 : 1 ≤ t) (h2 : t ≤ 1099511627776) (h3 : 0 ≤ r) (h4 : r ≤ 200) : Rises 0 [(r, t)] := ⟨fun x hx => by
 rw [List.mem_singleton.1 hx]
 exact ⟨h3, h4, h1, h2⟩, List.pairwise_singleton _ _⟩
theorem Joined.step {V f : List Ent} {all : List Wr} {H : List Ent} {x : Wr} (h : Joined f all H) (hx : wright x = 0) (hV : (vright V).1 = 0) (hf : ∀ q, vof f q ≤ vof V q) (ha : ∀ y ∈ all ++ [x], y.1 ≤ vof V y.2.1) :
  vjoin H [(x.2.1, x.1)] = (vmerge H [(x.2.1, x.1)], 0) ∧ Joined f (all ++ [x]) (vmerge H [(x.2.1, x.1)]) := by
 obtain ⟨a1, a2, a3, a4⟩ := id_parts hx
 have hr1 := rises_one a1 a2 a3 a4
 obtain ⟨m1, m2⟩ := merge_says h.r hr1
 have hJ : Joined f (all ++ [x]) (vmerge H [(x.2.1, x.1)]) := ⟨m1, fun q => by
  rw [m2, topT_snoc, h.v, vof_one]
  by_cases e : x.2.1 = q
  ·rw [if_pos e, if_pos e]
  ·rw [if_neg e, if_neg e]
   have : 0 ≤ vof H q := vof_nonneg h.r q
   rw [h.v] at this
   omega⟩
 have l1 := h.len hV hf (fun y hy => ha y (List.mem_append_left _ hy))
 have l2 := hJ.len hV hf ha
 exact ⟨join_good (vright_rises h.r l1) (vright_rises hr1 (by simp)) (by omega), hJ⟩
theorem covers_le {a b : List Ent} (h : vcovers a b = true) (q : Int) : vof b q ≤ max 0 (vof a q) := by
 unfold vcovers at h
 simp only [Bool.and_eq_true, decide_eq_true_eq] at h
 obtain ⟨⟨h1, h2⟩, h3⟩ := h
 by_cases e : vof b q = 0
 ·omega
 ·obtain ⟨t, m, e⟩ := vof_mem e
  unfold vcov at h3
  have := of_decide_eq_true h3 _ m
  simp only at this
  omega
theorem covers_all {a b : List Ent} (h : vcovers a b = true) (ha : (vright a).1 = 0) (q : Int) : vof b q ≤ vof a q := by
 have h1 := covers_le h q
 have h2 := vof_nonneg (rises_of ha) q
 omega
end Go.Proofs.YtlpkpfpmcppciaaGreatDoor
end

section
namespace Go.Proofs.YtlpkpfpmcppciaaGreatDoor
set_option linter.unusedSimpArgs false
set_option linter.unusedVariables false
open Go.RowKit
/-- Where a log lies. -/
structure LgC where
 p : Nat
 hv : Value
 lv : Value
def LgC.foot (c : LgC) (i : Nat) : Prop := i = c.p ∨ c.hv.ownBlock = some i ∨ c.lv.ownBlock = some i
/-- The log at p tells V and L. -/
structure LogAt (w : World) (B : Nat) (c : LgC) (rep : Int) (V : List Ent) (L : List Wr) : Prop where
 rc : RC w c.p [.int .i64 rep, c.hv, c.lv]
 bp : B ≤ c.p
 h : w.ownsRow B 73 2 c.hv V.length (entV V)
 l : w.ownsRow B 32 6 c.lv L.length (L.flatMap wrCells)
 nh : c.hv.ownBlock ≠ some c.p
 nl : c.lv.ownBlock ≠ some c.p
section
variable {w w' : World} {B : Nat} {c : LgC} {rep : Int} {V : List Ent} {L : List Wr} {F : Nat → Prop}
theorem LogAt.turned (h : LogAt w B c rep V L) (ht : Turned F w w') (hn : ∀ i, c.foot i → ¬ F i) : LogAt w' B c rep V L :=
 ⟨h.rc.turned ht (hn _ (.inl rfl)), h.bp, ht.own h.h (fun k hk => hn k (.inr (.inl hk))), ht.own h.l (fun k hk => hn k (.inr (.inr hk))), h.nh, h.nl⟩
theorem LogAt.below (h : LogAt w B c rep V L) (hb : Below w.heap.size w w') : LogAt w' B c rep V L := h.turned (F := fun _ => False) (.of_below hb) (fun _ _ q => q)
theorem LogAt.lt (h : LogAt w B c rep V L) : c.p < w.heap.size := cell_lt (h.rc 0 _ rfl).1
theorem LogAt.within (h : LogAt w B c rep V L) : Within c.foot B w := fun i hi => by
 rcases hi with rfl | hi | hi
 ·exact ⟨h.bp, h.lt⟩
 ·exact h.h.lt i hi
 ·exact h.l.lt i hi
theorem LogAt.hl (h : LogAt w B c rep V L) : ∀ k, c.hv.ownBlock = some k → c.lv.ownBlock ≠ some k := fun k hk e => by
 rcases own_ne h.h h.l (by decide) with q | q
 ·rw [q] at hk; cases hk
 ·exact q (hk.trans e.symm)
end
theorem LogAt.two {w : World} {B g : Nat} {c : LgC} {rep : Int} {V : List Ent} {L : List Wr} (h : LogAt w B c rep V L) (hn : ∀ i, c.foot i → i ≠ g) (x y : Value) : LogAt ((w.setCell ⟨g, 0, none⟩ x).setCell ⟨g, 1, none⟩ y) B c rep V L :=
 h.turned (F := fun i => i = g) (Turned.trans (S := fun i => i = g) (.set _ _ _ rfl) (.set _ _ _ rfl)) hn
theorem RC.two {w : World} {g : Nat} {a b : Value} (h : RC w g [a, b]) (x y : Value) : RC ((w.setCell ⟨g, 0, none⟩ x).setCell ⟨g, 1, none⟩ y) g [x, y] := (h.set 0 x (by simp)).set 1 y (by simp)
theorem RC.two6 {w : World} {g : Nat} {a b c d e f : Value} (h : RC w g [a, b, c, d, e, f]) (x y : Value) : RC ((w.setCell ⟨g, 0, none⟩ x).setCell ⟨g, 1, none⟩ y) g [x, y, c, d, e, f] := (h.set 0 x (by simp)).set 1 y (by simp)
theorem RC.setAt {w : World} {g r o : Nat} {vs : List Value} (h : RC w r vs) (hn : r ≠ g) (x : Value) : RC (w.setCell ⟨g, o, none⟩ x) r vs := h.turned (F := fun i => i = g) (.set _ _ _ rfl) hn
theorem RC.setAt2 {w : World} {g r : Nat} {vs : List Value} (h : RC w r vs) (hn : r ≠ g) (x y : Value) : RC ((w.setCell ⟨g, 0, none⟩ x).setCell ⟨g, 1, none⟩ y) r vs := (h.setAt hn x).setAt hn y
theorem own_lel {w : World} {B : Nat} {e : TypeId} {size n m c : Nat} {A : Option Addr} {xs : List Value} (h : w.ownsRow B e size (.slice A m c) n xs) : n ≤ c ∧ m = n := by
 rcases h.2 with ⟨e, h0⟩ | ⟨g, cap, cur, e, _, _, h1, _⟩
 ·injection e with e1 e2 e3; exact ⟨by omega, by omega⟩
 ·injection e with e1 e2 e3; exact ⟨by omega, by omega⟩
theorem own_cap' {w : World} {B : Nat} {e : TypeId} {size n : Nat} {v : Value} {xs : List Value} (h : w.ownsRow B e size v n xs) : n ≤ maxLen := by
 rcases h.2 with ⟨_, h0⟩ | ⟨g, cap, cur, _, _, _, h1, h2, _⟩
 ·rw [h0]; exact Nat.zero_le _
 ·exact Nat.le_trans h1 h2
theorem own_form' {w : World} {B : Nat} {e : TypeId} {size n : Nat} {v : Value} {xs : List Value} (h : w.ownsRow B e size v n xs) : ∃ A c, v = .slice A n c ∧ n ≤ c := by
 obtain ⟨A, c, rfl⟩ := own_form h
 exact ⟨A, c, rfl, (own_lel h).1⟩
/-- A right vector in an own row, as an argument. -/
theorem ents_own {w : World} {B n c : Nat} {A : Option Addr} {V : List Ent} (h : w.ownsRow B 73 2 (.slice A n c) V.length (entV V)) (hV : (vright V).1 = 0) : Ents w w.heap.size A n V := by
 obtain ⟨_, rfl⟩ := own_lel h
 refine ⟨Sl.of_own h, fun x hx => ?_⟩
 have := (vright_ok hV).1 x hx
 unfold entBad at this
 unfold entFits
 omega
theorem ents_one {w : World} {g : Nat} {r t : Int} (h0 : w.cell? ⟨g, 0, none⟩ = some (.int .i64 r)) (h1 : w.cell? ⟨g, 1, none⟩ = some (.int .i64 t)) (hf : entFits (r, t)) : Ents w w.heap.size (some ⟨g, 0, none⟩) 1 [(r, t)] := by
 refine ⟨⟨rfl, fun _ => ⟨g, 0, rfl, cell_lt h0, fun j v hj => ?_⟩⟩, fun x hx => by rw [List.mem_singleton.1 hx]; exact hf⟩
 match j, hj with
 | 0, hj => simp [entCells] at hj; subst hj; exact h0
 | 1, hj => simp [entCells] at hj; subst hj; exact h1
theorem wflat6 (l : List Wr) : (l.flatMap wrCells).length = l.length * 6 := flat_len wrCells 6 (fun _ => rfl) l
theorem wr_snoc_own {w : World} {B : Nat} {v : Value} {L : List Wr} {x : Wr} (h : w.ownsRow B 32 6 v (L.length + 1) (L.flatMap wrCells ++ wrCells x)) : w.ownsRow B 32 6 v (L ++ [x]).length ((L ++ [x]).flatMap wrCells) := by
 rw [List.length_append, List.flatMap_append]
 simpa using h
theorem wlInfo : (Tryz.prog.info? 32).map (fun i => (i.zero, i.size, i.bytes)) = some (some (.agg #[.int .i64 0, .int .i64 0, .int .i64 0, .string ⟨#[]⟩, .string ⟨#[]⟩, .int .i64 0]), 6, 64) := by kernel_rfl
theorem wl_one {x : Wr} : ∀ u ∈ wrCells x, u.oneCell' = true := by
 intro u hu
 simp only [wrCells, List.mem_cons, List.not_mem_nil, or_false] at hu
 rcases hu with rfl | rfl | rfl | rfl | rfl | rfl <;> rfl
theorem cells_block {w : World} {g : Nat} {cs : List Value} {t : TypeId} (h : w.heap[g]? = some (.cells cs.toArray t (0, 0))) : ∀ j u, cs[j]? = some u → w.cell? ((⟨g, 0, none⟩ : Addr).add j) = some u := by
 intro j u hj
 exact World.news_of_block h j u (by simpa using hj)
/-- One write appended. -/
theorem app_wr1 {w : World} {B g : Nat} {v : Value} {L : List Wr} {x : Wr} (ho : w.ownsRow B 32 6 v L.length (L.flatMap wrCells)) (hb : w.heap[g]? = some (.cells (wrCells x).toArray 32 (0, 0))) (hn : L.length ≤ 1000000) (hB : B ≤ w.heap.size) (ty : TypeId) :
  ∃ v' w', (Builtin.append_ #[22, 22] ty #[v, .slice (some ⟨g, 0, none⟩) 1 1]).run Tryz.prog w = .ok v' w' ∧ w'.ownsRow B 32 6 v' (L ++ [x]).length ((L ++ [x]).flatMap wrCells) ∧ w.grownBy w' v.ownBlock ∧ ∀ j, v'.ownBlock = some j → v.ownBlock = some j ∨ w.heap.size ≤ j := by
 obtain ⟨i0, hi, hz0, hz1, hz2⟩ := info_parts wlInfo
 obtain ⟨g', cap, w', h1, h2, h3, h4, _⟩ := run_append_lies (P := Tryz.prog) w 22 ty B 32 i0 _ 6 64 Tryz.underlying22 hi hz0 hz1 hz2 rfl (by decide) v L.length (L.flatMap wrCells) ho ⟨g, 0, none⟩ 1 1 (wrCells x) rfl (cells_block hb) wl_one (by decide) (by unfold maxLen; omega) (by omega) hB _ rfl
 refine ⟨_, w', h1, wr_snoc_own h2, h3, fun j hj => ?_⟩
 injection hj with hj
 simp only at hj
 subst hj
 rcases h4 with h | h
 ·exact .inl h
 ·exact .inr (by omega)
end Go.Proofs.YtlpkpfpmcppciaaGreatDoor
end
