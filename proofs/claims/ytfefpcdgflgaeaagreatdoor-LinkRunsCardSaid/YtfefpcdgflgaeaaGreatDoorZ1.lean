/- Words of my own for memory: a slice value that reads as a list of cells; how that is kept; lists out of facts for each index. No program in sight.

Numbers in as few bytes as they need, in plain Lean: what a text begins with, and what a number is. No program in sight.

What a text begins with that begins with a number's bytes, and with a part of them, in plain Lean. No program in sight.

A map of texts by small numbers that the call made itself, told as a function.

A disk, in plain Lean: what lasts, what was written since. No program in sight.

A buffer of bytes in a block of the call's own. Any program.

A slice of bytes of the call's own, that grows: its cells, and the string that it turns into. Any program.

A map of bytes by small numbers that the call made itself, told as a function.

Regions that draw their order, whose operations only read what was there and whose callees may make new memory but hand back values that do not lie in it: one walk of the text's order serves every order. The class of worlds: those that stand as w did on all of w's blocks.

slices.Equal over slices of strings and of numbers.

Two structs are equal if all their fields are: the model's test, at the types of this program.

slices.Equal over slices of chunks.

Texts with their lengths ahead, in plain Lean. No program in sight.

Plain facts on the sum of a text: a table-free sum byte by byte is the sum bit by bit. No program in sight.

A text with its sum behind, and without, in plain Lean. No program in sight. -/
import Derived.Below
import Derived.Laws.OwnMore
import Derived.Laws.AppendOwn
import Derived.Deep.Draws
import Derived.Test.YtfefpcdgflgaeaaGreatDoorProg
import Derived.WalkKit
import Derived.Maps.Own
import Derived.Maps.OwnOps
import Derived.Maps.OwnSet
import Derived.Maps.Views
import Derived.Maps.StringElems
import Derived.Laws.IdiomStrings
import Derived.Laws.BytesArg
import Derived.OwnWalk
import Derived.Maps.AppendAt
import Derived.KernelRfl
import Derived.Deep.QuietTactic
import Derived.BigQuiet
import Derived.WalkLawsBesides
import Derived.WalkSpells
import Derived.Outline
import Derived.Lib.Hide
import Derived.Laws.StructEq
section
namespace Go.Proofs.YtfefpcdgflgaeaaGreatDoor
open Go.RowKit

instance : LawfulBEq ByteArray where
 eq_of_beq {a b} h := by
  obtain ⟨a⟩ := a
  obtain ⟨b⟩ := b
  have h' : (a == b) = true := h
  rw [eq_of_beq h']
 rfl {a} := by
  show (a.data == a.data) = true
  simp
theorem below_drewN {B : Nat} {a w : World} (h : Below B a w) (n : Nat) : Below B a (w.drewN n) := ⟨h.os, h.tape, h.output, h.size, h.block⟩
theorem retI {k : IntKind} {a b : Int} (h : a = b) : Ending.returned (.int k a) = .returned (.int k b) := by rw [h]
theorem retB {a b : Bool} (h : a = b) : Ending.returned (.bool a) = .returned (.bool b) := by rw [h]
theorem valI {k : IntKind} {a b : Int} (h : a = b) : Value.int k a = .int k b := by rw [h]
theorem cell_lt {w : World} {a : Addr} {v : Value} (h : w.cell? a = some v) : a.block < w.heap.size := by
 rcases Nat.lt_or_ge a.block w.heap.size with h' | h'
 ·exact h'
 ·simp [World.cell?, Array.getElem?_eq_none h'] at h

/-- A slice '.slice A n c' that reads as the cells xs, size cells an element, all in a block below B. -/
def Sl (w : World) (B size : Nat) (A : Option Addr) (n : Nat) (xs : List Value) : Prop :=
 xs.length = n * size ∧ (0 < n → ∃ b o, A = some ⟨b, o, none⟩ ∧ b < B ∧ ∀ j u, xs[j]? = some u → w.cell? ⟨b, o + j, none⟩ = some u)
section
variable {w w' : World} {B B' size n : Nat} {A : Option Addr} {xs : List Value}
theorem Sl.nil : Sl w B size A 0 [] := ⟨by simp, fun h => absurd h (by omega)⟩
theorem Sl.kept (h : Sl w B size A n xs) (hk : ∀ p : Addr, p.block < B → w'.cell? p = w.cell? p) : Sl w' B size A n xs :=
 ⟨h.1, fun hn => by
  obtain ⟨b, o, e, hb, hc⟩ := h.2 hn
  exact ⟨b, o, e, hb, fun j u hu => (hk _ hb).trans (hc j u hu)⟩⟩
theorem Sl.more (h : Sl w B size A n xs) (hB : B ≤ B') : Sl w B' size A n xs :=
 ⟨h.1, fun hn => by
  obtain ⟨b, o, e, hb, hc⟩ := h.2 hn
  exact ⟨b, o, e, by omega, hc⟩⟩
theorem Sl.below (h : Sl w B size A n xs) (hb : Below B w w') : Sl w' B size A n xs := h.kept fun _ hp => hb.cell hp
theorem Sl.drewN (h : Sl w B size A n xs) (k : Nat) : Sl (w.drewN k) B size A n xs := h
theorem Sl.alloc (h : Sl w B size A n xs) (hB : B ≤ w.heap.size) (o : Obj) : Sl (w.alloc o) B size A n xs := h.kept fun p hp => World.cell?_alloc_lt w o p (by omega)
theorem Sl.of_own {base : Nat} {e : TypeId} {c : Nat} (h : w.ownsRow base e size (.slice A n c) n xs) : Sl w w.heap.size size A n xs := by
 refine ⟨h.1, fun hn => ?_⟩
 rcases h.2 with ⟨_, h0⟩ | ⟨g, cap, cur, hv, _, hh, _⟩
 ·omega
 ·have hA : A = some ⟨g, 0, none⟩ := by injection hv
  subst hA
  refine ⟨g, 0, rfl, (Array.getElem?_eq_some_iff.1 hh).1, fun j u hu => ?_⟩
  have := h.cells (g := g) rfl j u hu
  have hadd : (⟨g, 0, none⟩ : Addr).add j = ⟨g, 0 + j, none⟩ := by unfold Addr.add; split <;> simp_all
  rw [hadd] at this
  exact this
end

theorem exists_list {α : Type} (n : Nat) (P : Nat → α → Prop) (h : ∀ i, i < n → ∃ x, P i x) : ∃ l : List α, l.length = n ∧ ∀ i x, l[i]? = some x → P i x := by
 induction n with
 | zero => exact ⟨[], rfl, fun i x hx => by simp at hx⟩
 | succ n ih =>
  obtain ⟨l, hl, hP⟩ := ih fun i hi => h i (by omega)
  obtain ⟨x, hx⟩ := h n (by omega)
  refine ⟨l ++ [x], by simp [hl], fun i y hy => ?_⟩
  rw [List.getElem?_append] at hy
  by_cases hi : i < l.length
  ·rw [if_pos hi] at hy; exact hP i y hy
  ·rw [if_neg hi] at hy
   have : i - l.length = 0 := by
    rcases Nat.eq_zero_or_pos (i - l.length) with h0 | h0
    ·exact h0
    ·rw [List.getElem?_eq_none (by simp; omega)] at hy; cases hy
   rw [this] at hy
   simp at hy
   subst hy
   have : i = n := by omega
   subst this
   exact hx

/-- Cells of a list of things of k cells each. -/
theorem flat_get {α : Type} (f : α → List Value) (k : Nat) (hf : ∀ x, (f x).length = k) (l : List α) (i j : Nat) (x : α) (hx : l[i]? = some x) (hj : j < k) : (l.flatMap f)[i * k + j]? = (f x)[j]? := by
 induction l generalizing i with
 | nil => simp at hx
 | cons y l ih =>
  simp only [List.flatMap_cons]
  cases i with
  | zero =>
   simp at hx
   subst hx
   rw [List.getElem?_append_left (by rw [hf]; omega)]
   simp
  | succ i =>
   simp only [List.getElem?_cons_succ] at hx
   rw [List.getElem?_append_right (by rw [hf, Nat.succ_mul]; omega), hf]
   have : (i + 1) * k + j - k = i * k + j := by rw [Nat.succ_mul]; omega
   rw [this]
   exact ih i hx
theorem flat_len {α : Type} (f : α → List Value) (k : Nat) (hf : ∀ x, (f x).length = k) (l : List α) : (l.flatMap f).length = l.length * k := by
 induction l with
 | nil => simp
 | cons y l ih => simp only [List.flatMap_cons, List.length_append, ih, hf, List.length_cons, Nat.succ_mul]; omega
theorem flat_at {α : Type} (f : α → List Value) (k : Nat) (hf : ∀ x, (f x).length = k) (l : List α) (m : Nat) (u : Value) (hu : (l.flatMap f)[m]? = some u) : ∃ i j x, m = i * k + j ∧ j < k ∧ l[i]? = some x ∧ (f x)[j]? = some u := by
 have hm : m < l.length * k := by
  rcases Nat.lt_or_ge m (l.length * k) with h | h
  ·exact h
  ·rw [List.getElem?_eq_none (by rw [flat_len f k hf]; exact h)] at hu; cases hu
 have hk : 0 < k := by
  rcases Nat.eq_zero_or_pos k with h | h
  ·subst h; omega
  ·exact h
 have hi : m / k < l.length := by rw [Nat.div_lt_iff_lt_mul hk]; exact hm
 have e : m = m / k * k + m % k := by rw [Nat.mul_comm]; exact (Nat.div_add_mod m k).symm
 refine ⟨m / k, m % k, l[m / k], e, Nat.mod_lt _ hk, List.getElem?_eq_getElem hi, ?_⟩
 have h := flat_get f k hf l (m / k) (m % k) _ (List.getElem?_eq_getElem hi) (Nat.mod_lt _ hk)
 rw [← e] at h
 rw [← h]
 exact hu

/-- Element k of a slice whose elements have size cells each. -/
theorem slk_at {α : Type} (f : α → List Value) (size : Nat) (hf : ∀ x, (f x).length = size) {w : World} {B n : Nat} {A : Option Addr} {l : List α} (h : Sl w B size A n (l.flatMap f)) (hl : l.length = n) {k : Nat} (hk : k < n) :
  ∃ b o x, A = some ⟨b, o, none⟩ ∧ b < B ∧ l[k]? = some x ∧ ∀ j u, (f x)[j]? = some u → w.cell? ⟨b, o + k * size + j, none⟩ = some u := by
 obtain ⟨b, o, e, hb, hc⟩ := h.2 (by omega)
 have hx : l[k]? = some l[k] := List.getElem?_eq_getElem (by omega)
 refine ⟨b, o, l[k], e, hb, hx, fun j u hu => ?_⟩
 have hj : j < size := by
  rcases Nat.lt_or_ge j size with h | h
  ·exact h
  ·rw [List.getElem?_eq_none (by rw [hf]; exact h)] at hu; cases hu
 have := flat_get f size hf l k j _ hx hj
 rw [Nat.add_assoc]
 exact hc _ _ (this.trans hu)
theorem slk_len {α : Type} (f : α → List Value) (size : Nat) (h0 : 0 < size) (hf : ∀ x, (f x).length = size) {w : World} {B n : Nat} {A : Option Addr} {l : List α} (h : Sl w B size A n (l.flatMap f)) : l.length = n := by
 have := h.1
 rw [flat_len f size hf] at this
 exact Nat.eq_of_mul_eq_mul_right h0 this
theorem own_form {w : World} {base : Nat} {e : TypeId} {size n : Nat} {v : Value} {xs : List Value} (h : w.ownsRow base e size v n xs) : ∃ A c, v = .slice A n c := by
 rcases h.2 with ⟨rfl, rfl⟩ | ⟨g, cap, cur, rfl, _⟩
 ·exact ⟨_, _, rfl⟩
 ·exact ⟨_, _, rfl⟩
theorem grown_own {B : Nat} {a w w' : World} {v : Value} {e : TypeId} {size n : Nat} {xs : List Value} (h : Below B a w) (hg : w.grownBy w' v.ownBlock) (hB : B ≤ w.heap.size) (ho : w.ownsRow B e size v n xs) : Below B a w' :=
 h.grown hg hB fun k hk => (ho.lt k hk).1
end Go.Proofs.YtfefpcdgflgaeaaGreatDoor
end

section
namespace Go.Proofs.YtfefpcdgflgaeaaGreatDoor
/-- What bytes come to, the lowest first, seven bits of each. -/
def vval : List UInt8 → Nat
 | [] => 0
 | b :: l => b.toNat % 128 + 128 * vval l
theorem vval_lt (l : List UInt8) : vval l < 128 ^ l.length := by
 induction l with
 | nil => simp [vval]
 | cons b l ih =>
  simp only [vval, List.length_cons, Nat.pow_succ]
  have : b.toNat % 128 < 128 := Nat.mod_lt _ (by omega)
  omega
theorem vval_snoc (l : List UInt8) (b : UInt8) : vval (l ++ [b]) = vval l + b.toNat % 128 * 128 ^ l.length := by
 induction l with
 | nil => simp [vval]
 | cons c l ih =>
  simp only [List.cons_append, vval, ih, List.length_cons, Nat.pow_succ]
  rw [Nat.mul_add, Nat.add_assoc]
  congr 2
  rw [Nat.mul_left_comm, Nat.mul_comm (128 ^ l.length) 128]
/-- From byte i on. -/
def vgo (l : List UInt8) : List UInt8 → Nat → Nat × Nat × Int
 | [], _ => (0, 0, 7)
 | b :: r, i => if i = 9 ∧ 1 < b.toNat then (0, 0, 4) else if b.toNat = 0 ∧ 0 < i then (0, 0, 3) else if b.toNat < 128 then (vval (l.take (i + 1)), i + 1, 0) else vgo l r (i + 1)
/-- The number that bytes begin with, how many bytes it has, what is wrong. -/
def vget (l : List UInt8) : Nat × Nat × Int := vgo l l 0
def VG (l : List UInt8) (k : Nat) : Prop := vget l = vgo l (l.drop k) k ∧ k ≤ 9 ∧ k ≤ l.length
theorem VG.zero (l : List UInt8) : VG l 0 := ⟨rfl, by omega, by omega⟩
theorem dropc {α : Type} {l : List α} {k : Nat} (hk : k < l.length) : l.drop k = l[k] :: l.drop (k + 1) := List.drop_eq_getElem_cons hk
theorem VG.out {l : List UInt8} {k : Nat} (h : VG l k) (hk : l.length ≤ k) : vget l = (0, 0, 7) := by
 rw [h.1, List.drop_eq_nil_of_le hk]; rfl
theorem VG.limit {l : List UInt8} {k : Nat} (h : VG l k) (hk : k < l.length) (h9 : k = 9) (hb : 1 < l[k].toNat) : vget l = (0, 0, 4) := by
 rw [h.1, dropc hk]; simp only [vgo]; rw [if_pos ⟨h9, hb⟩]
theorem VG.form {l : List UInt8} {k : Nat} (h : VG l k) (hk : k < l.length) (h0 : 0 < k) (hb : l[k].toNat = 0) : vget l = (0, 0, 3) := by
 rw [h.1, dropc hk]; simp only [vgo]; rw [if_neg (by omega), if_pos ⟨hb, h0⟩]
theorem VG.done {l : List UInt8} {k : Nat} (h : VG l k) (hk : k < l.length) (h9 : ¬ (k = 9 ∧ 1 < l[k].toNat)) (hb : l[k].toNat < 128) (h0 : ¬ (l[k].toNat = 0 ∧ 0 < k)) : vget l = (vval (l.take (k + 1)), k + 1, 0) := by
 rw [h.1, dropc hk]; simp only [vgo]; rw [if_neg h9, if_neg h0, if_pos hb]
theorem VG.succ {l : List UInt8} {k : Nat} (h : VG l k) (hk : k < l.length) (h9 : ¬ (k = 9 ∧ 1 < l[k].toNat)) (hb : ¬ l[k].toNat < 128) : VG l (k + 1) := by
 refine ⟨?_, by have := h.2.1; omega, by omega⟩
 rw [h.1, dropc hk]; simp only [vgo]; rw [if_neg h9, if_neg (by omega), if_neg hb]
theorem vval_next {l : List UInt8} {k : Nat} (hk : k < l.length) : vval (l.take (k + 1)) = vval (l.take k) + l[k].toNat % 128 * 128 ^ k := by
 rw [List.take_succ_eq_append_getElem hk, vval_snoc, List.length_take, Nat.min_eq_left (by omega)]
theorem vval_take_lt (l : List UInt8) (k : Nat) (hk : k ≤ l.length) : vval (l.take k) < 128 ^ k := by
 have := vval_lt (l.take k)
 rwa [List.length_take, Nat.min_eq_left hk] at this
theorem pow128 (k : Nat) : 128 ^ k = 2 ^ (7 * k) := by rw [Nat.pow_mul]
theorem pow128_le {k : Nat} (h : k ≤ 9) : 128 ^ k ≤ 9223372036854775808 := by
 have := Nat.pow_le_pow_right (n := 128) (by omega) h
 exact Nat.le_trans this (by decide)
/-- It never has more than 64 bits. -/
theorem vval_fits {l : List UInt8} {k : Nat} (hk : k < l.length) (h9 : k ≤ 9) (hb : ¬ (k = 9 ∧ 1 < l[k].toNat)) : vval (l.take (k + 1)) < 18446744073709551616 := by
 rcases Nat.lt_or_ge k 9 with h | h
 ·have h1 := vval_take_lt l (k + 1) (by omega)
  have h2 := pow128_le (k := k + 1) (by omega)
  omega
 ·obtain rfl : k = 9 := by omega
  rw [vval_next hk]
  have h1 := vval_take_lt l 9 (by omega)
  have h3 : l[9].toNat ≤ 1 := by omega
  have h4 : l[9].toNat % 128 = l[9].toNat := Nat.mod_eq_of_lt (by omega)
  rw [h4]
  have e9 : 128 ^ 9 = 9223372036854775808 := by decide
  rw [e9] at h1 ⊢
  rcases (by omega : l[9].toNat = 0 ∨ l[9].toNat = 1) with e | e <;> rw [e] <;> omega
/-- The end of a number: what the reference sums up, from the last byte on down. -/
def vtail (l : List UInt8) (i k : Nat) : Nat := vval ((l.take i).drop k)
theorem vtail_end (l : List UInt8) (i : Nat) : vtail l i i = 0 := by
 unfold vtail; rw [List.drop_eq_nil_of_le (by rw [List.length_take]; omega)]; rfl
theorem vtail_prev {l : List UInt8} {i k : Nat} (hk : k < i) (hl : i ≤ l.length) : vtail l i k = l[k].toNat % 128 + 128 * vtail l i (k + 1) := by
 unfold vtail
 have h : k < (l.take i).length := by rw [List.length_take]; omega
 rw [dropc h]
 simp [vval]
theorem vtail_le (l : List UInt8) (i k : Nat) : vtail l i k ≤ vval (l.take i) := by
 unfold vtail
 induction k generalizing i with
 | zero => simp
 | succ k ih =>
  have h := ih i
  rcases Nat.lt_or_ge k (l.take i).length with hlt | hge
  ·rw [dropc hlt] at h
   simp only [vval] at h
   omega
  ·rw [List.drop_eq_nil_of_le (by omega)]
   simp [vval]
/-- What vget can say. -/
theorem vgo_says (l : List UInt8) : ∀ (r : List UInt8) (i : Nat), i + r.length = l.length → r = l.drop i → i ≤ 9 → (vgo l r i).2.2 = 0 ∧ (vgo l r i).1 < 18446744073709551616 ∧ 0 < (vgo l r i).2.1 ∧ (vgo l r i).2.1 ≤ 10 ∧ (vgo l r i).2.1 ≤ l.length ∨ (vgo l r i) = (0, 0, 3) ∨ (vgo l r i) = (0, 0, 4) ∨ (vgo l r i) = (0, 0, 7) := by
 intro r
 induction r with
 | nil => intro i _ _ _; exact .inr (.inr (.inr rfl))
 | cons b r ih =>
  intro i hl hd h9
  have hi : i < l.length := by simp at hl; omega
  have hb : b = l[i] := by
   have := dropc hi
   rw [← hd] at this
   exact (List.cons.inj this).1
  have hr : r = l.drop (i + 1) := by
   have := dropc hi
   rw [← hd] at this
   exact (List.cons.inj this).2
  simp only [vgo]
  by_cases h1 : i = 9 ∧ 1 < b.toNat
  ·rw [if_pos h1]; exact .inr (.inr (.inl rfl))
  ·rw [if_neg h1]
   by_cases h2 : b.toNat = 0 ∧ 0 < i
   ·rw [if_pos h2]; exact .inr (.inl rfl)
   ·rw [if_neg h2]
    by_cases h3 : b.toNat < 128
    ·rw [if_pos h3]
     left
     refine ⟨rfl, vval_fits hi h9 (by rw [← hb]; exact h1), by simp, by simp; omega, by simp; omega⟩
    ·rw [if_neg h3]
     exact ih (i + 1) (by simp at hl; omega) hr (by omega)
theorem vget_says (l : List UInt8) : (vget l).2.2 = 0 ∧ (vget l).1 < 18446744073709551616 ∧ 0 < (vget l).2.1 ∧ (vget l).2.1 ≤ 10 ∧ (vget l).2.1 ≤ l.length ∨ vget l = (0, 0, 3) ∨ vget l = (0, 0, 4) ∨ vget l = (0, 0, 7) :=
 vgo_says l l 0 (by simp) rfl (by omega)
/-- A number of no more than so much. -/
def vint (l : List UInt8) (most : Int) : Nat × Nat × Int := if (vget l).2.2 ≠ 0 then (0, 0, (vget l).2.2) else if most < 0 ∨ most < ((vget l).1 : Int) then (0, 0, 2) else vget l
theorem vint_says (l : List UInt8) (most : Int) : (vint l most).2.2 = 0 ∧ ((vint l most).1 : Int) ≤ most ∧ 0 ≤ most ∧ 0 < (vint l most).2.1 ∧ (vint l most).2.1 ≤ 10 ∧ (vint l most).2.1 ≤ l.length ∨ ∃ e : Int, vint l most = (0, 0, e) ∧ (e = 2 ∨ e = 3 ∨ e = 4 ∨ e = 7) := by
 unfold vint
 rcases vget_says l with ⟨h0, h1, h2, h3, h4⟩ | h | h | h
 ·rw [if_neg (by omega)]
  by_cases hm : most < 0 ∨ most < ((vget l).1 : Int)
  ·rw [if_pos hm]; exact .inr ⟨2, rfl, .inl rfl⟩
  ·rw [if_neg hm]; exact .inl ⟨h0, by omega, by omega, h2, h3, h4⟩
 ·rw [h]; exact .inr ⟨3, by simp, by omega⟩
 ·rw [h]; exact .inr ⟨4, by simp, by omega⟩
 ·rw [h]; exact .inr ⟨7, by simp, by omega⟩

/-- A number as bytes. -/
def vput (n : Nat) : List UInt8 := if n < 128 then [UInt8.ofNat n] else UInt8.ofNat (n % 128 + 128) :: vput (n / 128)
termination_by n
decreasing_by omega
theorem vput_small {n : Nat} (h : n < 128) : vput n = [UInt8.ofNat n] := by rw [vput, if_pos h]
theorem vput_big {n : Nat} (h : ¬ n < 128) : vput n = UInt8.ofNat (n % 128 + 128) :: vput (n / 128) := by rw [vput, if_neg h]
theorem vput_len (n k : Nat) (h : n < 128 ^ (k + 1)) : (vput n).length ≤ k + 1 := by
 induction k generalizing n with
 | zero => rw [vput_small (by simpa using h)]; simp
 | succ k ih =>
  by_cases hn : n < 128
  ·rw [vput_small hn]; simp
  ·rw [vput_big hn]
   have := ih (n / 128) (by rw [Nat.pow_succ] at h; omega)
   simp only [List.length_cons]
   omega
theorem vput_len10 {n : Nat} (h : n < 18446744073709551616) : (vput n).length ≤ 10 := vput_len n 9 (by have e : (128 : Nat) ^ (9 + 1) = 1180591620717411303424 := by decide
                                                                                                       omega)
theorem vput_pos (n : Nat) : 0 < (vput n).length := by
 by_cases hn : n < 128
 ·rw [vput_small hn]; simp
 ·rw [vput_big hn]; simp
end Go.Proofs.YtfefpcdgflgaeaaGreatDoor
end

section
namespace Go.Proofs.YtfefpcdgflgaeaaGreatDoor
set_option linter.unusedSimpArgs false
theorem vval_put (f : Nat) : ∀ n : Nat, n < 128 ^ f → vval (vput n) = n := by
 induction f with
 | zero =>
  intro n h
  obtain rfl : n = 0 := by simpa using h
  rw [vput_small (by omega)]
  decide
 | succ f ih =>
  intro n h
  by_cases h7 : n < 128
  ·rw [vput_small h7]
   simp [vval]
   omega
  ·rw [vput_big h7]
   simp only [vval]
   rw [ih (n / 128) (by rw [Nat.pow_succ] at h; omega)]
   simp
   omega
/-- Each byte of a number but the last one goes on; the last one does not, and is 0 for 0 alone. -/
theorem vput_at (f : Nat) : ∀ n : Nat, n < 128 ^ f → ∀ (i : Nat) (b : UInt8), (vput n)[i]? = some b → (i + 1 < (vput n).length → 128 ≤ b.toNat) ∧ (i + 1 = (vput n).length → b.toNat < 128 ∧ (0 < i → b.toNat ≠ 0)) := by
 induction f with
 | zero =>
  intro n h i b hb
  obtain rfl : n = 0 := by simpa using h
  rw [vput_small (by omega)] at hb ⊢
  cases i with
  | zero => simp at hb; subst hb; exact ⟨by simp, by simp⟩
  | succ i => simp at hb
 | succ f ih =>
  intro n h i b hb
  by_cases h7 : n < 128
  ·rw [vput_small h7] at hb ⊢
   cases i with
   | zero =>
    simp at hb
    subst hb
    refine ⟨by simp, fun _ => ⟨?_, by omega⟩⟩
    simp
    omega
   | succ i => simp at hb
  ·rw [vput_big h7] at hb ⊢
   have hp := vput_pos (n / 128)
   cases i with
   | zero =>
    simp at hb
    subst hb
    refine ⟨fun _ => ?_, fun q => ?_⟩
    ·simp
     omega
    ·simp only [List.length_cons] at q; omega
   | succ i =>
    simp only [List.getElem?_cons_succ] at hb
    obtain ⟨h1, h2⟩ := ih (n / 128) (by rw [Nat.pow_succ] at h; omega) i b hb
    refine ⟨fun q => h1 (by simp only [List.length_cons] at q; omega), fun q => ?_⟩
    simp only [List.length_cons] at q
    obtain ⟨h3, h4⟩ := h2 (by omega)
    refine ⟨h3, fun _ => ?_⟩
    rcases Nat.eq_zero_or_pos i with rfl | hi
    ·intro hz
     have hl : (vput (n / 128)).length = 1 := by omega
     by_cases h8 : n / 128 < 128
     ·rw [vput_small h8] at hb
      simp at hb
      subst hb
      simp at hz
      omega
     ·rw [vput_big h8] at hl
      have := vput_pos (n / 128 / 128)
      simp only [List.length_cons] at hl
      omega
    ·exact h4 hi
theorem vput_len8 {n : Nat} (h : n < 128 ^ 8) : (vput n).length ≤ 8 := vput_len n 7 (by simpa using h)
theorem pre_get {α : Type} {a l : List α} (h : a <+: l) {i : Nat} {x : α} (hx : a[i]? = some x) : l[i]? = some x := by
 obtain ⟨r, rfl⟩ := h
 rw [List.getElem?_append_left (Nat.lt_of_not_le fun q => by rw [List.getElem?_eq_none q] at hx; cases hx)]
 exact hx
/-- A text that begins with a number's bytes: so far as they go, nothing is told. -/
theorem vg_put {n : Nat} (hn : n < 128 ^ 8) {l : List UInt8} (h : ∀ (i : Nat) (b : UInt8), l[i]? = some b → i < (vput n).length → (vput n)[i]? = some b) : ∀ k, k < (vput n).length → k ≤ l.length → VG l k := by
 intro k
 induction k with
 | zero => intro _ _; exact VG.zero l
 | succ k ih =>
  intro hk hl
  have h8 := vput_len8 hn
  have hkl : k < l.length := by omega
  have e := h k l[k] (List.getElem?_eq_getElem hkl) (by omega)
  have hb := (vput_at 8 n hn k _ e).1 hk
  exact (ih (by omega) (by omega)).succ hkl (by omega) (by omega)
theorem vget_put {n : Nat} (hn : n < 128 ^ 8) (l : List UInt8) : vget (vput n ++ l) = (n, (vput n).length, 0) := by
 have hp := vput_pos n
 have h8 := vput_len8 hn
 have hin : ∀ (i : Nat) (b : UInt8), (vput n ++ l)[i]? = some b → i < (vput n).length → (vput n)[i]? = some b := fun i b hb hi => by
  rw [List.getElem?_append_left hi] at hb; exact hb
 have hg := vg_put hn hin ((vput n).length - 1) (by omega) (by simp; omega)
 have hkl : (vput n).length - 1 < (vput n ++ l).length := by simp; omega
 have e := hin ((vput n).length - 1) _ (List.getElem?_eq_getElem hkl) (by omega)
 obtain ⟨h3, h4⟩ := (vput_at 8 n hn _ _ e).2 (by omega)
 rw [hg.done hkl (by omega) h3 (fun q => h4 q.2 q.1)]
 have e1 : (vput n).length - 1 + 1 = (vput n).length := by omega
 rw [e1, List.take_append_of_le_length (Nat.le_refl _), List.take_of_length_le (Nat.le_refl _), vval_put 8 n hn]
/-- A part of a number's bytes tells no number. -/
theorem vget_part {n : Nat} (hn : n < 128 ^ 8) {l : List UInt8} (hl : l.length < (vput n).length) (h : l <+: vput n) : vget l = (0, 0, 7) := by
 refine (vg_put hn (fun i b hb _ => pre_get h hb) l.length hl (Nat.le_refl _)).out (Nat.le_refl _)
theorem vint_put {n : Nat} (hn : n < 128 ^ 8) {most : Int} (hm : (n : Int) ≤ most) (l : List UInt8) : vint (vput n ++ l) most = (n, (vput n).length, 0) := by
 unfold vint
 rw [vget_put hn, if_neg (by simp), if_neg (by simp only; omega)]
theorem vint_part {n : Nat} (hn : n < 128 ^ 8) (most : Int) {l : List UInt8} (hl : l.length < (vput n).length) (h : l <+: vput n) : vint l most = (0, 0, 7) := by
 unfold vint
 rw [vget_part hn hl h, if_pos (by simp)]
/-- A text cut off anywhere: the number, or none. -/
theorem vint_cut {n : Nat} (hn : n < 128 ^ 8) {most : Int} (hm : (n : Int) ≤ most) (r : List UInt8) {l : List UInt8} (h : l <+: vput n ++ r) : (l.length < (vput n).length ∧ vint l most = (0, 0, 7)) ∨ ((vput n).length ≤ l.length ∧ vint l most = (n, (vput n).length, 0) ∧ l.drop (vput n).length <+: r) := by
 rcases Nat.lt_or_ge l.length (vput n).length with hl | hl
 ·exact .inl ⟨hl, vint_part hn most hl (List.prefix_of_prefix_length_le h (List.prefix_append _ _) (by omega))⟩
 ·right
  have e : vput n <+: l := List.prefix_of_prefix_length_le (List.prefix_append _ _) h hl
  obtain ⟨t, rfl⟩ := e
  refine ⟨hl, vint_put hn hm t, ?_⟩
  rw [List.drop_left]
  exact (List.prefix_append_right_inj _).1 h
end Go.Proofs.YtfefpcdgflgaeaaGreatDoor
end

section
namespace Go.Proofs.YtfefpcdgflgaeaaGreatDoor
set_option linter.unusedSimpArgs false
set_option linter.unusedVariables false
open Go.RowKit Go.Maps Go.ChangeMaps Go.MapKept
theorem im_under : Tryz.prog.underlying 107 = some (.map 3 9) := by kernel_rfl
theorem im_int : Tryz.prog.underlying 3 = some (.int .i64) := by kernel_rfl
theorem im_str : Tryz.prog.underlying 9 = some .string := by kernel_rfl
theorem im_law : Keyed Tryz.prog 3 := int_keyed im_int
theorem im_zero (w : World) : (zeroValue 9).run Tryz.prog w = .ok (.string ⟨#[]⟩) w := by kernel_rfl
theorem str_of {s t : ByteArray} (h : s.data.toList = t.data.toList) : s = t := by
 obtain ⟨⟨a⟩⟩ := s
 obtain ⟨⟨b⟩⟩ := t
 simp at h
 rw [h]
/-- What the datum says. -/
structure MapIs (D : DataW Unit) (f : Nat → Option ByteArray) : Prop where
 map : IsMap D
 yes : ∀ i s, f i = some s → s.size ≤ maxLen ∧ Maps.has D (.int .i64 (i : Int)) = true ∧ ∀ z, D.atKey (.int .i64 (i : Int)) z = .lit (.string s.data.toList)
 no : ∀ x : Int, (∀ i : Nat, x = (i : Int) → f i = none) → Maps.has D (.int .i64 x) = false
def upd (f : Nat → Option ByteArray) (i : Nat) (s : ByteArray) : Nat → Option ByteArray := fun j => if j = i then some s else f j
theorem upd_same (f : Nat → Option ByteArray) (i : Nat) (s : ByteArray) : upd f i s i = some s := if_pos rfl
theorem upd_other (f : Nat → Option ByteArray) {i j : Nat} (s : ByteArray) (h : j ≠ i) : upd f i s j = f j := if_neg h
theorem MapIs.nil : MapIs (.map []) (fun _ => none) := ⟨isMap_empty, fun i s h => (by cases h), fun x _ => rfl⟩
theorem MapIs.put {D : DataW Unit} {f : Nat → Option ByteArray} (h : MapIs D f) (i : Nat) {s : ByteArray} (hs : s.size ≤ maxLen) : MapIs (D.put (.int .i64 (i : Int)) (.lit (.string s.data.toList))) (upd f i s) := by
 refine ⟨h.map.put _ _, fun j t hj => ?_, fun x hx => ?_⟩
 ·by_cases e : j = i
  ·subst e
   rw [upd_same] at hj
   injection hj with hj
   subst hj
   exact ⟨hs, has_put_same h.map (by simp [WideAt.IsKeyLit]) _, fun z => atKey_put_same h.map (by simp [WideAt.IsKeyLit]) _ _⟩
  ·rw [upd_other f s e] at hj
   obtain ⟨a, b, c⟩ := h.yes j t hj
   have hne : Lit.int .i64 (j : Int) ≠ Lit.int .i64 (i : Int) := by intro q; injection q with _ q; omega
   exact ⟨a, by rw [has_put_other hne]; exact b, fun z => by rw [atKey_put_other hne]; exact c z⟩
 ·have e : x ≠ (i : Int) := fun q => by have := hx i q; rw [upd_same] at this; cases this
  have hne : Lit.int .i64 x ≠ Lit.int .i64 (i : Int) := by intro q; injection q with _ q; exact e q
  rw [has_put_other hne]
  refine h.no x (fun j hj => ?_)
  have := hx j hj
  rw [upd_other f s (by intro q; subst q; exact e hj)] at this
  exact this
def IM (w : World) (b n : Nat) (f : Nat → Option ByteArray) : Prop := ∃ D : DataW Unit, w.ownsMap Tryz.prog 3 (plainElem Tryz.prog 9) b n D ∧ MapIs D f
section
variable {w w' : World} {b n : Nat} {f : Nat → Option ByteArray}
theorem IM.made (w : World) : IM (w.alloc (.map #[] 0)) w.heap.size 0 (fun _ => none) := ⟨_, World.ownsMap_made _ _ _ _, .nil⟩
theorem IM.kept {row : Option Nat} (h : IM w b n f) (hg : w.grownBy w' row) (hne : some b ≠ row) : IM w' b n f := by obtain ⟨D, ho, hd⟩ := h; exact ⟨D, ho.kept hg hne, hd⟩
theorem IM.mono (h : IM w b n f) {n' : Nat} (hn : n ≤ n') : IM w b n' f := by obtain ⟨D, ho, hd⟩ := h; exact ⟨D, ho.mono hn, hd⟩
theorem IM.lt (h : IM w b n f) : b < w.heap.size := by obtain ⟨D, ho, hd⟩ := h; exact ho.lt
theorem IM.fits (h : IM w b n f) {i : Nat} {s : ByteArray} (hs : f i = some s) : s.size ≤ maxLen := by obtain ⟨D, ho, hd⟩ := h; exact (hd.yes i s hs).1
theorem key_of (i : Nat) (hi : i ≤ 1000000) : keyOf Tryz.prog 3 (.int .i64 (i : Int)) = some (.int .i64 (i : Int)) := keyOf_int_mk im_int (WalkArith.wf_i64 (by omega))
theorem IM.look_ok (h : IM w b n f) (i : Nat) (hi : i ≤ 1000000) : (Instr.lookup 107 (.map (some b)) (.int .i64 (i : Int)) true).run Tryz.prog w = .ok (.tuple #[.string ((f i).getD ⟨#[]⟩), .bool (f i).isSome]) w := by
  obtain ⟨D, ho, hd⟩ := h
  obtain ⟨v, ps, hrun, hv⟩ := ho.look_ok im_law im_under (im_zero w) (plainElem_string im_str (s := ⟨#[]⟩) (Nat.zero_le _)) (key_of i hi)
  obtain ⟨s, rfl, hz, _⟩ := plainElem_string_inv im_str hv
  rw [hrun]
  have hz' := congrArg Prod.fst hz
  simp only at hz'
  cases hf : f i with
  | none =>
    have hh := hd.no (i : Int) (fun j hj => by have : i = j := by omega
                                               subst this; exact hf)
    rw [atKey_of_not_has hh] at hz'
    simp only [DataW.lit.injEq, Lit.string.injEq] at hz'
    rw [hh, str_of (s := s) (t := ⟨#[]⟩) hz'.symm]
    rfl
  | some t =>
    obtain ⟨_, h2, h3⟩ := hd.yes i t hf
    rw [h3] at hz'
    simp only [DataW.lit.injEq, Lit.string.injEq] at hz'
    rw [h2, str_of hz'.symm]
    rfl
theorem IM.look (h : IM w b n f) (i : Nat) (hi : i ≤ 1000000) {t : ByteArray} (hf : f i = some t) : (Instr.lookup 107 (.map (some b)) (.int .i64 (i : Int)) false).run Tryz.prog w = .ok (.string t) w := by
 obtain ⟨D, ho, hd⟩ := h
 obtain ⟨v, ps, hrun, hv⟩ := ho.lookup im_law im_under (im_zero w) (plainElem_string im_str (s := ⟨#[]⟩) (Nat.zero_le _)) (key_of i hi)
 obtain ⟨s, rfl, hz, _⟩ := plainElem_string_inv im_str hv
 have hz' := congrArg Prod.fst hz
 simp only at hz'
 obtain ⟨_, h2, h3⟩ := hd.yes i t hf
 rw [h3] at hz'
 simp only [DataW.lit.injEq, Lit.string.injEq] at hz'
 rw [hrun, str_of hz'.symm]
theorem IM.put (h : IM w b n f) (i : Nat) (hi : i ≤ 1000000) (hn : n < maxLen) {s : ByteArray} (hs : s.size ≤ maxLen) : ∃ w', (Instr.mapUpdate 107 (.map (some b)) (.int .i64 (i : Int)) (.string s)).run Tryz.prog w = .ok () w' ∧ IM w' b (n + 1) (upd f i s) ∧ w.grownBy w' (some b) := by
 obtain ⟨D, ho, hd⟩ := h
 obtain ⟨w', hrun, ho', hg⟩ := ho.update im_law im_under hn (key_of i hi) (plainElem_string im_str hs)
 exact ⟨w', hrun, ⟨_, ho', hd.put i hs⟩, hg⟩
theorem IM.clear (h : IM w b n f) (ty : TypeId) : ∃ w', (Builtin.clear_ #[107] ty #[.map (some b)]).run Tryz.prog w = .ok (.tuple #[]) w' ∧ IM w' b n (fun _ => none) ∧ w.grownBy w' (some b) := by
 obtain ⟨D, ⟨es, clock, hb, F, hs, hD⟩, hd⟩ := h
 refine ⟨setBlock w b (.map #[] clock), ?_, ⟨.map [], ⟨#[], clock, heap_setBlock_same hb _, ⟨by simp, stamped_empty clock, by simp⟩, Nat.zero_le _, rfl⟩, .nil⟩, ⟨rfl, rfl, rfl, by simp [setBlock], fun i _ hi => heap_setBlock_other hb _ (fun e => hi (by rw [e]))⟩⟩
 simp [Builtin.clear_, run_underlying im_under, MapKept.run_getObj_map hb, MapKept.run_setObj_map _ hb, Result.andThen, setBlock]
end
end Go.Proofs.YtfefpcdgflgaeaaGreatDoor
end

section
namespace Go.Proofs.YtfefpcdgflgaeaaGreatDoor
set_option linter.unusedVariables false
abbrev DF := Nat → Option ByteArray
def zeros (n : Nat) : ByteArray := ⟨(List.replicate n 0).toArray⟩
theorem zeros_size (n : Nat) : (zeros n).size = n := by unfold zeros; simp [ByteArray.size]
/-- A sector's bytes, filled up. -/
def padz (s : ByteArray) : ByteArray := s ++ zeros (32 - s.size)
theorem padz_size {s : ByteArray} (h : s.size ≤ 32) : (padz s).size = 32 := by unfold padz; rw [ByteArray.size_append, zeros_size]; omega
/-- What a sector has that lasts. -/
def safeAt (S : DF) (i : Nat) : ByteArray := (S i).getD (zeros 32)
def nowAt (S X : DF) (i : Nat) : ByteArray := (X i).getD (safeAt S i)
/-- Those that were written, rising. -/
def dirty (N : Nat) (X : DF) : List Nat := (List.range N).filter fun i => (X i).isSome
def mbit (mask k : Nat) : Bool := mask / 2 ^ (min k 63) % 2 == 1
/-- What lasts when of the first k of l those last that the mask tells. -/
def lasts (mask : Nat) (X : DF) (l : List Nat) (S : DF) : Nat → DF
 | 0 => S
 | k + 1 => if mbit mask k = true then upd (lasts mask X l S k) (l.getD k 0) ((X (l.getD k 0)).getD ⟨#[]⟩) else lasts mask X l S k
def crashed (N mask : Nat) (S X : DF) : DF := lasts mask X (dirty N X) S (dirty N X).length
/-- The disk fits: what it tells is told of sectors that there are, each of 32 bytes. -/
structure DFit (N : Nat) (S X : DF) : Prop where
 n : N ≤ 140
 s : ∀ i s, S i = some s → s.size = 32 ∧ i < N
 x : ∀ i s, X i = some s → s.size = 32 ∧ i < N
theorem dirty_le (N : Nat) (X : DF) : (dirty N X).length ≤ N := by
 unfold dirty
 have := List.length_filter_le (fun i => (X i).isSome) (List.range N)
 rw [List.length_range] at this
 exact this
theorem dirty_mem {N : Nat} {X : DF} {i : Nat} (h : i ∈ dirty N X) : i < N ∧ ∃ s, X i = some s := by
 unfold dirty at h
 rw [List.mem_filter, List.mem_range] at h
 exact ⟨h.1, Option.isSome_iff_exists.1 h.2⟩
theorem dirty_at {N : Nat} {X : DF} {k : Nat} (h : k < (dirty N X).length) : (dirty N X)[k]? = some ((dirty N X).getD k 0) ∧ (dirty N X).getD k 0 < N ∧ ∃ s, X ((dirty N X).getD k 0) = some s := by
 have e : (dirty N X)[k]? = some ((dirty N X).getD k 0) := by
  rw [List.getD_eq_getElem?_getD, List.getElem?_eq_getElem h]; rfl
 have := dirty_mem (List.mem_of_getElem? e)
 exact ⟨e, this.1, this.2⟩
theorem DFit.safe {N : Nat} {S X : DF} (h : DFit N S X) (i : Nat) : (safeAt S i).size = 32 := by
 unfold safeAt
 cases hs : S i with
 | none => exact zeros_size 32
 | some s => exact (h.s i s hs).1
theorem DFit.new {N : Nat} (h : N ≤ 140) : DFit N (fun _ => none) (fun _ => none) := ⟨h, fun _ _ h => (by cases h), fun _ _ h => (by cases h)⟩
theorem DFit.write {N : Nat} {S X : DF} (h : DFit N S X) {i : Nat} (hi : i < N) {s : ByteArray} (hs : s.size ≤ 32) : DFit N S (upd X i (padz s)) := by
 refine ⟨h.n, h.s, fun j t hj => ?_⟩
 by_cases e : j = i
 ·subst e
  rw [upd_same] at hj
  injection hj with hj
  subst hj
  exact ⟨padz_size hs, hi⟩
 ·rw [upd_other X _ e] at hj
  exact h.x j t hj
theorem DFit.last {N mask : Nat} {S X : DF} (h : DFit N S X) : ∀ k, k ≤ (dirty N X).length → DFit N (lasts mask X (dirty N X) S k) X := by
 intro k
 induction k with
 | zero => intro _; exact h
 | succ k ih =>
  intro hk
  obtain ⟨_, h2, s, h3⟩ := dirty_at (N := N) (X := X) (k := k) (by omega)
  have h4 := ih (by omega)
  rw [lasts]
  split
  ·refine ⟨h.n, fun j t hj => ?_, h.x⟩
   by_cases e : j = (dirty N X).getD k 0
   ·subst e
    rw [upd_same, h3] at hj
    injection hj with hj
    rw [← hj]
    exact h.x _ s h3
   ·rw [upd_other _ _ e] at hj
    exact h4.s j t hj
  ·exact h4
theorem DFit.crash {N mask : Nat} {S X : DF} (h : DFit N S X) : DFit N (crashed N mask S X) (fun _ => none) :=
 ⟨h.n, (h.last (dirty N X).length (Nat.le_refl _)).s, fun _ _ h => (by cases h)⟩
theorem safe_upd (S : DF) (i j : Nat) (s : ByteArray) : safeAt (upd S i s) j = if j = i then s else safeAt S j := by
 unfold safeAt upd
 split <;> rfl
theorem dirty_yes {X : DF} {k : Nat} (h : (X k).isSome = true) : dirty (k + 1) X = dirty k X ++ [k] := by unfold dirty; rw [List.range_succ, List.filter_append]; simp [h]
theorem dirty_no {X : DF} {k : Nat} (h : (X k).isSome = false) : dirty (k + 1) X = dirty k X := by unfold dirty; rw [List.range_succ, List.filter_append]; simp [h]
end Go.Proofs.YtfefpcdgflgaeaaGreatDoor
end

section
namespace Go.Proofs.YtfefpcdgflgaeaaGreatDoor
open Go.RowKit
/-- Block g begins with the bytes l, none of them frozen. -/
def BytesAt (w : World) (g : Nat) (l : List UInt8) : Prop := ∀ i, i < l.length → w.cell? ⟨g, i, none⟩ = some (.int .u8 (l.getD i 0).toNat) ∧ w.frozen? ⟨g, i, none⟩ = false
theorem getD_at {α : Type} (l : List α) (d : α) (i : Nat) (h : i < l.length) : l.getD i d = l[i] := by simp [List.getD, List.getElem?_eq_getElem h]
theorem BytesAt.set {w : World} {g : Nat} {l : List UInt8} (h : BytesAt w g l) (k : Nat) (b : UInt8) (hk : k < l.length) : BytesAt (w.setCell ⟨g, k, none⟩ (.int .u8 b.toNat)) g (l.set k b) := by
 intro i hi
 rw [List.length_set] at hi
 refine ⟨?_, by rw [World.frozen?_setCell]; exact (h i hi).2⟩
 by_cases e : i = k
 ·subst e
  rw [World.cell?_setCell_same _ _ _ (h i hi).1]
  rw [getD_at _ _ _ (by simpa using hi)]
  simp
 ·rw [World.cell?_setCell_other _ _ _ _ (by intro h'; injection h' with _ h''; exact e h''.symm)]
  rw [(h i hi).1, getD_at l _ _ hi, getD_at (l.set k b) _ _ (by simpa using hi), List.getElem_set_ne (Ne.symm e)]
theorem BytesAt.set_nat {w : World} {g : Nat} {l : List UInt8} (h : BytesAt w g l) (k n : Nat) (hn : n < 256) (hk : k < l.length) : BytesAt (w.setCell ⟨g, k, none⟩ (.int .u8 (n : Int))) g (l.set k (UInt8.ofNat n)) := by
 have e := h.set k (UInt8.ofNat n) hk
 have e2 : ((UInt8.ofNat n).toNat : Int) = (n : Int) := by simp; omega
 rw [e2] at e
 exact e
theorem BytesAt.keep {w w' : World} {g B : Nat} {l : List UInt8} (h : BytesAt w g l) (hb : Below B w w') (hg : g < B) : BytesAt w' g l :=
 fun i hi => ⟨(hb.cell (p := ⟨g, i, none⟩) hg).trans (h i hi).1, (hb.frozen (p := ⟨g, i, none⟩) hg).trans (h i hi).2⟩
theorem BytesAt.drew {w : World} {g : Nat} {l : List UInt8} (h : BytesAt w g l) : BytesAt w.drew g l := h
theorem BytesAt.lt {w : World} {g : Nat} {l : List UInt8} (h : BytesAt w g l) (hl : 0 < l.length) : g < w.heap.size := cell_lt (h 0 hl).1
theorem bytes_of {P : Program} (w : World) (src dst e : TypeId) (s : ByteArray) (hs : P.underlying src = some .string) (hd : P.underlying dst = some (.slice e)) (he : P.underlying e = some (.int .u8)) :
  ∃ C W, (convert src dst (.string s)).run P w = .ok (.slice (some ⟨w.heap.size, 0, none⟩) s.size C) W ∧ BytesAt W w.heap.size s.data.toList ∧ Below w.heap.size w W := by
 refine ⟨_, _, run_bytes_of_string w src dst e s hs hd he, ?_, ?_⟩
 ·intro i hi
  have hi' : i < s.size := by simpa using hi
  have hc : (bytesRow s (grownCap w s.size 0 e))[i]? = some (.int .u8 (s.data.toList.getD i 0).toNat) := by
   unfold bytesRow
   rw [Array.getElem?_append_left (by simpa using hi'), getD_at _ _ _ hi]
   simp only [Array.getElem?_map]
   rw [Array.getElem?_eq_getElem (by simpa using hi')]
   simp
  have hz : i < (bytesRow s (grownCap w s.size 0 e)).size := (Array.getElem?_eq_some_iff.1 hc).1
  generalize bytesRow s (grownCap w s.size 0 e) = R at hc hz
  constructor
  ·show World.cell? (World.alloc w.drew _) _ = _
   have : (w.drew.alloc (.cells R e (R.size, R.size + 1))).cell? ⟨w.drew.heap.size, i, none⟩ = R[i]? := by
    show (match (w.drew.heap.push (Obj.cells R e (R.size, R.size + 1)))[w.drew.heap.size]? with
     | some (Obj.cells c elem frozen) => c[i]?
     | _ => none) = R[i]?
    rw [Array.getElem?_push_size]
   rw [← hc]
   exact this
  ·have : (w.drew.alloc (.cells R e (R.size, R.size + 1))).frozen? ⟨w.drew.heap.size, i, none⟩ = false := by
    simp only [World.alloc, World.frozen?, Array.getElem?_push_size]
    simp
    omega
   exact this
 ·exact ((Below.refl _ w).drew).alloc (Nat.le_refl _) _
theorem string_of {P : Program} (w : World) (src e dst : TypeId) (g c : Nat) (l : List UInt8) (hs : P.underlying src = some (.slice e)) (he : P.underlying e = some (.int .u8)) (hd : P.underlying dst = some .string) (h : BytesAt w g l) :
  (convert src dst (.slice (some ⟨g, 0, none⟩) l.length c)).run P w = .ok (.string ⟨l.toArray⟩) w := by
 rw [run_convert_bytes_arg w src e hs he g 0 l.length c (l.map fun b => (b.toNat : Int)) (by simp) (fun i hi => by
  rw [Nat.zero_add, (h i hi).1, getD_at _ _ _ hi]
  simp [List.getD, List.getElem?_eq_getElem hi]) dst hd]
 congr 2
 simp only [strOfNums, List.map_map]
 congr 1
 have e : ((fun n : Int => UInt8.ofNat n.toNat) ∘ fun b : UInt8 => (b.toNat : Int)) = id := by
  funext b
  simp
 rw [e, List.map_id]
end Go.Proofs.YtfefpcdgflgaeaaGreatDoor
end

section
namespace Go.Proofs.YtfefpcdgflgaeaaGreatDoor
open Go.RowKit
abbrev byteV (b : UInt8) : Value := .int .u8 (b.toNat : Int)
abbrev bytesV (l : List UInt8) : List Value := l.map byteV
theorem byteV_of {n : Int} {b : UInt8} (h : n = (b.toNat : Int)) : Value.int .u8 n = byteV b := by rw [h]
theorem string_own {P : Program} {w : World} {base : Nat} {E : TypeId} {A : Option Addr} {n c : Nat} {l : List UInt8} (src e dst : TypeId) (hs : P.underlying src = some (.slice e)) (he : P.underlying e = some (.int .u8)) (hd : P.underlying dst = some .string)
  (h : w.ownsRow base E 1 (.slice A n c) n (bytesV l)) (hl : l.length = n) (hn : 0 < n) : (convert src dst (.slice A n c)).run P w = .ok (.string ⟨l.toArray⟩) w := by
 rcases h.2 with ⟨_, h0⟩ | ⟨g, cap, cur, hv, _, hh, _⟩
 ·omega
 ·have hA : A = some ⟨g, 0, none⟩ := by injection hv
  subst hA
  subst hl
  refine string_of w src e dst g c l hs he hd fun i hi => ⟨?_, h.frozenAt i⟩
  rw [h.cellAt i (by omega), List.getElem?_map, List.getElem?_eq_getElem hi, getD_at l 0 i hi]
  rfl
end Go.Proofs.YtfefpcdgflgaeaaGreatDoor
end

section
namespace Go.Proofs.YtfefpcdgflgaeaaGreatDoor
set_option linter.unusedSimpArgs false
set_option linter.unusedVariables false
open Go.RowKit Go.Maps Go.ChangeMaps Go.MapKept
theorem bm_under : Tryz.prog.underlying 44 = some (.map 3 5) := by kernel_rfl
theorem bm_u8 : Tryz.prog.underlying 5 = some (.int .u8) := by kernel_rfl
theorem bm_zero (w : World) : (zeroValue 5).run Tryz.prog w = .ok (.int .u8 0) w := by kernel_rfl
theorem wf_byte (x : UInt8) : (Lit.int .u8 (x.toNat : Int)).wf = true := by
 have := x.toNat_lt
 simp [Lit.wf, IntKind.min, IntKind.max, IntKind.bits, IntKind.signed]
 omega
/-- What the datum says. -/
structure BMapIs (D : DataW Unit) (f : Nat → Option UInt8) : Prop where
 map : IsMap D
 yes : ∀ i s, f i = some s → Maps.has D (.int .i64 (i : Int)) = true ∧ ∀ z, D.atKey (.int .i64 (i : Int)) z = .lit (.int .u8 (s.toNat : Int))
 no : ∀ x : Int, (∀ i : Nat, x = (i : Int) → f i = none) → Maps.has D (.int .i64 x) = false
def bup (f : Nat → Option UInt8) (i : Nat) (s : UInt8) : Nat → Option UInt8 := fun j => if j = i then some s else f j
theorem bup_same (f : Nat → Option UInt8) (i : Nat) (s : UInt8) : bup f i s i = some s := if_pos rfl
theorem bup_other (f : Nat → Option UInt8) {i j : Nat} (s : UInt8) (h : j ≠ i) : bup f i s j = f j := if_neg h
theorem BMapIs.nil : BMapIs (.map []) (fun _ => none) := ⟨isMap_empty, fun i s h => (by cases h), fun x _ => rfl⟩
theorem BMapIs.put {D : DataW Unit} {f : Nat → Option UInt8} (h : BMapIs D f) (i : Nat) (s : UInt8) : BMapIs (D.put (.int .i64 (i : Int)) (.lit (.int .u8 (s.toNat : Int)))) (bup f i s) := by
 refine ⟨h.map.put _ _, fun j t hj => ?_, fun x hx => ?_⟩
 ·by_cases e : j = i
  ·subst e
   rw [bup_same] at hj
   injection hj with hj
   subst hj
   exact ⟨has_put_same h.map (by simp [WideAt.IsKeyLit]) _, fun z => atKey_put_same h.map (by simp [WideAt.IsKeyLit]) _ _⟩
  ·rw [bup_other f s e] at hj
   obtain ⟨b, c⟩ := h.yes j t hj
   have hne : Lit.int .i64 (j : Int) ≠ Lit.int .i64 (i : Int) := by intro q; injection q with _ q; omega
   exact ⟨by rw [has_put_other hne]; exact b, fun z => by rw [atKey_put_other hne]; exact c z⟩
 ·have e : x ≠ (i : Int) := fun q => by have := hx i q; rw [bup_same] at this; cases this
  have hne : Lit.int .i64 x ≠ Lit.int .i64 (i : Int) := by intro q; injection q with _ q; exact e q
  rw [has_put_other hne]
  refine h.no x (fun j hj => ?_)
  have := hx j hj
  rw [bup_other f s (by intro q; subst q; exact e hj)] at this
  exact this
def BM (w : World) (b n : Nat) (f : Nat → Option UInt8) : Prop := ∃ D : DataW Unit, w.ownsMap Tryz.prog 3 (plainElem Tryz.prog 5) b n D ∧ BMapIs D f
section
variable {w w' : World} {b n : Nat} {f : Nat → Option UInt8}
theorem BM.made (w : World) : BM (w.alloc (.map #[] 0)) w.heap.size 0 (fun _ => none) := ⟨_, World.ownsMap_made _ _ _ _, .nil⟩
theorem BM.kept {row : Option Nat} (h : BM w b n f) (hg : w.grownBy w' row) (hne : some b ≠ row) : BM w' b n f := by obtain ⟨D, ho, hd⟩ := h; exact ⟨D, ho.kept hg hne, hd⟩
theorem BM.mono (h : BM w b n f) {n' : Nat} (hn : n ≤ n') : BM w b n' f := by obtain ⟨D, ho, hd⟩ := h; exact ⟨D, ho.mono hn, hd⟩
theorem BM.lt (h : BM w b n f) : b < w.heap.size := by obtain ⟨D, ho, hd⟩ := h; exact ho.lt
theorem BM.look_ok (h : BM w b n f) (i : Nat) (hi : i ≤ 1000000) : (Instr.lookup 44 (.map (some b)) (.int .i64 (i : Int)) true).run Tryz.prog w = .ok (.tuple #[byteV ((f i).getD 0), .bool (f i).isSome]) w := by
  obtain ⟨D, ho, hd⟩ := h
  obtain ⟨v, ps, hrun, hv⟩ := ho.look_ok im_law bm_under (bm_zero w) (plainElem_int bm_u8 (a := 0) (by decide)) (key_of i hi)
  obtain ⟨s, rfl, hz, _⟩ := plainElem_int_inv bm_u8 hv
  rw [hrun]
  have hz' := congrArg Prod.fst hz
  simp only at hz'
  cases hf : f i with
  | none =>
    have hh := hd.no (i : Int) (fun j hj => by have : i = j := by omega
                                               subst this; exact hf)
    rw [atKey_of_not_has hh] at hz'
    simp only [DataW.lit.injEq, Lit.int.injEq] at hz'
    rw [hh, ← hz'.2]
    rfl
  | some t =>
    obtain ⟨h2, h3⟩ := hd.yes i t hf
    rw [h3] at hz'
    simp only [DataW.lit.injEq, Lit.int.injEq] at hz'
    rw [h2, ← hz'.2]
    rfl
theorem BM.look (h : BM w b n f) (i : Nat) (hi : i ≤ 1000000) : (Instr.lookup 44 (.map (some b)) (.int .i64 (i : Int)) false).run Tryz.prog w = .ok (byteV ((f i).getD 0)) w := by
  obtain ⟨D, ho, hd⟩ := h
  obtain ⟨v, ps, hrun, hv⟩ := ho.lookup im_law bm_under (bm_zero w) (plainElem_int bm_u8 (a := 0) (by decide)) (key_of i hi)
  obtain ⟨s, rfl, hz, _⟩ := plainElem_int_inv bm_u8 hv
  rw [hrun]
  have hz' := congrArg Prod.fst hz
  simp only at hz'
  cases hf : f i with
  | none =>
    have hh := hd.no (i : Int) (fun j hj => by have : i = j := by omega
                                               subst this; exact hf)
    rw [atKey_of_not_has hh] at hz'
    simp only [DataW.lit.injEq, Lit.int.injEq] at hz'
    rw [← hz'.2]
    rfl
  | some t =>
    obtain ⟨h2, h3⟩ := hd.yes i t hf
    rw [h3] at hz'
    simp only [DataW.lit.injEq, Lit.int.injEq] at hz'
    rw [← hz'.2]
    rfl
theorem BM.put (h : BM w b n f) (i : Nat) (hi : i ≤ 1000000) (hn : n < maxLen) (s : UInt8) : ∃ w', (Instr.mapUpdate 44 (.map (some b)) (.int .i64 (i : Int)) (byteV s)).run Tryz.prog w = .ok () w' ∧ BM w' b (n + 1) (bup f i s) ∧ w.grownBy w' (some b) := by
 obtain ⟨D, ho, hd⟩ := h
 obtain ⟨w', hrun, ho', hg⟩ := ho.update im_law bm_under hn (key_of i hi) (plainElem_int bm_u8 (wf_byte s))
 exact ⟨w', hrun, ⟨_, ho', hd.put i s⟩, hg⟩
end
end Go.Proofs.YtfefpcdgflgaeaaGreatDoor
end

section
namespace Go.Proofs.YtfefpcdgflgaeaaGreatDoor
open Go.RowKit

/-- A world that is as w was on all of w's blocks. -/
def Inv (w : World) : Type := { x : World // Below w.heap.size w x }
instance (w : World) : Nonempty (Inv w) := ⟨⟨w, Below.refl _ _⟩⟩
def Inv.w {w : World} (x : Inv w) : World := x.1
theorem Inv.below {w : World} (x : Inv w) : Below w.heap.size w x.w := x.2
theorem Inv.size {w : World} (x : Inv w) : w.heap.size ≤ x.w.heap.size := x.2.size
theorem Inv.cell {w : World} {a : Addr} {v : Value} (h : w.cell? a = some v) : ∀ x : Inv w, x.w.cell? a = some v := fun x => (x.below.cell (cell_lt h)).trans h
end Go.Proofs.YtfefpcdgflgaeaaGreatDoor
end

section
namespace Go.Proofs.YtfefpcdgflgaeaaGreatDoor
open Go.RowKit
theorem toList_ne {x y : ByteArray} (h : ¬ x = y) : (!(x.toList == y.toList)) = true := by
 have e : (x.toList == y.toList) = false := by
  rw [beq_eq_false_iff_ne, ByteArray.toList_eq, ByteArray.toList_eq]
  intro e
  apply h
  obtain ⟨⟨a⟩⟩ := x
  obtain ⟨⟨b⟩⟩ := y
  simp at e
  rw [e]
 rw [e]
 rfl
/-- A slice of strings, of numbers, in memory. -/
abbrev Strs (w : World) (A : Option Addr) (n : Nat) (l : List ByteArray) : Prop := Sl w w.heap.size 1 A n (l.flatMap fun x => [Value.string x])
abbrev Ints (w : World) (A : Option Addr) (n : Nat) (l : List Int) : Prop := Sl w w.heap.size 1 A n (l.flatMap fun x => [Value.int .i64 x])
theorem flat_map {α : Type} (f : α → Value) (l : List α) : (l.flatMap fun x => [f x]) = l.map f := by induction l <;> simp_all
theorem Strs.of_own {w : World} {base : Nat} {e : TypeId} {A : Option Addr} {n c : Nat} {l : List ByteArray} (h : w.ownsRow base e 1 (.slice A n c) n (l.map Value.string)) : Strs w A n l := by
 have := Sl.of_own h
 rw [← flat_map] at this
 exact this
theorem Ints.of_own {w : World} {base : Nat} {e : TypeId} {A : Option Addr} {n c : Nat} {l : List Int} (h : w.ownsRow base e 1 (.slice A n c) n (l.map (Value.int .i64))) : Ints w A n l := by
 have := Sl.of_own h
 rw [← flat_map] at this
 exact this
theorem Sl.grow {w w' : World} {size n : Nat} {A : Option Addr} {xs : List Value} (h : Sl w w.heap.size size A n xs) (hb : Below w.heap.size w w') : Sl w' w'.heap.size size A n xs := (h.below hb).more hb.size
/-- Alike so far. -/
def Alike {α : Type} (l l' : List α) (k : Nat) : Prop := ∀ j, j < k → l[j]? = l'[j]?
theorem Alike.succ {α : Type} {l l' : List α} {k : Nat} {x : α} (h : Alike l l' k) (h1 : l[k]? = some x) (h2 : l'[k]? = some x) : Alike l l' (k + 1) := by
 intro j hj
 by_cases e : j = k
 ·subst e; rw [h1, h2]
 ·exact h j (by omega)
theorem Alike.all {α : Type} {l l' : List α} {n : Nat} (h : Alike l l' n) (h1 : l.length = n) (h2 : l'.length = n) : l = l' := by
 apply List.ext_getElem?
 intro j
 by_cases hj : j < n
 ·exact h j hj
 ·rw [List.getElem?_eq_none (by omega), List.getElem?_eq_none (by omega)]
end Go.Proofs.YtfefpcdgflgaeaaGreatDoor
end

section
namespace Go.Proofs.YtfefpcdgflgaeaaGreatDoor
open Go.RowKit
/-- Fields by name, type and offset alone. -/
def eqF (P : Program) (d : Nat) (xs ys : Array Value) : List (String × TypeId × Nat) → Sem Bool
 | [] => pure true
 | f :: fs =>
  if f.1 ≠ "_" then do
   let a ← part f.2.1 xs f.2.2
   let b ← part f.2.1 ys f.2.2
   let r ← Op.equalIn d f.2.1 a b
   if (!r) = true then pure false else eqF P d xs ys fs
  else eqF P d xs ys fs
theorem eqFields_eq (P : Program) (d : Nat) (xs ys : Array Value) (fs : List Field) : Op.eqFields d xs ys fs = eqF P d xs ys (fs.map fun f => (f.name, f.type, f.offset)) := by
 induction fs with
 | nil => rfl
 | cons f fs ih => simp only [Op.eqFields, List.map_cons, eqF, ih]
theorem beq_str (s t : ByteArray) : (s.toList == t.toList) = decide (s = t) := by
 by_cases h : s = t
 ·subst h; simp
 ·have e := toList_ne h
  rw [decide_eq_false h]
  simpa using e
end Go.Proofs.YtfefpcdgflgaeaaGreatDoor
end

section
namespace Go.Proofs.YtfefpcdgflgaeaaGreatDoor
open Go.RowKit
/-- A chunk: its name, how many bytes in all, where, its bytes. -/
abbrev Chk := Int × Int × Int × ByteArray
def chkCells (x : Chk) : List Value := [.int .u32 x.1, .int .i64 x.2.1, .int .i64 x.2.2.1, .string x.2.2.2]
theorem chkFields : (Tryz.prog.fieldsOf 77).toList.map (fun f => (f.name, f.type, f.offset)) = [("Name", 43, 0), ("Total", 3, 1), ("At", 3, 2), ("Data", 9, 3)] := by kernel_rfl
@[go_sem] theorem eqChk (d : Nat) (m m' r t r' t' : Int) (s s' : ByteArray) (w : World) : (Op.equalIn (d + 2) 77 (.agg #[.int .u32 m, .int .i64 r, .int .i64 t, .string s]) (.agg #[.int .u32 m', .int .i64 r', .int .i64 t', .string s'])).run Tryz.prog w = .ok (decide ((m, r, t, s) = (m', r', t', s'))) w := by
 rw [run_equalIn_agg w (d + 1) _ _ _ (by kernel_rfl) (by kernel_rfl), eqFields_eq Tryz.prog, chkFields]
 by_cases h0 : m = m'
 ·by_cases h1 : r = r'
  ·by_cases h2 : t = t'
   ·by_cases h3 : s = s' <;> simp [eqF, go_sem, beq_str, h0, h1, h2, h3]
   ·simp [eqF, go_sem, h0, h1, h2]
  ·simp [eqF, go_sem, h0, h1]
 ·simp [eqF, go_sem, h0]
end Go.Proofs.YtfefpcdgflgaeaaGreatDoor
end

section
namespace Go.Proofs.YtfefpcdgflgaeaaGreatDoor
abbrev strOf (l : List UInt8) : ByteArray := ⟨l.toArray⟩
end Go.Proofs.YtfefpcdgflgaeaaGreatDoor
end

section
namespace Go.Proofs.YtfefpcdgflgaeaaGreatDoor.Crc

def poly : Nat := 2197175160
/-- One bit's step. -/
def stp (n : Nat) : Nat := if n % 2 = 1 then (n / 2) ^^^ poly else n / 2
def iter : Nat → Nat → Nat
 | 0, n => n
 | k + 1, n => iter k (stp n)
def one (n : Nat) : Nat := iter 8 n
/-- A byte's step, as the program takes it. -/
def byteStep (n b : Nat) : Nat := one ((n % 256) ^^^ b) ^^^ (n / 256)
/-- All bytes' steps. -/
def run (n : Nat) (l : List UInt8) : Nat := l.foldl (fun n b => byteStep n b.toNat) n
/-- A bit taken in. -/
def bitStep (n bit : Nat) : Nat := stp (n ^^^ bit)
def bits8 : Nat → Nat → Nat → Nat
 | 0, n, _ => n
 | k + 1, n, b => bits8 k (bitStep n (b % 2)) (b / 2)

theorem xor_half (a b : Nat) : (a ^^^ b) / 2 = (a / 2) ^^^ (b / 2) := Nat.xor_div_two
theorem xor_low (a b : Nat) : (a ^^^ b) % 2 = (a % 2 + b % 2) % 2 := by
 have h := Nat.xor_mod_two_pow (a := a) (b := b) (n := 1)
 simp only [Nat.pow_one] at h
 rw [h]
 rcases Nat.mod_two_eq_zero_or_one a with ha | ha <;> rcases Nat.mod_two_eq_zero_or_one b with hb | hb <;> rw [ha, hb] <;> decide
theorem stp_xor (a b : Nat) : stp (a ^^^ b) = stp a ^^^ stp b := by
 unfold stp
 rw [xor_half, xor_low]
 rcases Nat.mod_two_eq_zero_or_one a with ha | ha <;> rcases Nat.mod_two_eq_zero_or_one b with hb | hb <;> simp [ha, hb]
 ·rw [Nat.xor_assoc]
 ·rw [Nat.xor_assoc, Nat.xor_assoc, Nat.xor_comm poly (b / 2)]
 ·rw [Nat.xor_assoc (a / 2) poly, ← Nat.xor_assoc poly, Nat.xor_comm poly (b / 2), Nat.xor_assoc (b / 2), Nat.xor_self, Nat.xor_zero]
theorem stp_double (b : Nat) : stp (2 * b) = b := by unfold stp; rw [if_neg (by omega)]; omega
theorem iter_xor (k a b : Nat) : iter k (a ^^^ b) = iter k a ^^^ iter k b := by
 induction k generalizing a b with
 | zero => rfl
 | succ k ih => show iter k (stp (a ^^^ b)) = iter k (stp a) ^^^ iter k (stp b); rw [stp_xor, ih]
theorem iter_shift (k b : Nat) : iter k (2 ^ k * b) = b := by
 induction k with
 | zero => simp [iter]
 | succ k ih =>
  show iter k (stp (2 ^ (k + 1) * b)) = b
  have e : 2 ^ (k + 1) * b = 2 * (2 ^ k * b) := by rw [Nat.pow_succ, Nat.mul_comm (2 ^ k) 2, Nat.mul_assoc]
  rw [e, stp_double, ih]
theorem xor_split (k n : Nat) : n = (n % 2 ^ k) ^^^ (2 ^ k * (n / 2 ^ k)) := by
 apply Nat.eq_of_testBit_eq
 intro i
 rw [Nat.testBit_xor, Nat.testBit_mod_two_pow, Nat.testBit_two_pow_mul, Nat.testBit_div_two_pow]
 by_cases h : i < k
 ·have h2 : ¬ k ≤ i := by omega
  simp [h, h2]
 ·have h2 : k ≤ i := by omega
  simp [h, h2]
theorem bits8_eq (k n b : Nat) : bits8 k n b = iter k (n ^^^ (b % 2 ^ k)) := by
 induction k generalizing n b with
 | zero => simp [bits8, iter, Nat.mod_one]
 | succ k ih =>
  show bits8 k (bitStep n (b % 2)) (b / 2) = iter k (stp (n ^^^ (b % 2 ^ (k + 1))))
  rw [ih]
  congr 1
  have e : b % 2 ^ (k + 1) = (b % 2) ^^^ (2 * (b / 2 % 2 ^ k)) := by
   have h := xor_split 1 (b % 2 ^ (k + 1))
   simp only [Nat.pow_one] at h
   rw [h]
   have h1 : b % 2 ^ (k + 1) % 2 = b % 2 := by
    rw [Nat.pow_succ, Nat.mod_mul_left_mod]
   have h2 : b % 2 ^ (k + 1) / 2 = b / 2 % 2 ^ k := by
    rw [Nat.pow_succ, Nat.mul_comm, Nat.mod_mul_right_div_self]
   rw [h1, h2]
  rw [e, ← Nat.xor_assoc, stp_xor (n ^^^ (b % 2)), stp_double]
  rfl
theorem byteStep_eq (n b : Nat) (hb : b < 256) : byteStep n b = bits8 8 n b := by
 rw [bits8_eq]
 have hb' : b % 2 ^ 8 = b := Nat.mod_eq_of_lt hb
 rw [hb']
 have h := xor_split 8 n
 have e : n ^^^ b = ((n % 256) ^^^ b) ^^^ (2 ^ 8 * (n / 256)) := by
  rw [Nat.xor_assoc, Nat.xor_comm b, ← Nat.xor_assoc]
  congr 1
 rw [e, iter_xor, iter_shift]
 rfl
theorem poly_lt : poly < 4294967296 := by decide
theorem stp_lt {n : Nat} (h : n < 4294967296) : stp n < 4294967296 := by
 unfold stp
 split
 ·exact Nat.xor_lt_two_pow (n := 32) (by omega) poly_lt
 ·omega
theorem iter_lt (k : Nat) {n : Nat} (h : n < 4294967296) : iter k n < 4294967296 := by
 induction k generalizing n with
 | zero => exact h
 | succ k ih => exact ih (stp_lt h)
theorem iter_succ (k n : Nat) : iter (k + 1) n = stp (iter k n) := by
 induction k generalizing n with
 | zero => rfl
 | succ k ih => show iter (k + 1) (stp n) = stp (iter k (stp n)); exact ih (stp n)
theorem byteStep_lt {n b : Nat} (h : n < 4294967296) (hb : b < 256) : byteStep n b < 4294967296 := by
 unfold byteStep
 refine Nat.xor_lt_two_pow (n := 32) (iter_lt 8 ?_) (by omega)
 have := Nat.xor_lt_two_pow (n := 8) (x := n % 256) (y := b) (by omega) hb
 omega
theorem run_lt {n : Nat} (h : n < 4294967296) (l : List UInt8) : run n l < 4294967296 := by
 induction l generalizing n with
 | nil => exact h
 | cons b l ih => exact ih (byteStep_lt h b.toNat_lt)
theorem run_snoc (n : Nat) (l : List UInt8) (b : UInt8) : run n (l ++ [b]) = byteStep (run n l) b.toNat := by simp [run, List.foldl_append]

/-- After i bits of a text: bit i % 8 of byte i / 8 is taken next. -/
def carried (n : Nat) (l : List UInt8) (i : Nat) : Nat := bits8 (i % 8) (run n (l.take (i / 8))) (l.getD (i / 8) 0).toNat
theorem bits8_snoc (k n b : Nat) : bits8 (k + 1) n b = bitStep (bits8 k n b) (b / 2 ^ k % 2) := by
 induction k generalizing n b with
 | zero => simp [bits8]
 | succ k ih =>
  show bits8 (k + 1) (bitStep n (b % 2)) (b / 2) = _
  rw [ih]
  have e : b / 2 / 2 ^ k = b / 2 ^ (k + 1) := by rw [Nat.div_div_eq_div_mul, Nat.pow_succ, Nat.mul_comm 2]
  rw [e]
  rfl
theorem carried_zero (n : Nat) (l : List UInt8) : carried n l 0 = n := by simp [carried, bits8, run]
theorem carried_succ (n : Nat) (l : List UInt8) (i : Nat) (h : i < 8 * l.length) :
  carried n l (i + 1) = bitStep (carried n l i) ((l.getD (i / 8) 0).toNat / 2 ^ (i % 8) % 2) := by
 unfold carried
 have hi : i / 8 < l.length := by omega
 have hg : l.getD (i / 8) 0 = l[i / 8] := by simp [List.getD, hi]
 rcases Nat.lt_or_ge (i % 8) 7 with h7 | h7
 ·have e1 : (i + 1) % 8 = i % 8 + 1 := by omega
  have e2 : (i + 1) / 8 = i / 8 := by omega
  rw [e1, e2, bits8_snoc]
 ·have e0 : i % 8 = 7 := by omega
  have e1 : (i + 1) % 8 = 0 := by omega
  have e2 : (i + 1) / 8 = i / 8 + 1 := by omega
  rw [e1, e2, e0, ← bits8_snoc]
  rw [List.take_succ_eq_append_getElem hi, run_snoc, byteStep_eq _ _ (UInt8.toNat_lt _), hg]
  rfl
theorem carried_end (n : Nat) (l : List UInt8) : carried n l (8 * l.length) = run n l := by
 unfold carried
 have e1 : 8 * l.length % 8 = 0 := by omega
 have e2 : 8 * l.length / 8 = l.length := by omega
 rw [e1, e2, List.take_length]
 rfl
theorem bitStep_lt {n b : Nat} (h : n < 4294967296) (hb : b < 2) : bitStep n b < 4294967296 :=
 stp_lt (Nat.xor_lt_two_pow (n := 32) h (by omega))
theorem bits8_lt (k : Nat) {n b : Nat} (h : n < 4294967296) : bits8 k n b < 4294967296 := by
 induction k generalizing n b with
 | zero => exact h
 | succ k ih => exact ih (bitStep_lt h (by omega))
theorem carried_lt {n : Nat} (h : n < 4294967296) (l : List UInt8) (i : Nat) : carried n l i < 4294967296 := bits8_lt _ (run_lt h _)
/-- A bit taken in, as the reference does it. -/
theorem bitStep_ref (n b : Nat) (hb : b < 2) : bitStep n b = if ((n % 2) ^^^ b) = 1 then (n / 2) ^^^ poly else n / 2 := by
 unfold bitStep stp
 rw [xor_half, xor_low]
 have h0 : b / 2 = 0 := by omega
 rw [h0, Nat.xor_zero]
 rcases Nat.mod_two_eq_zero_or_one n with ha | ha <;> rcases (by omega : b = 0 ∨ b = 1) with rfl | rfl <;> simp [ha]
end Go.Proofs.YtfefpcdgflgaeaaGreatDoor.Crc
end

section
namespace Go.Proofs.YtfefpcdgflgaeaaGreatDoor
def crcOf (s : ByteArray) : Nat := 4294967295 - Crc.run 4294967295 s.data.toList
theorem crcOf_lt (s : ByteArray) : crcOf s < 4294967296 := by unfold crcOf; omega
/-- k bytes of a number, the lowest first. -/
def lowB : Nat → Nat → List UInt8
 | 0, _ => []
 | k + 1, n => UInt8.ofNat (n % 256) :: lowB k (n / 256)
theorem lowB_len (k n : Nat) : (lowB k n).length = k := by
 induction k generalizing n with
 | zero => rfl
 | succ k ih => simp [lowB, ih]
theorem lowB_snoc (k n : Nat) : lowB (k + 1) n = lowB k n ++ [UInt8.ofNat (n / 256 ^ k % 256)] := by
 induction k generalizing n with
 | zero => simp [lowB]
 | succ k ih =>
  rw [lowB, ih (n / 256), lowB, Nat.div_div_eq_div_mul, Nat.pow_succ, Nat.mul_comm 256]
  rfl
theorem lowB_four (n : Nat) : lowB 4 n = [UInt8.ofNat (n % 256), UInt8.ofNat (n / 256 % 256), UInt8.ofNat (n / 65536 % 256), UInt8.ofNat (n / 16777216 % 256)] := by
 simp [lowB, Nat.div_div_eq_div_mul]
abbrev four (n : Nat) : ByteArray := strOf (lowB 4 n)
theorem strOf_len (l : List UInt8) : (strOf l).size = l.length := by show l.toArray.size = _; simp
theorem strOf_add (a b : List UInt8) : strOf (a ++ b) = strOf a ++ strOf b := by
 apply ByteArray.ext
 show (a ++ b).toArray = (strOf a ++ strOf b).data
 rw [ByteArray.data_append]
 simp
theorem strOf_nil (s : ByteArray) : s ++ strOf [] = s := by
 apply ByteArray.ext
 rw [ByteArray.data_append]
 simp
theorem str_assoc (a b c : ByteArray) : a ++ b ++ c = a ++ (b ++ c) := by
 apply ByteArray.ext
 simp only [ByteArray.data_append, Array.append_assoc]
def sealOf (s : ByteArray) : ByteArray := s ++ four (crcOf s)
theorem four_size (n : Nat) : (four n).size = 4 := by rw [strOf_len, lowB_len]
theorem sealOf_size (s : ByteArray) : (sealOf s).size = s.size + 4 := by unfold sealOf; rw [ByteArray.size_append, four_size]
/-- A text without its sum; what is wrong. -/
def openOf (s : ByteArray) : ByteArray × Int := if s.size < 4 then (strOf [], 7) else if sealOf (s.extract 0 (s.size - 4)) = s then (s.extract 0 (s.size - 4), 0) else (strOf [], 15)
theorem open_short {s : ByteArray} (h : s.size < 4) : openOf s = (strOf [], 7) := by unfold openOf; rw [if_pos h]
theorem open_good {s : ByteArray} (h : ¬ s.size < 4) (h2 : sealOf (s.extract 0 (s.size - 4)) = s) : openOf s = (s.extract 0 (s.size - 4), 0) := by unfold openOf; rw [if_neg h, if_pos h2]
theorem open_bad {s : ByteArray} (h : ¬ s.size < 4) (h2 : ¬ sealOf (s.extract 0 (s.size - 4)) = s) : openOf s = (strOf [], 15) := by unfold openOf; rw [if_neg h, if_neg h2]
theorem open_says (s : ByteArray) : ((openOf s).2 = 0 ∧ (openOf s).1.size + 4 = s.size) ∨ openOf s = (strOf [], 7) ∨ openOf s = (strOf [], 15) := by
 by_cases h : s.size < 4
 ·exact .inr (.inl (open_short h))
 ·by_cases h2 : sealOf (s.extract 0 (s.size - 4)) = s
  ·rw [open_good h h2]
   exact .inl ⟨rfl, by simp only [ByteArray.size_extract]; omega⟩
  ·exact .inr (.inr (open_bad h h2))
end Go.Proofs.YtfefpcdgflgaeaaGreatDoor
end
