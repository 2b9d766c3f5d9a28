/- Words of my own for memory: a slice value that reads as a list of cells; how that is kept; lists out of facts for each index. No program in sight.

Numbers in as few bytes as they need, in plain Lean: what a text begins with, and what a number is. No program in sight.

Texts with their lengths ahead, in plain Lean. No program in sight.

Regions that draw their order, whose operations only read what was there and whose callees may make new memory but hand back values that do not lie in it: one walk of the text's order serves every order. The class of worlds: those that stand as w did on all of w's blocks.

slices.Equal over slices of strings and of numbers.

Two structs are equal if all their fields are: the model's test, at the types of this program.

slices.Equal over slices of entries, tokens and writes.

Lists of entries (a replica, a time) in memory; how far a replica is known: vector.Of and VectorOf of the reference.

How far a replica is known: VectorOf of the reference.

Which of two ids is earlier, whether one may be, and whether it is within two vectors: the functions of package ident and of the reference.

What is wrong with a write, its tail as bytes, and a write out of bytes, in plain Lean. No program in sight.

What is wrong with a vector, in plain Lean. No program in sight. -/
import Derived.Below
import Derived.Laws.OwnMore
import Derived.Laws.AppendOwn
import Derived.Deep.Draws
import Derived.Deep.QuietTactic
import Derived.BigQuiet
import Derived.Test.YtlpkpfpmcppciaaGreatDoorProg
import Derived.WalkKit
import Derived.WalkLawsBesides
import Derived.WalkSpells
import Derived.Outline
import Derived.Lib.Hide
import Derived.Laws.StructEq
import Derived.KernelRfl
import Derived.Deep.RegionHeld3
import Derived.StillTailTactics
import Derived.Deep.RegionWith
section
namespace Go.Proofs.YtlpkpfpmcppciaaGreatDoor
open Go.RowKit

instance : LawfulBEq ByteArray where
 eq_of_beq {a b} h := by
  obtain ⟨a⟩ := a
  obtain ⟨b⟩ := b
  have h' : (a == b) = true := h
  rw [eq_of_beq h']
 rfl {a} := by
  show (a.data == a.data) = true
  simp
theorem below_drewN {B : Nat} {a w : World} (h : Below B a w) (n : Nat) : Below B a (w.drewN n) := ⟨h.os, h.tape, h.output, h.size, h.block⟩
theorem retI {k : IntKind} {a b : Int} (h : a = b) : Ending.returned (.int k a) = .returned (.int k b) := by rw [h]
theorem retB {a b : Bool} (h : a = b) : Ending.returned (.bool a) = .returned (.bool b) := by rw [h]
theorem valI {k : IntKind} {a b : Int} (h : a = b) : Value.int k a = .int k b := by rw [h]
theorem cell_lt {w : World} {a : Addr} {v : Value} (h : w.cell? a = some v) : a.block < w.heap.size := by
 rcases Nat.lt_or_ge a.block w.heap.size with h' | h'
 ·exact h'
 ·simp [World.cell?, Array.getElem?_eq_none h'] at h

/-- A slice '.slice A n c' that reads as the cells xs, size cells an element, all in a block below B. -/
def Sl (w : World) (B size : Nat) (A : Option Addr) (n : Nat) (xs : List Value) : Prop :=
 xs.length = n * size ∧ (0 < n → ∃ b o, A = some ⟨b, o, none⟩ ∧ b < B ∧ ∀ j u, xs[j]? = some u → w.cell? ⟨b, o + j, none⟩ = some u)
section
variable {w w' : World} {B B' size n : Nat} {A : Option Addr} {xs : List Value}
theorem Sl.nil : Sl w B size A 0 [] := ⟨by simp, fun h => absurd h (by omega)⟩
theorem Sl.kept (h : Sl w B size A n xs) (hk : ∀ p : Addr, p.block < B → w'.cell? p = w.cell? p) : Sl w' B size A n xs :=
 ⟨h.1, fun hn => by
  obtain ⟨b, o, e, hb, hc⟩ := h.2 hn
  exact ⟨b, o, e, hb, fun j u hu => (hk _ hb).trans (hc j u hu)⟩⟩
theorem Sl.more (h : Sl w B size A n xs) (hB : B ≤ B') : Sl w B' size A n xs :=
 ⟨h.1, fun hn => by
  obtain ⟨b, o, e, hb, hc⟩ := h.2 hn
  exact ⟨b, o, e, by omega, hc⟩⟩
theorem Sl.below (h : Sl w B size A n xs) (hb : Below B w w') : Sl w' B size A n xs := h.kept fun _ hp => hb.cell hp
theorem Sl.drewN (h : Sl w B size A n xs) (k : Nat) : Sl (w.drewN k) B size A n xs := h
theorem Sl.alloc (h : Sl w B size A n xs) (hB : B ≤ w.heap.size) (o : Obj) : Sl (w.alloc o) B size A n xs := h.kept fun p hp => World.cell?_alloc_lt w o p (by omega)
theorem Sl.of_own {base : Nat} {e : TypeId} {c : Nat} (h : w.ownsRow base e size (.slice A n c) n xs) : Sl w w.heap.size size A n xs := by
 refine ⟨h.1, fun hn => ?_⟩
 rcases h.2 with ⟨_, h0⟩ | ⟨g, cap, cur, hv, _, hh, _⟩
 ·omega
 ·have hA : A = some ⟨g, 0, none⟩ := by injection hv
  subst hA
  refine ⟨g, 0, rfl, (Array.getElem?_eq_some_iff.1 hh).1, fun j u hu => ?_⟩
  have := h.cells (g := g) rfl j u hu
  have hadd : (⟨g, 0, none⟩ : Addr).add j = ⟨g, 0 + j, none⟩ := by unfold Addr.add; split <;> simp_all
  rw [hadd] at this
  exact this
end

theorem exists_list {α : Type} (n : Nat) (P : Nat → α → Prop) (h : ∀ i, i < n → ∃ x, P i x) : ∃ l : List α, l.length = n ∧ ∀ i x, l[i]? = some x → P i x := by
 induction n with
 | zero => exact ⟨[], rfl, fun i x hx => by simp at hx⟩
 | succ n ih =>
  obtain ⟨l, hl, hP⟩ := ih fun i hi => h i (by omega)
  obtain ⟨x, hx⟩ := h n (by omega)
  refine ⟨l ++ [x], by simp [hl], fun i y hy => ?_⟩
  rw [List.getElem?_append] at hy
  by_cases hi : i < l.length
  ·rw [if_pos hi] at hy; exact hP i y hy
  ·rw [if_neg hi] at hy
   have : i - l.length = 0 := by
    rcases Nat.eq_zero_or_pos (i - l.length) with h0 | h0
    ·exact h0
    ·rw [List.getElem?_eq_none (by simp; omega)] at hy; cases hy
   rw [this] at hy
   simp at hy
   subst hy
   have : i = n := by omega
   subst this
   exact hx

/-- Cells of a list of things of k cells each. -/
theorem flat_get {α : Type} (f : α → List Value) (k : Nat) (hf : ∀ x, (f x).length = k) (l : List α) (i j : Nat) (x : α) (hx : l[i]? = some x) (hj : j < k) : (l.flatMap f)[i * k + j]? = (f x)[j]? := by
 induction l generalizing i with
 | nil => simp at hx
 | cons y l ih =>
  simp only [List.flatMap_cons]
  cases i with
  | zero =>
   simp at hx
   subst hx
   rw [List.getElem?_append_left (by rw [hf]; omega)]
   simp
  | succ i =>
   simp only [List.getElem?_cons_succ] at hx
   rw [List.getElem?_append_right (by rw [hf, Nat.succ_mul]; omega), hf]
   have : (i + 1) * k + j - k = i * k + j := by rw [Nat.succ_mul]; omega
   rw [this]
   exact ih i hx
theorem flat_len {α : Type} (f : α → List Value) (k : Nat) (hf : ∀ x, (f x).length = k) (l : List α) : (l.flatMap f).length = l.length * k := by
 induction l with
 | nil => simp
 | cons y l ih => simp only [List.flatMap_cons, List.length_append, ih, hf, List.length_cons, Nat.succ_mul]; omega
theorem flat_at {α : Type} (f : α → List Value) (k : Nat) (hf : ∀ x, (f x).length = k) (l : List α) (m : Nat) (u : Value) (hu : (l.flatMap f)[m]? = some u) : ∃ i j x, m = i * k + j ∧ j < k ∧ l[i]? = some x ∧ (f x)[j]? = some u := by
 have hm : m < l.length * k := by
  rcases Nat.lt_or_ge m (l.length * k) with h | h
  ·exact h
  ·rw [List.getElem?_eq_none (by rw [flat_len f k hf]; exact h)] at hu; cases hu
 have hk : 0 < k := by
  rcases Nat.eq_zero_or_pos k with h | h
  ·subst h; omega
  ·exact h
 have hi : m / k < l.length := by rw [Nat.div_lt_iff_lt_mul hk]; exact hm
 have e : m = m / k * k + m % k := by rw [Nat.mul_comm]; exact (Nat.div_add_mod m k).symm
 refine ⟨m / k, m % k, l[m / k], e, Nat.mod_lt _ hk, List.getElem?_eq_getElem hi, ?_⟩
 have h := flat_get f k hf l (m / k) (m % k) _ (List.getElem?_eq_getElem hi) (Nat.mod_lt _ hk)
 rw [← e] at h
 rw [← h]
 exact hu

/-- Element k of a slice whose elements have size cells each. -/
theorem slk_at {α : Type} (f : α → List Value) (size : Nat) (hf : ∀ x, (f x).length = size) {w : World} {B n : Nat} {A : Option Addr} {l : List α} (h : Sl w B size A n (l.flatMap f)) (hl : l.length = n) {k : Nat} (hk : k < n) :
  ∃ b o x, A = some ⟨b, o, none⟩ ∧ b < B ∧ l[k]? = some x ∧ ∀ j u, (f x)[j]? = some u → w.cell? ⟨b, o + k * size + j, none⟩ = some u := by
 obtain ⟨b, o, e, hb, hc⟩ := h.2 (by omega)
 have hx : l[k]? = some l[k] := List.getElem?_eq_getElem (by omega)
 refine ⟨b, o, l[k], e, hb, hx, fun j u hu => ?_⟩
 have hj : j < size := by
  rcases Nat.lt_or_ge j size with h | h
  ·exact h
  ·rw [List.getElem?_eq_none (by rw [hf]; exact h)] at hu; cases hu
 have := flat_get f size hf l k j _ hx hj
 rw [Nat.add_assoc]
 exact hc _ _ (this.trans hu)
theorem slk_len {α : Type} (f : α → List Value) (size : Nat) (h0 : 0 < size) (hf : ∀ x, (f x).length = size) {w : World} {B n : Nat} {A : Option Addr} {l : List α} (h : Sl w B size A n (l.flatMap f)) : l.length = n := by
 have := h.1
 rw [flat_len f size hf] at this
 exact Nat.eq_of_mul_eq_mul_right h0 this
/-- Rows of different element types lie in different blocks. -/
theorem own_ne {w : World} {base base' : Nat} {e e' : TypeId} {size size' n n' : Nat} {v v' : Value} {xs xs' : List Value} (h : w.ownsRow base e size v n xs) (h' : w.ownsRow base' e' size' v' n' xs') (hne : e ≠ e') : v.ownBlock = none ∨ v.ownBlock ≠ v'.ownBlock := by
 rcases h.2 with ⟨rfl, _⟩ | ⟨g, cap, cur, rfl, _, hh, _⟩
 ·exact .inl rfl
 ·rcases h'.2 with ⟨rfl, _⟩ | ⟨g', cap', cur', rfl, _, hh', _⟩
  ·exact .inr (by simp [Value.ownBlock])
  ·refine .inr fun e0 => ?_
   have : g = g' := by simpa [Value.ownBlock] using e0
   subst this
   rw [hh] at hh'
   injection hh' with hh'
   injection hh' with _ ht
   exact hne ht
theorem own_form {w : World} {base : Nat} {e : TypeId} {size n : Nat} {v : Value} {xs : List Value} (h : w.ownsRow base e size v n xs) : ∃ A c, v = .slice A n c := by
 rcases h.2 with ⟨rfl, rfl⟩ | ⟨g, cap, cur, rfl, _⟩
 ·exact ⟨_, _, rfl⟩
 ·exact ⟨_, _, rfl⟩
theorem grown_own {B : Nat} {a w w' : World} {v : Value} {e : TypeId} {size n : Nat} {xs : List Value} (h : Below B a w) (hg : w.grownBy w' v.ownBlock) (hB : B ≤ w.heap.size) (ho : w.ownsRow B e size v n xs) : Below B a w' :=
 h.grown hg hB fun k hk => (ho.lt k hk).1
end Go.Proofs.YtlpkpfpmcppciaaGreatDoor
end

section
namespace Go.Proofs.YtlpkpfpmcppciaaGreatDoor
/-- What bytes come to, the lowest first, seven bits of each. -/
def vval : List UInt8 → Nat
 | [] => 0
 | b :: l => b.toNat % 128 + 128 * vval l
/-- From byte i on. -/
def vgo (l : List UInt8) : List UInt8 → Nat → Nat × Nat × Int
 | [], _ => (0, 0, 7)
 | b :: r, i => if i = 9 ∧ 1 < b.toNat then (0, 0, 4) else if b.toNat = 0 ∧ 0 < i then (0, 0, 3) else if b.toNat < 128 then (vval (l.take (i + 1)), i + 1, 0) else vgo l r (i + 1)
/-- The number that bytes begin with, how many bytes it has, what is wrong. -/
def vget (l : List UInt8) : Nat × Nat × Int := vgo l l 0
def VG (l : List UInt8) (k : Nat) : Prop := vget l = vgo l (l.drop k) k ∧ k ≤ 9 ∧ k ≤ l.length
theorem VG.zero (l : List UInt8) : VG l 0 := ⟨rfl, by omega, by omega⟩
theorem dropc {α : Type} {l : List α} {k : Nat} (hk : k < l.length) : l.drop k = l[k] :: l.drop (k + 1) := List.drop_eq_getElem_cons hk
theorem VG.out {l : List UInt8} {k : Nat} (h : VG l k) (hk : l.length ≤ k) : vget l = (0, 0, 7) := by
 rw [h.1, List.drop_eq_nil_of_le hk]; rfl
theorem VG.succ {l : List UInt8} {k : Nat} (h : VG l k) (hk : k < l.length) (h9 : ¬ (k = 9 ∧ 1 < l[k].toNat)) (hb : ¬ l[k].toNat < 128) : VG l (k + 1) := by
 refine ⟨?_, by have := h.2.1; omega, by omega⟩
 rw [h.1, dropc hk]; simp only [vgo]; rw [if_neg h9, if_neg (by omega), if_neg hb]
end Go.Proofs.YtlpkpfpmcppciaaGreatDoor
end

section
namespace Go.Proofs.YtlpkpfpmcppciaaGreatDoor
abbrev strOf (l : List UInt8) : ByteArray := ⟨l.toArray⟩
end Go.Proofs.YtlpkpfpmcppciaaGreatDoor
end

section
namespace Go.Proofs.YtlpkpfpmcppciaaGreatDoor
open Go.RowKit

/-- A world that is as w was on all of w's blocks. -/
def Inv (w : World) : Type := { x : World // Below w.heap.size w x }
instance (w : World) : Nonempty (Inv w) := ⟨⟨w, Below.refl _ _⟩⟩
def Inv.w {w : World} (x : Inv w) : World := x.1
theorem Inv.below {w : World} (x : Inv w) : Below w.heap.size w x.w := x.2
theorem Inv.size {w : World} (x : Inv w) : w.heap.size ≤ x.w.heap.size := x.2.size
theorem Inv.cell {w : World} {a : Addr} {v : Value} (h : w.cell? a = some v) : ∀ x : Inv w, x.w.cell? a = some v := fun x => (x.below.cell (cell_lt h)).trans h
theorem wp_region_inv {P : Program} {id : Nat} {Q : Exit → Act → World → Prop} {a : Act} {w : World} {l : List Oper} (hm : P.follows .mixedOrders = true) (hB : Region.lexB .any l.toArray = true)
  (h : wpQuiet P l.toArray (fun w' => ∃ x : Inv w, w' = x.w) (fun a' => ∀ w', (∃ x : Inv w, w' = x.w) → Q .normal a' w') l a) : (Code.region id l.toArray true).wp P Q a w :=
 wp_region_quiet (C := fun w' => ∃ x : Inv w, w' = x.w) hm hB ⟨⟨_, (Below.refl _ w).drew⟩, rfl⟩ (by simpa using h)
theorem Calls.inv_of {P : Program} {f : FuncId} {args : Array Value} {w : World} {x : Inv w} {v : Value}
  (h : Calls P f args x.w fun e w' => e = .returned v ∧ Below x.w.heap.size x.w w') : Calls P f args x.w fun e w'' => e = .returned v ∧ ∃ y : Inv w, w'' = y.w :=
 h.mono fun _ w' ⟨he, hb⟩ => ⟨he, ⟨w', x.below.trans (hb.mono x.size)⟩, rfl⟩
theorem Calls.inv_same {P : Program} {f : FuncId} {args : Array Value} {w : World} {x : Inv w} {v : Value}
  (h : Calls P f args x.w fun e w' => e = .returned v ∧ x.w = w') : Calls P f args x.w fun e w'' => e = .returned v ∧ ∃ y : Inv w, w'' = y.w :=
 h.mono fun _ _ ⟨he, hb⟩ => ⟨he, x, hb.symm⟩
end Go.Proofs.YtlpkpfpmcppciaaGreatDoor
end

section
namespace Go.Proofs.YtlpkpfpmcppciaaGreatDoor
open Go.RowKit
theorem toList_ne {x y : ByteArray} (h : ¬ x = y) : (!(x.toList == y.toList)) = true := by
 have e : (x.toList == y.toList) = false := by
  rw [beq_eq_false_iff_ne, ByteArray.toList_eq, ByteArray.toList_eq]
  intro e
  apply h
  obtain ⟨⟨a⟩⟩ := x
  obtain ⟨⟨b⟩⟩ := y
  simp at e
  rw [e]
 rw [e]
 rfl
/-- A slice of strings, of numbers, in memory. -/
abbrev Strs (w : World) (A : Option Addr) (n : Nat) (l : List ByteArray) : Prop := Sl w w.heap.size 1 A n (l.flatMap fun x => [Value.string x])
abbrev Ints (w : World) (A : Option Addr) (n : Nat) (l : List Int) : Prop := Sl w w.heap.size 1 A n (l.flatMap fun x => [Value.int .i64 x])
/-- Element k of a slice whose elements have one cell each. -/
theorem sl1_at {α : Type} (f : α → Value) {w : World} {B n : Nat} {A : Option Addr} {l : List α} (h : Sl w B 1 A n (l.flatMap fun x => [f x])) (hl : l.length = n) {k : Nat} (hk : k < n) :
  ∃ b o x, A = some ⟨b, o, none⟩ ∧ b < B ∧ l[k]? = some x ∧ w.cell? ⟨b, o + k, none⟩ = some (f x) := by
 obtain ⟨b, o, e, hb, hc⟩ := h.2 (by omega)
 have hx : l[k]? = some l[k] := List.getElem?_eq_getElem (by omega)
 refine ⟨b, o, l[k], e, hb, hx, hc k _ ?_⟩
 have := flat_get (fun x => [f x]) 1 (fun _ => rfl) l k 0 _ hx (by omega)
 simpa using this
theorem sl1_len {α : Type} (f : α → Value) {w : World} {B n : Nat} {A : Option Addr} {l : List α} (h : Sl w B 1 A n (l.flatMap fun x => [f x])) : l.length = n := by
 have := h.1; rw [flat_len _ 1 (fun _ => rfl)] at this; omega
theorem flat_map {α : Type} (f : α → Value) (l : List α) : (l.flatMap fun x => [f x]) = l.map f := by induction l <;> simp_all
theorem Strs.of_own {w : World} {base : Nat} {e : TypeId} {A : Option Addr} {n c : Nat} {l : List ByteArray} (h : w.ownsRow base e 1 (.slice A n c) n (l.map Value.string)) : Strs w A n l := by
 have := Sl.of_own h
 rw [← flat_map] at this
 exact this
theorem Ints.of_own {w : World} {base : Nat} {e : TypeId} {A : Option Addr} {n c : Nat} {l : List Int} (h : w.ownsRow base e 1 (.slice A n c) n (l.map (Value.int .i64))) : Ints w A n l := by
 have := Sl.of_own h
 rw [← flat_map] at this
 exact this
theorem Sl.grow {w w' : World} {size n : Nat} {A : Option Addr} {xs : List Value} (h : Sl w w.heap.size size A n xs) (hb : Below w.heap.size w w') : Sl w' w'.heap.size size A n xs := (h.below hb).more hb.size
/-- Alike so far. -/
def Alike {α : Type} (l l' : List α) (k : Nat) : Prop := ∀ j, j < k → l[j]? = l'[j]?
theorem Alike.succ {α : Type} {l l' : List α} {k : Nat} {x : α} (h : Alike l l' k) (h1 : l[k]? = some x) (h2 : l'[k]? = some x) : Alike l l' (k + 1) := by
 intro j hj
 by_cases e : j = k
 ·subst e; rw [h1, h2]
 ·exact h j (by omega)
theorem Alike.all {α : Type} {l l' : List α} {n : Nat} (h : Alike l l' n) (h1 : l.length = n) (h2 : l'.length = n) : l = l' := by
 apply List.ext_getElem?
 intro j
 by_cases hj : j < n
 ·exact h j hj
 ·rw [List.getElem?_eq_none (by omega), List.getElem?_eq_none (by omega)]
theorem unlike {α : Type} {l l' : List α} {k : Nat} {x y : α} (h1 : l[k]? = some x) (h2 : l'[k]? = some y) (h : x ≠ y) : ¬ l = l' := by
 rintro rfl; rw [h1] at h2; injection h2 with h2; exact h h2
theorem bool_no {p : Prop} [Decidable p] (h : ¬ p) : Ending.returned (.bool false) = .returned (.bool (decide p)) := by rw [decide_eq_false h]
theorem bool_yes {p : Prop} [Decidable p] (h : p) : Ending.returned (.bool true) = .returned (.bool (decide p)) := by rw [decide_eq_true h]

end Go.Proofs.YtlpkpfpmcppciaaGreatDoor
end

section
namespace Go.Proofs.YtlpkpfpmcppciaaGreatDoor
open Go.RowKit
/-- Fields by name, type and offset alone. -/
def eqF (P : Program) (d : Nat) (xs ys : Array Value) : List (String × TypeId × Nat) → Sem Bool
 | [] => pure true
 | f :: fs =>
  if f.1 ≠ "_" then do
   let a ← part f.2.1 xs f.2.2
   let b ← part f.2.1 ys f.2.2
   let r ← Op.equalIn d f.2.1 a b
   if (!r) = true then pure false else eqF P d xs ys fs
  else eqF P d xs ys fs
theorem eqFields_eq (P : Program) (d : Nat) (xs ys : Array Value) (fs : List Field) : Op.eqFields d xs ys fs = eqF P d xs ys (fs.map fun f => (f.name, f.type, f.offset)) := by
 induction fs with
 | nil => rfl
 | cons f fs ih => simp only [Op.eqFields, List.map_cons, eqF, ih]
theorem beq_str (s t : ByteArray) : (s.toList == t.toList) = decide (s = t) := by
 by_cases h : s = t
 ·subst h; simp
 ·have e := toList_ne h
  rw [decide_eq_false h]
  simpa using e
theorem entFields : (Tryz.prog.fieldsOf 73).toList.map (fun f => (f.name, f.type, f.offset)) = [("Replica", 3, 0), ("Time", 3, 1)] := by kernel_rfl
@[go_sem] theorem eqEnt (d : Nat) (r t r' t' : Int) (w : World) : (Op.equalIn (d + 2) 73 (.agg #[.int .i64 r, .int .i64 t]) (.agg #[.int .i64 r', .int .i64 t'])).run Tryz.prog w = .ok (decide ((r, t) = (r', t'))) w := by
 rw [run_equalIn_agg w (d + 1) _ _ _ (by kernel_rfl) (by kernel_rfl), eqFields_eq Tryz.prog, entFields]
 by_cases h1 : r = r' <;> by_cases h2 : t = t' <;> simp [eqF, go_sem, h1, h2]
theorem idFields : (Tryz.prog.fieldsOf 30).toList.map (fun f => (f.name, f.type, f.offset)) = [("Time", 3, 0), ("Replica", 3, 1)] := by kernel_rfl
@[go_sem] theorem eqId (d : Nat) (r t r' t' : Int) (w : World) : (Op.equalIn (d + 2) 30 (.agg #[.int .i64 r, .int .i64 t]) (.agg #[.int .i64 r', .int .i64 t'])).run Tryz.prog w = .ok (decide ((r, t) = (r', t'))) w := by
 rw [run_equalIn_agg w (d + 1) _ _ _ (by kernel_rfl) (by kernel_rfl), eqFields_eq Tryz.prog, idFields]
 by_cases h1 : r = r' <;> by_cases h2 : t = t' <;> simp [eqF, go_sem, h1, h2]
theorem wrFields : (Tryz.prog.fieldsOf 32).toList.map (fun f => (f.name, f.type, f.offset)) = [("Id", 30, 0), ("Kind", 3, 2), ("Key", 9, 3), ("Value", 9, 4), ("N", 3, 5)] := by kernel_rfl
@[go_sem] theorem eqWr (d : Nat) (a b c a' b' c' n n' : Int) (s t s' t' : ByteArray) (w : World) : (Op.equalIn (d + 3) 32 (.agg #[.int .i64 a, .int .i64 b, .int .i64 c, .string s, .string t, .int .i64 n]) (.agg #[.int .i64 a', .int .i64 b', .int .i64 c', .string s', .string t', .int .i64 n'])).run Tryz.prog w = .ok (decide ((a, b, c, s, t, n) = (a', b', c', s', t', n'))) w := by
 rw [run_equalIn_agg w (d + 2) _ _ _ (by kernel_rfl) (by kernel_rfl), eqFields_eq Tryz.prog, wrFields]
 by_cases h0 : a = a'
 ·by_cases h1 : b = b'
  ·by_cases h2 : c = c'
   ·by_cases h3 : s = s'
    ·by_cases h4 : t = t'
     ·by_cases h5 : n = n' <;> simp [eqF, go_sem, h0, h1, h2, h3, h4, h5]
     ·simp [eqF, go_sem, beq_str, h0, h1, h2, h3, h4]
    ·simp [eqF, go_sem, beq_str, h0, h1, h2, h3]
   ·simp [eqF, go_sem, h0, h1, h2]
  ·simp [eqF, go_sem, h0, h1]
 ·simp [eqF, go_sem, h0]
theorem eqEnt_no {a1 a2 b1 b2 : Int} (h : ¬ (a1, a2) = (b1, b2)) (w : World) : (Op.equalIn 10000 73 (.agg #[.int .i64 a1, .int .i64 a2]) (.agg #[.int .i64 b1, .int .i64 b2])).run Tryz.prog w = .ok false w :=
 (eqEnt 9998 a1 a2 b1 b2 w).trans (by rw [decide_eq_false h])
theorem eqWr_no {a1 a2 a3 a6 b1 b2 b3 b6 : Int} {a4 a5 b4 b5 : ByteArray} (h : ¬ (a1, a2, a3, a4, a5, a6) = (b1, b2, b3, b4, b5, b6)) (w : World) : (Op.equalIn 10000 32 (.agg #[.int .i64 a1, .int .i64 a2, .int .i64 a3, .string a4, .string a5, .int .i64 a6]) (.agg #[.int .i64 b1, .int .i64 b2, .int .i64 b3, .string b4, .string b5, .int .i64 b6])).run Tryz.prog w = .ok false w :=
 (eqWr 9997 a1 a2 a3 b1 b2 b3 a6 b6 a4 a5 b4 b5 w).trans (by rw [decide_eq_false h])
end Go.Proofs.YtlpkpfpmcppciaaGreatDoor
end

section
namespace Go.Proofs.YtlpkpfpmcppciaaGreatDoor
open Go.RowKit
abbrev Wr := Int × Int × Int × ByteArray × ByteArray × Int
def wrCells (x : Wr) : List Value := [.int .i64 x.1, .int .i64 x.2.1, .int .i64 x.2.2.1, .string x.2.2.2.1, .string x.2.2.2.2.1, .int .i64 x.2.2.2.2.2]
abbrev Ent := Int × Int
def entCells (x : Ent) : List Value := [.int .i64 x.1, .int .i64 x.2]
theorem equal_ents (n n' c c' : Nat) (A A' : Option Addr) (l l' : List Ent) (w : World) (h : Sl w w.heap.size 2 A n (l.flatMap entCells)) (h' : Sl w w.heap.size 2 A' n' (l'.flatMap entCells)) (hn : n ≤ maxLen) (hn' : n' ≤ maxLen) :
  Calls Tryz.prog 23 #[.slice A n c, .slice A' n' c'] w fun e w' => e = .returned (.bool (decide (l = l'))) ∧ ∃ q, w' = w.drewN q := by
 unfold maxLen at hn hn'
 have hl := slk_len entCells 2 (by omega) (fun _ => rfl) h
 have hl' := slk_len entCells 2 (by omega) (fun _ => rfl) h'
 by_cases hne : n = n'
 ·subst hne
  have hL := Lib.hid hl
  have hL' := Lib.hid hl'
  clear hl hl'
  go_enter Tryz.func23, Tryz.ntmps23
  go_wp2
  go_loopw [5, 13] (fun _ i wr => (∃ k : Nat, k ≤ n ∧ i = .int .i64 k ∧ Alike l l' k) ∧ ∃ q, wr = w.drewN q) (fun _ i _ => n - (intOf i).toNat)
  case atStart => exact ⟨⟨0, by omega, rfl, fun j hj => by omega⟩, 0, rfl⟩
  case round =>
   obtain ⟨⟨k, hk, rfl, hall⟩, q, rfl⟩ := hrel
   by_cases hlt : k < n
   ·obtain ⟨b, o, x, rfl, hb, hx, hc⟩ := slk_at entCells 2 (fun _ => rfl) h hL.out hlt
    obtain ⟨b', o', y, rfl, hb', hy, hc'⟩ := slk_at entCells 2 (fun _ => rfl) h' hL'.out hlt
    obtain ⟨a1, a2⟩ := x
    obtain ⟨b1, b2⟩ := y
    have c0 := hc 0 _ rfl
    have e0 := hc' 0 _ rfl
    have c1 := hc 1 _ rfl
    have e1 := hc' 1 _ rfl
    simp only [Nat.add_zero] at c0 e0
    clear hc hc' h h'
    have hkn : (k : Int) < (n : Int) := by omega
    have hX := Lib.hid hx
    have hY := Lib.hid hy
    clear hx hy
    by_cases hxy : ((a1, a2) : Ent) = (b1, b2)
    ·simp only [Prod.mk.injEq] at hxy
     obtain ⟨rfl, rfl⟩ := hxy
     go_wp2_with fail
     go_quiet (fail)
     go_wp2
     go_roundw
     case rel => exact ⟨⟨k + 1, by omega, by go_num, hall.succ hX.out hY.out⟩, q + nq, by first | rfl | rw [World.drewN_drewN]⟩
     case measure => simp [intOf]; omega
    ·have hd := Lib.hid (unlike hX.out hY.out hxy)
     have hdec : ∀ w : World, (Op.equalIn 10000 73 (.agg #[.int .i64 a1, .int .i64 a2]) (.agg #[.int .i64 b1, .int .i64 b2])).run Tryz.prog w = .ok false w := fun w => by
      exact eqEnt_no hxy w
     clear hxy
     go_wp2_with fail
     go_quiet (fail)
     go_wp2
     go_ret
     exact ⟨bool_no hd.out, q + nq, by first | rfl | rw [World.drewN_drewN]⟩
   ·obtain rfl : k = n := by omega
    go_wp2_with fail
    go_ret
    exact ⟨bool_yes (hall.all hL.out hL'.out), q, rfl⟩
 ·have hne' : ((n : Int) != (n' : Int)) = true := by rw [bne_iff_ne]; omega
  have hd := Lib.hid (fun e : l = l' => hne (by rw [← hl, ← hl', e]))
  go_enter Tryz.func23, Tryz.ntmps23
  go_wp2
  go_ret
  exact ⟨bool_no hd.out, 0, rfl⟩
theorem equal_wrs (n n' c c' : Nat) (A A' : Option Addr) (l l' : List Wr) (w : World) (h : Sl w w.heap.size 6 A n (l.flatMap wrCells)) (h' : Sl w w.heap.size 6 A' n' (l'.flatMap wrCells)) (hn : n ≤ maxLen) (hn' : n' ≤ maxLen) :
  Calls Tryz.prog 25 #[.slice A n c, .slice A' n' c'] w fun e w' => e = .returned (.bool (decide (l = l'))) ∧ ∃ q, w' = w.drewN q := by
 unfold maxLen at hn hn'
 have hl := slk_len wrCells 6 (by omega) (fun _ => rfl) h
 have hl' := slk_len wrCells 6 (by omega) (fun _ => rfl) h'
 by_cases hne : n = n'
 ·subst hne
  have hL := Lib.hid hl
  have hL' := Lib.hid hl'
  clear hl hl'
  go_enter Tryz.func25, Tryz.ntmps25
  go_wp2
  go_loopw [5, 13] (fun _ i wr => (∃ k : Nat, k ≤ n ∧ i = .int .i64 k ∧ Alike l l' k) ∧ ∃ q, wr = w.drewN q) (fun _ i _ => n - (intOf i).toNat)
  case atStart => exact ⟨⟨0, by omega, rfl, fun j hj => by omega⟩, 0, rfl⟩
  case round =>
   obtain ⟨⟨k, hk, rfl, hall⟩, q, rfl⟩ := hrel
   by_cases hlt : k < n
   ·obtain ⟨b, o, x, rfl, hb, hx, hc⟩ := slk_at wrCells 6 (fun _ => rfl) h hL.out hlt
    obtain ⟨b', o', y, rfl, hb', hy, hc'⟩ := slk_at wrCells 6 (fun _ => rfl) h' hL'.out hlt
    obtain ⟨a1, a2, a3, a4, a5, a6⟩ := x
    obtain ⟨b1, b2, b3, b4, b5, b6⟩ := y
    have c0 := hc 0 _ rfl
    have e0 := hc' 0 _ rfl
    have c1 := hc 1 _ rfl
    have e1 := hc' 1 _ rfl
    have c2 := hc 2 _ rfl
    have e2 := hc' 2 _ rfl
    have c3 := hc 3 _ rfl
    have e3 := hc' 3 _ rfl
    have c4 := hc 4 _ rfl
    have e4 := hc' 4 _ rfl
    have c5 := hc 5 _ rfl
    have e5 := hc' 5 _ rfl
    simp only [Nat.add_zero] at c0 e0
    clear hc hc' h h'
    have hkn : (k : Int) < (n : Int) := by omega
    have hX := Lib.hid hx
    have hY := Lib.hid hy
    clear hx hy
    by_cases hxy : ((a1, a2, a3, a4, a5, a6) : Wr) = (b1, b2, b3, b4, b5, b6)
    ·simp only [Prod.mk.injEq] at hxy
     obtain ⟨rfl, rfl, rfl, rfl, rfl, rfl⟩ := hxy
     go_wp2_with fail
     go_quiet (fail)
     go_wp2
     go_roundw
     case rel => exact ⟨⟨k + 1, by omega, by go_num, hall.succ hX.out hY.out⟩, q + nq, by first | rfl | rw [World.drewN_drewN]⟩
     case measure => simp [intOf]; omega
    ·have hd := Lib.hid (unlike hX.out hY.out hxy)
     have hdec : ∀ w : World, (Op.equalIn 10000 32 (.agg #[.int .i64 a1, .int .i64 a2, .int .i64 a3, .string a4, .string a5, .int .i64 a6]) (.agg #[.int .i64 b1, .int .i64 b2, .int .i64 b3, .string b4, .string b5, .int .i64 b6])).run Tryz.prog w = .ok false w := fun w => by
      exact eqWr_no hxy w
     clear hxy
     go_wp2_with fail
     go_quiet (fail)
     go_wp2
     go_ret
     exact ⟨bool_no hd.out, q + nq, by first | rfl | rw [World.drewN_drewN]⟩
   ·obtain rfl : k = n := by omega
    go_wp2_with fail
    go_ret
    exact ⟨bool_yes (hall.all hL.out hL'.out), q, rfl⟩
 ·have hne' : ((n : Int) != (n' : Int)) = true := by rw [bne_iff_ne]; omega
  have hd := Lib.hid (fun e : l = l' => hne (by rw [← hl, ← hl', e]))
  go_enter Tryz.func25, Tryz.ntmps25
  go_wp2
  go_ret
  exact ⟨bool_no hd.out, 0, rfl⟩
theorem same_ents (n n' c c' : Nat) (A A' : Option Addr) (l l' : List Ent) (w : World) (h : Sl w w.heap.size 2 A n (l.flatMap entCells)) (h' : Sl w w.heap.size 2 A' n' (l'.flatMap entCells)) (hn : n ≤ maxLen) (hn' : n' ≤ maxLen) :
  Calls Tryz.prog 65 #[.slice A n c, .slice A' n' c'] w fun e w' => e = .returned (.bool (decide (l = l'))) ∧ ∃ q, w' = w.drewN q := by
 unfold maxLen at hn hn'
 have hl := slk_len entCells 2 (by omega) (fun _ => rfl) h
 have hl' := slk_len entCells 2 (by omega) (fun _ => rfl) h'
 by_cases hne : n = n'
 ·subst hne
  have hL := Lib.hid hl
  have hL' := Lib.hid hl'
  clear hl hl'
  go_enter Tryz.func65, Tryz.ntmps65
  go_wp2
  go_loopw [5, 13] (fun _ i wr => (∃ k : Nat, k ≤ n ∧ i = .int .i64 k ∧ Alike l l' k) ∧ ∃ q, wr = w.drewN q) (fun _ i _ => n - (intOf i).toNat)
  case atStart => exact ⟨⟨0, by omega, rfl, fun j hj => by omega⟩, 0, rfl⟩
  case round =>
   obtain ⟨⟨k, hk, rfl, hall⟩, q, rfl⟩ := hrel
   by_cases hlt : k < n
   ·obtain ⟨b, o, x, rfl, hb, hx, hc⟩ := slk_at entCells 2 (fun _ => rfl) h hL.out hlt
    obtain ⟨b', o', y, rfl, hb', hy, hc'⟩ := slk_at entCells 2 (fun _ => rfl) h' hL'.out hlt
    obtain ⟨a1, a2⟩ := x
    obtain ⟨b1, b2⟩ := y
    have c0 := hc 0 _ rfl
    have e0 := hc' 0 _ rfl
    have c1 := hc 1 _ rfl
    have e1 := hc' 1 _ rfl
    simp only [Nat.add_zero] at c0 e0
    clear hc hc' h h'
    have hkn : (k : Int) < (n : Int) := by omega
    have hX := Lib.hid hx
    have hY := Lib.hid hy
    clear hx hy
    by_cases hxy : ((a1, a2) : Ent) = (b1, b2)
    ·simp only [Prod.mk.injEq] at hxy
     obtain ⟨rfl, rfl⟩ := hxy
     go_wp2_with fail
     go_quiet (fail)
     go_wp2
     go_roundw
     case rel => exact ⟨⟨k + 1, by omega, by go_num, hall.succ hX.out hY.out⟩, q + nq, by first | rfl | rw [World.drewN_drewN]⟩
     case measure => simp [intOf]; omega
    ·have hd := Lib.hid (unlike hX.out hY.out hxy)
     have hdec : ∀ w : World, (Op.equalIn 10000 73 (.agg #[.int .i64 a1, .int .i64 a2]) (.agg #[.int .i64 b1, .int .i64 b2])).run Tryz.prog w = .ok false w := fun w => by
      exact eqEnt_no hxy w
     clear hxy
     go_wp2_with fail
     go_quiet (fail)
     go_wp2
     go_ret
     exact ⟨bool_no hd.out, q + nq, by first | rfl | rw [World.drewN_drewN]⟩
   ·obtain rfl : k = n := by omega
    go_wp2_with fail
    go_ret
    exact ⟨bool_yes (hall.all hL.out hL'.out), q, rfl⟩
 ·have hne' : ((n : Int) != (n' : Int)) = true := by rw [bne_iff_ne]; omega
  have hd := Lib.hid (fun e : l = l' => hne (by rw [← hl, ← hl', e]))
  go_enter Tryz.func65, Tryz.ntmps65
  go_wp2
  go_ret
  exact ⟨bool_no hd.out, 0, rfl⟩
theorem same_wrs (n n' c c' : Nat) (A A' : Option Addr) (l l' : List Wr) (w : World) (h : Sl w w.heap.size 6 A n (l.flatMap wrCells)) (h' : Sl w w.heap.size 6 A' n' (l'.flatMap wrCells)) (hn : n ≤ maxLen) (hn' : n' ≤ maxLen) :
  Calls Tryz.prog 66 #[.slice A n c, .slice A' n' c'] w fun e w' => e = .returned (.bool (decide (l = l'))) ∧ ∃ q, w' = w.drewN q := by
 unfold maxLen at hn hn'
 have hl := slk_len wrCells 6 (by omega) (fun _ => rfl) h
 have hl' := slk_len wrCells 6 (by omega) (fun _ => rfl) h'
 by_cases hne : n = n'
 ·subst hne
  have hL := Lib.hid hl
  have hL' := Lib.hid hl'
  clear hl hl'
  go_enter Tryz.func66, Tryz.ntmps66
  go_wp2
  go_loopw [5, 13] (fun _ i wr => (∃ k : Nat, k ≤ n ∧ i = .int .i64 k ∧ Alike l l' k) ∧ ∃ q, wr = w.drewN q) (fun _ i _ => n - (intOf i).toNat)
  case atStart => exact ⟨⟨0, by omega, rfl, fun j hj => by omega⟩, 0, rfl⟩
  case round =>
   obtain ⟨⟨k, hk, rfl, hall⟩, q, rfl⟩ := hrel
   by_cases hlt : k < n
   ·obtain ⟨b, o, x, rfl, hb, hx, hc⟩ := slk_at wrCells 6 (fun _ => rfl) h hL.out hlt
    obtain ⟨b', o', y, rfl, hb', hy, hc'⟩ := slk_at wrCells 6 (fun _ => rfl) h' hL'.out hlt
    obtain ⟨a1, a2, a3, a4, a5, a6⟩ := x
    obtain ⟨b1, b2, b3, b4, b5, b6⟩ := y
    have c0 := hc 0 _ rfl
    have e0 := hc' 0 _ rfl
    have c1 := hc 1 _ rfl
    have e1 := hc' 1 _ rfl
    have c2 := hc 2 _ rfl
    have e2 := hc' 2 _ rfl
    have c3 := hc 3 _ rfl
    have e3 := hc' 3 _ rfl
    have c4 := hc 4 _ rfl
    have e4 := hc' 4 _ rfl
    have c5 := hc 5 _ rfl
    have e5 := hc' 5 _ rfl
    simp only [Nat.add_zero] at c0 e0
    clear hc hc' h h'
    have hkn : (k : Int) < (n : Int) := by omega
    have hX := Lib.hid hx
    have hY := Lib.hid hy
    clear hx hy
    by_cases hxy : ((a1, a2, a3, a4, a5, a6) : Wr) = (b1, b2, b3, b4, b5, b6)
    ·simp only [Prod.mk.injEq] at hxy
     obtain ⟨rfl, rfl, rfl, rfl, rfl, rfl⟩ := hxy
     go_wp2_with fail
     go_quiet (fail)
     go_wp2
     go_roundw
     case rel => exact ⟨⟨k + 1, by omega, by go_num, hall.succ hX.out hY.out⟩, q + nq, by first | rfl | rw [World.drewN_drewN]⟩
     case measure => simp [intOf]; omega
    ·have hd := Lib.hid (unlike hX.out hY.out hxy)
     have hdec : ∀ w : World, (Op.equalIn 10000 32 (.agg #[.int .i64 a1, .int .i64 a2, .int .i64 a3, .string a4, .string a5, .int .i64 a6]) (.agg #[.int .i64 b1, .int .i64 b2, .int .i64 b3, .string b4, .string b5, .int .i64 b6])).run Tryz.prog w = .ok false w := fun w => by
      exact eqWr_no hxy w
     clear hxy
     go_wp2_with fail
     go_quiet (fail)
     go_wp2
     go_ret
     exact ⟨bool_no hd.out, q + nq, by first | rfl | rw [World.drewN_drewN]⟩
   ·obtain rfl : k = n := by omega
    go_wp2_with fail
    go_ret
    exact ⟨bool_yes (hall.all hL.out hL'.out), q, rfl⟩
 ·have hne' : ((n : Int) != (n' : Int)) = true := by rw [bne_iff_ne]; omega
  have hd := Lib.hid (fun e : l = l' => hne (by rw [← hl, ← hl', e]))
  go_enter Tryz.func66, Tryz.ntmps66
  go_wp2
  go_ret
  exact ⟨bool_no hd.out, 0, rfl⟩
end Go.Proofs.YtlpkpfpmcppciaaGreatDoor
end

section
namespace Go.Proofs.YtlpkpfpmcppciaaGreatDoor
open Go.RowKit

theorem entCells_len (x : Ent) : (entCells x).length = 2 := rfl
/-- Fits its kind. -/
def entFits (x : Ent) : Prop := (-9223372036854775808 ≤ x.1 ∧ x.1 ≤ 9223372036854775807) ∧ (-9223372036854775808 ≤ x.2 ∧ x.2 ≤ 9223372036854775807)
/-- The slice value of n entries reads as l. -/
def Ents (w : World) (B : Nat) (A : Option Addr) (n : Nat) (l : List Ent) : Prop := Sl w B 2 A n (l.flatMap entCells) ∧ ∀ x ∈ l, entFits x
theorem Ents.len {w : World} {B n : Nat} {A : Option Addr} {l : List Ent} (h : Ents w B A n l) : l.length = n := by
 have := h.1.1; rw [flat_len _ 2 entCells_len] at this; omega
theorem Ents.at_ {w : World} {B n : Nat} {A : Option Addr} {l : List Ent} (h : Ents w B A n l) {k : Nat} (hk : k < n) :
  ∃ b o r t, A = some ⟨b, o, none⟩ ∧ b < B ∧ l[k]? = some (r, t) ∧ entFits (r, t) ∧ w.cell? ⟨b, o + k * 2, none⟩ = some (.int .i64 r) ∧ w.cell? ⟨b, o + k * 2 + 1, none⟩ = some (.int .i64 t) := by
 obtain ⟨b, o, e, hb, hc⟩ := h.1.2 (by omega)
 have hl := h.len
 have hx : l[k]? = some l[k] := List.getElem?_eq_getElem (by omega)
 refine ⟨b, o, l[k].1, l[k].2, e, hb, hx, h.2 _ (List.getElem_mem _), ?_, ?_⟩
 ·have := flat_get entCells 2 entCells_len l k 0 _ hx (by omega)
  exact hc (k * 2 + 0) _ this
 ·have := flat_get entCells 2 entCells_len l k 1 _ hx (by omega)
  exact hc (k * 2 + 1) _ this
theorem Ents.below {w w' : World} {B n : Nat} {A : Option Addr} {l : List Ent} (h : Ents w B A n l) (hb : Below B w w') : Ents w' B A n l := ⟨h.1.below hb, h.2⟩

theorem Ents.more {w : World} {B B' n : Nat} {A : Option Addr} {l : List Ent} (h : Ents w B A n l) (hB : B ≤ B') : Ents w B' A n l := ⟨h.1.more hB, h.2⟩
theorem Ents.grow {w w' : World} {n : Nat} {A : Option Addr} {l : List Ent} (h : Ents w w.heap.size A n l) (hb : Below w.heap.size w w') : Ents w' w'.heap.size A n l := (h.below hb).more hb.size
theorem Ents.inv {w W : World} {n : Nat} {A : Option Addr} {l : List Ent} (h : Ents w w.heap.size A n l) (hb : Below w.heap.size w W) (x : Inv W) : Ents x.w x.w.heap.size A n l := (h.grow hb).grow x.below
/-- How far a replica is known. -/
def vof : List Ent → Int → Int
 | [], _ => 0
 | (r, t) :: l, x => if r = x then t else vof l x
theorem vof_hit (l : List Ent) (x : Int) (k : Nat) (t : Int) (h : ∀ (j : Nat) (y : Ent), j < k → l[j]? = some y → y.1 ≠ x) (hk : l[k]? = some (x, t)) : vof l x = t := by
 induction l generalizing k with
 | nil => simp at hk
 | cons y l ih =>
  obtain ⟨r, t'⟩ := y
  cases k with
  | zero => simp at hk; obtain ⟨rfl, rfl⟩ := hk; simp [vof]
  | succ k =>
   have h0 := h 0 (r, t') (by omega) (by simp)
   simp only [vof]
   rw [if_neg h0]
   exact ih k (fun j y hj hy => h (j + 1) y (by omega) (by simpa using hy)) (by simpa using hk)
theorem vof_miss (l : List Ent) (x : Int) (h : ∀ (j : Nat) (y : Ent), l[j]? = some y → y.1 ≠ x) : vof l x = 0 := by
 induction l with
 | nil => rfl
 | cons y l ih =>
  obtain ⟨r, t'⟩ := y
  have h0 := h 0 (r, t') (by simp)
  simp only [vof]
  rw [if_neg h0]
  exact ih fun j y hy => h (j + 1) y (by simpa using hy)

theorem ent_succ {l : List Ent} {x : Int} {k : Nat} {r t : Int} (h : ∀ (j : Nat) (y : Ent), j < k → l[j]? = some y → y.1 ≠ x) (hk : l[k]? = some (r, t)) (hr : ¬ r = x) : ∀ (j : Nat) (y : Ent), j < k + 1 → l[j]? = some y → y.1 ≠ x := by
 intro j y hj hy
 by_cases e : j = k
 ·subst e; rw [hk] at hy; injection hy with hy; subst hy; exact hr
 ·exact h j y (by omega) hy
theorem ent_lt {α : Type} {l : List α} {n j : Nat} {y : α} (hl : l.length = n) (hy : l[j]? = some y) : j < n := by
 rcases Nat.lt_or_ge j n with h | h
 ·exact h
 ·rw [List.getElem?_eq_none (by omega)] at hy; cases hy
theorem of_any (w : World) (n c : Nat) (A : Option Addr) (l : List Ent) (x : Int) (hl : Ents w w.heap.size A n l) (hn : n ≤ maxLen) :
  Calls Tryz.prog 64 #[.slice A n c, .int .i64 x] w fun e w' => e = .returned (.int .i64 (vof l x)) ∧ Below w.heap.size w w' := by
 unfold maxLen at hn
 have hlen := Lib.hid hl.len
 go_enter Tryz.func64, Tryz.ntmps64
 go_wp2
 go_loopw [6, 9] (fun _ i wr => (∃ k : Nat, k ≤ n ∧ i = .int .i64 k ∧ ∀ (j : Nat) (y : Ent), j < k → l[j]? = some y → y.1 ≠ x) ∧ Below w.heap.size w wr) (fun _ i _ => n - (intOf i).toNat)
 case atStart => exact ⟨⟨0, by omega, rfl, fun j y hj => by omega⟩, Below.refl _ _⟩
 case round =>
  obtain ⟨⟨k, hk, rfl, hall⟩, hbel⟩ := hrel
  have Hall := Lib.hid hall
  clear hall
  by_cases hlt : k < n
  ·obtain ⟨b, o, r, t, rfl, hb, hx, hf, hc0, hc1⟩ := hl.at_ hlt
   have c0 := (hbel.cell (p := ⟨b, o + k * 2, none⟩) (by simp; omega)).trans hc0
   have c1 := (hbel.cell (p := ⟨b, o + k * 2 + 1, none⟩) (by simp; omega)).trans hc1
   clear hc0 hc1
   have hsz := hbel.size
   by_cases hr : r = x
   ·subst hr
    have hv := Lib.hid (vof_hit l r k t Hall.out hx)
    go_wp2_with fail
    go_ret
    exact ⟨retI hv.out.symm, (hbel.alloc (by omega) _)⟩
   ·have hr' : (r == x) = false := by simp [hr]
    have hx' := Lib.hid hx
    clear hx
    go_wp2_with fail
    go_roundw
    case rel => exact ⟨⟨k + 1, by omega, by go_num, fun j y hj hy => ent_succ Hall.out hx'.out hr j y hj hy⟩, hbel.alloc (by omega) _⟩
    case measure => simp [intOf]; omega
  ·obtain rfl : k = n := by omega
   go_wp2_with fail
   go_ret
   exact ⟨retI (vof_miss l x fun j y hy => Hall.out j y (ent_lt hlen.out hy) hy).symm, hbel⟩
end Go.Proofs.YtlpkpfpmcppciaaGreatDoor
end

section
namespace Go.Proofs.YtlpkpfpmcppciaaGreatDoor
open Go.RowKit
theorem rof_any (w : World) (n c : Nat) (A : Option Addr) (l : List Ent) (x : Int) (hl : Ents w w.heap.size A n l) (hn : n ≤ maxLen) :
  Calls Tryz.prog 61 #[.slice A n c, .int .i64 x] w fun e w' => e = .returned (.int .i64 (vof l x)) ∧ w = w' := by
 unfold maxLen at hn
 have hlen := Lib.hid hl.len
 go_enter Tryz.func61, Tryz.ntmps61
 go_wp2
 go_loop [5, 8] (fun _ i => ∃ k : Nat, k ≤ n ∧ i = .int .i64 k ∧ ∀ (j : Nat) (y : Ent), j < k → l[j]? = some y → y.1 ≠ x) (fun _ i => n - (intOf i).toNat)
 case atStart => exact ⟨0, by omega, rfl, fun j y hj => by omega⟩
 case round =>
  obtain ⟨k, hk, rfl, hall⟩ := hrel
  have Hall := Lib.hid hall
  clear hall
  by_cases hlt : k < n
  ·obtain ⟨b, o, r, t, rfl, hb, hx, hf, c0, c1⟩ := hl.at_ hlt
   by_cases hr : r = x
   ·subst hr
    have hv := Lib.hid (vof_hit l r k t Hall.out hx)
    go_wp2_with fail
    go_ret
    exact ⟨retI hv.out.symm, rfl⟩
   ·have hr' : (r == x) = false := by simp [hr]
    have hx' := Lib.hid hx
    clear hx
    go_wp2_with fail
    go_round
    case rel => exact ⟨k + 1, by omega, by go_num, fun j y hj hy => ent_succ Hall.out hx'.out hr j y hj hy⟩
    case measure => simp [intOf]; omega
  ·obtain rfl : k = n := by omega
   go_wp2_with fail
   go_ret
   exact ⟨retI (vof_miss l x fun j y hy => Hall.out j y (ent_lt hlen.out hy) hy).symm, rfl⟩
end Go.Proofs.YtlpkpfpmcppciaaGreatDoor
end

section
namespace Go.Proofs.YtlpkpfpmcppciaaGreatDoor
open Go.RowKit

/-- An id: a time and a replica. -/
abbrev Id := Int × Int
def idRight (x : Id) : Bool := decide (1 ≤ x.1 ∧ x.1 ≤ 1099511627776 ∧ 0 ≤ x.2 ∧ x.2 ≤ 200)
def idCmp (a b : Id) : Int := if a.1 < b.1 ∨ (a.1 = b.1 ∧ a.2 < b.2) then -1 else if a = b then 0 else 1
theorem below1 (w : World) (o : Obj) : Below w.heap.size w (w.alloc o) := (Below.refl _ _).alloc (Nat.le_refl _) o
theorem below2 (w : World) (o o' : Obj) : Below w.heap.size w ((w.alloc o).alloc o') := (below1 w o).alloc (by simp) o'
theorem idright_any (t r : Int) (w : World) :
  Calls Tryz.prog 72 #[.agg #[.int .i64 t, .int .i64 r]] w fun e w' => e = .returned (.bool (idRight (t, r))) ∧ Below w.heap.size w w' := by
 go_enter Tryz.func72, Tryz.ntmps72
 go_wp2
 all_goals
  go_ret
  refine ⟨retB ?_, below1 _ _⟩
  unfold idRight
  first | (rw [decide_eq_decide]; omega) | (symm; rw [decide_eq_false_iff_not]; omega)
theorem ridright_any (t r : Int) (w : World) :
  Calls Tryz.prog 30 #[.agg #[.int .i64 t, .int .i64 r]] w fun e w' => e = .returned (.bool (idRight (t, r))) ∧ Below w.heap.size w w' := by
 go_enter Tryz.func30, Tryz.ntmps30
 go_wp2
 all_goals
  go_ret
  refine ⟨retB ?_, below1 _ _⟩
  unfold idRight
  first | (rw [decide_eq_decide]; omega) | (symm; rw [decide_eq_false_iff_not]; omega)
def cmpI (a b : Int) : Int := if a < b then -1 else if b < a then 1 else 0
theorem cmp_any (a b : Int) (w : World) :
  Calls Tryz.prog 83 #[.int .i64 a, .int .i64 b] w fun e w' => e = .returned (.int .i64 (cmpI a b)) ∧ w' = w := by
 rcases Int.lt_trichotomy a b with h | h | h
 ·go_enter Tryz.func83, Tryz.ntmps83
  go_wp2
  go_ret
  exact ⟨retI (by unfold cmpI; rw [if_pos h]), rfl⟩
 ·subst h
  go_enter Tryz.func83, Tryz.ntmps83
  go_wp2
  go_ret
  exact ⟨retI (by unfold cmpI; rw [if_neg (by omega), if_neg (by omega)]), rfl⟩
 ·go_enter Tryz.func83, Tryz.ntmps83
  go_wp2
  go_ret
  exact ⟨retI (by unfold cmpI; rw [if_neg (by omega), if_pos h]), rfl⟩
def orI (a b : Int) : Int := if a = 0 then b else a
theorem orI_n (a b : Int) (h : ¬ a = 0) : orI a b = a := by unfold orI; rw [if_neg h]
def OrRel (a b : Int) (i : Value) : Prop := i = .int .i64 0 ∨ (i = .int .i64 1 ∧ a = 0) ∨ (i = .int .i64 2 ∧ a = 0 ∧ b = 0)
theorem or_any (a b : Int) (g : Nat) (w : World) (h0 : w.cell? ⟨g, 0, none⟩ = some (.int .i64 a)) (h1 : w.cell? ⟨g, 1, none⟩ = some (.int .i64 b)) :
  Calls Tryz.prog 82 #[.slice (some ⟨g, 0, none⟩) 2 2] w fun e w' => e = .returned (.int .i64 (orI a b)) ∧ w' = w := by
 go_enter Tryz.func82, Tryz.ntmps82
 go_wp2
 go_loop [5, 8] (fun _ i => OrRel a b i) (fun _ i => 2 - (intOf i).toNat)
 case atStart => exact .inl rfl
 case round =>
  rcases hrel with rfl | ⟨rfl, rfl⟩ | ⟨rfl, rfl, rfl⟩
  ·by_cases ha : a = 0
   ·subst ha
    go_wp2
    go_round
    case rel => exact .inr (.inl ⟨rfl, rfl⟩)
    case measure => simp [intOf]
   ·have hb : (a != 0) = true := by rw [bne_iff_ne]; exact ha
    have hr := Lib.hid (orI_n a b ha)
    go_wp2
    go_ret
    exact ⟨retI hr.out.symm, rfl⟩
  ·by_cases hb : b = 0
   ·subst hb
    go_wp2
    go_round
    case rel => exact .inr (.inr ⟨rfl, rfl, rfl⟩)
    case measure => simp [intOf]
   ·have hb' : (b != 0) = true := by rw [bne_iff_ne]; exact hb
    go_wp2
    go_ret
    exact ⟨rfl, rfl⟩
  ·go_wp2
   go_ret
   exact ⟨rfl, rfl⟩
theorem new_drew (w : World) (c : Array Value) (t : TypeId) (n i : Nat) (v : Value) (hn : n = w.heap.size) (hv : c[i]? = some v) : (w.alloc (.cells c t)).drew.cell? ⟨n, i, none⟩ = some v := by
 show (w.alloc (.cells c t)).cell? ⟨n, i, none⟩ = some v
 rw [World.cell?_alloc_at c t n i hn, hv]
theorem idCmp_eq (t r t' r' : Int) : orI (cmpI t t') (cmpI r r') = idCmp (t, r) (t', r') := by
 have he : ((t, r) = (t', r')) ↔ (t = t' ∧ r = r') := by simp
 unfold orI cmpI idCmp
 simp only [he]
 by_cases a : t < t' <;> by_cases b : t' < t <;> by_cases c : r < r' <;> by_cases d : r' < r <;> by_cases e : t = t' <;> by_cases f : r = r' <;> simp [a, b, c, d, e, f] <;> omega
theorem below3 (w : World) (o o' o'' : Obj) : Below w.heap.size w (((w.alloc o).alloc o').alloc o'').drew := by
 have h : w.heap.size ≤ ((w.alloc o).alloc o').heap.size := by simp; omega
 exact ((below2 w o o').alloc h o'').drew
theorem compare_any (t r t' r' : Int) (w : World) :
  Calls Tryz.prog 58 #[.agg #[.int .i64 t, .int .i64 r], .agg #[.int .i64 t', .int .i64 r']] w fun e w' => e = .returned (.int .i64 (idCmp (t, r) (t', r'))) ∧ Below w.heap.size w w' := by
 go_enter Tryz.func58, Tryz.ntmps58
 go_wp2_with fail
 go_region_held3 (fun wx => wx.cell? ⟨w.heap.size, 0, none⟩ = some (.int .i64 t) ∧ wx.cell? ⟨w.heap.size, 1, none⟩ = some (.int .i64 r) ∧ wx.cell? ⟨w.heap.size + 1, 0, none⟩ = some (.int .i64 t') ∧ wx.cell? ⟨w.heap.size + 1, 1, none⟩ = some (.int .i64 r')) (go_keep)
  (first
   | (go_at_call_of 83 (Value.int .i64 t); refine (cmp_any t t' _).mono ?_; rintro e w' ⟨rfl, rfl⟩)
   | (go_at_call_of 83 (Value.int .i64 r); refine (cmp_any r r' _).mono ?_; rintro e w' ⟨rfl, rfl⟩)
   | (go_at_call 82; refine (or_any (cmpI t t') (cmpI r r') _ _ (new_drew _ _ _ _ 0 _ (by simp) rfl) (new_drew _ _ _ _ 1 _ (by simp) rfl)).mono ?_; rintro e w' ⟨rfl, rfl⟩))
 go_wp2
 go_ret
 exact ⟨retI (idCmp_eq t r t' r'), below3 _ _ _ _⟩
theorem idCmp_lt (t r t' r' : Int) (h : t < t' ∨ (t = t' ∧ r < r')) : idCmp (t, r) (t', r') = -1 := by unfold idCmp; rw [if_pos h]
theorem idCmp_same (t r : Int) : idCmp (t, r) (t, r) = 0 := by unfold idCmp; rw [if_neg (by simp), if_pos rfl]
theorem idCmp_gt (t r t' r' : Int) (h : ¬ (t < t' ∨ (t = t' ∧ r < r'))) (hn : ¬ (t = t' ∧ r = r')) : idCmp (t, r) (t', r') = 1 := by
 unfold idCmp; rw [if_neg h, if_neg (by simpa using hn)]
theorem rcompare_any (t r t' r' : Int) (w : World) :
  Calls Tryz.prog 69 #[.agg #[.int .i64 t, .int .i64 r], .agg #[.int .i64 t', .int .i64 r']] w fun e w' => e = .returned (.int .i64 (idCmp (t, r) (t', r'))) ∧ Below w.heap.size w w' := by
 rcases Int.lt_trichotomy t t' with h | h | h
 ·have hr := Lib.hid (idCmp_lt t r t' r' (.inl h))
  go_enter Tryz.func69, Tryz.ntmps69
  go_wp2
  go_ret
  exact ⟨retI hr.out.symm, below2 _ _ _⟩
 ·subst h
  rcases Int.lt_trichotomy r r' with h | h | h
  ·have hr := Lib.hid (idCmp_lt t r t r' (.inr ⟨rfl, h⟩))
   go_enter Tryz.func69, Tryz.ntmps69
   go_wp2
   go_ret
   exact ⟨retI hr.out.symm, below2 _ _ _⟩
  ·subst h
   have hr := Lib.hid (idCmp_same t r)
   go_enter Tryz.func69, Tryz.ntmps69
   go_wp2
   go_ret
   exact ⟨retI hr.out.symm, below2 _ _ _⟩
  ·have hr := Lib.hid (idCmp_gt t r t r' (by omega) (by omega))
   have hne : (r == r') = false := beq_eq_false_iff_ne.2 (by omega)
   have hlt : decide (r < r') = false := decide_eq_false (by omega)
   go_enter Tryz.func69, Tryz.ntmps69
   go_wp2
   go_ret
   exact ⟨retI hr.out.symm, below2 _ _ _⟩
 ·have hr := Lib.hid (idCmp_gt t r t' r' (by omega) (by omega))
  have hne : (t == t') = false := beq_eq_false_iff_ne.2 (by omega)
  have hlt : decide (t < t') = false := decide_eq_false (by omega)
  go_enter Tryz.func69, Tryz.ntmps69
  go_wp2
  go_ret
  exact ⟨retI hr.out.symm, below2 _ _ _⟩
def idWithin (x : Id) (f h : List Ent) : Bool := decide (vof f x.2 < x.1) && decide (x.1 ≤ vof h x.2)
theorem within1 {x : Id} {f h : List Ent} (a : vof f x.2 < x.1) : idWithin x f h = decide (x.1 ≤ vof h x.2) := by unfold idWithin; rw [decide_eq_true a, Bool.true_and]
theorem within0 {x : Id} {f h : List Ent} (a : ¬ vof f x.2 < x.1) : idWithin x f h = false := by unfold idWithin; rw [decide_eq_false a, Bool.false_and]
theorem iwithin_any (t r : Int) (n n' c c' : Nat) (A A' : Option Addr) (l l' : List Ent) (w : World) (h : Ents w w.heap.size A n l) (h' : Ents w w.heap.size A' n' l') (hn : n ≤ maxLen) (hn' : n' ≤ maxLen) :
  Calls Tryz.prog 81 #[.agg #[.int .i64 t, .int .i64 r], .slice A n c, .slice A' n' c'] w fun e w' => e = .returned (.bool (idWithin (t, r) l l')) ∧ Below w.heap.size w w' := by
 by_cases g : vof l r < t
 ·have hr := Lib.hid (within1 (x := (t, r)) (h := l') g)
  have b0 : Below w.heap.size w (w.alloc (.cells #[.int .i64 t, .int .i64 r] 30)) := below1 _ _
  have c0 := Inv.cell (w := w.alloc (.cells #[.int .i64 t, .int .i64 r] 30)) (a := ⟨w.heap.size, 0, none⟩) (v := .int .i64 t) (by rw [World.cell?_alloc_new]; rfl)
  have c1 := Inv.cell (w := w.alloc (.cells #[.int .i64 t, .int .i64 r] 30)) (a := ⟨w.heap.size, 1, none⟩) (v := .int .i64 r) (by rw [World.cell?_alloc_new]; rfl)
  go_enter Tryz.func81, Tryz.ntmps81
  go_wp2_with fail
  refine wp_region_inv (by kernel_rfl) (by kernel_rfl) ?_
  repeat (go_big_quiet_step ((first
    | (go_at_call_of 64 (Value.slice A n c); exact Calls.inv_of (of_any _ n c A l r (h.inv b0 _) hn))
    | (go_at_call_of 64 (Value.slice A' n' c'); exact Calls.inv_of (of_any _ n' c' A' l' r (h'.inv b0 _) hn')))))
  refine wpQuiet_nil ?_
  intro _ hw'
  obtain ⟨x, rfl⟩ := hw'
  go_wp2
  go_ret
  exact ⟨retB hr.out.symm, b0.trans (x.below.mono b0.size)⟩
 ·have hr := Lib.hid (within0 (x := (t, r)) (h := l') g)
  have g' : decide (vof l r < t) = false := decide_eq_false g
  have b0 : Below w.heap.size w (w.alloc (.cells #[.int .i64 t, .int .i64 r] 30)) := below1 _ _
  have c0 := Inv.cell (w := w.alloc (.cells #[.int .i64 t, .int .i64 r] 30)) (a := ⟨w.heap.size, 0, none⟩) (v := .int .i64 t) (by rw [World.cell?_alloc_new]; rfl)
  have c1 := Inv.cell (w := w.alloc (.cells #[.int .i64 t, .int .i64 r] 30)) (a := ⟨w.heap.size, 1, none⟩) (v := .int .i64 r) (by rw [World.cell?_alloc_new]; rfl)
  go_enter Tryz.func81, Tryz.ntmps81
  go_wp2_with fail
  refine wp_region_inv (by kernel_rfl) (by kernel_rfl) ?_
  repeat (go_big_quiet_step ((first
    | (go_at_call_of 64 (Value.slice A n c); exact Calls.inv_of (of_any _ n c A l r (h.inv b0 _) hn))
    | (go_at_call_of 64 (Value.slice A' n' c'); exact Calls.inv_of (of_any _ n' c' A' l' r (h'.inv b0 _) hn')))))
  refine wpQuiet_nil ?_
  intro _ hw'
  obtain ⟨x, rfl⟩ := hw'
  go_wp2
  go_ret
  exact ⟨retB hr.out.symm, b0.trans (x.below.mono b0.size)⟩
theorem rwithin_any (t r : Int) (n n' c c' : Nat) (A A' : Option Addr) (l l' : List Ent) (w : World) (h : Ents w w.heap.size A n l) (h' : Ents w w.heap.size A' n' l') (hn : n ≤ maxLen) (hn' : n' ≤ maxLen) :
  Calls Tryz.prog 80 #[.agg #[.int .i64 t, .int .i64 r], .slice A n c, .slice A' n' c'] w fun e w' => e = .returned (.bool (idWithin (t, r) l l')) ∧ Below w.heap.size w w' := by
 by_cases g : vof l r < t
 ·have hr := Lib.hid (within1 (x := (t, r)) (h := l') g)
  have b0 : Below w.heap.size w (w.alloc (.cells #[.int .i64 t, .int .i64 r] 30)) := below1 _ _
  have c0 := Inv.cell (w := w.alloc (.cells #[.int .i64 t, .int .i64 r] 30)) (a := ⟨w.heap.size, 0, none⟩) (v := .int .i64 t) (by rw [World.cell?_alloc_new]; rfl)
  have c1 := Inv.cell (w := w.alloc (.cells #[.int .i64 t, .int .i64 r] 30)) (a := ⟨w.heap.size, 1, none⟩) (v := .int .i64 r) (by rw [World.cell?_alloc_new]; rfl)
  go_enter Tryz.func80, Tryz.ntmps80
  go_wp2_with fail
  refine wp_region_inv (by kernel_rfl) (by kernel_rfl) ?_
  repeat (go_big_quiet_step ((first
    | (go_at_call_of 61 (Value.slice A n c); exact Calls.inv_same (rof_any _ n c A l r (h.inv b0 _) hn))
    | (go_at_call_of 61 (Value.slice A' n' c'); exact Calls.inv_same (rof_any _ n' c' A' l' r (h'.inv b0 _) hn')))))
  refine wpQuiet_nil ?_
  intro _ hw'
  obtain ⟨x, rfl⟩ := hw'
  go_wp2
  go_ret
  exact ⟨retB hr.out.symm, b0.trans (x.below.mono b0.size)⟩
 ·have hr := Lib.hid (within0 (x := (t, r)) (h := l') g)
  have g' : decide (vof l r < t) = false := decide_eq_false g
  have b0 : Below w.heap.size w (w.alloc (.cells #[.int .i64 t, .int .i64 r] 30)) := below1 _ _
  have c0 := Inv.cell (w := w.alloc (.cells #[.int .i64 t, .int .i64 r] 30)) (a := ⟨w.heap.size, 0, none⟩) (v := .int .i64 t) (by rw [World.cell?_alloc_new]; rfl)
  have c1 := Inv.cell (w := w.alloc (.cells #[.int .i64 t, .int .i64 r] 30)) (a := ⟨w.heap.size, 1, none⟩) (v := .int .i64 r) (by rw [World.cell?_alloc_new]; rfl)
  go_enter Tryz.func80, Tryz.ntmps80
  go_wp2_with fail
  refine wp_region_inv (by kernel_rfl) (by kernel_rfl) ?_
  repeat (go_big_quiet_step ((first
    | (go_at_call_of 61 (Value.slice A n c); exact Calls.inv_same (rof_any _ n c A l r (h.inv b0 _) hn))
    | (go_at_call_of 61 (Value.slice A' n' c'); exact Calls.inv_same (rof_any _ n' c' A' l' r (h'.inv b0 _) hn')))))
  refine wpQuiet_nil ?_
  intro _ hw'
  obtain ⟨x, rfl⟩ := hw'
  go_wp2
  go_ret
  exact ⟨retB hr.out.symm, b0.trans (x.below.mono b0.size)⟩
end Go.Proofs.YtlpkpfpmcppciaaGreatDoor
end

section
namespace Go.Proofs.YtlpkpfpmcppciaaGreatDoor
/-- What is wrong with a write: time, replica, kind, key, value, number. -/
def wright (w : Wr) : Int :=
 if w.2.2.1 < 1 ∨ 4 < w.2.2.1 then 1
 else if idRight (w.1, w.2.1) = false then 2
 else if 40 < w.2.2.2.1.size ∨ 300 < w.2.2.2.2.1.size then 4
 else if (w.2.2.1 ≠ 1 ∧ w.2.2.1 ≠ 4 ∧ w.2.2.2.2.1.size ≠ 0) ∨ (w.2.2.1 ≠ 3 ∧ w.2.2.1 ≠ 4 ∧ w.2.2.2.2.2 ≠ 0) then 3
 else if w.2.2.1 = 3 ∧ (w.2.2.2.2.2 < -1125899906842624 ∨ 1125899906842624 < w.2.2.2.2.2) ∨ w.2.2.1 = 4 ∧ (w.2.2.2.2.2 < 0 ∨ 1000 < w.2.2.2.2.2) then 2 else 0
def noWr : Wr := (0, 0, 0, strOf [], strOf [], 0)
end Go.Proofs.YtlpkpfpmcppciaaGreatDoor
end

section
namespace Go.Proofs.YtlpkpfpmcppciaaGreatDoor
/-- An entry beyond what there is. -/
def entBad (x : Ent) : Prop := x.1 < 0 ∨ 200 < x.1 ∨ x.2 < 1 ∨ 1099511627776 < x.2
instance (x : Ent) : Decidable (entBad x) := by unfold entBad; infer_instance
/-- What is wrong from entry i on, the replica ahead being last. -/
def vrgo : List Ent → Int → Nat → Int × Int
 | [], _, _ => (0, -1)
 | x :: l, last, i => if entBad x then (2, i) else if x.1 ≤ last then (10, i) else vrgo l x.1 (i + 1)
def vright (l : List Ent) : Int × Int := if 16 < l.length then (4, -1) else vrgo l (-1) 0
/-- The replica ahead of entry k. -/
def lastAt (l : List Ent) (k : Nat) : Int := if k = 0 then -1 else (l.getD (k - 1) (-1, 0)).1
theorem lastAt_zero (l : List Ent) : lastAt l 0 = -1 := rfl
theorem lastAt_succ (l : List Ent) (k : Nat) (r t : Int) (h : l[k]? = some (r, t)) : lastAt l (k + 1) = r := by
 unfold lastAt
 rw [if_neg (by omega)]
 simp [List.getD, h]
/-- As it stands ahead of entry k. -/
def VAt (l : List Ent) (k : Nat) : Prop := vrgo l (-1) 0 = vrgo (l.drop k) (lastAt l k) k
theorem VAt.zero (l : List Ent) : VAt l 0 := rfl
theorem drop_at {α : Type} {l : List α} {k : Nat} {x : α} (h : l[k]? = some x) : l.drop k = x :: l.drop (k + 1) := by
 obtain ⟨hk, e⟩ := List.getElem?_eq_some_iff.1 h
 rw [List.drop_eq_getElem_cons hk, e]
theorem VAt.bad {l : List Ent} {k : Nat} {x : Ent} (h : VAt l k) (hx : l[k]? = some x) (hb : entBad x) : vrgo l (-1) 0 = (2, (k : Int)) := by
 unfold VAt at h
 rw [h, drop_at hx]
 simp only [vrgo]
 rw [if_pos hb]
theorem VAt.order {l : List Ent} {k : Nat} {x : Ent} (h : VAt l k) (hx : l[k]? = some x) (hb : ¬ entBad x) (ho : x.1 ≤ lastAt l k) : vrgo l (-1) 0 = (10, (k : Int)) := by
 unfold VAt at h
 rw [h, drop_at hx]
 simp only [vrgo]
 rw [if_neg hb, if_pos ho]
theorem VAt.succ {l : List Ent} {k : Nat} {r t : Int} (h : VAt l k) (hx : l[k]? = some (r, t)) (hb : ¬ entBad (r, t)) (ho : ¬ r ≤ lastAt l k) : VAt l (k + 1) := by
 unfold VAt at *
 rw [h, drop_at hx]
 simp only [vrgo]
 rw [if_neg hb, if_neg ho, lastAt_succ l k r t hx]
theorem VAt.all {l : List Ent} {k : Nat} (h : VAt l k) (hk : l.length ≤ k) : vrgo l (-1) 0 = (0, -1) := by
 unfold VAt at h
 rw [h, List.drop_eq_nil_of_le hk]
 rfl
theorem vright_big {l : List Ent} (h : 16 < l.length) : vright l = (4, -1) := by unfold vright; rw [if_pos h]
theorem vright_small {l : List Ent} (h : ¬ 16 < l.length) : vright l = vrgo l (-1) 0 := by unfold vright; rw [if_neg h]
theorem vright_ok_len {l : List Ent} (h : (vright l).1 = 0) : l.length ≤ 16 := by
 rcases Nat.lt_or_ge 16 l.length with h' | h'
 ·rw [vright_big h'] at h; simp at h
 ·exact h'
/-- A right vector: each entry fits, and the replicas rise. -/
theorem vrgo_ok (l : List Ent) : ∀ (last : Int) (i : Nat), (vrgo l last i).1 = 0 → (∀ x ∈ l, ¬ entBad x) ∧ (∀ x ∈ l, last < x.1) ∧ l.Pairwise (fun x y => x.1 < y.1) := by
 induction l with
 | nil => intro _ _ _; simp
 | cons x l ih =>
  intro last i
  simp only [vrgo]
  split
  ·intro h; simp at h
  ·rename_i hb
   split
   ·intro h; simp at h
   ·rename_i ho
    intro h
    obtain ⟨h1, h2, h3⟩ := ih _ _ h
    refine ⟨?_, ?_, ?_⟩
    ·intro y hy
     rcases List.mem_cons.1 hy with rfl | hy
     ·exact hb
     ·exact h1 y hy
    ·intro y hy
     rcases List.mem_cons.1 hy with rfl | hy
     ·omega
     ·have := h2 y hy; omega
    ·exact List.pairwise_cons.2 ⟨h2, h3⟩
theorem vright_ok {l : List Ent} (h : (vright l).1 = 0) : (∀ x ∈ l, ¬ entBad x) ∧ l.Pairwise (fun x y => x.1 < y.1) := by
 rw [vright_small (by have := vright_ok_len h; omega)] at h
 obtain ⟨h1, _, h3⟩ := vrgo_ok l _ _ h
 exact ⟨h1, h3⟩
end Go.Proofs.YtlpkpfpmcppciaaGreatDoor
end
