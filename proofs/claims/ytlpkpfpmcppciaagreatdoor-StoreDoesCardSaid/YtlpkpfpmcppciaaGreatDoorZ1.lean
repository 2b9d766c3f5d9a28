/- Words of my own for memory: a slice value that reads as a list of cells; how that is kept; lists out of facts for each index. No program in sight.

Regions that draw their order, whose operations only read what was there and whose callees may make new memory but hand back values that do not lie in it: one walk of the text's order serves every order. The class of worlds: those that stand as w did on all of w's blocks.

slices.Equal over slices of strings and of numbers.

Two structs are equal if all their fields are: the model's test, at the types of this program.

slices.Equal over slices of entries, tokens and writes.

Plain facts on tables of keys: each key once, and of each which one it is. No program in sight.

What writes come to, in plain Lean: cells by keys. No program in sight.

A map from texts to places of cells, that the call made itself, told as a function.

What a call leaves: all blocks but some stand (as XTurned, XMoves and XRecv have it, with no map in sight). Any program.

append to a slice of the call's own, as one step of a region that draws its order. Any program.

The Go functions Table of package keys and of the reference compute what the plain function tab says.

Cells, and a store of them, in memory.

Rows of cells, sorted. -/
import Derived.Below
import Derived.Laws.OwnMore
import Derived.Laws.AppendOwn
import Derived.Deep.Draws
import Derived.Deep.QuietTactic
import Derived.BigQuiet
import Derived.Test.YtlpkpfpmcppciaaGreatDoorProg
import Derived.WalkKit
import Derived.WalkLawsBesides
import Derived.WalkSpells
import Derived.Outline
import Derived.Lib.Hide
import Derived.Laws.StructEq
import Derived.KernelRfl
import Derived.Maps.Own
import Derived.Maps.OwnOps
import Derived.Maps.OwnSet
import Derived.Maps.Views
import Derived.Lib.Bytealg
import Derived.IntWalk
import Derived.Deep.RegionLaw
import Derived.OwnWalk
import Derived.Maps.AppendAt
import Derived.Deep.DeepCutAuto
import Derived.Deep.Cut
import Derived.Deep.CutBlock
import Derived.Sort.OwnSorted
import Derived.Shelf.SlSortCmp.WholeK
section
namespace Go.Proofs.YtlpkpfpmcppciaaGreatDoor
open Go.RowKit

instance : LawfulBEq ByteArray where
 eq_of_beq {a b} h := by
  obtain ⟨a⟩ := a
  obtain ⟨b⟩ := b
  have h' : (a == b) = true := h
  rw [eq_of_beq h']
 rfl {a} := by
  show (a.data == a.data) = true
  simp
theorem below_drewN {B : Nat} {a w : World} (h : Below B a w) (n : Nat) : Below B a (w.drewN n) := ⟨h.os, h.tape, h.output, h.size, h.block⟩
theorem retB {a b : Bool} (h : a = b) : Ending.returned (.bool a) = .returned (.bool b) := by rw [h]
theorem valI {k : IntKind} {a b : Int} (h : a = b) : Value.int k a = .int k b := by rw [h]
theorem cell_lt {w : World} {a : Addr} {v : Value} (h : w.cell? a = some v) : a.block < w.heap.size := by
 rcases Nat.lt_or_ge a.block w.heap.size with h' | h'
 ·exact h'
 ·simp [World.cell?, Array.getElem?_eq_none h'] at h

/-- A slice '.slice A n c' that reads as the cells xs, size cells an element, all in a block below B. -/
def Sl (w : World) (B size : Nat) (A : Option Addr) (n : Nat) (xs : List Value) : Prop :=
 xs.length = n * size ∧ (0 < n → ∃ b o, A = some ⟨b, o, none⟩ ∧ b < B ∧ ∀ j u, xs[j]? = some u → w.cell? ⟨b, o + j, none⟩ = some u)
section
variable {w w' : World} {B B' size n : Nat} {A : Option Addr} {xs : List Value}
theorem Sl.nil : Sl w B size A 0 [] := ⟨by simp, fun h => absurd h (by omega)⟩
theorem Sl.kept (h : Sl w B size A n xs) (hk : ∀ p : Addr, p.block < B → w'.cell? p = w.cell? p) : Sl w' B size A n xs :=
 ⟨h.1, fun hn => by
  obtain ⟨b, o, e, hb, hc⟩ := h.2 hn
  exact ⟨b, o, e, hb, fun j u hu => (hk _ hb).trans (hc j u hu)⟩⟩
theorem Sl.more (h : Sl w B size A n xs) (hB : B ≤ B') : Sl w B' size A n xs :=
 ⟨h.1, fun hn => by
  obtain ⟨b, o, e, hb, hc⟩ := h.2 hn
  exact ⟨b, o, e, by omega, hc⟩⟩
theorem Sl.below (h : Sl w B size A n xs) (hb : Below B w w') : Sl w' B size A n xs := h.kept fun _ hp => hb.cell hp
theorem Sl.drewN (h : Sl w B size A n xs) (k : Nat) : Sl (w.drewN k) B size A n xs := h
theorem Sl.alloc (h : Sl w B size A n xs) (hB : B ≤ w.heap.size) (o : Obj) : Sl (w.alloc o) B size A n xs := h.kept fun p hp => World.cell?_alloc_lt w o p (by omega)
theorem Sl.of_own {base : Nat} {e : TypeId} {c : Nat} (h : w.ownsRow base e size (.slice A n c) n xs) : Sl w w.heap.size size A n xs := by
 refine ⟨h.1, fun hn => ?_⟩
 rcases h.2 with ⟨_, h0⟩ | ⟨g, cap, cur, hv, _, hh, _⟩
 ·omega
 ·have hA : A = some ⟨g, 0, none⟩ := by injection hv
  subst hA
  refine ⟨g, 0, rfl, (Array.getElem?_eq_some_iff.1 hh).1, fun j u hu => ?_⟩
  have := h.cells (g := g) rfl j u hu
  have hadd : (⟨g, 0, none⟩ : Addr).add j = ⟨g, 0 + j, none⟩ := by unfold Addr.add; split <;> simp_all
  rw [hadd] at this
  exact this
end

theorem exists_list {α : Type} (n : Nat) (P : Nat → α → Prop) (h : ∀ i, i < n → ∃ x, P i x) : ∃ l : List α, l.length = n ∧ ∀ i x, l[i]? = some x → P i x := by
 induction n with
 | zero => exact ⟨[], rfl, fun i x hx => by simp at hx⟩
 | succ n ih =>
  obtain ⟨l, hl, hP⟩ := ih fun i hi => h i (by omega)
  obtain ⟨x, hx⟩ := h n (by omega)
  refine ⟨l ++ [x], by simp [hl], fun i y hy => ?_⟩
  rw [List.getElem?_append] at hy
  by_cases hi : i < l.length
  ·rw [if_pos hi] at hy; exact hP i y hy
  ·rw [if_neg hi] at hy
   have : i - l.length = 0 := by
    rcases Nat.eq_zero_or_pos (i - l.length) with h0 | h0
    ·exact h0
    ·rw [List.getElem?_eq_none (by simp; omega)] at hy; cases hy
   rw [this] at hy
   simp at hy
   subst hy
   have : i = n := by omega
   subst this
   exact hx

/-- Cells of a list of things of k cells each. -/
theorem flat_get {α : Type} (f : α → List Value) (k : Nat) (hf : ∀ x, (f x).length = k) (l : List α) (i j : Nat) (x : α) (hx : l[i]? = some x) (hj : j < k) : (l.flatMap f)[i * k + j]? = (f x)[j]? := by
 induction l generalizing i with
 | nil => simp at hx
 | cons y l ih =>
  simp only [List.flatMap_cons]
  cases i with
  | zero =>
   simp at hx
   subst hx
   rw [List.getElem?_append_left (by rw [hf]; omega)]
   simp
  | succ i =>
   simp only [List.getElem?_cons_succ] at hx
   rw [List.getElem?_append_right (by rw [hf, Nat.succ_mul]; omega), hf]
   have : (i + 1) * k + j - k = i * k + j := by rw [Nat.succ_mul]; omega
   rw [this]
   exact ih i hx
theorem flat_len {α : Type} (f : α → List Value) (k : Nat) (hf : ∀ x, (f x).length = k) (l : List α) : (l.flatMap f).length = l.length * k := by
 induction l with
 | nil => simp
 | cons y l ih => simp only [List.flatMap_cons, List.length_append, ih, hf, List.length_cons, Nat.succ_mul]; omega
theorem flat_at {α : Type} (f : α → List Value) (k : Nat) (hf : ∀ x, (f x).length = k) (l : List α) (m : Nat) (u : Value) (hu : (l.flatMap f)[m]? = some u) : ∃ i j x, m = i * k + j ∧ j < k ∧ l[i]? = some x ∧ (f x)[j]? = some u := by
 have hm : m < l.length * k := by
  rcases Nat.lt_or_ge m (l.length * k) with h | h
  ·exact h
  ·rw [List.getElem?_eq_none (by rw [flat_len f k hf]; exact h)] at hu; cases hu
 have hk : 0 < k := by
  rcases Nat.eq_zero_or_pos k with h | h
  ·subst h; omega
  ·exact h
 have hi : m / k < l.length := by rw [Nat.div_lt_iff_lt_mul hk]; exact hm
 have e : m = m / k * k + m % k := by rw [Nat.mul_comm]; exact (Nat.div_add_mod m k).symm
 refine ⟨m / k, m % k, l[m / k], e, Nat.mod_lt _ hk, List.getElem?_eq_getElem hi, ?_⟩
 have h := flat_get f k hf l (m / k) (m % k) _ (List.getElem?_eq_getElem hi) (Nat.mod_lt _ hk)
 rw [← e] at h
 rw [← h]
 exact hu

/-- Element k of a slice whose elements have size cells each. -/
theorem slk_at {α : Type} (f : α → List Value) (size : Nat) (hf : ∀ x, (f x).length = size) {w : World} {B n : Nat} {A : Option Addr} {l : List α} (h : Sl w B size A n (l.flatMap f)) (hl : l.length = n) {k : Nat} (hk : k < n) :
  ∃ b o x, A = some ⟨b, o, none⟩ ∧ b < B ∧ l[k]? = some x ∧ ∀ j u, (f x)[j]? = some u → w.cell? ⟨b, o + k * size + j, none⟩ = some u := by
 obtain ⟨b, o, e, hb, hc⟩ := h.2 (by omega)
 have hx : l[k]? = some l[k] := List.getElem?_eq_getElem (by omega)
 refine ⟨b, o, l[k], e, hb, hx, fun j u hu => ?_⟩
 have hj : j < size := by
  rcases Nat.lt_or_ge j size with h | h
  ·exact h
  ·rw [List.getElem?_eq_none (by rw [hf]; exact h)] at hu; cases hu
 have := flat_get f size hf l k j _ hx hj
 rw [Nat.add_assoc]
 exact hc _ _ (this.trans hu)
theorem slk_len {α : Type} (f : α → List Value) (size : Nat) (h0 : 0 < size) (hf : ∀ x, (f x).length = size) {w : World} {B n : Nat} {A : Option Addr} {l : List α} (h : Sl w B size A n (l.flatMap f)) : l.length = n := by
 have := h.1
 rw [flat_len f size hf] at this
 exact Nat.eq_of_mul_eq_mul_right h0 this
/-- Rows of different element types lie in different blocks. -/
theorem own_ne {w : World} {base base' : Nat} {e e' : TypeId} {size size' n n' : Nat} {v v' : Value} {xs xs' : List Value} (h : w.ownsRow base e size v n xs) (h' : w.ownsRow base' e' size' v' n' xs') (hne : e ≠ e') : v.ownBlock = none ∨ v.ownBlock ≠ v'.ownBlock := by
 rcases h.2 with ⟨rfl, _⟩ | ⟨g, cap, cur, rfl, _, hh, _⟩
 ·exact .inl rfl
 ·rcases h'.2 with ⟨rfl, _⟩ | ⟨g', cap', cur', rfl, _, hh', _⟩
  ·exact .inr (by simp [Value.ownBlock])
  ·refine .inr fun e0 => ?_
   have : g = g' := by simpa [Value.ownBlock] using e0
   subst this
   rw [hh] at hh'
   injection hh' with hh'
   injection hh' with _ ht
   exact hne ht
theorem own_form {w : World} {base : Nat} {e : TypeId} {size n : Nat} {v : Value} {xs : List Value} (h : w.ownsRow base e size v n xs) : ∃ A c, v = .slice A n c := by
 rcases h.2 with ⟨rfl, rfl⟩ | ⟨g, cap, cur, rfl, _⟩
 ·exact ⟨_, _, rfl⟩
 ·exact ⟨_, _, rfl⟩
theorem grown_own {B : Nat} {a w w' : World} {v : Value} {e : TypeId} {size n : Nat} {xs : List Value} (h : Below B a w) (hg : w.grownBy w' v.ownBlock) (hB : B ≤ w.heap.size) (ho : w.ownsRow B e size v n xs) : Below B a w' :=
 h.grown hg hB fun k hk => (ho.lt k hk).1
end Go.Proofs.YtlpkpfpmcppciaaGreatDoor
end

section
namespace Go.Proofs.YtlpkpfpmcppciaaGreatDoor
open Go.RowKit

/-- A world that is as w was on all of w's blocks. -/
def Inv (w : World) : Type := { x : World // Below w.heap.size w x }
instance (w : World) : Nonempty (Inv w) := ⟨⟨w, Below.refl _ _⟩⟩
def Inv.w {w : World} (x : Inv w) : World := x.1
theorem Inv.below {w : World} (x : Inv w) : Below w.heap.size w x.w := x.2
theorem Inv.size {w : World} (x : Inv w) : w.heap.size ≤ x.w.heap.size := x.2.size
theorem Inv.cell {w : World} {a : Addr} {v : Value} (h : w.cell? a = some v) : ∀ x : Inv w, x.w.cell? a = some v := fun x => (x.below.cell (cell_lt h)).trans h
end Go.Proofs.YtlpkpfpmcppciaaGreatDoor
end

section
namespace Go.Proofs.YtlpkpfpmcppciaaGreatDoor
open Go.RowKit
theorem toList_ne {x y : ByteArray} (h : ¬ x = y) : (!(x.toList == y.toList)) = true := by
 have e : (x.toList == y.toList) = false := by
  rw [beq_eq_false_iff_ne, ByteArray.toList_eq, ByteArray.toList_eq]
  intro e
  apply h
  obtain ⟨⟨a⟩⟩ := x
  obtain ⟨⟨b⟩⟩ := y
  simp at e
  rw [e]
 rw [e]
 rfl
/-- A slice of strings, of numbers, in memory. -/
abbrev Strs (w : World) (A : Option Addr) (n : Nat) (l : List ByteArray) : Prop := Sl w w.heap.size 1 A n (l.flatMap fun x => [Value.string x])
abbrev Ints (w : World) (A : Option Addr) (n : Nat) (l : List Int) : Prop := Sl w w.heap.size 1 A n (l.flatMap fun x => [Value.int .i64 x])
/-- Element k of a slice whose elements have one cell each. -/
theorem sl1_at {α : Type} (f : α → Value) {w : World} {B n : Nat} {A : Option Addr} {l : List α} (h : Sl w B 1 A n (l.flatMap fun x => [f x])) (hl : l.length = n) {k : Nat} (hk : k < n) :
  ∃ b o x, A = some ⟨b, o, none⟩ ∧ b < B ∧ l[k]? = some x ∧ w.cell? ⟨b, o + k, none⟩ = some (f x) := by
 obtain ⟨b, o, e, hb, hc⟩ := h.2 (by omega)
 have hx : l[k]? = some l[k] := List.getElem?_eq_getElem (by omega)
 refine ⟨b, o, l[k], e, hb, hx, hc k _ ?_⟩
 have := flat_get (fun x => [f x]) 1 (fun _ => rfl) l k 0 _ hx (by omega)
 simpa using this
theorem sl1_len {α : Type} (f : α → Value) {w : World} {B n : Nat} {A : Option Addr} {l : List α} (h : Sl w B 1 A n (l.flatMap fun x => [f x])) : l.length = n := by
 have := h.1; rw [flat_len _ 1 (fun _ => rfl)] at this; omega
theorem flat_map {α : Type} (f : α → Value) (l : List α) : (l.flatMap fun x => [f x]) = l.map f := by induction l <;> simp_all
theorem Strs.of_own {w : World} {base : Nat} {e : TypeId} {A : Option Addr} {n c : Nat} {l : List ByteArray} (h : w.ownsRow base e 1 (.slice A n c) n (l.map Value.string)) : Strs w A n l := by
 have := Sl.of_own h
 rw [← flat_map] at this
 exact this
theorem Ints.of_own {w : World} {base : Nat} {e : TypeId} {A : Option Addr} {n c : Nat} {l : List Int} (h : w.ownsRow base e 1 (.slice A n c) n (l.map (Value.int .i64))) : Ints w A n l := by
 have := Sl.of_own h
 rw [← flat_map] at this
 exact this
theorem Sl.grow {w w' : World} {size n : Nat} {A : Option Addr} {xs : List Value} (h : Sl w w.heap.size size A n xs) (hb : Below w.heap.size w w') : Sl w' w'.heap.size size A n xs := (h.below hb).more hb.size
/-- Alike so far. -/
def Alike {α : Type} (l l' : List α) (k : Nat) : Prop := ∀ j, j < k → l[j]? = l'[j]?
theorem Alike.succ {α : Type} {l l' : List α} {k : Nat} {x : α} (h : Alike l l' k) (h1 : l[k]? = some x) (h2 : l'[k]? = some x) : Alike l l' (k + 1) := by
 intro j hj
 by_cases e : j = k
 ·subst e; rw [h1, h2]
 ·exact h j (by omega)
theorem Alike.all {α : Type} {l l' : List α} {n : Nat} (h : Alike l l' n) (h1 : l.length = n) (h2 : l'.length = n) : l = l' := by
 apply List.ext_getElem?
 intro j
 by_cases hj : j < n
 ·exact h j hj
 ·rw [List.getElem?_eq_none (by omega), List.getElem?_eq_none (by omega)]
end Go.Proofs.YtlpkpfpmcppciaaGreatDoor
end

section
namespace Go.Proofs.YtlpkpfpmcppciaaGreatDoor
open Go.RowKit
/-- Fields by name, type and offset alone. -/
def eqF (P : Program) (d : Nat) (xs ys : Array Value) : List (String × TypeId × Nat) → Sem Bool
 | [] => pure true
 | f :: fs =>
  if f.1 ≠ "_" then do
   let a ← part f.2.1 xs f.2.2
   let b ← part f.2.1 ys f.2.2
   let r ← Op.equalIn d f.2.1 a b
   if (!r) = true then pure false else eqF P d xs ys fs
  else eqF P d xs ys fs
theorem eqFields_eq (P : Program) (d : Nat) (xs ys : Array Value) (fs : List Field) : Op.eqFields d xs ys fs = eqF P d xs ys (fs.map fun f => (f.name, f.type, f.offset)) := by
 induction fs with
 | nil => rfl
 | cons f fs ih => simp only [Op.eqFields, List.map_cons, eqF, ih]
theorem beq_str (s t : ByteArray) : (s.toList == t.toList) = decide (s = t) := by
 by_cases h : s = t
 ·subst h; simp
 ·have e := toList_ne h
  rw [decide_eq_false h]
  simpa using e
theorem entFields : (Tryz.prog.fieldsOf 73).toList.map (fun f => (f.name, f.type, f.offset)) = [("Replica", 3, 0), ("Time", 3, 1)] := by kernel_rfl
@[go_sem] theorem eqEnt (d : Nat) (r t r' t' : Int) (w : World) : (Op.equalIn (d + 2) 73 (.agg #[.int .i64 r, .int .i64 t]) (.agg #[.int .i64 r', .int .i64 t'])).run Tryz.prog w = .ok (decide ((r, t) = (r', t'))) w := by
 rw [run_equalIn_agg w (d + 1) _ _ _ (by kernel_rfl) (by kernel_rfl), eqFields_eq Tryz.prog, entFields]
 by_cases h1 : r = r' <;> by_cases h2 : t = t' <;> simp [eqF, go_sem, h1, h2]
theorem idFields : (Tryz.prog.fieldsOf 30).toList.map (fun f => (f.name, f.type, f.offset)) = [("Time", 3, 0), ("Replica", 3, 1)] := by kernel_rfl
@[go_sem] theorem eqId (d : Nat) (r t r' t' : Int) (w : World) : (Op.equalIn (d + 2) 30 (.agg #[.int .i64 r, .int .i64 t]) (.agg #[.int .i64 r', .int .i64 t'])).run Tryz.prog w = .ok (decide ((r, t) = (r', t'))) w := by
 rw [run_equalIn_agg w (d + 1) _ _ _ (by kernel_rfl) (by kernel_rfl), eqFields_eq Tryz.prog, idFields]
 by_cases h1 : r = r' <;> by_cases h2 : t = t' <;> simp [eqF, go_sem, h1, h2]
theorem wrFields : (Tryz.prog.fieldsOf 32).toList.map (fun f => (f.name, f.type, f.offset)) = [("Id", 30, 0), ("Kind", 3, 2), ("Key", 9, 3), ("Value", 9, 4), ("N", 3, 5)] := by kernel_rfl
@[go_sem] theorem eqWr (d : Nat) (a b c a' b' c' n n' : Int) (s t s' t' : ByteArray) (w : World) : (Op.equalIn (d + 3) 32 (.agg #[.int .i64 a, .int .i64 b, .int .i64 c, .string s, .string t, .int .i64 n]) (.agg #[.int .i64 a', .int .i64 b', .int .i64 c', .string s', .string t', .int .i64 n'])).run Tryz.prog w = .ok (decide ((a, b, c, s, t, n) = (a', b', c', s', t', n'))) w := by
 rw [run_equalIn_agg w (d + 2) _ _ _ (by kernel_rfl) (by kernel_rfl), eqFields_eq Tryz.prog, wrFields]
 by_cases h0 : a = a'
 ·by_cases h1 : b = b'
  ·by_cases h2 : c = c'
   ·by_cases h3 : s = s'
    ·by_cases h4 : t = t'
     ·by_cases h5 : n = n' <;> simp [eqF, go_sem, h0, h1, h2, h3, h4, h5]
     ·simp [eqF, go_sem, beq_str, h0, h1, h2, h3, h4]
    ·simp [eqF, go_sem, beq_str, h0, h1, h2, h3]
   ·simp [eqF, go_sem, h0, h1, h2]
  ·simp [eqF, go_sem, h0, h1]
 ·simp [eqF, go_sem, h0]
end Go.Proofs.YtlpkpfpmcppciaaGreatDoor
end

section
namespace Go.Proofs.YtlpkpfpmcppciaaGreatDoor
open Go.RowKit
abbrev Wr := Int × Int × Int × ByteArray × ByteArray × Int
def wrCells (x : Wr) : List Value := [.int .i64 x.1, .int .i64 x.2.1, .int .i64 x.2.2.1, .string x.2.2.2.1, .string x.2.2.2.2.1, .int .i64 x.2.2.2.2.2]
abbrev Ent := Int × Int
def entCells (x : Ent) : List Value := [.int .i64 x.1, .int .i64 x.2]
end Go.Proofs.YtlpkpfpmcppciaaGreatDoor
end

section
namespace Go.Proofs.YtlpkpfpmcppciaaGreatDoor.Keys
open Go.RowKit Go.Maps
abbrev Tab := List ByteArray × List Int
def step (t : Tab) (s : ByteArray) : Tab := if s ∈ t.1 then (t.1, t.2 ++ [(t.1.idxOf s : Int)]) else (t.1 ++ [s], t.2 ++ [(t.1.length : Int)])
def tab (l : List ByteArray) : Tab := l.foldl step ([], [])
theorem tab_snoc (l : List ByteArray) (s : ByteArray) : tab (l ++ [s]) = step (tab l) s := by simp [tab, List.foldl_append]
theorem step_in {t : Tab} {s : ByteArray} (h : s ∈ t.1) : step t s = (t.1, t.2 ++ [(t.1.idxOf s : Int)]) := by unfold step; rw [if_pos h]
theorem step_out {t : Tab} {s : ByteArray} (h : ¬ s ∈ t.1) : step t s = (t.1 ++ [s], t.2 ++ [(t.1.length : Int)]) := by unfold step; rw [if_neg h]
theorem tab_take (l : List ByteArray) (k : Nat) (s : ByteArray) (h : l[k]? = some s) : tab (l.take (k + 1)) = step (tab (l.take k)) s := by
 have hk : k < l.length := (List.getElem?_eq_some_iff.1 h).1
 rw [List.take_succ_eq_append_getElem hk, tab_snoc]
 rw [List.getElem?_eq_getElem hk] at h
 injection h with h
 rw [h]
theorem tab_len (l : List ByteArray) : (tab l).1.length ≤ l.length ∧ (tab l).2.length = l.length ∧ (tab l).1.Nodup ∧ ∀ s ∈ (tab l).1, s ∈ l := by
 suffices h : ∀ r : List ByteArray, (tab r.reverse).1.length ≤ r.length ∧ (tab r.reverse).2.length = r.length ∧ (tab r.reverse).1.Nodup ∧ ∀ s ∈ (tab r.reverse).1, s ∈ r by
  have := h l.reverse
  simpa using this
 intro r
 induction r with
 | nil => exact ⟨Nat.le_refl _, rfl, List.nodup_nil, fun s hs => by simp [tab] at hs⟩
 | cons s r ih =>
  obtain ⟨h1, h2, h3, h4⟩ := ih
  rw [List.reverse_cons, tab_snoc]
  by_cases hs : s ∈ (tab r.reverse).1
  ·rw [step_in hs]
   exact ⟨by simp; omega, by simp [h2], h3, fun x hx => by simp [h4 x hx]⟩
  ·rw [step_out hs]
   refine ⟨by simp; omega, by simp [h2], ?_, fun x hx => ?_⟩
   ·rw [List.nodup_append]
    exact ⟨h3, by simp, fun a ha b hb => by simp at hb; subst hb; rintro rfl; exact hs ha⟩
   ·simp at hx
    rcases hx with hx | rfl
    ·simp [h4 x hx]
    ·simp
/-- What the map says of the table. -/
def Tied (D : DataW Unit) (T : List ByteArray) : Prop := ∀ s : ByteArray, Maps.has D (.string s.data.toList) = decide (s ∈ T) ∧ (s ∈ T → D.atKey (.string s.data.toList) (.lit (.int .i64 0)) = .lit (.int .i64 (T.idxOf s : Int)))
theorem lit_ne {s t : ByteArray} (h : ¬ s = t) : Lit.string s.data.toList ≠ Lit.string t.data.toList := by
 intro e
 apply h
 injection e with e
 obtain ⟨⟨a⟩⟩ := s
 obtain ⟨⟨b⟩⟩ := t
 simp at e
 rw [e]
theorem Tied.nil : Tied (.map []) [] := fun s => ⟨by simp [Maps.has], fun h => by simp at h⟩
theorem Tied.put {D : DataW Unit} {T : List ByteArray} {s : ByteArray} (h : Tied D T) (hD : IsMap D) (hs : ¬ s ∈ T) : Tied (D.put (.string s.data.toList) (.lit (.int .i64 (T.length : Int)))) (T ++ [s]) := by
 intro x
 by_cases hx : x = s
 ·subst hx
  refine ⟨?_, fun _ => ?_⟩
  ·rw [has_put_same hD (by simp [WideAt.IsKeyLit])]
   simp
  ·rw [atKey_put_same hD (by simp [WideAt.IsKeyLit])]
   rw [List.idxOf_append, if_neg hs]
   simp
 ·refine ⟨?_, fun hm => ?_⟩
  ·rw [has_put_other (lit_ne hx), (h x).1]
   simp [hx]
  ·rw [atKey_put_other (lit_ne hx)]
   have hm' : x ∈ T := by simpa [hx] using hm
   rw [(h x).2 hm', List.idxOf_append, if_pos hm']
end Go.Proofs.YtlpkpfpmcppciaaGreatDoor.Keys
end

section
namespace Go.Proofs.YtlpkpfpmcppciaaGreatDoor
open Go.RowKit
set_option linter.unusedVariables false
set_option linter.unusedSimpArgs false
structure Cel where
 has : Bool
 text : ByteArray
 sum : Int
 list : List ByteArray
def Cel.zero : Cel := ⟨false, ⟨#[]⟩, 0, []⟩
def Cel.full (c : Cel) : Bool := c.has || (c.sum != 0) || decide (0 < c.list.length)
def insAt (l : List ByteArray) (k : Nat) (v : ByteArray) : List ByteArray := l.take k ++ v :: l.drop k
/-- One write of the cell's key. -/
def Cel.step (c : Cel) (x : Wr) : Cel :=
 if x.2.2.1 = 1 then { c with has := true, text := x.2.2.2.2.1 } else if x.2.2.1 = 2 then Cel.zero else if x.2.2.1 = 3 then { c with sum := wrap64 (c.sum + x.2.2.2.2.2) } else if x.2.2.1 = 4 then { c with list := insAt c.list (min x.2.2.2.2.2.toNat c.list.length) x.2.2.2.2.1 } else c
/-- The cell of a key, by all writes. -/
def cellOf (k : ByteArray) (l : List Wr) : Cel := l.foldl (fun c x => if x.2.2.2.1 = k then c.step x else c) Cel.zero
theorem cellOf_snoc (k : ByteArray) (l : List Wr) (x : Wr) : cellOf k (l ++ [x]) = if x.2.2.2.1 = k then (cellOf k l).step x else cellOf k l := by simp [cellOf, List.foldl_append]
/-- The store: a cell, or none. -/
abbrev Sto := ByteArray → Option Cel
def Sto.nil : Sto := fun _ => none
def Sto.put (f : Sto) (k : ByteArray) (c : Option Cel) : Sto := fun j => if j = k then c else f j
def Sto.do (f : Sto) (x : Wr) : Sto := f.put x.2.2.2.1 (if x.2.2.1 = 2 then none else some (((f x.2.2.2.1).getD Cel.zero).step x))
def stoOf (l : List Wr) : Sto := l.foldl Sto.do Sto.nil
theorem stoOf_snoc (l : List Wr) (x : Wr) : stoOf (l ++ [x]) = (stoOf l).do x := by simp [stoOf, List.foldl_append]
theorem stoOf_cell (k : ByteArray) (l : List Wr) : (stoOf l k).getD Cel.zero = cellOf k l := by
 suffices h : ∀ r : List Wr, (stoOf r.reverse k).getD Cel.zero = cellOf k r.reverse by
  have := h l.reverse
  simpa using this
 intro r
 induction r with
 | nil => rfl
 | cons x r ih =>
  rw [List.reverse_cons, stoOf_snoc, cellOf_snoc]
  unfold Sto.do Sto.put
  by_cases hk : x.2.2.2.1 = k
  ·subst hk
   rw [if_pos rfl, if_pos rfl]
   by_cases h2 : x.2.2.1 = 2
   ·rw [if_pos h2]
    unfold Cel.step
    rw [if_neg (by omega), if_pos h2]
    rfl
   ·rw [if_neg h2, ih]
    rfl
  ·rw [if_neg (fun e => hk e.symm), if_neg hk, ih]
theorem stoOf_in {k : ByteArray} {l : List Wr} (h : ∀ x ∈ l, x.2.2.2.1 ≠ k) : stoOf l k = none := by
 suffices g : ∀ r : List Wr, (∀ x ∈ r.reverse, x.2.2.2.1 ≠ k) → stoOf r.reverse k = none by
  have := g l.reverse (by simpa using h)
  simpa using this
 intro r
 induction r with
 | nil => intro _; rfl
 | cons x r ih =>
  intro hr
  rw [List.reverse_cons, stoOf_snoc]
  unfold Sto.do Sto.put
  rw [if_neg (fun e => hr x (by simp) e.symm)]
  exact ih fun y hy => hr y (by simp only [List.reverse_cons, List.mem_append]; exact .inl hy)
/-! Keys by their bytes. -/
def kcmp (a b : ByteArray) : Int := Lib.compareBytes a.data.toList b.data.toList
theorem cb_self : ∀ l : List UInt8, Lib.compareBytes l l = 0
 | [] => rfl
 | a :: l => by
  unfold Lib.compareBytes
  rw [if_neg (UInt8.lt_irrefl a), if_neg (UInt8.lt_irrefl a)]
  exact cb_self l
theorem cb_zero : ∀ {l m : List UInt8}, Lib.compareBytes l m = 0 → l = m
 | [], [], _ => rfl
 | [], _ :: _, h => by unfold Lib.compareBytes at h; omega
 | _ :: _, [], h => by unfold Lib.compareBytes at h; omega
 | a :: l, b :: m, h => by
  unfold Lib.compareBytes at h
  by_cases h1 : a < b
  ·rw [if_pos h1] at h; omega
  by_cases h2 : b < a
  ·rw [if_neg h1, if_pos h2] at h; omega
  rw [if_neg h1, if_neg h2] at h
  have : a = b := UInt8.le_antisymm (UInt8.not_lt.1 h2) (UInt8.not_lt.1 h1)
  rw [this, cb_zero h]
theorem cb_anti : ∀ (l m : List UInt8), Lib.compareBytes l m = - Lib.compareBytes m l
 | [], [] => rfl
 | [], _ :: _ => rfl
 | _ :: _, [] => rfl
 | a :: l, b :: m => by
  unfold Lib.compareBytes
  by_cases h1 : a < b
  ·have h2 : ¬ b < a := fun h => UInt8.lt_irrefl a (UInt8.lt_trans h1 h)
   rw [if_pos h1, if_neg h2, if_pos h1]
  by_cases h2 : b < a
  ·rw [if_neg h1, if_pos h2, if_pos h2]; rfl
  rw [if_neg h1, if_neg h2, if_neg h2, if_neg h1]
  exact cb_anti l m
theorem cb_trans : ∀ {l m n : List UInt8}, Lib.compareBytes l m < 0 → Lib.compareBytes m n ≤ 0 → Lib.compareBytes l n < 0
 | [], [], _, h, _ => by unfold Lib.compareBytes at h; omega
 | [], b :: m, [], _, h2 => by unfold Lib.compareBytes at h2; omega
 | [], b :: m, c :: n, _, _ => by unfold Lib.compareBytes; omega
 | a :: l, [], _, h, _ => by unfold Lib.compareBytes at h; omega
 | a :: l, b :: m, [], _, h2 => by unfold Lib.compareBytes at h2; omega
 | a :: l, b :: m, c :: n, h, h2 => by
  unfold Lib.compareBytes at h h2 ⊢
  by_cases hab : a < b
  ·by_cases hbc : b < c
   ·rw [if_pos (UInt8.lt_trans hab hbc)]; omega
   rw [if_neg hbc] at h2
   by_cases hcb : c < b
   ·rw [if_pos hcb] at h2; omega
   have : b = c := UInt8.le_antisymm (UInt8.not_lt.1 hcb) (UInt8.not_lt.1 hbc)
   subst this
   rw [if_pos hab]; omega
  rw [if_neg hab] at h
  by_cases hba : b < a
  ·rw [if_pos hba] at h; omega
  rw [if_neg hba] at h
  have : a = b := UInt8.le_antisymm (UInt8.not_lt.1 hba) (UInt8.not_lt.1 hab)
  subst this
  by_cases hac : a < c
  ·rw [if_pos hac]; omega
  rw [if_neg hac] at h2 ⊢
  by_cases hca : c < a
  ·rw [if_pos hca] at h2; omega
  rw [if_neg hca] at h2 ⊢
  exact cb_trans h h2
theorem kcmp_zero {a b : ByteArray} (h : kcmp a b = 0) : a = b := by
 have := cb_zero h
 cases a; cases b
 simp only [ByteArray.mk.injEq]
 exact Array.ext' this
theorem kcmp_self (a : ByteArray) : kcmp a a = 0 := cb_self _
theorem kcmp_anti (a b : ByteArray) : kcmp a b = - kcmp b a := cb_anti _ _
theorem kcmp_trans {a b c : ByteArray} (h : kcmp a b < 0) (h2 : kcmp b c ≤ 0) : kcmp a c < 0 := cb_trans h h2
/-- Two lists that rise strictly and have the same members are one. -/
theorem rising_one {α : Type} {lt : α → α → Prop} (irr : ∀ x, ¬ lt x x) (asy : ∀ x y, lt x y → ¬ lt y x) : ∀ {l m : List α}, l.Pairwise lt → m.Pairwise lt → (∀ x, x ∈ l ↔ x ∈ m) → l = m
 | [], [], _, _, _ => rfl
 | [], b :: m, _, _, h => by have := (h b).2 (by simp); simp at this
 | a :: l, [], _, _, h => by have := (h a).1 (by simp); simp at this
 | a :: l, b :: m, h1, h2, h => by
  rw [List.pairwise_cons] at h1 h2
  have hab : a = b := by
   rcases List.mem_cons.1 ((h a).1 (by simp)) with e | e
   ·exact e
   rcases List.mem_cons.1 ((h b).2 (by simp)) with e' | e'
   ·exact e'.symm
   exact absurd (h2.1 a e) (asy _ _ (h1.1 b e'))
  subst hab
  rw [rising_one irr asy h1.2 h2.2 fun x => ⟨fun hx => ?_, fun hx => ?_⟩]
  ·rcases List.mem_cons.1 ((h x).1 (List.mem_cons_of_mem _ hx)) with e | e
   ·subst e; exact absurd (h1.1 x hx) (irr x)
   ·exact e
  ·rcases List.mem_cons.1 ((h x).2 (List.mem_cons_of_mem _ hx)) with e | e
   ·subst e; exact absurd (h2.1 x hx) (irr x)
   ·exact e
/-- All cells that have something, by rising keys. -/
structure IsOut (l : List Wr) (o : List (ByteArray × Cel)) : Prop where
 rises : o.Pairwise fun a b => kcmp a.1 b.1 < 0
 mem : ∀ k c, (k, c) ∈ o ↔ c = cellOf k l ∧ c.full = true
theorem IsOut.one {l : List Wr} {o o' : List (ByteArray × Cel)} (h : IsOut l o) (h' : IsOut l o') : o = o' :=
 rising_one (lt := fun a b => kcmp a.1 b.1 < 0) (fun x => by rw [kcmp_self]; omega) (fun x y h => by rw [kcmp_anti]; omega) h.rises h'.rises fun ⟨k, c⟩ => (h.mem k c).trans (h'.mem k c).symm
theorem cell_nil {k : ByteArray} {l : List Wr} (h : ∀ x ∈ l, x.2.2.2.1 ≠ k) : cellOf k l = Cel.zero := by
 rw [← stoOf_cell, stoOf_in h]
 rfl
/-- What the program collects: the full cells of whichever order, sorted. -/
theorem isOut_of {l : List Wr} {o : List (ByteArray × Cel)} (hs : o.Pairwise fun a b => ¬ kcmp b.1 a.1 < 0) (hn : (o.map (·.1)).Nodup) (hm : ∀ k c, (k, c) ∈ o ↔ stoOf l k = some c ∧ c.full = true) : IsOut l o := by
 refine ⟨?_, fun k c => (hm k c).trans ⟨fun ⟨h1, h2⟩ => ⟨by rw [← stoOf_cell, h1]; rfl, h2⟩, fun ⟨h1, h2⟩ => ⟨?_, h2⟩⟩⟩
 ·have hn' := List.pairwise_map.1 hn
  refine (hs.and hn').imp fun {a b} ⟨h1, h2⟩ => ?_
  have := kcmp_anti a.1 b.1
  by_cases h0 : kcmp a.1 b.1 = 0
  ·exact absurd (kcmp_zero h0) h2
  ·omega
 ·cases h : stoOf l k with
  | some d =>
   have := stoOf_cell k l
   rw [h] at this
   rw [h1, ← this]
   rfl
  | none =>
   exfalso
   have := stoOf_cell k l
   rw [h] at this
   rw [h1, ← this] at h2
   cases h2
/-- What the reference collects: over all keys, sorted. -/
theorem isOut_ref {l : List Wr} {ks : List ByteArray} (hs : ks.Pairwise fun a b => ¬ kcmp b a < 0) (hn : ks.Nodup) (hm : ∀ x ∈ l, x.2.2.2.1 ∈ ks) : IsOut l ((ks.map fun k => (k, cellOf k l)).filter fun p => p.2.full) := by
 refine ⟨?_, fun k c => ?_⟩
 ·refine List.Pairwise.filter _ (List.pairwise_map.2 ((hs.and hn).imp fun {a b} ⟨h1, h2⟩ => ?_))
  have := kcmp_anti a b
  by_cases h0 : kcmp a b = 0
  ·exact absurd (kcmp_zero h0) h2
  ·show kcmp a b < 0
   omega
 ·rw [List.mem_filter, List.mem_map]
  constructor
  ·rintro ⟨⟨j, hj, e⟩, hf⟩
   injection e with e1 e2
   subst e1
   exact ⟨e2.symm, hf⟩
  ·rintro ⟨rfl, hf⟩
   refine ⟨⟨k, ?_, rfl⟩, hf⟩
   by_cases hk : ∃ x ∈ l, x.2.2.2.1 = k
   ·obtain ⟨x, hx, rfl⟩ := hk
    exact hm x hx
   ·rw [cell_nil (fun x hx e => hk ⟨x, hx, e⟩)] at hf
    cases hf
theorem cb_lt : ∀ {l m : List UInt8}, Lib.compareBytes l m < 0 ↔ l < m
 | [], [] => by
  rw [cb_self]
  exact ⟨fun h => by omega, fun h => absurd h (List.not_lt_nil _)⟩
 | [], b :: m => ⟨fun _ => List.nil_lt_cons _ _, fun _ => by unfold Lib.compareBytes; omega⟩
 | a :: l, [] => ⟨fun h => by unfold Lib.compareBytes at h; omega, fun h => absurd h (List.not_lt_nil _)⟩
 | a :: l, b :: m => by
  rw [List.cons_lt_cons_iff]
  unfold Lib.compareBytes
  by_cases h1 : a < b
  ·rw [if_pos h1]
   exact ⟨fun _ => .inl h1, fun _ => by omega⟩
  by_cases h2 : b < a
  ·rw [if_neg h1, if_pos h2]
   exact ⟨fun h => by omega, fun h => by
    rcases h with h | ⟨rfl, _⟩
    ·exact absurd h h1
    ·exact absurd h2 (UInt8.lt_irrefl _)⟩
  have : a = b := UInt8.le_antisymm (UInt8.not_lt.1 h2) (UInt8.not_lt.1 h1)
  subst this
  rw [if_neg h1, if_neg h1, cb_lt]
  exact ⟨fun h => .inr ⟨rfl, h⟩, fun h => by
   rcases h with h | ⟨_, h⟩
   ·exact absurd h h1
   ·exact h⟩
theorem cb_le {l m : List UInt8} : l ≤ m ↔ ¬ Lib.compareBytes m l < 0 := by
 rw [cb_lt]
 exact Iff.rfl
/-- Keys, sorted. -/
def sortK (T : List ByteArray) : List ByteArray := ((T.map fun s => s.data.toList).mergeSort fun x y => decide (x ≤ y)).map fun l => ⟨l.toArray⟩
theorem sortK_perm (T : List ByteArray) : (sortK T).Perm T := by
 unfold sortK
 refine ((List.mergeSort_perm _ _).map _).trans ?_
 rw [List.map_map]
 rw [show ((fun l : List UInt8 => (⟨l.toArray⟩ : ByteArray)) ∘ fun s : ByteArray => s.data.toList) = id from funext fun s => by cases s; simp]
 rw [List.map_id]
theorem sortK_rises (T : List ByteArray) : (sortK T).Pairwise fun a b => ¬ kcmp b a < 0 := by
 unfold sortK
 rw [List.pairwise_map]
 refine (List.pairwise_mergeSort (le := fun x y : List UInt8 => decide (x ≤ y)) (fun a b c h1 h2 => ?_) (fun a b => ?_) _).imp fun {a b} h => ?_
 ·simp only [decide_eq_true_eq, cb_le] at h1 h2 ⊢
  intro h
  by_cases h0 : Lib.compareBytes b a = 0
  ·rw [cb_zero h0] at h2
   exact h2 h
  ·have h3 : Lib.compareBytes a b < 0 := by have := cb_anti a b; omega
   have := cb_trans (n := b) h (by omega)
   exact h2 this
 ·simp only [Bool.or_eq_true, decide_eq_true_eq, cb_le]
  have := cb_anti a b
  omega
 ·simp only [decide_eq_true_eq, cb_le] at h
  simpa [kcmp] using h
end Go.Proofs.YtlpkpfpmcppciaaGreatDoor
end

section
namespace Go.Proofs.YtlpkpfpmcppciaaGreatDoor
set_option linter.unusedSimpArgs false
set_option linter.unusedVariables false
open Go.RowKit Go.Maps Go.ChangeMaps Go.MapKept
theorem pm_under : Tryz.prog.underlying 78 = some (.map 9 87) := by kernel_rfl
theorem pm_str : Tryz.prog.underlying 9 = some .string := by kernel_rfl
theorem pm_law : Keyed Tryz.prog 9 := string_keyed pm_str
theorem pm_zero (w : World) : (zeroValue 87).run Tryz.prog w = .ok (.pointer none) w := by kernel_rfl
def ptrElem : Value → Option (DataW Unit × List MemPlace)
 | .pointer none => some (.nil, [])
 | .pointer (some ⟨p, 0, none⟩) => some (.lit (.int .i64 (p : Int)), [])
 | _ => none
theorem ptrElem_inv {v : Value} {d : DataW Unit} {ps : List MemPlace} (h : ptrElem v = some (d, ps)) : (v = .pointer none ∧ d = .nil) ∨ ∃ p : Nat, v = .pointer (some ⟨p, 0, none⟩) ∧ d = .lit (.int .i64 (p : Int)) := by
 unfold ptrElem at h
 split at h
 ·injection h with h; injection h with h _; exact .inl ⟨rfl, h.symm⟩
 ·injection h with h; injection h with h _; exact .inr ⟨_, rfl, h.symm⟩
 ·cases h
def lk (k : ByteArray) : Lit := .string k.data.toList
theorem lk_ne {s t : ByteArray} (h : s ≠ t) : lk s ≠ lk t := by
 intro e
 apply h
 unfold lk at e
 injection e with e
 obtain ⟨⟨a⟩⟩ := s
 obtain ⟨⟨b⟩⟩ := t
 simp at e
 rw [e]
structure PtrIs (D : DataW Unit) (f : ByteArray → Option Nat) : Prop where
 map : IsMap D
 yes : ∀ k p, f k = some p → Maps.has D (lk k) = true ∧ ∀ z, D.atKey (lk k) z = .lit (.int .i64 (p : Int))
 no : ∀ k, f k = none → Maps.has D (lk k) = false
def setP (f : ByteArray → Option Nat) (k : ByteArray) (p : Option Nat) : ByteArray → Option Nat := fun j => if j = k then p else f j
theorem PtrIs.none : PtrIs (.map []) (fun _ => Option.none) := ⟨isMap_empty, fun i s h => (by cases h), fun x _ => rfl⟩
theorem PtrIs.put {D : DataW Unit} {f : ByteArray → Option Nat} (h : PtrIs D f) (k : ByteArray) (p : Nat) : PtrIs (D.put (lk k) (.lit (.int .i64 (p : Int)))) (setP f k (some p)) := by
 refine ⟨h.map.put _ _, fun j q hj => ?_, fun j hj => ?_⟩
 ·unfold setP at hj
  by_cases e : j = k
  ·subst e
   rw [if_pos rfl] at hj
   injection hj with hj
   subst hj
   exact ⟨has_put_same h.map (by simp [lk, WideAt.IsKeyLit]) _, fun z => atKey_put_same h.map (by simp [lk, WideAt.IsKeyLit]) _ _⟩
  ·rw [if_neg e] at hj
   obtain ⟨b, c⟩ := h.yes j q hj
   exact ⟨by rw [has_put_other (lk_ne e)]; exact b, fun z => by rw [atKey_put_other (lk_ne e)]; exact c z⟩
 ·unfold setP at hj
  by_cases e : j = k
  ·rw [if_pos e] at hj; cases hj
  ·rw [if_neg e] at hj
   rw [has_put_other (lk_ne e)]
   exact h.no j hj
theorem PtrIs.del {D : DataW Unit} {f : ByteArray → Option Nat} {k : ByteArray} (h : PtrIs D f) : PtrIs (D.del (lk k)) (setP f k Option.none) := by
 refine ⟨h.map.del _, fun j q hj => ?_, fun j hj => ?_⟩
 ·unfold setP at hj
  by_cases e : j = k
  ·rw [if_pos e] at hj; cases hj
  ·rw [if_neg e] at hj
   obtain ⟨b, c⟩ := h.yes j q hj
   exact ⟨by rw [has_del_other (lk_ne e)]; exact b, fun z => by rw [atKey_del_other (lk_ne e)]; exact c z⟩
 ·unfold setP at hj
  by_cases e : j = k
  ·subst e
   exact has_del_same
  ·rw [if_neg e] at hj
   rw [has_del_other (lk_ne e)]
   exact h.no j hj
def PM (w : World) (b n : Nat) (f : ByteArray → Option Nat) : Prop := ∃ D : DataW Unit, w.ownsMap Tryz.prog 9 ptrElem b n D ∧ PtrIs D f
def ptrV : Option Nat → Value
 | Option.none => .pointer Option.none
 | some p => .pointer (some ⟨p, 0, Option.none⟩)
section
variable {w w' : World} {b n : Nat} {f : ByteArray → Option Nat}
theorem PM.made (w : World) : PM (w.alloc (.map #[] 0)) w.heap.size 0 (fun _ => Option.none) := ⟨_, World.ownsMap_made _ _ _ _, .none⟩
theorem PM.mono (h : PM w b n f) {n' : Nat} (hn : n ≤ n') : PM w b n' f := by obtain ⟨D, ho, hd⟩ := h; exact ⟨D, ho.mono hn, hd⟩
theorem PM.lt (h : PM w b n f) : b < w.heap.size := by obtain ⟨D, ho, hd⟩ := h; exact ho.lt
theorem pm_key (k : ByteArray) (hk : k.size ≤ maxLen) : keyOf Tryz.prog 9 (.string k) = some (lk k) := WideMaps.keyOf_string_mk pm_str hk
set_option maxRecDepth 100000 in
theorem PM.look (h : PM w b n f) (k : ByteArray) (hk : k.size ≤ maxLen) : (Instr.lookup 78 (.map (some b)) (.string k) false).run Tryz.prog w = .ok (ptrV (f k)) w := by
 obtain ⟨D, ho, hd⟩ := h
 obtain ⟨v, ps, hrun, hv⟩ := ho.lookup pm_law pm_under (pm_zero w) (zd := .nil) (zp := []) rfl (pm_key k hk)
 rw [hrun]
 cases hf : f k with
 | none =>
  rw [atKey_of_not_has (hd.no k hf)] at hv
  rcases ptrElem_inv hv with ⟨rfl, _⟩ | ⟨p, rfl, e⟩
  ·rfl
  ·cases e
 | some p =>
  rw [(hd.yes k p hf).2] at hv
  rcases ptrElem_inv hv with ⟨rfl, e⟩ | ⟨q, rfl, e⟩
  ·cases e
  ·injection e with e
   injection e with _ e
   obtain rfl : p = q := by omega
   rfl
theorem PM.put (h : PM w b n f) (k : ByteArray) (hk : k.size ≤ maxLen) (hn : n < maxLen) (p : Nat) : ∃ w', (Instr.mapUpdate 78 (.map (some b)) (.string k) (.pointer (some ⟨p, 0, Option.none⟩))).run Tryz.prog w = .ok () w' ∧ PM w' b (n + 1) (setP f k (some p)) ∧ w.grownBy w' (some b) := by
 obtain ⟨D, ho, hd⟩ := h
 obtain ⟨w', hrun, ho', hg⟩ := ho.update pm_law pm_under hn (pm_key k hk) (val := .pointer (some ⟨p, 0, Option.none⟩)) (d := .lit (.int .i64 (p : Int))) (ps := []) rfl
 exact ⟨w', hrun, ⟨_, ho', hd.put k p⟩, hg⟩
theorem PM.drop (h : PM w b n f) (k : ByteArray) (hk : k.size ≤ maxLen) (ty : TypeId) : ∃ w', (Builtin.delete_ #[78, 9] ty #[.map (some b), .string k]).run Tryz.prog w = .ok (.tuple #[]) w' ∧ PM w' b n (setP f k Option.none) ∧ w.grownBy w' (some b) := by
 obtain ⟨D, ho, hd⟩ := h
 obtain ⟨w', hrun, ho', hg⟩ := ho.drop pm_law pm_under (pm_key k hk) ty
 exact ⟨w', hrun, ⟨_, ho', hd.del⟩, hg.grown⟩
theorem PM.kept {row : Option Nat} (h : PM w b n f) (hg : w.grownBy w' row) (hne : some b ≠ row) : PM w' b n f := by obtain ⟨D, ho, hd⟩ := h; exact ⟨D, ho.kept hg hne, hd⟩
theorem PM.at (h : PM w b n f) (hb : w'.heap[b]? = w.heap[b]?) : PM w' b n f := by
 obtain ⟨D, ⟨es, clock, hh, F, hs, hD⟩, hd⟩ := h
 exact ⟨D, ⟨es, clock, hb.trans hh, F, hs, hD⟩, hd⟩
end
end Go.Proofs.YtlpkpfpmcppciaaGreatDoor
end

section
namespace Go.Proofs.YtlpkpfpmcppciaaGreatDoor
set_option linter.unusedSimpArgs false
set_option linter.unusedVariables false
open Go.RowKit
/-- All blocks but those of S stand. -/
structure Turned (S : Nat → Prop) (w w' : World) : Prop where
 os : w'.os = w.os
 tape : w'.tape = w.tape
 output : w'.output = w.output
 size : w.heap.size ≤ w'.heap.size
 block : ∀ k, k < w.heap.size → ¬ S k → w'.heap[k]? = w.heap[k]?
section
variable {S S' : Nat → Prop} {w w' w'' : World} {b B : Nat}
theorem Turned.refl (S : Nat → Prop) (w : World) : Turned S w w := ⟨rfl, rfl, rfl, Nat.le_refl _, fun _ _ _ => rfl⟩
theorem Turned.trans (h : Turned S w w') (k : Turned S w' w'') : Turned S w w'' :=
 ⟨k.os.trans h.os, k.tape.trans h.tape, k.output.trans h.output, Nat.le_trans h.size k.size, fun i hi hn => (k.block i (Nat.lt_of_lt_of_le hi h.size) hn).trans (h.block i hi hn)⟩
theorem Turned.mono (h : Turned S w w') (hs : ∀ i, S i → S' i) : Turned S' w w' := ⟨h.os, h.tape, h.output, h.size, fun i hi hn => h.block i hi (fun q => hn (hs i q))⟩
/-- New blocks may turn as they like. -/
theorem Turned.then (h : Turned S w w') (k : Turned S' w' w'') (hs : ∀ i, S' i → S i ∨ w.heap.size ≤ i) : Turned S w w'' :=
 ⟨k.os.trans h.os, k.tape.trans h.tape, k.output.trans h.output, Nat.le_trans h.size k.size, fun i hi hn => (k.block i (Nat.lt_of_lt_of_le hi h.size) (fun q => by rcases hs i q with q | q; exact hn q; omega)).trans (h.block i hi hn)⟩
theorem Turned.of_below (h : Below w.heap.size w w') : Turned S w w' := ⟨h.os, h.tape, h.output, h.size, fun i hi _ => h.block i hi⟩
theorem Turned.of_grown (h : w.grownBy w' (some b)) (hb : S b) : Turned S w w' := ⟨h.os, h.tape, h.output, h.size, fun i hi hn => h.block i hi (fun e => hn (by injection e with e; rw [e]; exact hb))⟩
theorem Turned.below (h : Turned S w w') (hS : ∀ i, S i → B ≤ i) (hB : B ≤ w.heap.size) : Below B w w' := ⟨h.os, h.tape, h.output, h.size, fun i hi => h.block i (Nat.lt_of_lt_of_le hi hB) (fun q => by have := hS i q; omega)⟩
theorem Turned.cell (h : Turned S w w') {a : Addr} {v : Value} (hc : w.cell? a = some v) (hn : ¬ S a.block) : w'.cell? a = some v := by
 rw [World.cell?_of_block (h.block a.block (cell_lt hc) hn)]; exact hc
theorem Turned.frozen (h : Turned S w w') {a : Addr} (hl : a.block < w.heap.size) (hn : ¬ S a.block) : w'.frozen? a = w.frozen? a := World.frozen?_of_block (h.block a.block hl hn)
theorem Turned.own (h : Turned S w w') {base : Nat} {e : TypeId} {size n : Nat} {v : Value} {xs : List Value} (ho : w.ownsRow base e size v n xs) (hn : ∀ k, v.ownBlock = some k → ¬ S k) : w'.ownsRow base e size v n xs := by
 refine ⟨ho.1, ?_⟩
 rcases ho.2 with hn' | ⟨g, cap, cur, rfl, hb, hgg, rest⟩
 ·exact .inl hn'
 ·refine .inr ⟨g, cap, cur, rfl, hb, ?_, rest⟩
  rw [h.block g (Array.getElem?_eq_some_iff.1 hgg).1 (hn g rfl)]
  exact hgg
theorem Turned.set (w : World) (i : Nat) (v : Value) (hb : S b) : Turned S w (w.setCell ⟨b, i, none⟩ v) :=
 ⟨rfl, rfl, rfl, by simp, fun k hk hn => Below.heap_setCell _ _ _ _ (fun e => hn (by rw [e]; exact hb))⟩
end
/-- Only the blocks of F turn; F' are some of these, and new ones. -/
structure Moves (F F' : Nat → Prop) (w w' : World) : Prop where
 t : Turned F w w'
 g : ∀ i, F' i → F i ∨ w.heap.size ≤ i
section
variable {F F' F'' G : Nat → Prop} {w w' w'' : World} {B : Nat}
theorem Moves.refl (F : Nat → Prop) (w : World) : Moves F F w w := ⟨.refl _ _, fun _ h => .inl h⟩
theorem Moves.trans (h : Moves F F' w w') (k : Moves F' F'' w' w'') : Moves F F'' w w'' :=
 ⟨h.t.then k.t h.g, fun i hi => by
  rcases k.g i hi with q | q
  ·exact h.g i q
  ·exact .inr (Nat.le_trans h.t.size q)⟩
theorem Moves.of_below (h : Below w.heap.size w w') : Moves F F w w' := ⟨.of_below h, fun _ h => .inl h⟩
theorem Moves.set (w : World) (b i : Nat) (v : Value) (hb : F b) : Moves F F w (w.setCell ⟨b, i, none⟩ v) := ⟨.set w i v hb, fun _ h => .inl h⟩
theorem Moves.size (h : Moves F F' w w') : w.heap.size ≤ w'.heap.size := h.t.size
/-- What lies from B on, and is there. -/
def Within (F : Nat → Prop) (B : Nat) (w : World) : Prop := ∀ i, F i → B ≤ i ∧ i < w.heap.size
def Apart (F G : Nat → Prop) : Prop := ∀ i, F i → ¬ G i
theorem Within.grow (h : Within F B w) (hs : w.heap.size ≤ w'.heap.size) : Within F B w' := fun i hi => ⟨(h i hi).1, Nat.lt_of_lt_of_le (h i hi).2 hs⟩
theorem Apart.symm (h : Apart F G) : Apart G F := fun i hg hf => h i hf hg
theorem Moves.below (h : Moves F F' w w') (hw : Within F B w) (hB : B ≤ w.heap.size) : Below B w w' := h.t.below (fun i hi => (hw i hi).1) hB
theorem Turned.apart (h : Turned F w w') (ha : Apart F G) {i : Nat} (hg : G i) : ¬ F i := fun hf => ha i hf hg
end


/-- Cells of a thing that may be written. -/
def RC (w : World) (r : Nat) (vs : List Value) : Prop := ∀ i v, vs[i]? = some v → w.cell? ⟨r, i, none⟩ = some v ∧ w.frozen? ⟨r, i, none⟩ = false
section
variable {w w' : World} {r : Nat} {vs : List Value} {F : Nat → Prop}
theorem RC.turned (h : RC w r vs) (ht : Turned F w w') (hn : ¬ F r) : RC w' r vs := fun i v hv =>
 ⟨ht.cell (h i v hv).1 hn, (ht.frozen (a := ⟨r, i, none⟩) (cell_lt (h i v hv).1) hn).trans (h i v hv).2⟩
theorem RC.below (h : RC w r vs) (hb : Below w.heap.size w w') : RC w' r vs := h.turned (F := fun _ => False) (.of_below hb) id
theorem RC.set (h : RC w r vs) (k : Nat) (x : Value) (hk : k < vs.length) : RC (w.setCell ⟨r, k, none⟩ x) r (vs.set k x) := by
 intro i v hv
 rw [List.getElem?_set] at hv
 by_cases e : k = i
 ·subst e
  rw [if_pos rfl, if_pos hk] at hv
  injection hv with hv
  subst hv
  obtain ⟨h1, h2⟩ := h k _ (List.getElem?_eq_getElem hk)
  exact ⟨World.cell?_setCell_same _ _ _ h1, by rw [World.frozen?_setCell]; exact h2⟩
 ·rw [if_neg e] at hv
  obtain ⟨h1, h2⟩ := h i v hv
  refine ⟨?_, by rw [World.frozen?_setCell]; exact h2⟩
  rw [World.cell?_setCell_other _ _ _ _ (by intro q; injection q with _ q; exact e q)]
  exact h1
theorem RC.new (w : World) (vs : List Value) (t : TypeId) : RC (w.alloc (.cells vs.toArray t)) w.heap.size vs := by
 intro i v hv
 refine ⟨?_, by simp⟩
 rw [World.cell?_alloc_new]
 simpa using hv
end
end Go.Proofs.YtlpkpfpmcppciaaGreatDoor
end

section
namespace Go.Proofs.YtlpkpfpmcppciaaGreatDoor
open Go Go.RowKit
theorem own_less {w : World} {base base' : Nat} {e : TypeId} {size n : Nat} {v : Value} {xs : List Value} (h : w.ownsRow base e size v n xs) (hb : base' ≤ base) : w.ownsRow base' e size v n xs := by
 refine ⟨h.1, ?_⟩
 rcases h.2 with hn | ⟨g, cap, cur, hv, hbg, r⟩
 ·exact .inl hn
 ·exact .inr ⟨g, cap, cur, hv, Nat.le_trans hb hbg, r⟩
end Go.Proofs.YtlpkpfpmcppciaaGreatDoor
end

section
namespace Go.Proofs.YtlpkpfpmcppciaaGreatDoor.Keys
open Go.RowKit Go.Maps
theorem strInfo : (Tryz.prog.info? 9).map (fun i => (i.zero, i.size, i.bytes)) = some (some (.string ⟨#[]⟩), 1, 16) := by kernel_rfl
theorem intInfo : (Tryz.prog.info? 3).map (fun i => (i.zero, i.size, i.bytes)) = some (some (.int .i64 0), 1, 8) := by kernel_rfl
abbrev strV (T : List ByteArray) : List Value := T.map Value.string
abbrev intV (T : List Int) : List Value := T.map (Value.int .i64)
end Go.Proofs.YtlpkpfpmcppciaaGreatDoor.Keys
end

section
namespace Go.Proofs.YtlpkpfpmcppciaaGreatDoor
set_option linter.unusedSimpArgs false
set_option linter.unusedVariables false
open Go.RowKit Go.Maps
theorem bel1 (w : World) (o : Obj) : Below w.heap.size w (w.alloc o) := (Below.refl _ _).alloc (Nat.le_refl _) o
/-- A cell, with the slice that holds its list. -/
abbrev CelX := ByteArray × Cel × Option Addr × Nat × Nat
def CelX.lv (x : CelX) : Value := .slice x.2.2.1 x.2.2.2.1 x.2.2.2.2
def celV (x : CelX) : List Value := [.string x.1, .bool x.2.1.has, .string x.2.1.text, .int .i64 x.2.1.sum, x.lv]
theorem celV_len (x : CelX) : (celV x).length = 5 := rfl
theorem celV_one (x : CelX) : ∀ v ∈ celV x, v.oneCell' = true := by
 intro v hv
 simp only [celV, CelX.lv, List.mem_cons, List.mem_singleton, List.not_mem_nil, or_false] at hv
 rcases hv with rfl | rfl | rfl | rfl | rfl <;> rfl
def strsV (l : List ByteArray) : List Value := l.map Value.string
/-- The list of a cell is a row of its own. -/
def LstOk (w : World) (B : Nat) (x : CelX) : Prop := w.ownsRow B 9 1 x.lv x.2.1.list.length (strsV x.2.1.list) ∧ (x.2.1.list = [] → x.lv = .slice none 0 0)
section
variable {w w' : World} {B p : Nat} {x : CelX} {F : Nat → Prop}
theorem LstOk.turned (h : LstOk w B x) (ht : Turned F w w') (hn : ∀ k, x.lv.ownBlock = some k → ¬ F k) : LstOk w' B x := ⟨ht.own h.1 hn, h.2⟩
theorem LstOk.below (h : LstOk w B x) (hb : Below w.heap.size w w') : LstOk w' B x := h.turned (F := fun _ => False) (.of_below hb) (fun _ _ q => q)
theorem LstOk.lt (h : LstOk w B x) : ∀ k, x.lv.ownBlock = some k → B ≤ k ∧ k < w.heap.size := h.1.lt
theorem LstOk.len (h : LstOk w B x) : x.2.2.2.1 = x.2.1.list.length := by
 rcases h.1.2 with ⟨e, h0⟩ | ⟨g, cap, cur, e, _⟩
 ·unfold CelX.lv at e
  injection e with _ e2
  rw [e2, h0]
 ·unfold CelX.lv at e
  injection e with _ e2
theorem LstOk.slice (h : LstOk w B x) : x.lv = .slice x.2.2.1 x.2.1.list.length x.2.2.2.2 := by unfold CelX.lv; rw [h.len]
theorem LstOk.zero (w : World) (B : Nat) (k : ByteArray) : LstOk w B (k, Cel.zero, none, 0, 0) := ⟨World.ownsRow_nil _ _ _ _, fun _ => rfl⟩
end
theorem LstOk.kept {w w' : World} {B B' n : Nat} {x : CelX} {v : Value} {xs : List Value} (h : LstOk w B x) (ho : w.ownsRow B' 90 5 v n xs) (hg : w.grownBy w' v.ownBlock) : LstOk w' B x := ⟨h.1.kept hg (own_ne h.1 ho (by decide)), h.2⟩
theorem LstOk.less {w : World} {B B' : Nat} {x : CelX} (h : LstOk w B x) (hb : B' ≤ B) : LstOk w B' x := ⟨own_less h.1 hb, h.2⟩
structure CelAt (w : World) (B p : Nat) (x : CelX) : Prop where
 rc : RC w p (celV x)
 l : LstOk w B x
section
variable {w w' : World} {B p : Nat} {x : CelX} {F : Nat → Prop}
theorem CelAt.turned (h : CelAt w B p x) (ht : Turned F w w') (hp : ¬ F p) (hn : ∀ k, x.lv.ownBlock = some k → ¬ F k) : CelAt w' B p x := ⟨h.rc.turned ht hp, h.l.turned ht hn⟩
theorem CelAt.lt (h : CelAt w B p x) : p < w.heap.size := cell_lt (h.rc 0 _ rfl).1
end
/-! The store. -/
abbrev FP := ByteArray → Option (Nat × CelX)
def FP.sto (fp : FP) : Sto := fun k => (fp k).map fun q => q.2.2.1
def FP.pl (fp : FP) : ByteArray → Option Nat := fun k => (fp k).map (·.1)
def FP.set (fp : FP) (k : ByteArray) (q : Option (Nat × CelX)) : FP := fun j => if j = k then q else fp j
def FP.nil : FP := fun _ => none
theorem FP.pl_set (fp : FP) (k : ByteArray) (q : Option (Nat × CelX)) : (fp.set k q).pl = setP fp.pl k (q.map (·.1)) := by
 funext j
 simp only [FP.pl, FP.set, setP]
 split <;> rfl
theorem FP.sto_set (fp : FP) (k : ByteArray) (q : Option (Nat × CelX)) : (fp.set k q).sto = fp.sto.put k (q.map fun r => r.2.2.1) := by
 funext j
 simp only [FP.sto, FP.set, Sto.put]
 split <;> rfl
theorem FP.set_same (fp : FP) (k : ByteArray) (q : Option (Nat × CelX)) : fp.set k q k = q := if_pos rfl
theorem FP.set_other (fp : FP) {k j : ByteArray} (q : Option (Nat × CelX)) (h : j ≠ k) : fp.set k q j = fp j := if_neg h
/-- The blocks of a key. -/
def Bl (fp : FP) (k : ByteArray) (i : Nat) : Prop := ∃ p x, fp k = some (p, x) ∧ (i = p ∨ x.lv.ownBlock = some i)
structure SR (w : World) (B s m n : Nat) (fp : FP) : Prop where
 root : RC w s [.map (some m)]
 pm : PM w m n fp.pl
 cel : ∀ k p x, fp k = some (p, x) → CelAt w B p x ∧ x.1 = k ∧ x.lv.ownBlock ≠ some p ∧ x.2.1.list.length ≤ n
 lo : ∀ k i, Bl fp k i → B ≤ i ∧ i < w.heap.size ∧ i ≠ s ∧ i ≠ m
 dis : ∀ k j i, Bl fp k i → Bl fp j i → k = j
 sl : B ≤ s ∧ s < w.heap.size ∧ B ≤ m ∧ m < w.heap.size ∧ s ≠ m
/-- All blocks of the store. -/
def SF (s m : Nat) (fp : FP) : Nat → Prop := fun i => i = s ∨ i = m ∨ ∃ k, Bl fp k i
section
variable {w w' : World} {B s m n n' : Nat} {fp : FP} {F : Nat → Prop}
theorem SR.turned (h : SR w B s m n fp) (ht : Turned F w w') (ha : ∀ i, SF s m fp i → ¬ F i) : SR w' B s m n fp where
 root := h.root.turned ht (ha s (.inl rfl))
 pm := h.pm.at (ht.block m h.sl.2.2.2.1 (ha m (.inr (.inl rfl))))
 cel := fun k p x e => by
  obtain ⟨h1, h2, h3, h4⟩ := h.cel k p x e
  exact ⟨h1.turned ht (ha _ (.inr (.inr ⟨k, p, x, e, .inl rfl⟩))) fun i hi => ha _ (.inr (.inr ⟨k, p, x, e, .inr hi⟩)), h2, h3, h4⟩
 lo := fun k i hi => by
  obtain ⟨h1, h2, h3⟩ := h.lo k i hi
  exact ⟨h1, Nat.lt_of_lt_of_le h2 ht.size, h3⟩
 dis := h.dis
 sl := ⟨h.sl.1, Nat.lt_of_lt_of_le h.sl.2.1 ht.size, h.sl.2.2.1, Nat.lt_of_lt_of_le h.sl.2.2.2.1 ht.size, h.sl.2.2.2.2⟩
theorem SR.below (h : SR w B s m n fp) (hb : Below w.heap.size w w') : SR w' B s m n fp := h.turned (F := fun _ => False) (.of_below hb) (fun _ _ q => q)
theorem SR.bl_set {k : ByteArray} {q : Option (Nat × CelX)} {j : ByteArray} {i : Nat} (hi : Bl (fp.set k q) j i) : (j = k ∧ ∃ p x, q = some (p, x) ∧ (i = p ∨ x.lv.ownBlock = some i)) ∨ (j ≠ k ∧ Bl fp j i) := by
 obtain ⟨p, x, e, hh⟩ := hi
 by_cases hj : j = k
 ·subst hj
  rw [FP.set_same] at e
  exact .inl ⟨rfl, p, x, e, hh⟩
 ·rw [FP.set_other _ _ hj] at e
  exact .inr ⟨hj, p, x, e, hh⟩
/-- One key's cell turns, or comes, or goes. -/
theorem SR.set (h : SR w B s m n fp) {k : ByteArray} (ht : Turned (fun i => i = m ∨ Bl fp k i) w w') (q : Option (Nat × CelX)) (hn : n ≤ n') (hpm : PM w' m n' (fp.set k q).pl)
  (hq : ∀ p x, q = some (p, x) → CelAt w' B p x ∧ x.1 = k ∧ x.lv.ownBlock ≠ some p ∧ x.2.1.list.length ≤ n' ∧ ∀ i, i = p ∨ x.lv.ownBlock = some i → Bl fp k i ∨ w.heap.size ≤ i) : SR w' B s m n' (fp.set k q) := by
 have hsl := h.sl
 have hw : ∀ p x, q = some (p, x) → ∀ i, i = p ∨ x.lv.ownBlock = some i → i < w'.heap.size := fun p x e i hi => by
  rcases hi with rfl | hi
  ·exact (hq _ x e).1.lt
  ·exact ((hq p x e).1.l.lt i hi).2
 refine ⟨h.root.turned ht (fun e => ?_), hpm, fun j p x e => ?_, fun j i hi => ?_, fun j j' i hi hi' => ?_, ⟨hsl.1, Nat.lt_of_lt_of_le hsl.2.1 ht.size, hsl.2.2.1, Nat.lt_of_lt_of_le hsl.2.2.2.1 ht.size, hsl.2.2.2.2⟩⟩
 ·rcases e with e | e
  ·exact hsl.2.2.2.2 e
  ·exact (h.lo k s e).2.2.1 rfl
 ·by_cases hj : j = k
  ·subst hj
   rw [FP.set_same] at e
   obtain ⟨h1, h2, h3, h4, _⟩ := hq p x e
   exact ⟨h1, h2, h3, h4⟩
  ·rw [FP.set_other _ _ hj] at e
   obtain ⟨h1, h2, h3, h4⟩ := h.cel j p x e
   have hap : ∀ i, Bl fp j i → ¬ (i = m ∨ Bl fp k i) := fun i hi q => by
    rcases q with q | q
    ·exact (h.lo j i hi).2.2.2 q
    ·exact hj (h.dis j k i hi q)
   exact ⟨h1.turned ht (hap _ ⟨p, x, e, .inl rfl⟩) fun i hi => hap _ ⟨p, x, e, .inr hi⟩, h2, h3, Nat.le_trans h4 hn⟩
 ·rcases SR.bl_set hi with ⟨rfl, p, x, e, hh⟩ | ⟨hj, hb⟩
  ·have hlt := hw p x e i hh
   rcases (hq p x e).2.2.2.2 i hh with hb | hb
   ·obtain ⟨a, b, c⟩ := h.lo _ i hb
    exact ⟨a, hlt, c⟩
   ·exact ⟨by omega, hlt, by omega, by omega⟩
  ·obtain ⟨a, b, c⟩ := h.lo _ i hb
   exact ⟨a, Nat.lt_of_lt_of_le b ht.size, c⟩
 ·rcases SR.bl_set hi with ⟨rfl, p, x, e, hh⟩ | ⟨hj, hb⟩ <;> rcases SR.bl_set hi' with ⟨rfl, p', x', e', hh'⟩ | ⟨hj', hb'⟩
  ·rfl
  ·rcases (hq p x e).2.2.2.2 i hh with hb | hb
   ·exact h.dis _ _ i hb hb'
   ·have := (h.lo _ i hb').2.1; omega
  ·rcases (hq p' x' e').2.2.2.2 i hh' with hb2 | hb2
   ·exact h.dis _ _ i hb hb2
   ·have := (h.lo _ i hb).2.1; omega
  ·exact h.dis _ _ i hb hb'
theorem SR.moves {k : ByteArray} (ht : Turned (fun i => i = m ∨ Bl fp k i) w w') (q : Option (Nat × CelX))
  (hq : ∀ p x, q = some (p, x) → ∀ i, i = p ∨ x.lv.ownBlock = some i → Bl fp k i ∨ w.heap.size ≤ i) : Moves (SF s m fp) (SF s m (fp.set k q)) w w' := by
 refine ⟨ht.mono fun i hi => ?_, fun i hi => ?_⟩
 ·rcases hi with hi | hi
  ·exact .inr (.inl hi)
  ·exact .inr (.inr ⟨k, hi⟩)
 ·rcases hi with hi | hi | ⟨j, hi⟩
  ·exact .inl (.inl hi)
  ·exact .inl (.inr (.inl hi))
  ·rcases SR.bl_set hi with ⟨rfl, p, x, e, hh⟩ | ⟨hj, hb⟩
   ·rcases hq p x e i hh with hb | hb
    ·exact .inl (.inr (.inr ⟨_, hb⟩))
    ·exact .inr hb
   ·exact .inl (.inr (.inr ⟨j, hb⟩))
theorem SR.within (h : SR w B s m n fp) : Within (SF s m fp) B w := fun i hi => by
 rcases hi with rfl | rfl | ⟨k, hi⟩
 ·exact ⟨h.sl.1, h.sl.2.1⟩
 ·exact ⟨h.sl.2.2.1, h.sl.2.2.2.1⟩
 ·exact ⟨(h.lo k i hi).1, (h.lo k i hi).2.1⟩
theorem SR.base (h : SR w B s m n fp) : B ≤ w.heap.size := by have := h.sl; omega
end
end Go.Proofs.YtlpkpfpmcppciaaGreatDoor
end

section
namespace Go.Proofs.YtlpkpfpmcppciaaGreatDoor
set_option linter.unusedSimpArgs false
set_option linter.unusedVariables false
open Go.RowKit
open Go.Sort (grow putRow putCells Holds SWO PermIn SortedIn mapBlock onCells flatK size_flatK HoldsK putRowK)
section
variable {α : Type} [Inhabited α]
theorem flatK_list (enc : α → List Value) (k : Nat) (hk : ∀ x, (enc x).length = k) (L : List α) : (flatK enc k L.toArray).toList = L.flatMap enc := by
 apply List.ext_getElem?
 intro t
 by_cases ht : t < L.length * k
 ·have hk0 : 0 < k := by
   rcases Nat.eq_zero_or_pos k with h | h
   ·subst h; omega
   ·exact h
  have hi : t / k < L.length := by rw [Nat.div_lt_iff_lt_mul hk0]; exact ht
  have e : t = t / k * k + t % k := by rw [Nat.mul_comm]; exact (Nat.div_add_mod t k).symm
  have hm := Nat.mod_lt t hk0
  have h1 := flat_get enc k hk L (t / k) (t % k) _ (List.getElem?_eq_getElem hi) hm
  rw [← e] at h1
  rw [h1]
  have hl : t % k < (enc L[t / k]).length := by rw [hk]; exact hm
  simp [flatK, ht, hi, List.getElem?_eq_getElem hl, hl]
 ·rw [List.getElem?_eq_none (by simp; omega), List.getElem?_eq_none (by rw [flat_len enc k hk]; omega)]
theorem heap_sortedK {w : World} {g n : Nat} {os : Array Obj} {cur : Array Value} {e : TypeId} (F : Array Value) (hb : w.heap[g]? = some (.cells cur e (0, 0))) :
  (grow (putRow id (Sort.ahead w n) g 0 F) os).heap[g]? = some (.cells (putCells id 0 F cur) e (0, 0)) := by
 have hg : g < w.heap.size := (Array.getElem?_eq_some_iff.1 hb).1
 rw [Go.Sort.heap_grow_old _ _ (by simpa using hg)]
 simp [putRow, mapBlock, Sort.ahead, Array.getElem?_modify, hb, onCells]
theorem take_putCellsK (cur : Array Value) (F : Array Value) (h : F.size ≤ cur.size) : (putCells id 0 F cur).toList.take F.size = F.toList := by
 apply List.ext_getElem?
 intro j
 by_cases hj : j < F.size
 ·rw [List.getElem?_take_of_lt hj, Array.getElem?_toList]
  simp [putCells, hj, show j < cur.size by omega]
 ·rw [List.getElem?_take_eq_none (by omega), List.getElem?_eq_none (by simp; omega)]
theorem turned_sortedK (enc : α → List Value) (k : Nat) (w : World) (g n : Nat) (d : Array α) (os : Array Obj) : Turned (fun i => i = g) w (sortWorldK enc k w g 0 n d os) := by
 refine ⟨rfl, rfl, rfl, by simp [sortWorldK, putRowK], fun i hi hne => ?_⟩
 unfold sortWorldK putRowK
 rw [Go.Sort.heap_grow_old _ _ (by simpa using hi)]
 have : g ≠ i := fun e => hne e.symm
 simp [putRow, mapBlock, Sort.ahead, Array.getElem?_modify, this]
theorem own_sortedK {w : World} {B g cap n q : Nat} {e : TypeId} {os : Array Obj} {enc : α → List Value} {k : Nat} (hk : ∀ x, (enc x).length = k) {L L' : List α} (hl : L'.length = L.length)
  (h : w.ownsRow B e k (.slice (some ⟨g, 0, none⟩) n cap) L.length (L.flatMap enc)) : (sortWorldK enc k w g 0 q L'.toArray os).ownsRow B e k (.slice (some ⟨g, 0, none⟩) n cap) L.length (L'.flatMap enc) := by
 rcases h.2 with ⟨e', _⟩ | ⟨g', cap', cur, e', hb, hg, hn, hm, hs, ht⟩
 ·injection e' with e1; cases e1
 ·injection e' with e1 e2 e3
  injection e1 with e1
  injection e1 with e1
  subst e1 e2 e3
  have hF : (flatK enc k L'.toArray).toList = L'.flatMap enc := flatK_list enc k hk L'
  have hsz : (flatK enc k L'.toArray).size = L.length * k := by rw [size_flatK]; simp [hl]
  refine ⟨by rw [flat_len enc k hk, hl], .inr ⟨g, cap, _, rfl, hb, heap_sortedK (flatK enc k L'.toArray) hg, hn, hm, by simp [putCells, hs], ?_⟩⟩
  have := take_putCellsK cur (flatK enc k L'.toArray) (by rw [hsz, hs]; exact Nat.mul_le_mul_right k hn)
  rw [hsz] at this
  rw [this, hF]
theorem holdsK_own {w : World} {B g cap n : Nat} {e : TypeId} {enc : α → List Value} {k : Nat} (hk : ∀ x, (enc x).length = k) {L : List α} (h : w.ownsRow B e k (.slice (some ⟨g, 0, none⟩) n cap) L.length (L.flatMap enc)) : HoldsK enc k w g 0 L.toArray := by
 intro j hj
 rw [size_flatK] at hj
 have hj' : j < L.length * k := by simpa using hj
 have hn : n = L.length := by
  rcases h.2 with ⟨e', _⟩ | ⟨g', cap', cur, e', _⟩
  ·injection e' with e1; cases e1
  ·injection e' with e1 e2
 subst hn
 refine ⟨?_, h.frozenAt _⟩
 rw [Nat.zero_add, h.cellAt j hj', ← flatK_list enc k hk L, Array.getElem?_toList]
 have : j < (flatK enc k L.toArray).size := by rw [size_flatK]; simpa using hj'
 rw [Array.getElem?_eq_getElem this]
 show _ = some ((flatK enc k L.toArray)[j]!)
 rw [getElem!_pos (flatK enc k L.toArray) j this]
theorem permIn_list {d d' : Array α} (h : PermIn 0 d.size d d') : d'.toList.Perm d.toList := by
 have h1 := h.2.2
 have e1 : d.extract 0 d.size = d := by simp
 have e2 : d'.extract 0 d.size = d' := by rw [← h.1]; simp
 rw [e1, e2] at h1
 exact h1
theorem sortedIn_list {d : Array α} {lt : α → α → Bool} {n : Nat} (hn : n = d.size) (h : SortedIn lt 0 n d) : d.toList.Pairwise fun a b => lt b a = false := by
 rw [List.pairwise_iff_getElem]
 intro i j hi hj hij
 have hi' : i < d.size := by simpa using hi
 have hj' : j < d.size := by simpa using hj
 have := h i j (Nat.zero_le _) hij (by omega)
 simpa [hi', hj'] using this
end
instance : Inhabited CelX := ⟨(⟨#[]⟩, Cel.zero, none, 0, 0)⟩
def cutX (x : CelX) : ByteArray × Cel := (x.1, x.2.1)
/-- What holds a list of cells. -/
structure OutR (w : World) (B : Nat) (v : Value) (o : List (ByteArray × Cel)) : Prop where
 ex : ∃ L : List CelX, L.map cutX = o ∧ w.ownsRow B 90 5 v L.length (L.flatMap celV) ∧ ∀ x ∈ L, LstOk w B x
def cmpX (x y : CelX) : Int := kcmp x.1 y.1
theorem swoX : SWO (ltOf cmpX) where
 irrefl x := by
  unfold ltOf cmpX
  rw [kcmp_self]
  rfl
 trans x y z h1 h2 := by
  unfold ltOf cmpX at *
  simp only [decide_eq_true_eq] at *
  exact kcmp_trans h1 (by omega)
 ntrans x y z h1 h2 := by
  unfold ltOf cmpX at *
  simp only [decide_eq_false_iff_not] at *
  intro h
  have a1 := kcmp_anti x.1 y.1
  have a2 := kcmp_anti y.1 z.1
  by_cases h0 : kcmp y.1 x.1 = 0
  ·have := kcmp_zero h0
   rw [← this] at h
   exact h2 h
  ·have hyx : kcmp y.1 x.1 < 0 := by omega
   exact h2 (kcmp_trans hyx (by omega))
end Go.Proofs.YtlpkpfpmcppciaaGreatDoor
end
