/- Words of my own for memory: a slice value that reads as a list of cells; how that is kept; lists out of facts for each index. No program in sight. -/
import Derived.Below
import Derived.Laws.OwnMore
import Derived.Laws.AppendOwn
import Derived.Deep.Draws
import Derived.Deep.QuietTactic
import Derived.BigQuiet
import Derived.Test.YtkejlnjnoiidnaaGreatDoorProg
import Derived.WalkKit
import Derived.WalkLawsBesides
import Derived.WalkSpells
import Derived.Outline
import Derived.Lib.Hide
import Derived.Laws.StructEq
import Derived.KernelRfl
import Derived.LaidEql
import Derived.Stop.Asserts
import Derived.RowKitTokens
set_option linter.unusedSimpArgs false
set_option linter.unusedVariables false
section
namespace Go.Proofs.YtkejlnjnoiidnaaGreatDoor
open Go.RowKit
instance : LawfulBEq ByteArray where
 eq_of_beq {a b} h := by
  obtain ⟨a⟩ := a
  obtain ⟨b⟩ := b
  have h' : (a == b) = true := h
  rw [eq_of_beq h']
 rfl {a} := by
  show (a.data == a.data) = true
  simp
theorem below_drewN {B : Nat} {a w : World} (h : Below B a w) (n : Nat) : Below B a (w.drewN n) := ⟨h.os, h.tape, h.output, h.size, h.block⟩
theorem retI {k : IntKind} {a b : Int} (h : a = b) : Ending.returned (.int k a) = .returned (.int k b) := by rw [h]
theorem retB {a b : Bool} (h : a = b) : Ending.returned (.bool a) = .returned (.bool b) := by rw [h]
theorem valI {k : IntKind} {a b : Int} (h : a = b) : Value.int k a = .int k b := by rw [h]
theorem cell_lt {w : World} {a : Addr} {v : Value} (h : w.cell? a = some v) : a.block < w.heap.size := by
 rcases Nat.lt_or_ge a.block w.heap.size with h' | h'
 ·exact h'
 ·simp [World.cell?, Array.getElem?_eq_none h'] at h
def Sl (w : World) (B size : Nat) (A : Option Addr) (n : Nat) (xs : List Value) : Prop :=
 xs.length = n * size ∧ (0 < n → ∃ b o, A = some ⟨b, o, none⟩ ∧ b < B ∧ ∀ j u, xs[j]? = some u → w.cell? ⟨b, o + j, none⟩ = some u)
section
variable {w w' : World} {B B' size n : Nat} {A : Option Addr} {xs : List Value}
theorem Sl.nil : Sl w B size A 0 [] := ⟨by simp, fun h => absurd h (by omega)⟩
theorem Sl.kept (h : Sl w B size A n xs) (hk : ∀ p : Addr, p.block < B → w'.cell? p = w.cell? p) : Sl w' B size A n xs :=
 ⟨h.1, fun hn => by
  obtain ⟨b, o, e, hb, hc⟩ := h.2 hn
  exact ⟨b, o, e, hb, fun j u hu => (hk _ hb).trans (hc j u hu)⟩⟩
theorem Sl.more (h : Sl w B size A n xs) (hB : B ≤ B') : Sl w B' size A n xs :=
 ⟨h.1, fun hn => by
  obtain ⟨b, o, e, hb, hc⟩ := h.2 hn
  exact ⟨b, o, e, by omega, hc⟩⟩
theorem Sl.below (h : Sl w B size A n xs) (hb : Below B w w') : Sl w' B size A n xs := h.kept fun _ hp => hb.cell hp
theorem Sl.drewN (h : Sl w B size A n xs) (k : Nat) : Sl (w.drewN k) B size A n xs := h
theorem Sl.alloc (h : Sl w B size A n xs) (hB : B ≤ w.heap.size) (o : Obj) : Sl (w.alloc o) B size A n xs := h.kept fun p hp => World.cell?_alloc_lt w o p (by omega)
theorem Sl.zbf {base : Nat} {e : TypeId} {c : Nat} (h : w.ownsRow base e size (.slice A n c) n xs) : Sl w w.heap.size size A n xs := by
 refine ⟨h.1, fun hn => ?_⟩;rcases h.2 with ⟨_, h0⟩ | ⟨g, cap, cur, hv, _, hh, _⟩
 ·omega
 ·have hA : A = some ⟨g, 0, none⟩ := by injection hv
  subst hA;refine ⟨g, 0, rfl, (Array.getElem?_eq_some_iff.1 hh).1, fun j u hu => ?_⟩;have := h.cells (g := g) rfl j u hu;have hadd : (⟨g, 0, none⟩ : Addr).add j = ⟨g, 0 + j, none⟩ := by unfold Addr.add; split <;> simp_all
  rw [hadd] at this;exact this
end
theorem flat_get {α : Type} (f : α → List Value) (k : Nat) (hf : ∀ x, (f x).length = k) (l : List α) (i j : Nat) (x : α) (hx : l[i]? = some x) (hj : j < k) : (l.flatMap f)[i * k + j]? = (f x)[j]? := by
 induction l generalizing i with
 | nil => simp at hx
 | cons y l ih =>
  simp only [List.flatMap_cons];cases i with
  | zero =>
   simp at hx;subst hx;rw [List.getElem?_append_left (by rw [hf]; omega)];simp
  | succ i =>
   simp only [List.getElem?_cons_succ] at hx;rw [List.getElem?_append_right (by rw [hf, Nat.succ_mul]; omega), hf];have : (i + 1) * k + j - k = i * k + j := by rw [Nat.succ_mul]; omega
   rw [this];exact ih i hx
theorem zlt {α : Type} (f : α → List Value) (k : Nat) (hf : ∀ x, (f x).length = k) (l : List α) : (l.flatMap f).length = l.length * k := by
 induction l with
 | nil => simp
 | cons y l ih => simp only [List.flatMap_cons, List.length_append, ih, hf, List.length_cons, Nat.succ_mul]; omega
theorem zob {α : Type} (f : α → List Value) (size : Nat) (hf : ∀ x, (f x).length = size) {w : World} {B n : Nat} {A : Option Addr} {l : List α} (h : Sl w B size A n (l.flatMap f)) (hl : l.length = n) {k : Nat} (hk : k < n) :
  ∃ b o x, A = some ⟨b, o, none⟩ ∧ b < B ∧ l[k]? = some x ∧ ∀ j u, (f x)[j]? = some u → w.cell? ⟨b, o + k * size + j, none⟩ = some u := by
 obtain ⟨b, o, e, hb, hc⟩ := h.2 (by omega);have hx : l[k]? = some l[k] := List.getElem?_eq_getElem (by omega);refine ⟨b, o, l[k], e, hb, hx, fun j u hu => ?_⟩;have hj : j < size := by
  rcases Nat.lt_or_ge j size with h | h
  ·exact h
  ·rw [List.getElem?_eq_none (by rw [hf]; exact h)] at hu; cases hu
 have := flat_get f size hf l k j _ hx hj;rw [Nat.add_assoc];exact hc _ _ (this.trans hu)
theorem zfx {α : Type} (f : α → List Value) (size : Nat) (h0 : 0 < size) (hf : ∀ x, (f x).length = size) {w : World} {B n : Nat} {A : Option Addr} {l : List α} (h : Sl w B size A n (l.flatMap f)) : l.length = n := by
 have := h.1;rw [zlt f size hf] at this;exact Nat.eq_of_mul_eq_mul_right h0 this
theorem own_ne {w : World} {base base' : Nat} {e e' : TypeId} {size size' n n' : Nat} {v v' : Value} {xs xs' : List Value} (h : w.ownsRow base e size v n xs) (h' : w.ownsRow base' e' size' v' n' xs') (hne : e ≠ e') : v.ownBlock = none ∨ v.ownBlock ≠ v'.ownBlock := by
 rcases h.2 with ⟨rfl, _⟩ | ⟨g, cap, cur, rfl, _, hh, _⟩
 ·exact .inl rfl
 ·rcases h'.2 with ⟨rfl, _⟩ | ⟨g', cap', cur', rfl, _, hh', _⟩
  ·exact .inr (by simp [Value.ownBlock])
  ·refine .inr fun e0 => ?_
   have : g = g' := by simpa [Value.ownBlock] using e0
   subst this;rw [hh] at hh';injection hh' with hh'
   injection hh' with _ ht
   exact hne ht
theorem zah {w : World} {base : Nat} {e : TypeId} {size n : Nat} {v : Value} {xs : List Value} (h : w.ownsRow base e size v n xs) : ∃ A c, v = .slice A n c := by
 rcases h.2 with ⟨rfl, rfl⟩ | ⟨g, cap, cur, rfl, _⟩
 ·exact ⟨_, _, rfl⟩
 ·exact ⟨_, _, rfl⟩
theorem zaj {B : Nat} {a w w' : World} {v : Value} {e : TypeId} {size n : Nat} {xs : List Value} (h : Below B a w) (hg : w.grownBy w' v.ownBlock) (hB : B ≤ w.heap.size) (ho : w.ownsRow B e size v n xs) : Below B a w' :=
 h.grown hg hB fun k hk => (ho.lt k hk).1
end Go.Proofs.YtkejlnjnoiidnaaGreatDoor
end

section
namespace Go.Proofs.YtkejlnjnoiidnaaGreatDoor
open Go.RowKit
def Inv (w : World) : Type := { x : World // Below w.heap.size w x }
instance (w : World) : Nonempty (Inv w) := ⟨⟨w, Below.refl _ _⟩⟩
def Inv.w {w : World} (x : Inv w) : World := x.1
theorem Inv.below {w : World} (x : Inv w) : Below w.heap.size w x.w := x.2
theorem Inv.size {w : World} (x : Inv w) : w.heap.size ≤ x.w.heap.size := x.2.size
theorem Inv.cell {w : World} {a : Addr} {v : Value} (h : w.cell? a = some v) : ∀ x : Inv w, x.w.cell? a = some v := fun x => (x.below.cell (cell_lt h)).trans h
theorem zbg {P : Program} {id : Nat} {Q : Exit → Act → World → Prop} {a : Act} {w : World} {l : List Oper} (hm : P.follows .mixedOrders = true) (hB : Region.lexB .any l.toArray = true)
  (h : wpQuiet P l.toArray (fun w' => ∃ x : Inv w, w' = x.w) (fun a' => ∀ w', (∃ x : Inv w, w' = x.w) → Q .normal a' w') l a) : (Code.region id l.toArray true).wp P Q a w :=
 wp_region_quiet (C := fun w' => ∃ x : Inv w, w' = x.w) hm hB ⟨⟨_, (Below.refl _ w).drew⟩, rfl⟩ (by simpa using h)
theorem Calls.inv_of {P : Program} {f : FuncId} {args : Array Value} {w : World} {x : Inv w} {v : Value}
  (h : Calls P f args x.w fun e w' => e = .returned v ∧ Below x.w.heap.size x.w w') : Calls P f args x.w fun e w'' => e = .returned v ∧ ∃ y : Inv w, w'' = y.w :=
 h.mono fun _ w' ⟨he, hb⟩ => ⟨he, ⟨w', x.below.trans (hb.mono x.size)⟩, rfl⟩
theorem Calls.zic {P : Program} {f : FuncId} {args : Array Value} {w : World} {x : Inv w} {v : Value}
  (h : Calls P f args x.w fun e w' => e = .returned v ∧ x.w = w') : Calls P f args x.w fun e w'' => e = .returned v ∧ ∃ y : Inv w, w'' = y.w :=
 h.mono fun _ _ ⟨he, hb⟩ => ⟨he, x, hb.symm⟩
end Go.Proofs.YtkejlnjnoiidnaaGreatDoor
end

section
namespace Go.Proofs.YtkejlnjnoiidnaaGreatDoor
open Go.RowKit
theorem zdt {x y : ByteArray} (h : ¬ x = y) : (!(x.toList == y.toList)) = true := by
 have e : (x.toList == y.toList) = false := by
  rw [beq_eq_false_iff_ne, ByteArray.toList_eq, ByteArray.toList_eq];intro e;apply h;obtain ⟨⟨a⟩⟩ := x;obtain ⟨⟨b⟩⟩ := y;simp at e;rw [e]
 rw [e];rfl
abbrev Strs (w : World) (A : Option Addr) (n : Nat) (l : List ByteArray) : Prop := Sl w w.heap.size 1 A n (l.flatMap fun x => [Value.string x])
abbrev Ints (w : World) (A : Option Addr) (n : Nat) (l : List Int) : Prop := Sl w w.heap.size 1 A n (l.flatMap fun x => [Value.int .i64 x])
theorem zfj {α : Type} (f : α → Value) {w : World} {B n : Nat} {A : Option Addr} {l : List α} (h : Sl w B 1 A n (l.flatMap fun x => [f x])) (hl : l.length = n) {k : Nat} (hk : k < n) :
  ∃ b o x, A = some ⟨b, o, none⟩ ∧ b < B ∧ l[k]? = some x ∧ w.cell? ⟨b, o + k, none⟩ = some (f x) := by
 obtain ⟨b, o, e, hb, hc⟩ := h.2 (by omega);have hx : l[k]? = some l[k] := List.getElem?_eq_getElem (by omega);refine ⟨b, o, l[k], e, hb, hx, hc k _ ?_⟩;have := flat_get (fun x => [f x]) 1 (fun _ => rfl) l k 0 _ hx (by omega);simpa using this
theorem zlf {α : Type} (f : α → Value) {w : World} {B n : Nat} {A : Option Addr} {l : List α} (h : Sl w B 1 A n (l.flatMap fun x => [f x])) : l.length = n := by
 have := h.1; rw [zlt _ 1 (fun _ => rfl)] at this; omega
theorem zwt {α : Type} (f : α → Value) (l : List α) : (l.flatMap fun x => [f x]) = l.map f := by induction l <;> simp_all
theorem Strs.zbf {w : World} {base : Nat} {e : TypeId} {A : Option Addr} {n c : Nat} {l : List ByteArray} (h : w.ownsRow base e 1 (.slice A n c) n (l.map Value.string)) : Strs w A n l := by
 have := Sl.zbf h;rw [← zwt] at this;exact this
theorem Ints.zbf {w : World} {base : Nat} {e : TypeId} {A : Option Addr} {n c : Nat} {l : List Int} (h : w.ownsRow base e 1 (.slice A n c) n (l.map (Value.int .i64))) : Ints w A n l := by
 have := Sl.zbf h;rw [← zwt] at this;exact this
theorem Sl.grow {w w' : World} {size n : Nat} {A : Option Addr} {xs : List Value} (h : Sl w w.heap.size size A n xs) (hb : Below w.heap.size w w') : Sl w' w'.heap.size size A n xs := (h.below hb).more hb.size
def Alike {α : Type} (l l' : List α) (k : Nat) : Prop := ∀ j, j < k → l[j]? = l'[j]?
theorem Alike.succ {α : Type} {l l' : List α} {k : Nat} {x : α} (h : Alike l l' k) (h1 : l[k]? = some x) (h2 : l'[k]? = some x) : Alike l l' (k + 1) := by
 intro j hj;by_cases e : j = k
 ·subst e; rw [h1, h2]
 ·exact h j (by omega)
theorem Alike.all {α : Type} {l l' : List α} {n : Nat} (h : Alike l l' n) (h1 : l.length = n) (h2 : l'.length = n) : l = l' := by
 apply List.ext_getElem?;intro j;by_cases hj : j < n
 ·exact h j hj
 ·rw [List.getElem?_eq_none (by omega), List.getElem?_eq_none (by omega)]
theorem yiq {α : Type} {l l' : List α} {k : Nat} {x y : α} (h1 : l[k]? = some x) (h2 : l'[k]? = some y) (h : x ≠ y) : ¬ l = l' := by
 rintro rfl; rw [h1] at h2; injection h2 with h2; exact h h2
theorem zrh {p : Prop} [Decidable p] (h : ¬ p) : Ending.returned (.bool false) = .returned (.bool (decide p)) := by rw [decide_eq_false h]
theorem zyb {p : Prop} [Decidable p] (h : p) : Ending.returned (.bool true) = .returned (.bool (decide p)) := by rw [decide_eq_true h]
end Go.Proofs.YtkejlnjnoiidnaaGreatDoor
end

section
namespace Go.Proofs.YtkejlnjnoiidnaaGreatDoor
open Go.RowKit
def eqF (P : Program) (d : Nat) (xs ys : Array Value) : List (String × TypeId × Nat) → Sem Bool
 | [] => pure true
 | f :: fs =>
  if f.1 ≠ "_" then do
   let a ← part f.2.1 xs f.2.2
   let b ← part f.2.1 ys f.2.2
   let r ← Op.equalIn d f.2.1 a b
   if (!r) = true then pure false else eqF P d xs ys fs
  else eqF P d xs ys fs
theorem zja (P : Program) (d : Nat) (xs ys : Array Value) (fs : List Field) : Op.eqFields d xs ys fs = eqF P d xs ys (fs.map fun f => (f.name, f.type, f.offset)) := by
 induction fs with
 | nil => rfl
 | cons f fs ih => simp only [Op.eqFields, List.map_cons, eqF, ih]
theorem ybr (s t : ByteArray) : (s.toList == t.toList) = decide (s = t) := by
 by_cases h : s = t
 ·subst h; simp
 ·have e := zdt h;rw [decide_eq_false h];simpa using e
theorem yed : (Tryz.prog.fieldsOf 79).toList.map (fun f => (f.name, f.type, f.offset)) = [("Replica", 3, 0), ("Time", 3, 1)] := by kernel_rfl
@[go_sem] theorem eqEnt (d : Nat) (r t r' t' : Int) (w : World) : (Op.equalIn (d + 2) 79 (.agg #[.int .i64 r, .int .i64 t]) (.agg #[.int .i64 r', .int .i64 t'])).run Tryz.prog w = .ok (decide ((r, t) = (r', t'))) w := by
 rw [run_equalIn_agg w (d + 1) _ _ _ (by kernel_rfl) (by kernel_rfl), zja Tryz.prog, yed]
 by_cases h1 : r = r' <;> by_cases h2 : t = t' <;> simp [eqF, go_sem, h1, h2]
theorem ygt : (Tryz.prog.fieldsOf 51).toList.map (fun f => (f.name, f.type, f.offset)) = [("Time", 3, 0), ("Replica", 3, 1)] := by kernel_rfl
@[go_sem] theorem eqId (d : Nat) (r t r' t' : Int) (w : World) : (Op.equalIn (d + 2) 51 (.agg #[.int .i64 r, .int .i64 t]) (.agg #[.int .i64 r', .int .i64 t'])).run Tryz.prog w = .ok (decide ((r, t) = (r', t'))) w := by
 rw [run_equalIn_agg w (d + 1) _ _ _ (by kernel_rfl) (by kernel_rfl), zja Tryz.prog, ygt]
 by_cases h1 : r = r' <;> by_cases h2 : t = t' <;> simp [eqF, go_sem, h1, h2]
theorem ygc : (Tryz.prog.fieldsOf 53).toList.map (fun f => (f.name, f.type, f.offset)) = [("Id", 51, 0), ("Kind", 3, 2), ("Key", 9, 3), ("Value", 9, 4), ("N", 3, 5)] := by kernel_rfl
@[go_sem] theorem eqWr (d : Nat) (a b c a' b' c' n n' : Int) (s t s' t' : ByteArray) (w : World) : (Op.equalIn (d + 3) 53 (.agg #[.int .i64 a, .int .i64 b, .int .i64 c, .string s, .string t, .int .i64 n]) (.agg #[.int .i64 a', .int .i64 b', .int .i64 c', .string s', .string t', .int .i64 n'])).run Tryz.prog w = .ok (decide ((a, b, c, s, t, n) = (a', b', c', s', t', n'))) w := by
 rw [run_equalIn_agg w (d + 2) _ _ _ (by kernel_rfl) (by kernel_rfl), zja Tryz.prog, ygc]
 by_cases h0 : a = a'
 ·by_cases h1 : b = b'
  ·by_cases h2 : c = c'
   ·by_cases h3 : s = s'
    ·by_cases h4 : t = t'
     ·by_cases h5 : n = n' <;> simp [eqF, go_sem, h0, h1, h2, h3, h4, h5]
     ·simp [eqF, go_sem, ybr, h0, h1, h2, h3, h4]
    ·simp [eqF, go_sem, ybr, h0, h1, h2, h3]
   ·simp [eqF, go_sem, h0, h1, h2]
  ·simp [eqF, go_sem, h0, h1]
 ·simp [eqF, go_sem, h0]
theorem yhx {a1 a2 b1 b2 : Int} (h : ¬ (a1, a2) = (b1, b2)) (w : World) : (Op.equalIn 10000 79 (.agg #[.int .i64 a1, .int .i64 a2]) (.agg #[.int .i64 b1, .int .i64 b2])).run Tryz.prog w = .ok false w :=
 (eqEnt 9998 a1 a2 b1 b2 w).trans (by rw [decide_eq_false h])
theorem yjy {a1 a2 a3 a6 b1 b2 b3 b6 : Int} {a4 a5 b4 b5 : ByteArray} (h : ¬ (a1, a2, a3, a4, a5, a6) = (b1, b2, b3, b4, b5, b6)) (w : World) : (Op.equalIn 10000 53 (.agg #[.int .i64 a1, .int .i64 a2, .int .i64 a3, .string a4, .string a5, .int .i64 a6]) (.agg #[.int .i64 b1, .int .i64 b2, .int .i64 b3, .string b4, .string b5, .int .i64 b6])).run Tryz.prog w = .ok false w :=
 (eqWr 9997 a1 a2 a3 b1 b2 b3 a6 b6 a4 a5 b4 b5 w).trans (by rw [decide_eq_false h])
end Go.Proofs.YtkejlnjnoiidnaaGreatDoor
end

section
namespace Go.Proofs.YtkejlnjnoiidnaaGreatDoor
open Go.RowKit
abbrev Tok := ByteArray × Int × Int
def zeq (x : Tok) : List Value := [.string x.1, .int .i64 x.2.1, .int .i64 x.2.2]
abbrev Wr := Int × Int × Int × ByteArray × ByteArray × Int
def zbb (x : Wr) : List Value := [.int .i64 x.1, .int .i64 x.2.1, .int .i64 x.2.2.1, .string x.2.2.2.1, .string x.2.2.2.2.1, .int .i64 x.2.2.2.2.2]
abbrev Ent := Int × Int
def zbv (x : Ent) : List Value := [.int .i64 x.1, .int .i64 x.2]
theorem zhe (n n' c c' : Nat) (A A' : Option Addr) (l l' : List Ent) (w : World) (h : Sl w w.heap.size 2 A n (l.flatMap zbv)) (h' : Sl w w.heap.size 2 A' n' (l'.flatMap zbv)) (hn : n ≤ maxLen) (hn' : n' ≤ maxLen) :
  Calls Tryz.prog 62 #[.slice A n c, .slice A' n' c'] w fun e w' => e = .returned (.bool (decide (l = l'))) ∧ ∃ q, w' = w.drewN q := by
 unfold maxLen at hn hn';have hl := zfx zbv 2 (by omega) (fun _ => rfl) h;have hl' := zfx zbv 2 (by omega) (fun _ => rfl) h';by_cases hne : n = n'
 ·subst hne;have hL := Lib.hid hl;have hL' := Lib.hid hl';clear hl hl';go_enter Tryz.func62, Tryz.ntmps62;go_wp2;go_loopw [5, 13] (fun _ i wr => (∃ k : Nat, k ≤ n ∧ i = .int .i64 k ∧ Alike l l' k) ∧ ∃ q, wr = w.drewN q) (fun _ i _ => n - (intOf i).toNat)
  case atStart => exact ⟨⟨0, by omega, rfl, fun j hj => by omega⟩, 0, rfl⟩
  case round =>
   obtain ⟨⟨k, hk, rfl, hall⟩, q, rfl⟩ := hrel;by_cases hlt : k < n
   ·obtain ⟨b, o, x, rfl, hb, hx, hc⟩ := zob zbv 2 (fun _ => rfl) h hL.out hlt;obtain ⟨b', o', y, rfl, hb', hy, hc'⟩ := zob zbv 2 (fun _ => rfl) h' hL'.out hlt;obtain ⟨a1, a2⟩ := x;obtain ⟨b1, b2⟩ := y;have c0 := hc 0 _ rfl;have e0 := hc' 0 _ rfl;have c1 := hc 1 _ rfl;have e1 := hc' 1 _ rfl;simp only [Nat.add_zero] at c0 e0;clear hc hc' h h';have hkn : (k : Int) < (n : Int) := by omega
    have hX := Lib.hid hx;have hY := Lib.hid hy;clear hx hy;by_cases hxy : ((a1, a2) : Ent) = (b1, b2)
    ·simp only [Prod.mk.injEq] at hxy;obtain ⟨rfl, rfl⟩ := hxy;go_wp2_with fail;go_quiet (fail)
     go_wp2;go_roundw
     case rel => exact ⟨⟨k + 1, by omega, by go_num, hall.succ hX.out hY.out⟩, q + nq, by first | rfl | rw [World.drewN_drewN]⟩
     case measure => simp [intOf]; omega
    ·have hd := Lib.hid (yiq hX.out hY.out hxy);have hdec : ∀ w : World, (Op.equalIn 10000 79 (.agg #[.int .i64 a1, .int .i64 a2]) (.agg #[.int .i64 b1, .int .i64 b2])).run Tryz.prog w = .ok false w := fun w => by
      exact yhx hxy w
     clear hxy;go_wp2_with fail;go_quiet (fail)
     go_wp2;go_ret;exact ⟨zrh hd.out, q + nq, by first | rfl | rw [World.drewN_drewN]⟩
   ·obtain rfl : k = n := by omega
    go_wp2_with fail;go_ret;exact ⟨zyb (hall.all hL.out hL'.out), q, rfl⟩
 ·have hne' : ((n : Int) != (n' : Int)) = true := by rw [bne_iff_ne]; omega
  have hd := Lib.hid (fun e : l = l' => hne (by rw [← hl, ← hl', e]));go_enter Tryz.func62, Tryz.ntmps62;go_wp2;go_ret;exact ⟨zrh hd.out, 0, rfl⟩
theorem yhm (n n' c c' : Nat) (A A' : Option Addr) (l l' : List Wr) (w : World) (h : Sl w w.heap.size 6 A n (l.flatMap zbb)) (h' : Sl w w.heap.size 6 A' n' (l'.flatMap zbb)) (hn : n ≤ maxLen) (hn' : n' ≤ maxLen) :
  Calls Tryz.prog 63 #[.slice A n c, .slice A' n' c'] w fun e w' => e = .returned (.bool (decide (l = l'))) ∧ ∃ q, w' = w.drewN q := by
 unfold maxLen at hn hn';have hl := zfx zbb 6 (by omega) (fun _ => rfl) h;have hl' := zfx zbb 6 (by omega) (fun _ => rfl) h';by_cases hne : n = n'
 ·subst hne;have hL := Lib.hid hl;have hL' := Lib.hid hl';clear hl hl';go_enter Tryz.func63, Tryz.ntmps63;go_wp2;go_loopw [5, 13] (fun _ i wr => (∃ k : Nat, k ≤ n ∧ i = .int .i64 k ∧ Alike l l' k) ∧ ∃ q, wr = w.drewN q) (fun _ i _ => n - (intOf i).toNat)
  case atStart => exact ⟨⟨0, by omega, rfl, fun j hj => by omega⟩, 0, rfl⟩
  case round =>
   obtain ⟨⟨k, hk, rfl, hall⟩, q, rfl⟩ := hrel;by_cases hlt : k < n
   ·obtain ⟨b, o, x, rfl, hb, hx, hc⟩ := zob zbb 6 (fun _ => rfl) h hL.out hlt;obtain ⟨b', o', y, rfl, hb', hy, hc'⟩ := zob zbb 6 (fun _ => rfl) h' hL'.out hlt;obtain ⟨a1, a2, a3, a4, a5, a6⟩ := x;obtain ⟨b1, b2, b3, b4, b5, b6⟩ := y;have c0 := hc 0 _ rfl;have e0 := hc' 0 _ rfl;have c1 := hc 1 _ rfl;have e1 := hc' 1 _ rfl;have c2 := hc 2 _ rfl;have e2 := hc' 2 _ rfl;have c3 := hc 3 _ rfl;have e3 := hc' 3 _ rfl;have c4 := hc 4 _ rfl;have e4 := hc' 4 _ rfl;have c5 := hc 5 _ rfl;have e5 := hc' 5 _ rfl;simp only [Nat.add_zero] at c0 e0;clear hc hc' h h';have hkn : (k : Int) < (n : Int) := by omega
    have hX := Lib.hid hx;have hY := Lib.hid hy;clear hx hy;by_cases hxy : ((a1, a2, a3, a4, a5, a6) : Wr) = (b1, b2, b3, b4, b5, b6)
    ·simp only [Prod.mk.injEq] at hxy;obtain ⟨rfl, rfl, rfl, rfl, rfl, rfl⟩ := hxy;go_wp2_with fail;go_quiet (fail)
     go_wp2;go_roundw
     case rel => exact ⟨⟨k + 1, by omega, by go_num, hall.succ hX.out hY.out⟩, q + nq, by first | rfl | rw [World.drewN_drewN]⟩
     case measure => simp [intOf]; omega
    ·have hd := Lib.hid (yiq hX.out hY.out hxy);have hdec : ∀ w : World, (Op.equalIn 10000 53 (.agg #[.int .i64 a1, .int .i64 a2, .int .i64 a3, .string a4, .string a5, .int .i64 a6]) (.agg #[.int .i64 b1, .int .i64 b2, .int .i64 b3, .string b4, .string b5, .int .i64 b6])).run Tryz.prog w = .ok false w := fun w => by
      exact yjy hxy w
     clear hxy;go_wp2_with fail;go_quiet (fail)
     go_wp2;go_ret;exact ⟨zrh hd.out, q + nq, by first | rfl | rw [World.drewN_drewN]⟩
   ·obtain rfl : k = n := by omega
    go_wp2_with fail;go_ret;exact ⟨zyb (hall.all hL.out hL'.out), q, rfl⟩
 ·have hne' : ((n : Int) != (n' : Int)) = true := by rw [bne_iff_ne]; omega
  have hd := Lib.hid (fun e : l = l' => hne (by rw [← hl, ← hl', e]));go_enter Tryz.func63, Tryz.ntmps63;go_wp2;go_ret;exact ⟨zrh hd.out, 0, rfl⟩
end Go.Proofs.YtkejlnjnoiidnaaGreatDoor
end

section
namespace Go.Proofs.YtkejlnjnoiidnaaGreatDoor
def zdq (t : Tok) : Prop := t.1.size = 0 ∧ t.2.2 = 0 ∧ t.2.1 = 0 ∨ t.1.size ≠ 0 ∧ (t.2.2 ≠ 0 ∨ t.2.1 ≠ 0)
def zcs (t : Tok) : Prop := t.2.2 < 4 ∨ 67 < t.2.2 ∨ t.2.1 < 1 ∨ 1024 < t.2.1
instance (t : Tok) : Decidable (zdq t) := by unfold zdq; infer_instance
instance (t : Tok) : Decidable (zcs t) := by unfold zcs; infer_instance
def trgo : List Tok → Nat → Nat → Int × Int
 | [], _, _ => (0, -1)
 | t :: l, n, i =>
  if zdq t then (1, i)
  else if t.1.size ≠ 0 then (if 20000 < n + t.1.size then (4, i) else trgo l (n + t.1.size) (i + 1))
  else if zcs t then (2, i)
  else if (n : Int) < t.2.1 then (7, i)
  else if 20000 < n + t.2.2.toNat then (4, i) else trgo l (n + t.2.2.toNat) (i + 1)
def zaz (l : List Tok) : Int × Int := trgo l 0 0
def TAt (l : List Tok) (k n : Nat) : Prop := zaz l = trgo (l.drop k) n k ∧ n ≤ 20000
theorem TAt.zero (l : List Tok) : TAt l 0 0 := ⟨rfl, by omega⟩
theorem zqo {α : Type} {l : List α} {k : Nat} {x : α} (h : l[k]? = some x) : l.drop k = x :: l.drop (k + 1) := by
 obtain ⟨hk, e⟩ := List.getElem?_eq_some_iff.1 h;rw [List.drop_eq_getElem_cons hk, e]
section
variable {l : List Tok} {k n : Nat} {t : Tok}
theorem TAt.arg (h : TAt l k n) (hx : l[k]? = some t) (h1 : zdq t) : zaz l = (1, (k : Int)) := by
 rw [h.1, zqo hx]; simp only [trgo]; rw [if_pos h1]
theorem TAt.yiy (h : TAt l k n) (hx : l[k]? = some t) (h1 : ¬ zdq t) (h2 : t.1.size ≠ 0) (h3 : 20000 < n + t.1.size) : zaz l = (4, (k : Int)) := by
 rw [h.1, zqo hx]; simp only [trgo]; rw [if_neg h1, if_pos h2, if_pos h3]
theorem TAt.yfj (h : TAt l k n) (hx : l[k]? = some t) (h1 : ¬ zdq t) (h2 : t.1.size ≠ 0) (h3 : ¬ 20000 < n + t.1.size) : TAt l (k + 1) (n + t.1.size) := by
 refine ⟨?_, by omega⟩;rw [h.1, zqo hx]; simp only [trgo]; rw [if_neg h1, if_pos h2, if_neg h3]
theorem TAt.range (h : TAt l k n) (hx : l[k]? = some t) (h1 : ¬ zdq t) (h2 : t.1.size = 0) (h3 : zcs t) : zaz l = (2, (k : Int)) := by
 rw [h.1, zqo hx]; simp only [trgo]; rw [if_neg h1, if_neg (by omega), if_pos h3]
theorem TAt.missing (h : TAt l k n) (hx : l[k]? = some t) (h1 : ¬ zdq t) (h2 : t.1.size = 0) (h3 : ¬ zcs t) (h4 : (n : Int) < t.2.1) : zaz l = (7, (k : Int)) := by
 rw [h.1, zqo hx]; simp only [trgo]; rw [if_neg h1, if_neg (by omega), if_neg h3, if_pos h4]
theorem TAt.big (h : TAt l k n) (hx : l[k]? = some t) (h1 : ¬ zdq t) (h2 : t.1.size = 0) (h3 : ¬ zcs t) (h4 : ¬ (n : Int) < t.2.1) (h5 : 20000 < n + t.2.2.toNat) : zaz l = (4, (k : Int)) := by
 rw [h.1, zqo hx]; simp only [trgo]; rw [if_neg h1, if_neg (by omega), if_neg h3, if_neg h4, if_pos h5]
theorem TAt.next (h : TAt l k n) (hx : l[k]? = some t) (h1 : ¬ zdq t) (h2 : t.1.size = 0) (h3 : ¬ zcs t) (h4 : ¬ (n : Int) < t.2.1) (h5 : ¬ 20000 < n + t.2.2.toNat) : TAt l (k + 1) (n + t.2.2.toNat) := by
 refine ⟨?_, by omega⟩;rw [h.1, zqo hx]; simp only [trgo]; rw [if_neg h1, if_neg (by omega), if_neg h3, if_neg h4, if_neg h5]
theorem TAt.all (h : TAt l k n) (hk : l.length ≤ k) : zaz l = (0, -1) := by
 rw [h.1, List.drop_eq_nil_of_le hk]; rfl
end
theorem zzn (l : List Tok) : ∀ (n i : Nat), (trgo l n i).1 = 0 → (trgo l n i).2 = -1 := by
 induction l with
 | nil => intro _ _ _; rfl
 | cons t l ih =>
  intro n i;simp only [trgo];split
  ·intro h; simp at h
  ·split
   ·split
    ·intro h; simp at h
    ·exact ih _ _
   ·split
    ·intro h; simp at h
    ·split
     ·intro h; simp at h
     ·split
      ·intro h; simp at h
      ·exact ih _ _
theorem zfr {l : List Tok} (h : (zaz l).1 = 0) : zaz l = (0, -1) := Prod.ext h (zzn l _ _ h)
def TOk : List Tok → Nat → Prop
 | [], n => n ≤ 20000
 | t :: l, n => (t.1.size ≠ 0 ∧ t.2.1 = 0 ∧ t.2.2 = 0 ∧ n + t.1.size ≤ 20000 ∧ TOk l (n + t.1.size)) ∨ (t.1.size = 0 ∧ 4 ≤ t.2.2 ∧ t.2.2 ≤ 67 ∧ 1 ≤ t.2.1 ∧ t.2.1 ≤ 1024 ∧ t.2.1 ≤ (n : Int) ∧ n + t.2.2.toNat ≤ 20000 ∧ TOk l (n + t.2.2.toNat))
theorem yjp (l : List Tok) : ∀ (n i : Nat), n ≤ 20000 → (trgo l n i).1 = 0 → TOk l n := by
 induction l with
 | nil => intro n _ hn _; exact hn
 | cons t l ih =>
  intro n i hn;simp only [trgo];split
  ·intro h; simp at h
  ·rename_i ha;split
   ·rename_i h1;split
    ·intro h; simp at h
    ·rename_i h2;intro h;refine .inl ⟨h1, ?_, ?_, by omega, ih _ _ (by omega) h⟩
     ·unfold zdq at ha; omega
     ·unfold zdq at ha; omega
   ·rename_i h1;split
    ·intro h; simp at h
    ·rename_i h2;split
     ·intro h; simp at h
     ·rename_i h3;split
      ·intro h; simp at h
      ·rename_i h4;intro h;unfold zcs at h2;exact .inr ⟨by omega, by omega, by omega, by omega, by omega, by omega, by omega, ih _ _ (by omega) h⟩
theorem zhu {l : List Tok} (h : (zaz l).1 = 0) : TOk l 0 := yjp l 0 0 (by omega) h
def rep (out : List UInt8) (b : Nat) : Nat → List UInt8
 | 0 => out
 | k + 1 => rep out b k ++ [(rep out b k).getD ((rep out b k).length - b) 0]
def zny (out : List UInt8) (t : Tok) : List UInt8 := if t.1.size ≠ 0 then out ++ t.1.data.toList else rep out t.2.1.toNat t.2.2.toNat
def ztn (l : List Tok) : List UInt8 := l.foldl zny []
def textOf (l : List Tok) : ByteArray × Int × Int := if (zaz l).1 ≠ 0 then (⟨#[]⟩, zaz l) else (⟨(ztn l).toArray⟩, 0, -1)
theorem zxf {l : List Tok} (h : (zaz l).1 ≠ 0) : textOf l = (⟨#[]⟩, zaz l) := by unfold textOf; rw [if_pos h]
theorem zrm {l : List Tok} (h : (zaz l).1 = 0) : textOf l = (⟨(ztn l).toArray⟩, 0, -1) := by unfold textOf; rw [if_neg (by omega)]
theorem zqs (out : List UInt8) (b k : Nat) : (rep out b k).length = out.length + k := by
 induction k with
 | zero => rfl
 | succ k ih => simp only [rep, List.length_append, ih, List.length_cons, List.length_nil]; omega
theorem zmm {α : Type} (a b : List α) (d : α) (i : Nat) (h : i < a.length) : (a ++ b).getD i d = a.getD i d := by
 simp only [List.getD, List.getElem?_append_left h]
theorem zkz {α : Type} (a b : List α) (d : α) (i : Nat) (h : a.length ≤ i) : (a ++ b).getD i d = b.getD (i - a.length) d := by
 simp only [List.getD, List.getElem?_append_right h]
def over (p : List UInt8) : Nat → List UInt8
 | 0 => []
 | k + 1 => over p k ++ [p.getD (k % p.length) 0]
theorem zdo (p : List UInt8) (k : Nat) : (over p k).length = k := by
 induction k with
 | zero => rfl
 | succ k ih => simp [over, ih]
theorem zmo (p : List UInt8) (k i : Nat) (hi : i < k) : (over p k).getD i 0 = p.getD (i % p.length) 0 := by
 induction k with
 | zero => omega
 | succ k ih =>
  simp only [over];rcases Nat.lt_or_ge i k with h | h
  ·rw [zmm _ _ _ _ (by rw [zdo]; exact h)]; exact ih h
  ·obtain rfl : i = k := by omega
   rw [zkz _ _ _ _ (by rw [zdo]; omega), zdo]; simp
theorem yih (out : List UInt8) (b k : Nat) (hb : 1 ≤ b) (hl : b ≤ out.length) : rep out b k = out ++ over (out.drop (out.length - b)) k := by
 induction k with
 | zero => simp [rep, over]
 | succ k ih =>
  have hp : (out.drop (out.length - b)).length = b := by simp; omega
  simp only [rep, over];rw [zqs, ih, List.append_assoc];congr 2;rw [hp];rcases Nat.lt_or_ge k b with h | h
  ·rw [zmm _ _ _ _ (by omega), Nat.mod_eq_of_lt h];simp only [List.getD, List.getElem?_drop];congr 3;omega
  ·rw [zkz _ _ _ _ (by omega), zmo _ _ _ (by omega), hp];congr 2;rw [show out.length + k - b - out.length = k - b by omega];rw [← Nat.add_mod_right (k - b) b, Nat.sub_add_cancel h]
theorem zvj (p q : List UInt8) (m : Nat) (hq : q = over p (m * p.length)) : q ++ q = over p (2 * m * p.length) := by
 apply List.ext_getElem?;intro i;have hl : q.length = m * p.length := by rw [hq, zdo]
 have e : 2 * m * p.length = m * p.length + m * p.length := by rw [Nat.mul_assoc, Nat.two_mul]
 rcases Nat.lt_or_ge i (2 * m * p.length) with h | h
 ·have g1 : (q ++ q)[i]? = some ((q ++ q).getD i 0) := by
   rw [List.getElem?_eq_getElem (by simp; omega)];simp [List.getD, List.getElem?_eq_getElem (show i < (q ++ q).length by simp; omega)]
  have g2 : (over p (2 * m * p.length))[i]? = some ((over p (2 * m * p.length)).getD i 0) := by
   rw [List.getElem?_eq_getElem (by rw [zdo]; exact h)];simp [List.getD, List.getElem?_eq_getElem (show i < (over p (2 * m * p.length)).length by rw [zdo]; exact h)]
  rw [g1, g2, zmo _ _ _ h];congr 1;rcases Nat.lt_or_ge i (m * p.length) with h' | h'
  ·rw [zmm _ _ _ _ (by omega), hq, zmo _ _ _ h']
  ·rw [zkz _ _ _ _ (by omega), hl, hq, zmo _ _ _ (by omega)];congr 1;have : i = (i - m * p.length) + m * p.length := by omega
   conv => rhs; rw [this]
   rw [Nat.mul_comm m, Nat.add_mul_mod_self_left]
 ·rw [List.getElem?_eq_none (by simp; omega), List.getElem?_eq_none (by rw [zdo]; exact h)]
theorem over_self (p : List UInt8) : over p p.length = p := by
 apply List.ext_getElem?;intro i;rcases Nat.lt_or_ge i p.length with h | h
 ·have := zmo p p.length i h;rw [Nat.mod_eq_of_lt h] at this;simp only [List.getD] at this;rw [List.getElem?_eq_getElem h, List.getElem?_eq_getElem (by rw [zdo]; exact h)] at *;simpa using this
 ·rw [List.getElem?_eq_none h, List.getElem?_eq_none (by rw [zdo]; exact h)]
theorem yay (p : List UInt8) (k n : Nat) (h : k ≤ n) : (over p n).take k = over p k := by
  induction n with
  | zero => obtain rfl : k = 0 := by omega
            rfl
  | succ n ih =>
    rcases Nat.lt_or_ge n k with h' | h'
    · obtain rfl : k = n + 1 := by omega
      rw [List.take_of_length_le (by rw [zdo]; exact Nat.le_refl _)]
    · simp only [over];rw [List.take_append_of_le_length (by rw [zdo]; exact h')];exact ih h'
end Go.Proofs.YtkejlnjnoiidnaaGreatDoor
end

section
namespace Go.Proofs.YtkejlnjnoiidnaaGreatDoor
def vval : List UInt8 → Nat
 | [] => 0
 | b :: l => b.toNat % 128 + 128 * vval l
theorem yjt (l : List UInt8) : vval l < 128 ^ l.length := by
 induction l with
 | nil => simp [vval]
 | cons b l ih =>
  simp only [vval, List.length_cons, Nat.pow_succ];have : b.toNat % 128 < 128 := Nat.mod_lt _ (by omega);omega
theorem yfc (l : List UInt8) (b : UInt8) : vval (l ++ [b]) = vval l + b.toNat % 128 * 128 ^ l.length := by
 induction l with
 | nil => simp [vval]
 | cons c l ih =>
  simp only [List.cons_append, vval, ih, List.length_cons, Nat.pow_succ];rw [Nat.mul_add, Nat.add_assoc];congr 2;rw [Nat.mul_left_comm, Nat.mul_comm (128 ^ l.length) 128]
def vgo (l : List UInt8) : List UInt8 → Nat → Nat × Nat × Int
 | [], _ => (0, 0, 7)
 | b :: r, i => if i = 9 ∧ 1 < b.toNat then (0, 0, 4) else if b.toNat = 0 ∧ 0 < i then (0, 0, 3) else if b.toNat < 128 then (vval (l.take (i + 1)), i + 1, 0) else vgo l r (i + 1)
def vget (l : List UInt8) : Nat × Nat × Int := vgo l l 0
def VG (l : List UInt8) (k : Nat) : Prop := vget l = vgo l (l.drop k) k ∧ k ≤ 9 ∧ k ≤ l.length
theorem VG.zero (l : List UInt8) : VG l 0 := ⟨rfl, by omega, by omega⟩
theorem zsy {α : Type} {l : List α} {k : Nat} (hk : k < l.length) : l.drop k = l[k] :: l.drop (k + 1) := List.drop_eq_getElem_cons hk
theorem VG.out {l : List UInt8} {k : Nat} (h : VG l k) (hk : l.length ≤ k) : vget l = (0, 0, 7) := by
 rw [h.1, List.drop_eq_nil_of_le hk]; rfl
theorem VG.limit {l : List UInt8} {k : Nat} (h : VG l k) (hk : k < l.length) (h9 : k = 9) (hb : 1 < l[k].toNat) : vget l = (0, 0, 4) := by
 rw [h.1, zsy hk]; simp only [vgo]; rw [if_pos ⟨h9, hb⟩]
theorem VG.form {l : List UInt8} {k : Nat} (h : VG l k) (hk : k < l.length) (h0 : 0 < k) (hb : l[k].toNat = 0) : vget l = (0, 0, 3) := by
 rw [h.1, zsy hk]; simp only [vgo]; rw [if_neg (by omega), if_pos ⟨hb, h0⟩]
theorem VG.done {l : List UInt8} {k : Nat} (h : VG l k) (hk : k < l.length) (h9 : ¬ (k = 9 ∧ 1 < l[k].toNat)) (hb : l[k].toNat < 128) (h0 : ¬ (l[k].toNat = 0 ∧ 0 < k)) : vget l = (vval (l.take (k + 1)), k + 1, 0) := by
 rw [h.1, zsy hk]; simp only [vgo]; rw [if_neg h9, if_neg h0, if_pos hb]
theorem VG.succ {l : List UInt8} {k : Nat} (h : VG l k) (hk : k < l.length) (h9 : ¬ (k = 9 ∧ 1 < l[k].toNat)) (hb : ¬ l[k].toNat < 128) : VG l (k + 1) := by
 refine ⟨?_, by have := h.2.1; omega, by omega⟩;rw [h.1, zsy hk]; simp only [vgo]; rw [if_neg h9, if_neg (by omega), if_neg hb]
theorem ztk {l : List UInt8} {k : Nat} (hk : k < l.length) : vval (l.take (k + 1)) = vval (l.take k) + l[k].toNat % 128 * 128 ^ k := by
 rw [List.take_succ_eq_append_getElem hk, yfc, List.length_take, Nat.min_eq_left (by omega)]
theorem zhj (l : List UInt8) (k : Nat) (hk : k ≤ l.length) : vval (l.take k) < 128 ^ k := by
 have := yjt (l.take k);rwa [List.length_take, Nat.min_eq_left hk] at this
theorem ybp (k : Nat) : 128 ^ k = 2 ^ (7 * k) := by rw [Nat.pow_mul]
theorem zmx {k : Nat} (h : k ≤ 9) : 128 ^ k ≤ 9223372036854775808 := by
 have := Nat.pow_le_pow_right (n := 128) (by omega) h;exact Nat.le_trans this (by decide)
theorem zml {l : List UInt8} {k : Nat} (hk : k < l.length) (h9 : k ≤ 9) (hb : ¬ (k = 9 ∧ 1 < l[k].toNat)) : vval (l.take (k + 1)) < 18446744073709551616 := by
 rcases Nat.lt_or_ge k 9 with h | h
 ·have h1 := zhj l (k + 1) (by omega);have h2 := zmx (k := k + 1) (by omega);omega
 ·obtain rfl : k = 9 := by omega
  rw [ztk hk];have h1 := zhj l 9 (by omega);have h3 : l[9].toNat ≤ 1 := by omega
  have h4 : l[9].toNat % 128 = l[9].toNat := Nat.mod_eq_of_lt (by omega);rw [h4];have e9 : 128 ^ 9 = 9223372036854775808 := by decide
  rw [e9] at h1 ⊢;rcases (by omega : l[9].toNat = 0 ∨ l[9].toNat = 1) with e | e <;> rw [e] <;> omega
def zpu (l : List UInt8) (i k : Nat) : Nat := vval ((l.take i).drop k)
theorem yda (l : List UInt8) (i : Nat) : zpu l i i = 0 := by
 unfold zpu; rw [List.drop_eq_nil_of_le (by rw [List.length_take]; omega)]; rfl
theorem zzl {l : List UInt8} {i k : Nat} (hk : k < i) (hl : i ≤ l.length) : zpu l i k = l[k].toNat % 128 + 128 * zpu l i (k + 1) := by
 unfold zpu;have h : k < (l.take i).length := by rw [List.length_take]; omega
 rw [zsy h];simp [vval]
theorem ygf (l : List UInt8) (i k : Nat) : zpu l i k ≤ vval (l.take i) := by
 unfold zpu;induction k generalizing i with
 | zero => simp
 | succ k ih =>
  have h := ih i;rcases Nat.lt_or_ge k (l.take i).length with hlt | hge
  ·rw [zsy hlt] at h;simp only [vval] at h;omega
  ·rw [List.drop_eq_nil_of_le (by omega)];simp [vval]
theorem yhg (l : List UInt8) : ∀ (r : List UInt8) (i : Nat), i + r.length = l.length → r = l.drop i → i ≤ 9 → (vgo l r i).2.2 = 0 ∧ (vgo l r i).1 < 18446744073709551616 ∧ 0 < (vgo l r i).2.1 ∧ (vgo l r i).2.1 ≤ 10 ∧ (vgo l r i).2.1 ≤ l.length ∨ (vgo l r i) = (0, 0, 3) ∨ (vgo l r i) = (0, 0, 4) ∨ (vgo l r i) = (0, 0, 7) := by
 intro r;induction r with
 | nil => intro i _ _ _; exact .inr (.inr (.inr rfl))
 | cons b r ih =>
  intro i hl hd h9;have hi : i < l.length := by simp at hl; omega
  have hb : b = l[i] := by
   have := zsy hi;rw [← hd] at this;exact (List.cons.inj this).1
  have hr : r = l.drop (i + 1) := by
   have := zsy hi;rw [← hd] at this;exact (List.cons.inj this).2
  simp only [vgo];by_cases h1 : i = 9 ∧ 1 < b.toNat
  ·rw [if_pos h1]; exact .inr (.inr (.inl rfl))
  ·rw [if_neg h1];by_cases h2 : b.toNat = 0 ∧ 0 < i
   ·rw [if_pos h2]; exact .inr (.inl rfl)
   ·rw [if_neg h2];by_cases h3 : b.toNat < 128
    ·rw [if_pos h3];left;refine ⟨rfl, zml hi h9 (by rw [← hb]; exact h1), by simp, by simp; omega, by simp; omega⟩
    ·rw [if_neg h3];exact ih (i + 1) (by simp at hl; omega) hr (by omega)
theorem zdw (l : List UInt8) : (vget l).2.2 = 0 ∧ (vget l).1 < 18446744073709551616 ∧ 0 < (vget l).2.1 ∧ (vget l).2.1 ≤ 10 ∧ (vget l).2.1 ≤ l.length ∨ vget l = (0, 0, 3) ∨ vget l = (0, 0, 4) ∨ vget l = (0, 0, 7) :=
 yhg l l 0 (by simp) rfl (by omega)
def vint (l : List UInt8) (most : Int) : Nat × Nat × Int := if (vget l).2.2 ≠ 0 then (0, 0, (vget l).2.2) else if most < 0 ∨ most < ((vget l).1 : Int) then (0, 0, 2) else vget l
theorem zmy (l : List UInt8) (most : Int) : (vint l most).2.2 = 0 ∧ ((vint l most).1 : Int) ≤ most ∧ 0 ≤ most ∧ 0 < (vint l most).2.1 ∧ (vint l most).2.1 ≤ 10 ∧ (vint l most).2.1 ≤ l.length ∨ ∃ e : Int, vint l most = (0, 0, e) ∧ (e = 2 ∨ e = 3 ∨ e = 4 ∨ e = 7) := by
 unfold vint;rcases zdw l with ⟨h0, h1, h2, h3, h4⟩ | h | h | h
 ·rw [if_neg (by omega)];by_cases hm : most < 0 ∨ most < ((vget l).1 : Int)
  ·rw [if_pos hm]; exact .inr ⟨2, rfl, .inl rfl⟩
  ·rw [if_neg hm]; exact .inl ⟨h0, by omega, by omega, h2, h3, h4⟩
 ·rw [h]; exact .inr ⟨3, by simp, by omega⟩
 ·rw [h]; exact .inr ⟨4, by simp, by omega⟩
 ·rw [h]; exact .inr ⟨7, by simp, by omega⟩
def vput (n : Nat) : List UInt8 := if n < 128 then [UInt8.ofNat n] else UInt8.ofNat (n % 128 + 128) :: vput (n / 128)
termination_by n
decreasing_by omega
theorem zec {n : Nat} (h : n < 128) : vput n = [UInt8.ofNat n] := by rw [vput, if_pos h]
theorem zid {n : Nat} (h : ¬ n < 128) : vput n = UInt8.ofNat (n % 128 + 128) :: vput (n / 128) := by rw [vput, if_neg h]
theorem ygn (n k : Nat) (h : n < 128 ^ (k + 1)) : (vput n).length ≤ k + 1 := by
 induction k generalizing n with
 | zero => rw [zec (by simpa using h)]; simp
 | succ k ih =>
  by_cases hn : n < 128
  ·rw [zec hn]; simp
  ·rw [zid hn];have := ih (n / 128) (by rw [Nat.pow_succ] at h; omega);simp only [List.length_cons];omega
theorem zae {n : Nat} (h : n < 18446744073709551616) : (vput n).length ≤ 10 := ygn n 9 (by have e : (128 : Nat) ^ (9 + 1) = 1180591620717411303424 := (by decide); omega)
theorem zpw (n : Nat) : 0 < (vput n).length := by
 by_cases hn : n < 128
 ·rw [zec hn]; simp
 ·rw [zid hn]; simp
end Go.Proofs.YtkejlnjnoiidnaaGreatDoor
end

section
namespace Go.Proofs.YtkejlnjnoiidnaaGreatDoor
abbrev strOf (l : List UInt8) : ByteArray := ⟨l.toArray⟩
def zfo (s : ByteArray) : ByteArray × Int := if 2000 < s.size then (strOf [], 4) else (strOf (vput s.size) ++ s, 0)
def zaq (s : ByteArray) : ByteArray × Nat × Int :=
 if (vget s.data.toList).2.2 ≠ 0 then (strOf [], 0, (vget s.data.toList).2.2)
 else if 2000 < (vget s.data.toList).1 then (strOf [], 0, 4)
 else if s.size < (vget s.data.toList).1 + (vget s.data.toList).2.1 then (strOf [], 0, 7)
 else (s.extract (vget s.data.toList).2.1 ((vget s.data.toList).2.1 + (vget s.data.toList).1), (vget s.data.toList).2.1 + (vget s.data.toList).1, 0)
theorem zci (s : ByteArray) : ((zaq s).2.2 = 0 ∧ 0 < (zaq s).2.1 ∧ (zaq s).2.1 ≤ s.size ∧ (zaq s).2.1 ≤ 2010 ∧ (zaq s).1.size ≤ 2000 ∧ (zaq s).1.size ≤ s.size) ∨ ∃ e : Int, zaq s = (strOf [], 0, e) ∧ (e = 3 ∨ e = 4 ∨ e = 7) := by
 have h := zdw s.data.toList;unfold zaq;rcases h with ⟨h0, h1, h2, h3, h4⟩ | h | h | h
 ·rw [if_neg (by omega)];by_cases a : 2000 < (vget s.data.toList).1
  ·rw [if_pos a]; exact .inr ⟨4, rfl, by omega⟩
  ·rw [if_neg a];by_cases b : s.size < (vget s.data.toList).1 + (vget s.data.toList).2.1
   ·rw [if_pos b]; exact .inr ⟨7, rfl, by omega⟩
   ·rw [if_neg b];refine .inl ⟨rfl, by simp only; omega, by simp only; omega, by simp only; omega, ?_, ?_⟩
    ·simp only [ByteArray.size_extract]; omega
    ·simp only [ByteArray.size_extract]; omega
 ·rw [h]; exact .inr ⟨3, by simp, by omega⟩
 ·rw [h]; exact .inr ⟨4, by simp, by omega⟩
 ·rw [h]; exact .inr ⟨7, by simp, by omega⟩
end Go.Proofs.YtkejlnjnoiidnaaGreatDoor
end

section
namespace Go.Proofs.YtkejlnjnoiidnaaGreatDoor
end Go.Proofs.YtkejlnjnoiidnaaGreatDoor
end

section
namespace Go.Proofs.YtkejlnjnoiidnaaGreatDoor
def zfs (t : Tok) : List UInt8 := if t.1.size ≠ 0 then vput (2 * t.1.size) ++ t.1.data.toList else vput (2 * (t.2.2 - 4).toNat + 1) ++ vput (t.2.1 - 1).toNat
def zgx (l : List Tok) : ByteArray × Int × Int := if (zaz l).1 ≠ 0 then (strOf [], zaz l) else (strOf (l.flatMap zfs), 0, -1)
end Go.Proofs.YtkejlnjnoiidnaaGreatDoor
end

section
namespace Go.Proofs.YtkejlnjnoiidnaaGreatDoor
open Go.RowKit
theorem zes (x : Ent) : (zbv x).length = 2 := rfl
def zbe (x : Ent) : Prop := (-9223372036854775808 ≤ x.1 ∧ x.1 ≤ 9223372036854775807) ∧ (-9223372036854775808 ≤ x.2 ∧ x.2 ≤ 9223372036854775807)
def Ents (w : World) (B : Nat) (A : Option Addr) (n : Nat) (l : List Ent) : Prop := Sl w B 2 A n (l.flatMap zbv) ∧ ∀ x ∈ l, zbe x
theorem Ents.len {w : World} {B n : Nat} {A : Option Addr} {l : List Ent} (h : Ents w B A n l) : l.length = n := by
 have := h.1.1; rw [zlt _ 2 zes] at this; omega
theorem Ents.at_ {w : World} {B n : Nat} {A : Option Addr} {l : List Ent} (h : Ents w B A n l) {k : Nat} (hk : k < n) :
  ∃ b o r t, A = some ⟨b, o, none⟩ ∧ b < B ∧ l[k]? = some (r, t) ∧ zbe (r, t) ∧ w.cell? ⟨b, o + k * 2, none⟩ = some (.int .i64 r) ∧ w.cell? ⟨b, o + k * 2 + 1, none⟩ = some (.int .i64 t) := by
 obtain ⟨b, o, e, hb, hc⟩ := h.1.2 (by omega);have hl := h.len;have hx : l[k]? = some l[k] := List.getElem?_eq_getElem (by omega);refine ⟨b, o, l[k].1, l[k].2, e, hb, hx, h.2 _ (List.getElem_mem _), ?_, ?_⟩
 ·have := flat_get zbv 2 zes l k 0 _ hx (by omega);exact hc (k * 2 + 0) _ this
 ·have := flat_get zbv 2 zes l k 1 _ hx (by omega);exact hc (k * 2 + 1) _ this
theorem Ents.below {w w' : World} {B n : Nat} {A : Option Addr} {l : List Ent} (h : Ents w B A n l) (hb : Below B w w') : Ents w' B A n l := ⟨h.1.below hb, h.2⟩
theorem Ents.more {w : World} {B B' n : Nat} {A : Option Addr} {l : List Ent} (h : Ents w B A n l) (hB : B ≤ B') : Ents w B' A n l := ⟨h.1.more hB, h.2⟩
theorem Ents.grow {w w' : World} {n : Nat} {A : Option Addr} {l : List Ent} (h : Ents w w.heap.size A n l) (hb : Below w.heap.size w w') : Ents w' w'.heap.size A n l := (h.below hb).more hb.size
theorem Ents.inv {w W : World} {n : Nat} {A : Option Addr} {l : List Ent} (h : Ents w w.heap.size A n l) (hb : Below w.heap.size w W) (x : Inv W) : Ents x.w x.w.heap.size A n l := (h.grow hb).grow x.below
def vof : List Ent → Int → Int
 | [], _ => 0
 | (r, t) :: l, x => if r = x then t else vof l x
theorem yeu (l : List Ent) (x : Int) (k : Nat) (t : Int) (h : ∀ (j : Nat) (y : Ent), j < k → l[j]? = some y → y.1 ≠ x) (hk : l[k]? = some (x, t)) : vof l x = t := by
 induction l generalizing k with
 | nil => simp at hk
 | cons y l ih =>
  obtain ⟨r, t'⟩ := y;cases k with
  | zero => simp at hk; obtain ⟨rfl, rfl⟩ := hk; simp [vof]
  | succ k =>
   have h0 := h 0 (r, t') (by omega) (by simp);simp only [vof];rw [if_neg h0];exact ih k (fun j y hj hy => h (j + 1) y (by omega) (by simpa using hy)) (by simpa using hk)
theorem zyh (l : List Ent) (x : Int) (h : ∀ (j : Nat) (y : Ent), l[j]? = some y → y.1 ≠ x) : vof l x = 0 := by
 induction l with
 | nil => rfl
 | cons y l ih =>
  obtain ⟨r, t'⟩ := y;have h0 := h 0 (r, t') (by simp);simp only [vof];rw [if_neg h0];exact ih fun j y hy => h (j + 1) y (by simpa using hy)
theorem zqy {l : List Ent} {x : Int} {k : Nat} {r t : Int} (h : ∀ (j : Nat) (y : Ent), j < k → l[j]? = some y → y.1 ≠ x) (hk : l[k]? = some (r, t)) (hr : ¬ r = x) : ∀ (j : Nat) (y : Ent), j < k + 1 → l[j]? = some y → y.1 ≠ x := by
 intro j y hj hy;by_cases e : j = k
 ·subst e; rw [hk] at hy; injection hy with hy; subst hy; exact hr
 ·exact h j y (by omega) hy
theorem yax {α : Type} {l : List α} {n j : Nat} {y : α} (hl : l.length = n) (hy : l[j]? = some y) : j < n := by
 rcases Nat.lt_or_ge j n with h | h
 ·exact h
 ·rw [List.getElem?_eq_none (by omega)] at hy; cases hy
theorem zoq (w : World) (n c : Nat) (A : Option Addr) (l : List Ent) (x : Int) (hl : Ents w w.heap.size A n l) (hn : n ≤ maxLen) :
  Calls Tryz.prog 122 #[.slice A n c, .int .i64 x] w fun e w' => e = .returned (.int .i64 (vof l x)) ∧ Below w.heap.size w w' := by
 unfold maxLen at hn;have hlen := Lib.hid hl.len;go_enter Tryz.func122, Tryz.ntmps122;go_wp2;go_loopw [6, 9] (fun _ i wr => (∃ k : Nat, k ≤ n ∧ i = .int .i64 k ∧ ∀ (j : Nat) (y : Ent), j < k → l[j]? = some y → y.1 ≠ x) ∧ Below w.heap.size w wr) (fun _ i _ => n - (intOf i).toNat)
 case atStart => exact ⟨⟨0, by omega, rfl, fun j y hj => by omega⟩, Below.refl _ _⟩
 case round =>
  obtain ⟨⟨k, hk, rfl, hall⟩, hbel⟩ := hrel;have Hall := Lib.hid hall;clear hall;by_cases hlt : k < n
  ·obtain ⟨b, o, r, t, rfl, hb, hx, hf, hc0, hc1⟩ := hl.at_ hlt;have c0 := (hbel.cell (p := ⟨b, o + k * 2, none⟩) (by simp; omega)).trans hc0;have c1 := (hbel.cell (p := ⟨b, o + k * 2 + 1, none⟩) (by simp; omega)).trans hc1;clear hc0 hc1;have hsz := hbel.size;by_cases hr : r = x
   ·subst hr;have hv := Lib.hid (yeu l r k t Hall.out hx);go_wp2_with fail;go_ret;exact ⟨retI hv.out.symm, (hbel.alloc (by omega) _)⟩
   ·have hr' : (r == x) = false := by simp [hr]
    have hx' := Lib.hid hx;clear hx;go_wp2_with fail;go_roundw
    case rel => exact ⟨⟨k + 1, by omega, by go_num, fun j y hj hy => zqy Hall.out hx'.out hr j y hj hy⟩, hbel.alloc (by omega) _⟩
    case measure => simp [intOf]; omega
  ·obtain rfl : k = n := by omega
   go_wp2_with fail;go_ret;exact ⟨retI (zyh l x fun j y hy => Hall.out j y (yax hlen.out hy) hy).symm, hbel⟩
end Go.Proofs.YtkejlnjnoiidnaaGreatDoor
end

section
namespace Go.Proofs.YtkejlnjnoiidnaaGreatDoor
def zeh (x : Ent) : Prop := x.1 < 0 ∨ 200 < x.1 ∨ x.2 < 1 ∨ 1099511627776 < x.2
instance (x : Ent) : Decidable (zeh x) := by unfold zeh; infer_instance
def vrgo : List Ent → Int → Nat → Int × Int
 | [], _, _ => (0, -1)
 | x :: l, last, i => if zeh x then (2, i) else if x.1 ≤ last then (10, i) else vrgo l x.1 (i + 1)
def zaf (l : List Ent) : Int × Int := if 16 < l.length then (4, -1) else vrgo l (-1) 0
def zkk (l : List Ent) (k : Nat) : Int := if k = 0 then -1 else (l.getD (k - 1) (-1, 0)).1
theorem zul (l : List Ent) : zkk l 0 = -1 := rfl
theorem zjf (l : List Ent) (k : Nat) (r t : Int) (h : l[k]? = some (r, t)) : zkk l (k + 1) = r := by
 unfold zkk;rw [if_neg (by omega)];simp [List.getD, h]
def VAt (l : List Ent) (k : Nat) : Prop := vrgo l (-1) 0 = vrgo (l.drop k) (zkk l k) k
theorem VAt.zero (l : List Ent) : VAt l 0 := rfl
theorem drop_at {α : Type} {l : List α} {k : Nat} {x : α} (h : l[k]? = some x) : l.drop k = x :: l.drop (k + 1) := by
 obtain ⟨hk, e⟩ := List.getElem?_eq_some_iff.1 h;rw [List.drop_eq_getElem_cons hk, e]
theorem VAt.bad {l : List Ent} {k : Nat} {x : Ent} (h : VAt l k) (hx : l[k]? = some x) (hb : zeh x) : vrgo l (-1) 0 = (2, (k : Int)) := by
 unfold VAt at h;rw [h, drop_at hx];simp only [vrgo];rw [if_pos hb]
theorem VAt.order {l : List Ent} {k : Nat} {x : Ent} (h : VAt l k) (hx : l[k]? = some x) (hb : ¬ zeh x) (ho : x.1 ≤ zkk l k) : vrgo l (-1) 0 = (10, (k : Int)) := by
 unfold VAt at h;rw [h, drop_at hx];simp only [vrgo];rw [if_neg hb, if_pos ho]
theorem VAt.succ {l : List Ent} {k : Nat} {r t : Int} (h : VAt l k) (hx : l[k]? = some (r, t)) (hb : ¬ zeh (r, t)) (ho : ¬ r ≤ zkk l k) : VAt l (k + 1) := by
 unfold VAt at *;rw [h, drop_at hx];simp only [vrgo];rw [if_neg hb, if_neg ho, zjf l k r t hx]
theorem VAt.all {l : List Ent} {k : Nat} (h : VAt l k) (hk : l.length ≤ k) : vrgo l (-1) 0 = (0, -1) := by
 unfold VAt at h;rw [h, List.drop_eq_nil_of_le hk];rfl
theorem zla {l : List Ent} (h : 16 < l.length) : zaf l = (4, -1) := by unfold zaf; rw [if_pos h]
theorem zhs {l : List Ent} (h : ¬ 16 < l.length) : zaf l = vrgo l (-1) 0 := by unfold zaf; rw [if_neg h]
theorem zbu {l : List Ent} (h : (zaf l).1 = 0) : l.length ≤ 16 := by
 rcases Nat.lt_or_ge 16 l.length with h' | h'
 ·rw [zla h'] at h; simp at h
 ·exact h'
theorem yjz (l : List Ent) : ∀ (last : Int) (i : Nat), (vrgo l last i).1 = 0 → (∀ x ∈ l, ¬ zeh x) ∧ (∀ x ∈ l, last < x.1) ∧ l.Pairwise (fun x y => x.1 < y.1) := by
 induction l with
 | nil => intro _ _ _; simp
 | cons x l ih =>
  intro last i;simp only [vrgo];split
  ·intro h; simp at h
  ·rename_i hb;split
   ·intro h; simp at h
   ·rename_i ho;intro h;obtain ⟨h1, h2, h3⟩ := ih _ _ h;refine ⟨?_, ?_, ?_⟩
    ·intro y hy;rcases List.mem_cons.1 hy with rfl | hy
     ·exact hb
     ·exact h1 y hy
    ·intro y hy;rcases List.mem_cons.1 hy with rfl | hy
     ·omega
     ·have := h2 y hy; omega
    ·exact List.pairwise_cons.2 ⟨h2, h3⟩
theorem znt {l : List Ent} (h : (zaf l).1 = 0) : (∀ x ∈ l, ¬ zeh x) ∧ l.Pairwise (fun x y => x.1 < y.1) := by
 rw [zhs (by have := zbu h; omega)] at h;obtain ⟨h1, _, h3⟩ := yjz l _ _ h;exact ⟨h1, h3⟩
end Go.Proofs.YtkejlnjnoiidnaaGreatDoor
end

section
namespace Go.Proofs.YtkejlnjnoiidnaaGreatDoor.As
open Go.RowKit Go.Extern.Stop Go.Stop Go.Extern
theorem zwz (t : Addr) (w : World) : (ReflectliteValue.unpack (.iface 157 (.pointer (some t)))).run Tryz.prog w
  = .ok (.agg #[.pointer (some ⟨5, 157, none⟩), .pointer (some ⟨w.heap.size, 0, none⟩), .int .u64 150]) (w.alloc (.cells #[.pointer (some t)] 157)) := by kernel_rfl
theorem ynt (a : Addr) (w : World) : (ReflectliteValue.methodAny (ReflectliteValue.valueError "reflectlite.Value.Type" 0) (fun t _ _ _ => ReflectliteType.toType t) #[.agg #[.pointer (some ⟨5, 157, none⟩), .pointer (some a), .int .u64 150]]).run Tryz.prog w
  = .ok (.iface 206 (.agg #[.pointer (some ⟨5, 157, none⟩)])) w := by kernel_rfl
theorem methodKind (h : Value) (w : World) : (Go.method 361 206 (.agg #[h]) "Kind").run Tryz.prog w = .ok (189, h) w := by kernel_rfl
theorem ynl (w : World) : ((ReflectliteType.abiMethod fun t => (fun a : Nat => Value.int IntKind.u8 (a : Int)) <$> Rtype.kind t) #[.pointer (some ⟨5, 157, none⟩)]).run Tryz.prog w = .ok (.int .u8 22) w := by kernel_rfl
theorem yoa (w : World) : ((ReflectliteType.abiMethod fun t => (fun a : Nat => Value.int IntKind.u8 (a : Int)) <$> Rtype.kind t) #[.pointer (some ⟨5, 27, none⟩)]).run Tryz.prog w = .ok (.int .u8 2) w := by kernel_rfl
theorem rlm (z : Sem Value) (f : TypeId → Addr → Nat → Nat → Sem Value) (v : Value) :
  ReflectliteValue.method z f #[v] = (do match ← ReflectliteValue.parts v with | none => z | some (t, a, fl) => f t a fl (fl % 32)) := rfl
theorem yir (a : Addr) (w : World) : (ReflectliteValue.parts (.agg #[.pointer (some ⟨5, 157, none⟩), .pointer (some a), .int .u64 150])).run Tryz.prog w = .ok (some (157, a, 150)) w := by kernel_rfl
theorem yja (a p : Addr) (W : World) (ha : W.cell? a = some (.pointer (some p))) :
  (ReflectliteValue.method (ReflectliteValue.valueError "reflectlite.Value.IsNil" 0) ReflectliteValue.isNil #[.agg #[.pointer (some ⟨5, 157, none⟩), .pointer (some a), .int .u64 150]]).run Tryz.prog W = .ok (.bool false) W := by
 rw [rlm];simp only [Sem.run_bind, yir, Result.andThen];simp [ReflectliteValue.isNil, loadVar, isAgg, underlying, Tryz.underlying157, ha, Result.andThen]
theorem methodElem (h : Value) (w : World) : (Go.method 361 206 (.agg #[h]) "Elem").run Tryz.prog w = .ok (202, .agg #[h]) w := by kernel_rfl
theorem methodImplements (h : Value) (w : World) : (Go.method 361 206 (.agg #[h]) "Implements").run Tryz.prog w = .ok (203, .agg #[h]) w := by kernel_rfl
theorem methodAssignableTo (h : Value) (w : World) : (Go.method 361 206 (.agg #[h]) "AssignableTo").run Tryz.prog w = .ok (200, .agg #[h]) w := by kernel_rfl
theorem yns (w : World) : (ReflectliteType.method ReflectliteType.elem #[.agg #[.pointer (some ⟨5, 157, none⟩)]]).run Tryz.prog w = .ok (.iface 206 (.agg #[.pointer (some ⟨5, 27, none⟩)])) w := by kernel_rfl
theorem zng (w : World) : (ReflectliteType.relation "Implements" ReflectliteType.implements_ #[.agg #[.pointer (some ⟨5, 27, none⟩)], .iface 206 (.agg #[.pointer (some ⟨5, 33, none⟩)])]).run Tryz.prog w = .ok (.bool true) w := by kernel_rfl
theorem yej (v : Value) (w : World) : (ReflectliteType.typeOf #[.iface 27 v]).run Tryz.prog w = .ok (.iface 206 (.agg #[.pointer (some ⟨5, 27, none⟩)])) w := by kernel_rfl
theorem yll (v : Value) (w : World) : (ReflectliteType.typeOf #[.iface 112 v]).run Tryz.prog w = .ok (.iface 206 (.agg #[.pointer (some ⟨5, 112, none⟩)])) w := by kernel_rfl
theorem znn (w : World) : (ReflectliteType.relation "AssignableTo" ReflectliteType.assignableTo #[.agg #[.pointer (some ⟨5, 27, none⟩)], .iface 206 (.agg #[.pointer (some ⟨5, 27, none⟩)])]).run Tryz.prog w = .ok (.bool true) w := by kernel_rfl
theorem zvq (w : World) : (ReflectliteType.relation "AssignableTo" ReflectliteType.assignableTo #[.agg #[.pointer (some ⟨5, 112, none⟩)], .iface 206 (.agg #[.pointer (some ⟨5, 27, none⟩)])]).run Tryz.prog w = .ok (.bool false) w := by kernel_rfl
theorem zxg (e : Int) (w : World) : (ReflectliteValue.unpack (.iface 27 (.int .i64 e))).run Tryz.prog w
  = .ok (.agg #[.pointer (some ⟨5, 27, none⟩), .pointer (some ⟨w.heap.size, 0, none⟩), .int .u64 130]) (w.alloc (.cells #[.int .i64 e] 27)) := by kernel_rfl
theorem ykf (w : World) : (Rtype.elem? 157).run Tryz.prog w = .ok (some 27) w := by kernel_rfl
theorem mkE (p : Addr) (w : World) : (ReflectliteValue.mk 27 p ReflectliteValue.flagAddr).run Tryz.prog w = .ok (.agg #[.pointer (some ⟨5, 27, none⟩), .pointer (some p), .int .u64 386]) w := by kernel_rfl
theorem elemV (a p : Addr) (W : World) (ha : W.cell? a = some (.pointer (some p))) :
  (ReflectliteValue.method (ReflectliteValue.valueError "reflectlite.Value.Elem" 0) ReflectliteValue.elem #[.agg #[.pointer (some ⟨5, 157, none⟩), .pointer (some a), .int .u64 150]]).run Tryz.prog W
   = .ok (.agg #[.pointer (some ⟨5, 27, none⟩), .pointer (some p), .int .u64 386]) W := by
 rw [rlm];simp only [Sem.run_bind, yir, Result.andThen];simp [ReflectliteValue.elem, loadVar, isAgg, underlying, Tryz.underlying157, ha, Result.andThen, ykf, mkE]
theorem rls (v x : Value) : ReflectliteValue.set #[v, x] = (do
  let (some (dst, a, fl), some (src, b, _)) := (← ReflectliteValue.parts v, ← ReflectliteValue.parts x)
   | unsupported (.noEntry "extern/(internal/reflectlite.Value).Set.zeroValue")
  if fl / ReflectliteValue.flagAddr % 2 == 0 then unsupported (.noEntry "extern/(internal/reflectlite.Value).Set.unaddressable")
  let val ← loadVar src b
  if ← Rtype.directlyAssignable dst src then storeVar dst a val
  else if ← Rtype.implements dst src then
   if (← Rtype.kind src) == 20 then
    match val with
    | .nilIface => unsupported (.noEntry "extern/reflectlite: a nil value of one interface type handed on as a value of another")
    | _ => storeVar dst a val
   else storeVar dst a (.iface src val)
  else panicString ("reflectlite.Set: value of type " ++ (← Rtype.spelt src) ++ " is not assignable to type " ++ (← Rtype.spelt dst))
  pure (.tuple #[])) := rfl
theorem ykz (a : Addr) (w : World) : (ReflectliteValue.parts (.agg #[.pointer (some ⟨5, 27, none⟩), .pointer (some a), .int .u64 386])).run Tryz.prog w = .ok (some (27, a, 386)) w := by kernel_rfl
theorem ymp (a : Addr) (w : World) : (ReflectliteValue.parts (.agg #[.pointer (some ⟨5, 27, none⟩), .pointer (some a), .int .u64 130])).run Tryz.prog w = .ok (some (27, a, 130)) w := by kernel_rfl
theorem ymd (w : World) : (Rtype.directlyAssignable 27 27).run Tryz.prog w = .ok true w := by kernel_rfl
theorem setE (ta b : Addr) (e : Int) (old : Value) (W : World) (hb : W.cell? b = some (.int .i64 e)) (ht : W.cell? ta = some old) (hf : W.frozen? ta = false) :
  (ReflectliteValue.set #[.agg #[.pointer (some ⟨5, 27, none⟩), .pointer (some ta), .int .u64 386], .agg #[.pointer (some ⟨5, 27, none⟩), .pointer (some b), .int .u64 130]]).run Tryz.prog W
   = .ok (.tuple #[]) (W.setCell ta (.int .i64 e)) := by
 rw [rls];simp only [Sem.run_bind, ykz, ymp, Result.andThen];simp [ReflectliteValue.flagAddr, loadVar, isAgg, underlying, Tryz.underlying27, hb, Result.andThen, ymd, storeVar, Value.cells, storeCells, Addr.add];rw [run_store Tryz.prog W ta _ _ (by rfl)];simp [ht, hf]
theorem noAs (v : Value) (xT : TypeId) (w : World) : (Instr.typeAssert (.iface 112 v) xT 211 true).run Tryz.prog w = .ok (.tuple #[.nilIface, .bool false]) w := run_typeAssert_lacksB Tryz.underlying211 (by kernel_rfl) (by kernel_rfl) v xT w
theorem yau (v : Value) (xT : TypeId) (w : World) : (Instr.typeAssert (.iface 112 v) xT 126 true).run Tryz.prog w = .ok (.tuple #[.iface 112 v, .bool true]) w := run_typeAssert_hasB Tryz.underlying126 (by kernel_rfl) v xT w
theorem noUnwrapE (v : Value) (xT : TypeId) (w : World) : (Instr.typeAssert (.iface 27 v) xT 126 true).run Tryz.prog w = .ok (.tuple #[.nilIface, .bool false]) w := run_typeAssert_lacksB Tryz.underlying126 (by kernel_rfl) (by kernel_rfl) v xT w
theorem methodUnwrap (h : Value) (w : World) : (Go.method 361 112 h "Unwrap").run Tryz.prog w = .ok (194, h) w := by kernel_rfl
def zbh (w : World) : Prop := w.cell? ⟨0, 0, none⟩ = some (.iface 206 (.agg #[.pointer (some ⟨5, 33, none⟩)]))
theorem zbh.below {w w' : World} (h : zbh w) (hb : Below w.heap.size w w') : zbh w' := (hb.cell (cell_lt h)).trans h
end Go.Proofs.YtkejlnjnoiidnaaGreatDoor.As
end
