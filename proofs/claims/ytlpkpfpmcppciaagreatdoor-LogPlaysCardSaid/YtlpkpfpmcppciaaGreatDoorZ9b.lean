/- A map from texts to places of cells, that the call made itself, told as a function.

The Go functions Table of package keys and of the reference compute what the plain function tab says.

Cells, and a store of them, in memory.

Rows of cells, sorted. -/
import Derived.Test.YtlpkpfpmcppciaaGreatDoorProg
import Derived.Test.YtlpkpfpmcppciaaGreatDoorZ1
import Derived.WalkKit
import Derived.Maps.Own
import Derived.Maps.OwnOps
import Derived.Maps.OwnSet
import Derived.Maps.Views
import Derived.Test.YtlpkpfpmcppciaaGreatDoorZ5
import Derived.KernelRfl
import Derived.OwnWalk
import Derived.Maps.AppendAt
import Derived.Deep.DeepCutAuto
import Derived.Deep.Cut
import Derived.Deep.CutBlock
import Derived.Test.YtlpkpfpmcppciaaGreatDoorZ6
import Derived.Test.YtlpkpfpmcppciaaGreatDoorZ3b
import Derived.Test.YtlpkpfpmcppciaaGreatDoorZ3
import Derived.Sort.OwnSorted
import Derived.Shelf.SlSortCmp.WholeK
section
namespace Go.Proofs.YtlpkpfpmcppciaaGreatDoor
set_option linter.unusedSimpArgs false
set_option linter.unusedVariables false
open Go.RowKit Go.Maps Go.ChangeMaps Go.MapKept
theorem pm_under : Tryz.prog.underlying 78 = some (.map 9 87) := by kernel_rfl
theorem pm_str : Tryz.prog.underlying 9 = some .string := by kernel_rfl
theorem pm_law : Keyed Tryz.prog 9 := string_keyed pm_str
theorem pm_zero (w : World) : (zeroValue 87).run Tryz.prog w = .ok (.pointer none) w := by kernel_rfl
def ptrElem : Value → Option (DataW Unit × List MemPlace)
 | .pointer none => some (.nil, [])
 | .pointer (some ⟨p, 0, none⟩) => some (.lit (.int .i64 (p : Int)), [])
 | _ => none
theorem ptrElem_inv {v : Value} {d : DataW Unit} {ps : List MemPlace} (h : ptrElem v = some (d, ps)) : (v = .pointer none ∧ d = .nil) ∨ ∃ p : Nat, v = .pointer (some ⟨p, 0, none⟩) ∧ d = .lit (.int .i64 (p : Int)) := by
 unfold ptrElem at h
 split at h
 ·injection h with h; injection h with h _; exact .inl ⟨rfl, h.symm⟩
 ·injection h with h; injection h with h _; exact .inr ⟨_, rfl, h.symm⟩
 ·cases h
def lk (k : ByteArray) : Lit := .string k.data.toList
theorem lk_ne {s t : ByteArray} (h : s ≠ t) : lk s ≠ lk t := by
 intro e
 apply h
 unfold lk at e
 injection e with e
 obtain ⟨⟨a⟩⟩ := s
 obtain ⟨⟨b⟩⟩ := t
 simp at e
 rw [e]
structure PtrIs (D : DataW Unit) (f : ByteArray → Option Nat) : Prop where
 map : IsMap D
 yes : ∀ k p, f k = some p → Maps.has D (lk k) = true ∧ ∀ z, D.atKey (lk k) z = .lit (.int .i64 (p : Int))
 no : ∀ k, f k = none → Maps.has D (lk k) = false
def setP (f : ByteArray → Option Nat) (k : ByteArray) (p : Option Nat) : ByteArray → Option Nat := fun j => if j = k then p else f j
theorem PtrIs.none : PtrIs (.map []) (fun _ => Option.none) := ⟨isMap_empty, fun i s h => (by cases h), fun x _ => rfl⟩
theorem PtrIs.put {D : DataW Unit} {f : ByteArray → Option Nat} (h : PtrIs D f) (k : ByteArray) (p : Nat) : PtrIs (D.put (lk k) (.lit (.int .i64 (p : Int)))) (setP f k (some p)) := by
 refine ⟨h.map.put _ _, fun j q hj => ?_, fun j hj => ?_⟩
 ·unfold setP at hj
  by_cases e : j = k
  ·subst e
   rw [if_pos rfl] at hj
   injection hj with hj
   subst hj
   exact ⟨has_put_same h.map (by simp [lk, WideAt.IsKeyLit]) _, fun z => atKey_put_same h.map (by simp [lk, WideAt.IsKeyLit]) _ _⟩
  ·rw [if_neg e] at hj
   obtain ⟨b, c⟩ := h.yes j q hj
   exact ⟨by rw [has_put_other (lk_ne e)]; exact b, fun z => by rw [atKey_put_other (lk_ne e)]; exact c z⟩
 ·unfold setP at hj
  by_cases e : j = k
  ·rw [if_pos e] at hj; cases hj
  ·rw [if_neg e] at hj
   rw [has_put_other (lk_ne e)]
   exact h.no j hj
theorem PtrIs.del {D : DataW Unit} {f : ByteArray → Option Nat} {k : ByteArray} (h : PtrIs D f) : PtrIs (D.del (lk k)) (setP f k Option.none) := by
 refine ⟨h.map.del _, fun j q hj => ?_, fun j hj => ?_⟩
 ·unfold setP at hj
  by_cases e : j = k
  ·rw [if_pos e] at hj; cases hj
  ·rw [if_neg e] at hj
   obtain ⟨b, c⟩ := h.yes j q hj
   exact ⟨by rw [has_del_other (lk_ne e)]; exact b, fun z => by rw [atKey_del_other (lk_ne e)]; exact c z⟩
 ·unfold setP at hj
  by_cases e : j = k
  ·subst e
   exact has_del_same
  ·rw [if_neg e] at hj
   rw [has_del_other (lk_ne e)]
   exact h.no j hj
def PM (w : World) (b n : Nat) (f : ByteArray → Option Nat) : Prop := ∃ D : DataW Unit, w.ownsMap Tryz.prog 9 ptrElem b n D ∧ PtrIs D f
def ptrV : Option Nat → Value
 | Option.none => .pointer Option.none
 | some p => .pointer (some ⟨p, 0, Option.none⟩)
section
variable {w w' : World} {b n : Nat} {f : ByteArray → Option Nat}
theorem PM.made (w : World) : PM (w.alloc (.map #[] 0)) w.heap.size 0 (fun _ => Option.none) := ⟨_, World.ownsMap_made _ _ _ _, .none⟩
theorem PM.mono (h : PM w b n f) {n' : Nat} (hn : n ≤ n') : PM w b n' f := by obtain ⟨D, ho, hd⟩ := h; exact ⟨D, ho.mono hn, hd⟩
theorem PM.lt (h : PM w b n f) : b < w.heap.size := by obtain ⟨D, ho, hd⟩ := h; exact ho.lt
theorem pm_key (k : ByteArray) (hk : k.size ≤ maxLen) : keyOf Tryz.prog 9 (.string k) = some (lk k) := WideMaps.keyOf_string_mk pm_str hk
set_option maxRecDepth 100000 in
theorem PM.look (h : PM w b n f) (k : ByteArray) (hk : k.size ≤ maxLen) : (Instr.lookup 78 (.map (some b)) (.string k) false).run Tryz.prog w = .ok (ptrV (f k)) w := by
 obtain ⟨D, ho, hd⟩ := h
 obtain ⟨v, ps, hrun, hv⟩ := ho.lookup pm_law pm_under (pm_zero w) (zd := .nil) (zp := []) rfl (pm_key k hk)
 rw [hrun]
 cases hf : f k with
 | none =>
  rw [atKey_of_not_has (hd.no k hf)] at hv
  rcases ptrElem_inv hv with ⟨rfl, _⟩ | ⟨p, rfl, e⟩
  ·rfl
  ·cases e
 | some p =>
  rw [(hd.yes k p hf).2] at hv
  rcases ptrElem_inv hv with ⟨rfl, e⟩ | ⟨q, rfl, e⟩
  ·cases e
  ·injection e with e
   injection e with _ e
   obtain rfl : p = q := by omega
   rfl
theorem PM.put (h : PM w b n f) (k : ByteArray) (hk : k.size ≤ maxLen) (hn : n < maxLen) (p : Nat) : ∃ w', (Instr.mapUpdate 78 (.map (some b)) (.string k) (.pointer (some ⟨p, 0, Option.none⟩))).run Tryz.prog w = .ok () w' ∧ PM w' b (n + 1) (setP f k (some p)) ∧ w.grownBy w' (some b) := by
 obtain ⟨D, ho, hd⟩ := h
 obtain ⟨w', hrun, ho', hg⟩ := ho.update pm_law pm_under hn (pm_key k hk) (val := .pointer (some ⟨p, 0, Option.none⟩)) (d := .lit (.int .i64 (p : Int))) (ps := []) rfl
 exact ⟨w', hrun, ⟨_, ho', hd.put k p⟩, hg⟩
theorem PM.drop (h : PM w b n f) (k : ByteArray) (hk : k.size ≤ maxLen) (ty : TypeId) : ∃ w', (Builtin.delete_ #[78, 9] ty #[.map (some b), .string k]).run Tryz.prog w = .ok (.tuple #[]) w' ∧ PM w' b n (setP f k Option.none) ∧ w.grownBy w' (some b) := by
 obtain ⟨D, ho, hd⟩ := h
 obtain ⟨w', hrun, ho', hg⟩ := ho.drop pm_law pm_under (pm_key k hk) ty
 exact ⟨w', hrun, ⟨_, ho', hd.del⟩, hg.grown⟩
theorem PM.kept {row : Option Nat} (h : PM w b n f) (hg : w.grownBy w' row) (hne : some b ≠ row) : PM w' b n f := by obtain ⟨D, ho, hd⟩ := h; exact ⟨D, ho.kept hg hne, hd⟩
theorem PM.at (h : PM w b n f) (hb : w'.heap[b]? = w.heap[b]?) : PM w' b n f := by
 obtain ⟨D, ⟨es, clock, hh, F, hs, hD⟩, hd⟩ := h
 exact ⟨D, ⟨es, clock, hb.trans hh, F, hs, hD⟩, hd⟩
end
end Go.Proofs.YtlpkpfpmcppciaaGreatDoor
end

section
namespace Go.Proofs.YtlpkpfpmcppciaaGreatDoor.Keys
open Go.RowKit Go.Maps
theorem strInfo : (Tryz.prog.info? 9).map (fun i => (i.zero, i.size, i.bytes)) = some (some (.string ⟨#[]⟩), 1, 16) := by kernel_rfl
theorem intInfo : (Tryz.prog.info? 3).map (fun i => (i.zero, i.size, i.bytes)) = some (some (.int .i64 0), 1, 8) := by kernel_rfl
abbrev strV (T : List ByteArray) : List Value := T.map Value.string
abbrev intV (T : List Int) : List Value := T.map (Value.int .i64)
end Go.Proofs.YtlpkpfpmcppciaaGreatDoor.Keys
end

section
namespace Go.Proofs.YtlpkpfpmcppciaaGreatDoor
set_option linter.unusedSimpArgs false
set_option linter.unusedVariables false
open Go.RowKit Go.Maps
theorem bel1 (w : World) (o : Obj) : Below w.heap.size w (w.alloc o) := (Below.refl _ _).alloc (Nat.le_refl _) o
/-- A cell, with the slice that holds its list. -/
abbrev CelX := ByteArray × Cel × Option Addr × Nat × Nat
def CelX.lv (x : CelX) : Value := .slice x.2.2.1 x.2.2.2.1 x.2.2.2.2
def celV (x : CelX) : List Value := [.string x.1, .bool x.2.1.has, .string x.2.1.text, .int .i64 x.2.1.sum, x.lv]
theorem celV_len (x : CelX) : (celV x).length = 5 := rfl
theorem celV_one (x : CelX) : ∀ v ∈ celV x, v.oneCell' = true := by
 intro v hv
 simp only [celV, CelX.lv, List.mem_cons, List.mem_singleton, List.not_mem_nil, or_false] at hv
 rcases hv with rfl | rfl | rfl | rfl | rfl <;> rfl
def strsV (l : List ByteArray) : List Value := l.map Value.string
/-- The list of a cell is a row of its own. -/
def LstOk (w : World) (B : Nat) (x : CelX) : Prop := w.ownsRow B 9 1 x.lv x.2.1.list.length (strsV x.2.1.list) ∧ (x.2.1.list = [] → x.lv = .slice none 0 0)
section
variable {w w' : World} {B p : Nat} {x : CelX} {F : Nat → Prop}
theorem LstOk.turned (h : LstOk w B x) (ht : Turned F w w') (hn : ∀ k, x.lv.ownBlock = some k → ¬ F k) : LstOk w' B x := ⟨ht.own h.1 hn, h.2⟩
theorem LstOk.below (h : LstOk w B x) (hb : Below w.heap.size w w') : LstOk w' B x := h.turned (F := fun _ => False) (.of_below hb) (fun _ _ q => q)
theorem LstOk.lt (h : LstOk w B x) : ∀ k, x.lv.ownBlock = some k → B ≤ k ∧ k < w.heap.size := h.1.lt
theorem LstOk.len (h : LstOk w B x) : x.2.2.2.1 = x.2.1.list.length := by
 rcases h.1.2 with ⟨e, h0⟩ | ⟨g, cap, cur, e, _⟩
 ·unfold CelX.lv at e
  injection e with _ e2
  rw [e2, h0]
 ·unfold CelX.lv at e
  injection e with _ e2
theorem LstOk.slice (h : LstOk w B x) : x.lv = .slice x.2.2.1 x.2.1.list.length x.2.2.2.2 := by unfold CelX.lv; rw [h.len]
theorem LstOk.zero (w : World) (B : Nat) (k : ByteArray) : LstOk w B (k, Cel.zero, none, 0, 0) := ⟨World.ownsRow_nil _ _ _ _, fun _ => rfl⟩
end
theorem LstOk.kept {w w' : World} {B B' n : Nat} {x : CelX} {v : Value} {xs : List Value} (h : LstOk w B x) (ho : w.ownsRow B' 90 5 v n xs) (hg : w.grownBy w' v.ownBlock) : LstOk w' B x := ⟨h.1.kept hg (own_ne h.1 ho (by decide)), h.2⟩
theorem LstOk.less {w : World} {B B' : Nat} {x : CelX} (h : LstOk w B x) (hb : B' ≤ B) : LstOk w B' x := ⟨own_less h.1 hb, h.2⟩
structure CelAt (w : World) (B p : Nat) (x : CelX) : Prop where
 rc : RC w p (celV x)
 l : LstOk w B x
section
variable {w w' : World} {B p : Nat} {x : CelX} {F : Nat → Prop}
theorem CelAt.turned (h : CelAt w B p x) (ht : Turned F w w') (hp : ¬ F p) (hn : ∀ k, x.lv.ownBlock = some k → ¬ F k) : CelAt w' B p x := ⟨h.rc.turned ht hp, h.l.turned ht hn⟩
theorem CelAt.lt (h : CelAt w B p x) : p < w.heap.size := cell_lt (h.rc 0 _ rfl).1
end
/-! The store. -/
abbrev FP := ByteArray → Option (Nat × CelX)
def FP.sto (fp : FP) : Sto := fun k => (fp k).map fun q => q.2.2.1
def FP.pl (fp : FP) : ByteArray → Option Nat := fun k => (fp k).map (·.1)
def FP.set (fp : FP) (k : ByteArray) (q : Option (Nat × CelX)) : FP := fun j => if j = k then q else fp j
def FP.nil : FP := fun _ => none
theorem FP.pl_set (fp : FP) (k : ByteArray) (q : Option (Nat × CelX)) : (fp.set k q).pl = setP fp.pl k (q.map (·.1)) := by
 funext j
 simp only [FP.pl, FP.set, setP]
 split <;> rfl
theorem FP.sto_set (fp : FP) (k : ByteArray) (q : Option (Nat × CelX)) : (fp.set k q).sto = fp.sto.put k (q.map fun r => r.2.2.1) := by
 funext j
 simp only [FP.sto, FP.set, Sto.put]
 split <;> rfl
theorem FP.set_same (fp : FP) (k : ByteArray) (q : Option (Nat × CelX)) : fp.set k q k = q := if_pos rfl
theorem FP.set_other (fp : FP) {k j : ByteArray} (q : Option (Nat × CelX)) (h : j ≠ k) : fp.set k q j = fp j := if_neg h
/-- The blocks of a key. -/
def Bl (fp : FP) (k : ByteArray) (i : Nat) : Prop := ∃ p x, fp k = some (p, x) ∧ (i = p ∨ x.lv.ownBlock = some i)
structure SR (w : World) (B s m n : Nat) (fp : FP) : Prop where
 root : RC w s [.map (some m)]
 pm : PM w m n fp.pl
 cel : ∀ k p x, fp k = some (p, x) → CelAt w B p x ∧ x.1 = k ∧ x.lv.ownBlock ≠ some p ∧ x.2.1.list.length ≤ n
 lo : ∀ k i, Bl fp k i → B ≤ i ∧ i < w.heap.size ∧ i ≠ s ∧ i ≠ m
 dis : ∀ k j i, Bl fp k i → Bl fp j i → k = j
 sl : B ≤ s ∧ s < w.heap.size ∧ B ≤ m ∧ m < w.heap.size ∧ s ≠ m
/-- All blocks of the store. -/
def SF (s m : Nat) (fp : FP) : Nat → Prop := fun i => i = s ∨ i = m ∨ ∃ k, Bl fp k i
section
variable {w w' : World} {B s m n n' : Nat} {fp : FP} {F : Nat → Prop}
theorem SR.turned (h : SR w B s m n fp) (ht : Turned F w w') (ha : ∀ i, SF s m fp i → ¬ F i) : SR w' B s m n fp where
 root := h.root.turned ht (ha s (.inl rfl))
 pm := h.pm.at (ht.block m h.sl.2.2.2.1 (ha m (.inr (.inl rfl))))
 cel := fun k p x e => by
  obtain ⟨h1, h2, h3, h4⟩ := h.cel k p x e
  exact ⟨h1.turned ht (ha _ (.inr (.inr ⟨k, p, x, e, .inl rfl⟩))) fun i hi => ha _ (.inr (.inr ⟨k, p, x, e, .inr hi⟩)), h2, h3, h4⟩
 lo := fun k i hi => by
  obtain ⟨h1, h2, h3⟩ := h.lo k i hi
  exact ⟨h1, Nat.lt_of_lt_of_le h2 ht.size, h3⟩
 dis := h.dis
 sl := ⟨h.sl.1, Nat.lt_of_lt_of_le h.sl.2.1 ht.size, h.sl.2.2.1, Nat.lt_of_lt_of_le h.sl.2.2.2.1 ht.size, h.sl.2.2.2.2⟩
theorem SR.below (h : SR w B s m n fp) (hb : Below w.heap.size w w') : SR w' B s m n fp := h.turned (F := fun _ => False) (.of_below hb) (fun _ _ q => q)
theorem SR.bl_set {k : ByteArray} {q : Option (Nat × CelX)} {j : ByteArray} {i : Nat} (hi : Bl (fp.set k q) j i) : (j = k ∧ ∃ p x, q = some (p, x) ∧ (i = p ∨ x.lv.ownBlock = some i)) ∨ (j ≠ k ∧ Bl fp j i) := by
 obtain ⟨p, x, e, hh⟩ := hi
 by_cases hj : j = k
 ·subst hj
  rw [FP.set_same] at e
  exact .inl ⟨rfl, p, x, e, hh⟩
 ·rw [FP.set_other _ _ hj] at e
  exact .inr ⟨hj, p, x, e, hh⟩
/-- One key's cell turns, or comes, or goes. -/
theorem SR.set (h : SR w B s m n fp) {k : ByteArray} (ht : Turned (fun i => i = m ∨ Bl fp k i) w w') (q : Option (Nat × CelX)) (hn : n ≤ n') (hpm : PM w' m n' (fp.set k q).pl)
  (hq : ∀ p x, q = some (p, x) → CelAt w' B p x ∧ x.1 = k ∧ x.lv.ownBlock ≠ some p ∧ x.2.1.list.length ≤ n' ∧ ∀ i, i = p ∨ x.lv.ownBlock = some i → Bl fp k i ∨ w.heap.size ≤ i) : SR w' B s m n' (fp.set k q) := by
 have hsl := h.sl
 have hw : ∀ p x, q = some (p, x) → ∀ i, i = p ∨ x.lv.ownBlock = some i → i < w'.heap.size := fun p x e i hi => by
  rcases hi with rfl | hi
  ·exact (hq _ x e).1.lt
  ·exact ((hq p x e).1.l.lt i hi).2
 refine ⟨h.root.turned ht (fun e => ?_), hpm, fun j p x e => ?_, fun j i hi => ?_, fun j j' i hi hi' => ?_, ⟨hsl.1, Nat.lt_of_lt_of_le hsl.2.1 ht.size, hsl.2.2.1, Nat.lt_of_lt_of_le hsl.2.2.2.1 ht.size, hsl.2.2.2.2⟩⟩
 ·rcases e with e | e
  ·exact hsl.2.2.2.2 e
  ·exact (h.lo k s e).2.2.1 rfl
 ·by_cases hj : j = k
  ·subst hj
   rw [FP.set_same] at e
   obtain ⟨h1, h2, h3, h4, _⟩ := hq p x e
   exact ⟨h1, h2, h3, h4⟩
  ·rw [FP.set_other _ _ hj] at e
   obtain ⟨h1, h2, h3, h4⟩ := h.cel j p x e
   have hap : ∀ i, Bl fp j i → ¬ (i = m ∨ Bl fp k i) := fun i hi q => by
    rcases q with q | q
    ·exact (h.lo j i hi).2.2.2 q
    ·exact hj (h.dis j k i hi q)
   exact ⟨h1.turned ht (hap _ ⟨p, x, e, .inl rfl⟩) fun i hi => hap _ ⟨p, x, e, .inr hi⟩, h2, h3, Nat.le_trans h4 hn⟩
 ·rcases SR.bl_set hi with ⟨rfl, p, x, e, hh⟩ | ⟨hj, hb⟩
  ·have hlt := hw p x e i hh
   rcases (hq p x e).2.2.2.2 i hh with hb | hb
   ·obtain ⟨a, b, c⟩ := h.lo _ i hb
    exact ⟨a, hlt, c⟩
   ·exact ⟨by omega, hlt, by omega, by omega⟩
  ·obtain ⟨a, b, c⟩ := h.lo _ i hb
   exact ⟨a, Nat.lt_of_lt_of_le b ht.size, c⟩
 ·rcases SR.bl_set hi with ⟨rfl, p, x, e, hh⟩ | ⟨hj, hb⟩ <;> rcases SR.bl_set hi' with ⟨rfl, p', x', e', hh'⟩ | ⟨hj', hb'⟩
  ·rfl
  ·rcases (hq p x e).2.2.2.2 i hh with hb | hb
   ·exact h.dis _ _ i hb hb'
   ·have := (h.lo _ i hb').2.1; omega
  ·rcases (hq p' x' e').2.2.2.2 i hh' with hb2 | hb2
   ·exact h.dis _ _ i hb hb2
   ·have := (h.lo _ i hb).2.1; omega
  ·exact h.dis _ _ i hb hb'
theorem SR.moves {k : ByteArray} (ht : Turned (fun i => i = m ∨ Bl fp k i) w w') (q : Option (Nat × CelX))
  (hq : ∀ p x, q = some (p, x) → ∀ i, i = p ∨ x.lv.ownBlock = some i → Bl fp k i ∨ w.heap.size ≤ i) : Moves (SF s m fp) (SF s m (fp.set k q)) w w' := by
 refine ⟨ht.mono fun i hi => ?_, fun i hi => ?_⟩
 ·rcases hi with hi | hi
  ·exact .inr (.inl hi)
  ·exact .inr (.inr ⟨k, hi⟩)
 ·rcases hi with hi | hi | ⟨j, hi⟩
  ·exact .inl (.inl hi)
  ·exact .inl (.inr (.inl hi))
  ·rcases SR.bl_set hi with ⟨rfl, p, x, e, hh⟩ | ⟨hj, hb⟩
   ·rcases hq p x e i hh with hb | hb
    ·exact .inl (.inr (.inr ⟨_, hb⟩))
    ·exact .inr hb
   ·exact .inl (.inr (.inr ⟨j, hb⟩))
theorem SR.within (h : SR w B s m n fp) : Within (SF s m fp) B w := fun i hi => by
 rcases hi with rfl | rfl | ⟨k, hi⟩
 ·exact ⟨h.sl.1, h.sl.2.1⟩
 ·exact ⟨h.sl.2.2.1, h.sl.2.2.2.1⟩
 ·exact ⟨(h.lo k i hi).1, (h.lo k i hi).2.1⟩
theorem SR.base (h : SR w B s m n fp) : B ≤ w.heap.size := by have := h.sl; omega
end
end Go.Proofs.YtlpkpfpmcppciaaGreatDoor
end

section
namespace Go.Proofs.YtlpkpfpmcppciaaGreatDoor
set_option linter.unusedSimpArgs false
set_option linter.unusedVariables false
open Go.RowKit
open Go.Sort (grow putRow putCells Holds SWO PermIn SortedIn mapBlock onCells flatK size_flatK HoldsK putRowK)
section
variable {α : Type} [Inhabited α]
theorem flatK_list (enc : α → List Value) (k : Nat) (hk : ∀ x, (enc x).length = k) (L : List α) : (flatK enc k L.toArray).toList = L.flatMap enc := by
 apply List.ext_getElem?
 intro t
 by_cases ht : t < L.length * k
 ·have hk0 : 0 < k := by
   rcases Nat.eq_zero_or_pos k with h | h
   ·subst h; omega
   ·exact h
  have hi : t / k < L.length := by rw [Nat.div_lt_iff_lt_mul hk0]; exact ht
  have e : t = t / k * k + t % k := by rw [Nat.mul_comm]; exact (Nat.div_add_mod t k).symm
  have hm := Nat.mod_lt t hk0
  have h1 := flat_get enc k hk L (t / k) (t % k) _ (List.getElem?_eq_getElem hi) hm
  rw [← e] at h1
  rw [h1]
  have hl : t % k < (enc L[t / k]).length := by rw [hk]; exact hm
  simp [flatK, ht, hi, List.getElem?_eq_getElem hl, hl]
 ·rw [List.getElem?_eq_none (by simp; omega), List.getElem?_eq_none (by rw [flat_len enc k hk]; omega)]
theorem heap_sortedK {w : World} {g n : Nat} {os : Array Obj} {cur : Array Value} {e : TypeId} (F : Array Value) (hb : w.heap[g]? = some (.cells cur e (0, 0))) :
  (grow (putRow id (Sort.ahead w n) g 0 F) os).heap[g]? = some (.cells (putCells id 0 F cur) e (0, 0)) := by
 have hg : g < w.heap.size := (Array.getElem?_eq_some_iff.1 hb).1
 rw [Go.Sort.heap_grow_old _ _ (by simpa using hg)]
 simp [putRow, mapBlock, Sort.ahead, Array.getElem?_modify, hb, onCells]
theorem take_putCellsK (cur : Array Value) (F : Array Value) (h : F.size ≤ cur.size) : (putCells id 0 F cur).toList.take F.size = F.toList := by
 apply List.ext_getElem?
 intro j
 by_cases hj : j < F.size
 ·rw [List.getElem?_take_of_lt hj, Array.getElem?_toList]
  simp [putCells, hj, show j < cur.size by omega]
 ·rw [List.getElem?_take_eq_none (by omega), List.getElem?_eq_none (by simp; omega)]
theorem turned_sortedK (enc : α → List Value) (k : Nat) (w : World) (g n : Nat) (d : Array α) (os : Array Obj) : Turned (fun i => i = g) w (sortWorldK enc k w g 0 n d os) := by
 refine ⟨rfl, rfl, rfl, by simp [sortWorldK, putRowK], fun i hi hne => ?_⟩
 unfold sortWorldK putRowK
 rw [Go.Sort.heap_grow_old _ _ (by simpa using hi)]
 have : g ≠ i := fun e => hne e.symm
 simp [putRow, mapBlock, Sort.ahead, Array.getElem?_modify, this]
theorem own_sortedK {w : World} {B g cap n q : Nat} {e : TypeId} {os : Array Obj} {enc : α → List Value} {k : Nat} (hk : ∀ x, (enc x).length = k) {L L' : List α} (hl : L'.length = L.length)
  (h : w.ownsRow B e k (.slice (some ⟨g, 0, none⟩) n cap) L.length (L.flatMap enc)) : (sortWorldK enc k w g 0 q L'.toArray os).ownsRow B e k (.slice (some ⟨g, 0, none⟩) n cap) L.length (L'.flatMap enc) := by
 rcases h.2 with ⟨e', _⟩ | ⟨g', cap', cur, e', hb, hg, hn, hm, hs, ht⟩
 ·injection e' with e1; cases e1
 ·injection e' with e1 e2 e3
  injection e1 with e1
  injection e1 with e1
  subst e1 e2 e3
  have hF : (flatK enc k L'.toArray).toList = L'.flatMap enc := flatK_list enc k hk L'
  have hsz : (flatK enc k L'.toArray).size = L.length * k := by rw [size_flatK]; simp [hl]
  refine ⟨by rw [flat_len enc k hk, hl], .inr ⟨g, cap, _, rfl, hb, heap_sortedK (flatK enc k L'.toArray) hg, hn, hm, by simp [putCells, hs], ?_⟩⟩
  have := take_putCellsK cur (flatK enc k L'.toArray) (by rw [hsz, hs]; exact Nat.mul_le_mul_right k hn)
  rw [hsz] at this
  rw [this, hF]
theorem holdsK_own {w : World} {B g cap n : Nat} {e : TypeId} {enc : α → List Value} {k : Nat} (hk : ∀ x, (enc x).length = k) {L : List α} (h : w.ownsRow B e k (.slice (some ⟨g, 0, none⟩) n cap) L.length (L.flatMap enc)) : HoldsK enc k w g 0 L.toArray := by
 intro j hj
 rw [size_flatK] at hj
 have hj' : j < L.length * k := by simpa using hj
 have hn : n = L.length := by
  rcases h.2 with ⟨e', _⟩ | ⟨g', cap', cur, e', _⟩
  ·injection e' with e1; cases e1
  ·injection e' with e1 e2
 subst hn
 refine ⟨?_, h.frozenAt _⟩
 rw [Nat.zero_add, h.cellAt j hj', ← flatK_list enc k hk L, Array.getElem?_toList]
 have : j < (flatK enc k L.toArray).size := by rw [size_flatK]; simpa using hj'
 rw [Array.getElem?_eq_getElem this]
 show _ = some ((flatK enc k L.toArray)[j]!)
 rw [getElem!_pos (flatK enc k L.toArray) j this]
theorem permIn_list {d d' : Array α} (h : PermIn 0 d.size d d') : d'.toList.Perm d.toList := by
 have h1 := h.2.2
 have e1 : d.extract 0 d.size = d := by simp
 have e2 : d'.extract 0 d.size = d' := by rw [← h.1]; simp
 rw [e1, e2] at h1
 exact h1
theorem sortedIn_list {d : Array α} {lt : α → α → Bool} {n : Nat} (hn : n = d.size) (h : SortedIn lt 0 n d) : d.toList.Pairwise fun a b => lt b a = false := by
 rw [List.pairwise_iff_getElem]
 intro i j hi hj hij
 have hi' : i < d.size := by simpa using hi
 have hj' : j < d.size := by simpa using hj
 have := h i j (Nat.zero_le _) hij (by omega)
 simpa [hi', hj'] using this
end
instance : Inhabited CelX := ⟨(⟨#[]⟩, Cel.zero, none, 0, 0)⟩
def cutX (x : CelX) : ByteArray × Cel := (x.1, x.2.1)
/-- What holds a list of cells. -/
structure OutR (w : World) (B : Nat) (v : Value) (o : List (ByteArray × Cel)) : Prop where
 ex : ∃ L : List CelX, L.map cutX = o ∧ w.ownsRow B 90 5 v L.length (L.flatMap celV) ∧ ∀ x ∈ L, LstOk w B x
def cmpX (x y : CelX) : Int := kcmp x.1 y.1
theorem swoX : SWO (ltOf cmpX) where
 irrefl x := by
  unfold ltOf cmpX
  rw [kcmp_self]
  rfl
 trans x y z h1 h2 := by
  unfold ltOf cmpX at *
  simp only [decide_eq_true_eq] at *
  exact kcmp_trans h1 (by omega)
 ntrans x y z h1 h2 := by
  unfold ltOf cmpX at *
  simp only [decide_eq_false_iff_not] at *
  intro h
  have a1 := kcmp_anti x.1 y.1
  have a2 := kcmp_anti y.1 z.1
  by_cases h0 : kcmp y.1 x.1 = 0
  ·have := kcmp_zero h0
   rw [← this] at h
   exact h2 h
  ·have hyx : kcmp y.1 x.1 < 0 := by omega
   exact h2 (kcmp_trans hyx (by omega))
end Go.Proofs.YtlpkpfpmcppciaaGreatDoor
end
