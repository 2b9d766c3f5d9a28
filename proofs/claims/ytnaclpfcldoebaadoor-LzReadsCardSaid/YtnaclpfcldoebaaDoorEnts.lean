/- Lists of entries (a replica, a time) in memory; how far a replica is known: vector.Of and VectorOf of the reference. -/
import Derived.Test.YtnaclpfcldoebaaDoorProg
import Derived.Test.YtnaclpfcldoebaaDoorQuiet
import Derived.Test.YtnaclpfcldoebaaDoorEqualS
import Derived.WalkKit
import Derived.WalkLawsBesides
import Derived.WalkSpells
import Derived.Outline
import Derived.Lib.Hide
namespace Go.Proofs.YtnaclpfcldoebaaDoor
open Go.RowKit

theorem entCells_len (x : Ent) : (entCells x).length = 2 := rfl
/-- Fits its kind. -/
def entFits (x : Ent) : Prop := (-9223372036854775808 ≤ x.1 ∧ x.1 ≤ 9223372036854775807) ∧ (-9223372036854775808 ≤ x.2 ∧ x.2 ≤ 9223372036854775807)
/-- The slice value of n entries reads as l. -/
def Ents (w : World) (B : Nat) (A : Option Addr) (n : Nat) (l : List Ent) : Prop := Sl w B 2 A n (l.flatMap entCells) ∧ ∀ x ∈ l, entFits x
theorem Ents.len {w : World} {B n : Nat} {A : Option Addr} {l : List Ent} (h : Ents w B A n l) : l.length = n := by
  have := h.1.1; rw [flat_len _ 2 entCells_len] at this; omega
theorem Ents.at_ {w : World} {B n : Nat} {A : Option Addr} {l : List Ent} (h : Ents w B A n l) {k : Nat} (hk : k < n) :
    ∃ b o r t, A = some ⟨b, o, none⟩ ∧ b < B ∧ l[k]? = some (r, t) ∧ entFits (r, t) ∧ w.cell? ⟨b, o + k * 2, none⟩ = some (.int .i64 r) ∧ w.cell? ⟨b, o + k * 2 + 1, none⟩ = some (.int .i64 t) := by
  obtain ⟨b, o, e, hb, hc⟩ := h.1.2 (by omega)
  have hl := h.len
  have hx : l[k]? = some l[k] := List.getElem?_eq_getElem (by omega)
  refine ⟨b, o, l[k].1, l[k].2, e, hb, hx, h.2 _ (List.getElem_mem _), ?_, ?_⟩
  · have := flat_get entCells 2 entCells_len l k 0 _ hx (by omega)
    exact hc (k * 2 + 0) _ this
  · have := flat_get entCells 2 entCells_len l k 1 _ hx (by omega)
    exact hc (k * 2 + 1) _ this
theorem Ents.below {w w' : World} {B n : Nat} {A : Option Addr} {l : List Ent} (h : Ents w B A n l) (hb : Below B w w') : Ents w' B A n l := ⟨h.1.below hb, h.2⟩

theorem Ents.below' {w w' : World} {B n : Nat} {A : Option Addr} {l : List Ent} (h : Ents w B A n l) (hb : Below w.heap.size w w') (hB : B ≤ w.heap.size) : Ents w' B A n l := h.below (hb.mono hB)
theorem Ents.more {w : World} {B B' n : Nat} {A : Option Addr} {l : List Ent} (h : Ents w B A n l) (hB : B ≤ B') : Ents w B' A n l := ⟨h.1.more hB, h.2⟩
theorem Ents.grow {w w' : World} {n : Nat} {A : Option Addr} {l : List Ent} (h : Ents w w.heap.size A n l) (hb : Below w.heap.size w w') : Ents w' w'.heap.size A n l := (h.below hb).more hb.size
theorem Ents.inv {w W : World} {n : Nat} {A : Option Addr} {l : List Ent} (h : Ents w w.heap.size A n l) (hb : Below w.heap.size w W) (x : Inv W) : Ents x.w x.w.heap.size A n l := (h.grow hb).grow x.below
/-- How far a replica is known. -/
def vof : List Ent → Int → Int
  | [], _ => 0
  | (r, t) :: l, x => if r = x then t else vof l x
theorem vof_fits (l : List Ent) (x : Int) (h : ∀ y ∈ l, entFits y) : -9223372036854775808 ≤ vof l x ∧ vof l x ≤ 9223372036854775807 := by
  induction l with
  | nil => simp [vof]
  | cons y l ih =>
    obtain ⟨r, t⟩ := y
    simp only [vof]
    split
    · exact (h (r, t) (by simp)).2
    · exact ih fun y hy => h y (by simp [hy])
theorem vof_hit (l : List Ent) (x : Int) (k : Nat) (t : Int) (h : ∀ (j : Nat) (y : Ent), j < k → l[j]? = some y → y.1 ≠ x) (hk : l[k]? = some (x, t)) : vof l x = t := by
  induction l generalizing k with
  | nil => simp at hk
  | cons y l ih =>
    obtain ⟨r, t'⟩ := y
    cases k with
    | zero => simp at hk; obtain ⟨rfl, rfl⟩ := hk; simp [vof]
    | succ k =>
      have h0 := h 0 (r, t') (by omega) (by simp)
      simp only [vof]
      rw [if_neg h0]
      exact ih k (fun j y hj hy => h (j + 1) y (by omega) (by simpa using hy)) (by simpa using hk)
theorem vof_miss (l : List Ent) (x : Int) (h : ∀ (j : Nat) (y : Ent), l[j]? = some y → y.1 ≠ x) : vof l x = 0 := by
  induction l with
  | nil => rfl
  | cons y l ih =>
    obtain ⟨r, t'⟩ := y
    have h0 := h 0 (r, t') (by simp)
    simp only [vof]
    rw [if_neg h0]
    exact ih fun j y hy => h (j + 1) y (by simpa using hy)

theorem ent_succ {l : List Ent} {x : Int} {k : Nat} {r t : Int} (h : ∀ (j : Nat) (y : Ent), j < k → l[j]? = some y → y.1 ≠ x) (hk : l[k]? = some (r, t)) (hr : ¬ r = x) : ∀ (j : Nat) (y : Ent), j < k + 1 → l[j]? = some y → y.1 ≠ x := by
  intro j y hj hy
  by_cases e : j = k
  · subst e; rw [hk] at hy; injection hy with hy; subst hy; exact hr
  · exact h j y (by omega) hy
theorem ent_lt {α : Type} {l : List α} {n j : Nat} {y : α} (hl : l.length = n) (hy : l[j]? = some y) : j < n := by
  rcases Nat.lt_or_ge j n with h | h
  · exact h
  · rw [List.getElem?_eq_none (by omega)] at hy; cases hy
theorem of_any (w : World) (n c : Nat) (A : Option Addr) (l : List Ent) (x : Int) (hl : Ents w w.heap.size A n l) (hn : n ≤ maxLen) :
    Calls Tryd.prog 106 #[.slice A n c, .int .i64 x] w fun e w' => e = .returned (.int .i64 (vof l x)) ∧ Below w.heap.size w w' := by
  unfold maxLen at hn
  have hlen := Lib.hid hl.len
  go_enter Tryd.func106, Tryd.ntmps106
  go_wp2
  go_loopw [6, 9] (fun _ i wr => (∃ k : Nat, k ≤ n ∧ i = .int .i64 k ∧ ∀ (j : Nat) (y : Ent), j < k → l[j]? = some y → y.1 ≠ x) ∧ Below w.heap.size w wr) (fun _ i _ => n - (intOf i).toNat)
  case atStart => exact ⟨⟨0, by omega, rfl, fun j y hj => by omega⟩, Below.refl _ _⟩
  case round =>
    obtain ⟨⟨k, hk, rfl, hall⟩, hbel⟩ := hrel
    have Hall := Lib.hid hall
    clear hall
    by_cases hlt : k < n
    · obtain ⟨b, o, r, t, rfl, hb, hx, hf, hc0, hc1⟩ := hl.at_ hlt
      have c0 := (hbel.cell (p := ⟨b, o + k * 2, none⟩) (by simp; omega)).trans hc0
      have c1 := (hbel.cell (p := ⟨b, o + k * 2 + 1, none⟩) (by simp; omega)).trans hc1
      clear hc0 hc1
      have hsz := hbel.size
      by_cases hr : r = x
      · subst hr
        have hv := Lib.hid (vof_hit l r k t Hall.out hx)
        go_wp2_with fail
        go_ret
        exact ⟨retI hv.out.symm, (hbel.alloc (by omega) _)⟩
      · have hr' : (r == x) = false := by simp [hr]
        have hx' := Lib.hid hx
        clear hx
        go_wp2_with fail
        go_roundw
        case rel => exact ⟨⟨k + 1, by omega, by go_num, fun j y hj hy => ent_succ Hall.out hx'.out hr j y hj hy⟩, hbel.alloc (by omega) _⟩
        case measure => simp [intOf]; omega
    · obtain rfl : k = n := by omega
      go_wp2_with fail
      go_ret
      exact ⟨retI (vof_miss l x fun j y hy => Hall.out j y (ent_lt hlen.out hy) hy).symm, hbel⟩
/-- An argument that is a slice of entries. -/
structure EntArg where
  A : Option Addr
  n : Nat
  c : Nat
  l : List Ent
end Go.Proofs.YtnaclpfcldoebaaDoor
