/- Lists of entries (a replica, a time) in memory; how far a replica is known: vector.Of and VectorOf of the reference.

How far a replica is known: VectorOf of the reference.

Which of two ids is earlier, whether one may be, and whether it is within two vectors: the functions of package ident and of the reference.

What is wrong with a write, its tail as bytes, and a write out of bytes, in plain Lean. No program in sight.

What is wrong with a vector, in plain Lean. No program in sight. -/
import Derived.Test.YtglemfdnfaemiaaDoorProg
import Derived.Test.YtglemfdnfaemiaaDoorZ1
import Derived.WalkKit
import Derived.WalkLawsBesides
import Derived.WalkSpells
import Derived.Outline
import Derived.Lib.Hide
import Derived.Deep.QuietTactic
import Derived.BigQuiet
import Derived.Deep.RegionHeld3
import Derived.StillTailTactics
import Derived.KernelRfl
import Derived.Deep.RegionWith
section
namespace Go.Proofs.YtglemfdnfaemiaaDoor
open Go.RowKit

theorem entCells_len (x : Ent) : (entCells x).length = 2 := rfl
/-- Fits its kind. -/
def entFits (x : Ent) : Prop := (-9223372036854775808 ≤ x.1 ∧ x.1 ≤ 9223372036854775807) ∧ (-9223372036854775808 ≤ x.2 ∧ x.2 ≤ 9223372036854775807)
/-- The slice value of n entries reads as l. -/
def Ents (w : World) (B : Nat) (A : Option Addr) (n : Nat) (l : List Ent) : Prop := Sl w B 2 A n (l.flatMap entCells) ∧ ∀ x ∈ l, entFits x
theorem Ents.len {w : World} {B n : Nat} {A : Option Addr} {l : List Ent} (h : Ents w B A n l) : l.length = n := by
  have := h.1.1; rw [flat_len _ 2 entCells_len] at this; omega
theorem Ents.at_ {w : World} {B n : Nat} {A : Option Addr} {l : List Ent} (h : Ents w B A n l) {k : Nat} (hk : k < n) :
    ∃ b o r t, A = some ⟨b, o, none⟩ ∧ b < B ∧ l[k]? = some (r, t) ∧ entFits (r, t) ∧ w.cell? ⟨b, o + k * 2, none⟩ = some (.int .i64 r) ∧ w.cell? ⟨b, o + k * 2 + 1, none⟩ = some (.int .i64 t) := by
  obtain ⟨b, o, e, hb, hc⟩ := h.1.2 (by omega)
  have hl := h.len
  have hx : l[k]? = some l[k] := List.getElem?_eq_getElem (by omega)
  refine ⟨b, o, l[k].1, l[k].2, e, hb, hx, h.2 _ (List.getElem_mem _), ?_, ?_⟩
  · have := flat_get entCells 2 entCells_len l k 0 _ hx (by omega)
    exact hc (k * 2 + 0) _ this
  · have := flat_get entCells 2 entCells_len l k 1 _ hx (by omega)
    exact hc (k * 2 + 1) _ this
theorem Ents.below {w w' : World} {B n : Nat} {A : Option Addr} {l : List Ent} (h : Ents w B A n l) (hb : Below B w w') : Ents w' B A n l := ⟨h.1.below hb, h.2⟩

theorem Ents.below' {w w' : World} {B n : Nat} {A : Option Addr} {l : List Ent} (h : Ents w B A n l) (hb : Below w.heap.size w w') (hB : B ≤ w.heap.size) : Ents w' B A n l := h.below (hb.mono hB)
theorem Ents.more {w : World} {B B' n : Nat} {A : Option Addr} {l : List Ent} (h : Ents w B A n l) (hB : B ≤ B') : Ents w B' A n l := ⟨h.1.more hB, h.2⟩
theorem Ents.grow {w w' : World} {n : Nat} {A : Option Addr} {l : List Ent} (h : Ents w w.heap.size A n l) (hb : Below w.heap.size w w') : Ents w' w'.heap.size A n l := (h.below hb).more hb.size
theorem Ents.inv {w W : World} {n : Nat} {A : Option Addr} {l : List Ent} (h : Ents w w.heap.size A n l) (hb : Below w.heap.size w W) (x : Inv W) : Ents x.w x.w.heap.size A n l := (h.grow hb).grow x.below
/-- How far a replica is known. -/
def vof : List Ent → Int → Int
  | [], _ => 0
  | (r, t) :: l, x => if r = x then t else vof l x
theorem vof_fits (l : List Ent) (x : Int) (h : ∀ y ∈ l, entFits y) : -9223372036854775808 ≤ vof l x ∧ vof l x ≤ 9223372036854775807 := by
  induction l with
  | nil => simp [vof]
  | cons y l ih =>
    obtain ⟨r, t⟩ := y
    simp only [vof]
    split
    · exact (h (r, t) (by simp)).2
    · exact ih fun y hy => h y (by simp [hy])
theorem vof_hit (l : List Ent) (x : Int) (k : Nat) (t : Int) (h : ∀ (j : Nat) (y : Ent), j < k → l[j]? = some y → y.1 ≠ x) (hk : l[k]? = some (x, t)) : vof l x = t := by
  induction l generalizing k with
  | nil => simp at hk
  | cons y l ih =>
    obtain ⟨r, t'⟩ := y
    cases k with
    | zero => simp at hk; obtain ⟨rfl, rfl⟩ := hk; simp [vof]
    | succ k =>
      have h0 := h 0 (r, t') (by omega) (by simp)
      simp only [vof]
      rw [if_neg h0]
      exact ih k (fun j y hj hy => h (j + 1) y (by omega) (by simpa using hy)) (by simpa using hk)
theorem vof_miss (l : List Ent) (x : Int) (h : ∀ (j : Nat) (y : Ent), l[j]? = some y → y.1 ≠ x) : vof l x = 0 := by
  induction l with
  | nil => rfl
  | cons y l ih =>
    obtain ⟨r, t'⟩ := y
    have h0 := h 0 (r, t') (by simp)
    simp only [vof]
    rw [if_neg h0]
    exact ih fun j y hy => h (j + 1) y (by simpa using hy)

theorem ent_succ {l : List Ent} {x : Int} {k : Nat} {r t : Int} (h : ∀ (j : Nat) (y : Ent), j < k → l[j]? = some y → y.1 ≠ x) (hk : l[k]? = some (r, t)) (hr : ¬ r = x) : ∀ (j : Nat) (y : Ent), j < k + 1 → l[j]? = some y → y.1 ≠ x := by
  intro j y hj hy
  by_cases e : j = k
  · subst e; rw [hk] at hy; injection hy with hy; subst hy; exact hr
  · exact h j y (by omega) hy
theorem ent_lt {α : Type} {l : List α} {n j : Nat} {y : α} (hl : l.length = n) (hy : l[j]? = some y) : j < n := by
  rcases Nat.lt_or_ge j n with h | h
  · exact h
  · rw [List.getElem?_eq_none (by omega)] at hy; cases hy
theorem of_any (w : World) (n c : Nat) (A : Option Addr) (l : List Ent) (x : Int) (hl : Ents w w.heap.size A n l) (hn : n ≤ maxLen) :
    Calls Tryd.prog 26 #[.slice A n c, .int .i64 x] w fun e w' => e = .returned (.int .i64 (vof l x)) ∧ Below w.heap.size w w' := by
  unfold maxLen at hn
  have hlen := Lib.hid hl.len
  go_enter Tryd.func26, Tryd.ntmps26
  go_wp2
  go_loopw [6, 9] (fun _ i wr => (∃ k : Nat, k ≤ n ∧ i = .int .i64 k ∧ ∀ (j : Nat) (y : Ent), j < k → l[j]? = some y → y.1 ≠ x) ∧ Below w.heap.size w wr) (fun _ i _ => n - (intOf i).toNat)
  case atStart => exact ⟨⟨0, by omega, rfl, fun j y hj => by omega⟩, Below.refl _ _⟩
  case round =>
    obtain ⟨⟨k, hk, rfl, hall⟩, hbel⟩ := hrel
    have Hall := Lib.hid hall
    clear hall
    by_cases hlt : k < n
    · obtain ⟨b, o, r, t, rfl, hb, hx, hf, hc0, hc1⟩ := hl.at_ hlt
      have c0 := (hbel.cell (p := ⟨b, o + k * 2, none⟩) (by simp; omega)).trans hc0
      have c1 := (hbel.cell (p := ⟨b, o + k * 2 + 1, none⟩) (by simp; omega)).trans hc1
      clear hc0 hc1
      have hsz := hbel.size
      by_cases hr : r = x
      · subst hr
        have hv := Lib.hid (vof_hit l r k t Hall.out hx)
        go_wp2_with fail
        go_ret
        exact ⟨retI hv.out.symm, (hbel.alloc (by omega) _)⟩
      · have hr' : (r == x) = false := by simp [hr]
        have hx' := Lib.hid hx
        clear hx
        go_wp2_with fail
        go_roundw
        case rel => exact ⟨⟨k + 1, by omega, by go_num, fun j y hj hy => ent_succ Hall.out hx'.out hr j y hj hy⟩, hbel.alloc (by omega) _⟩
        case measure => simp [intOf]; omega
    · obtain rfl : k = n := by omega
      go_wp2_with fail
      go_ret
      exact ⟨retI (vof_miss l x fun j y hy => Hall.out j y (ent_lt hlen.out hy) hy).symm, hbel⟩
/-- An argument that is a slice of entries. -/
structure EntArg where
  A : Option Addr
  n : Nat
  c : Nat
  l : List Ent
end Go.Proofs.YtglemfdnfaemiaaDoor
end

section
namespace Go.Proofs.YtglemfdnfaemiaaDoor
open Go.RowKit
theorem rof_any (w : World) (n c : Nat) (A : Option Addr) (l : List Ent) (x : Int) (hl : Ents w w.heap.size A n l) (hn : n ≤ maxLen) :
    Calls Tryd.prog 27 #[.slice A n c, .int .i64 x] w fun e w' => e = .returned (.int .i64 (vof l x)) ∧ w = w' := by
  unfold maxLen at hn
  have hlen := Lib.hid hl.len
  go_enter Tryd.func27, Tryd.ntmps27
  go_wp2
  go_loop [5, 8] (fun _ i => ∃ k : Nat, k ≤ n ∧ i = .int .i64 k ∧ ∀ (j : Nat) (y : Ent), j < k → l[j]? = some y → y.1 ≠ x) (fun _ i => n - (intOf i).toNat)
  case atStart => exact ⟨0, by omega, rfl, fun j y hj => by omega⟩
  case round =>
    obtain ⟨k, hk, rfl, hall⟩ := hrel
    have Hall := Lib.hid hall
    clear hall
    by_cases hlt : k < n
    · obtain ⟨b, o, r, t, rfl, hb, hx, hf, c0, c1⟩ := hl.at_ hlt
      by_cases hr : r = x
      · subst hr
        have hv := Lib.hid (vof_hit l r k t Hall.out hx)
        go_wp2_with fail
        go_ret
        exact ⟨retI hv.out.symm, rfl⟩
      · have hr' : (r == x) = false := by simp [hr]
        have hx' := Lib.hid hx
        clear hx
        go_wp2_with fail
        go_round
        case rel => exact ⟨k + 1, by omega, by go_num, fun j y hj hy => ent_succ Hall.out hx'.out hr j y hj hy⟩
        case measure => simp [intOf]; omega
    · obtain rfl : k = n := by omega
      go_wp2_with fail
      go_ret
      exact ⟨retI (vof_miss l x fun j y hy => Hall.out j y (ent_lt hlen.out hy) hy).symm, rfl⟩
end Go.Proofs.YtglemfdnfaemiaaDoor
end

section
namespace Go.Proofs.YtglemfdnfaemiaaDoor
open Go.RowKit

/-- An id: a time and a replica. -/
abbrev Id := Int × Int
def idV (x : Id) : Value := .agg #[.int .i64 x.1, .int .i64 x.2]
def idRight (x : Id) : Bool := decide (1 ≤ x.1 ∧ x.1 ≤ 1099511627776 ∧ 0 ≤ x.2 ∧ x.2 ≤ 200)
def idLess (a b : Id) : Bool := decide (a.1 < b.1 ∨ (a.1 = b.1 ∧ a.2 < b.2))
def idCmp (a b : Id) : Int := if a.1 < b.1 ∨ (a.1 = b.1 ∧ a.2 < b.2) then -1 else if a = b then 0 else 1
theorem below1 (w : World) (o : Obj) : Below w.heap.size w (w.alloc o) := (Below.refl _ _).alloc (Nat.le_refl _) o
theorem below2 (w : World) (o o' : Obj) : Below w.heap.size w ((w.alloc o).alloc o') := (below1 w o).alloc (by simp) o'
theorem idright_any (t r : Int) (w : World) :
    Calls Tryd.prog 114 #[.agg #[.int .i64 t, .int .i64 r]] w fun e w' => e = .returned (.bool (idRight (t, r))) ∧ Below w.heap.size w w' := by
  go_enter Tryd.func114, Tryd.ntmps114
  go_wp2
  all_goals
    go_ret
    refine ⟨retB ?_, below1 _ _⟩
    unfold idRight
    first | (rw [decide_eq_decide]; omega) | (symm; rw [decide_eq_false_iff_not]; omega)
theorem ridright_any (t r : Int) (w : World) :
    Calls Tryd.prog 136 #[.agg #[.int .i64 t, .int .i64 r]] w fun e w' => e = .returned (.bool (idRight (t, r))) ∧ Below w.heap.size w w' := by
  go_enter Tryd.func136, Tryd.ntmps136
  go_wp2
  all_goals
    go_ret
    refine ⟨retB ?_, below1 _ _⟩
    unfold idRight
    first | (rw [decide_eq_decide]; omega) | (symm; rw [decide_eq_false_iff_not]; omega)
def cmpI (a b : Int) : Int := if a < b then -1 else if b < a then 1 else 0
theorem cmp_any (a b : Int) (w : World) :
    Calls Tryd.prog 140 #[.int .i64 a, .int .i64 b] w fun e w' => e = .returned (.int .i64 (cmpI a b)) ∧ w' = w := by
  rcases Int.lt_trichotomy a b with h | h | h
  · go_enter Tryd.func140, Tryd.ntmps140
    go_wp2
    go_ret
    exact ⟨retI (by unfold cmpI; rw [if_pos h]), rfl⟩
  · subst h
    go_enter Tryd.func140, Tryd.ntmps140
    go_wp2
    go_ret
    exact ⟨retI (by unfold cmpI; rw [if_neg (by omega), if_neg (by omega)]), rfl⟩
  · go_enter Tryd.func140, Tryd.ntmps140
    go_wp2
    go_ret
    exact ⟨retI (by unfold cmpI; rw [if_neg (by omega), if_pos h]), rfl⟩
def orI (a b : Int) : Int := if a = 0 then b else a
theorem orI_0 (b : Int) : orI 0 b = b := rfl
theorem orI_n (a b : Int) (h : ¬ a = 0) : orI a b = a := by unfold orI; rw [if_neg h]
def OrRel (a b : Int) (i : Value) : Prop := i = .int .i64 0 ∨ (i = .int .i64 1 ∧ a = 0) ∨ (i = .int .i64 2 ∧ a = 0 ∧ b = 0)
theorem or_any (a b : Int) (g : Nat) (w : World) (h0 : w.cell? ⟨g, 0, none⟩ = some (.int .i64 a)) (h1 : w.cell? ⟨g, 1, none⟩ = some (.int .i64 b)) :
    Calls Tryd.prog 139 #[.slice (some ⟨g, 0, none⟩) 2 2] w fun e w' => e = .returned (.int .i64 (orI a b)) ∧ w' = w := by
  go_enter Tryd.func139, Tryd.ntmps139
  go_wp2
  go_loop [5, 8] (fun _ i => OrRel a b i) (fun _ i => 2 - (intOf i).toNat)
  case atStart => exact .inl rfl
  case round =>
    rcases hrel with rfl | ⟨rfl, rfl⟩ | ⟨rfl, rfl, rfl⟩
    · by_cases ha : a = 0
      · subst ha
        go_wp2
        go_round
        case rel => exact .inr (.inl ⟨rfl, rfl⟩)
        case measure => simp [intOf]
      · have hb : (a != 0) = true := by rw [bne_iff_ne]; exact ha
        have hr := Lib.hid (orI_n a b ha)
        go_wp2
        go_ret
        exact ⟨retI hr.out.symm, rfl⟩
    · by_cases hb : b = 0
      · subst hb
        go_wp2
        go_round
        case rel => exact .inr (.inr ⟨rfl, rfl, rfl⟩)
        case measure => simp [intOf]
      · have hb' : (b != 0) = true := by rw [bne_iff_ne]; exact hb
        go_wp2
        go_ret
        exact ⟨rfl, rfl⟩
    · go_wp2
      go_ret
      exact ⟨rfl, rfl⟩
theorem new_drew (w : World) (c : Array Value) (t : TypeId) (n i : Nat) (v : Value) (hn : n = w.heap.size) (hv : c[i]? = some v) : (w.alloc (.cells c t)).drew.cell? ⟨n, i, none⟩ = some v := by
  show (w.alloc (.cells c t)).cell? ⟨n, i, none⟩ = some v
  rw [World.cell?_alloc_at c t n i hn, hv]
theorem idCmp_eq (t r t' r' : Int) : orI (cmpI t t') (cmpI r r') = idCmp (t, r) (t', r') := by
  have he : ((t, r) = (t', r')) ↔ (t = t' ∧ r = r') := by simp
  unfold orI cmpI idCmp
  simp only [he]
  by_cases a : t < t' <;> by_cases b : t' < t <;> by_cases c : r < r' <;> by_cases d : r' < r <;> by_cases e : t = t' <;> by_cases f : r = r' <;> simp [a, b, c, d, e, f] <;> omega
theorem below3 (w : World) (o o' o'' : Obj) : Below w.heap.size w (((w.alloc o).alloc o').alloc o'').drew := by
  have h : w.heap.size ≤ ((w.alloc o).alloc o').heap.size := by simp; omega
  exact ((below2 w o o').alloc h o'').drew
theorem compare_any (t r t' r' : Int) (w : World) :
    Calls Tryd.prog 117 #[.agg #[.int .i64 t, .int .i64 r], .agg #[.int .i64 t', .int .i64 r']] w fun e w' => e = .returned (.int .i64 (idCmp (t, r) (t', r'))) ∧ Below w.heap.size w w' := by
  go_enter Tryd.func117, Tryd.ntmps117
  go_wp2_with fail
  go_region_held3 (fun wx => wx.cell? ⟨w.heap.size, 0, none⟩ = some (.int .i64 t) ∧ wx.cell? ⟨w.heap.size, 1, none⟩ = some (.int .i64 r) ∧ wx.cell? ⟨w.heap.size + 1, 0, none⟩ = some (.int .i64 t') ∧ wx.cell? ⟨w.heap.size + 1, 1, none⟩ = some (.int .i64 r')) (go_keep)
    (first
      | (go_at_call_of 140 (Value.int .i64 t); refine (cmp_any t t' _).mono ?_; rintro e w' ⟨rfl, rfl⟩)
      | (go_at_call_of 140 (Value.int .i64 r); refine (cmp_any r r' _).mono ?_; rintro e w' ⟨rfl, rfl⟩)
      | (go_at_call 139; refine (or_any (cmpI t t') (cmpI r r') _ _ (new_drew _ _ _ _ 0 _ (by simp) rfl) (new_drew _ _ _ _ 1 _ (by simp) rfl)).mono ?_; rintro e w' ⟨rfl, rfl⟩))
  go_wp2
  go_ret
  exact ⟨retI (idCmp_eq t r t' r'), below3 _ _ _ _⟩
theorem idCmp_lt (t r t' r' : Int) (h : t < t' ∨ (t = t' ∧ r < r')) : idCmp (t, r) (t', r') = -1 := by unfold idCmp; rw [if_pos h]
theorem idCmp_same (t r : Int) : idCmp (t, r) (t, r) = 0 := by unfold idCmp; rw [if_neg (by simp), if_pos rfl]
theorem idCmp_gt (t r t' r' : Int) (h : ¬ (t < t' ∨ (t = t' ∧ r < r'))) (hn : ¬ (t = t' ∧ r = r')) : idCmp (t, r) (t', r') = 1 := by
  unfold idCmp; rw [if_neg h, if_neg (by simpa using hn)]
theorem rcompare_any (t r t' r' : Int) (w : World) :
    Calls Tryd.prog 119 #[.agg #[.int .i64 t, .int .i64 r], .agg #[.int .i64 t', .int .i64 r']] w fun e w' => e = .returned (.int .i64 (idCmp (t, r) (t', r'))) ∧ Below w.heap.size w w' := by
  rcases Int.lt_trichotomy t t' with h | h | h
  · have hr := Lib.hid (idCmp_lt t r t' r' (.inl h))
    go_enter Tryd.func119, Tryd.ntmps119
    go_wp2
    go_ret
    exact ⟨retI hr.out.symm, below2 _ _ _⟩
  · subst h
    rcases Int.lt_trichotomy r r' with h | h | h
    · have hr := Lib.hid (idCmp_lt t r t r' (.inr ⟨rfl, h⟩))
      go_enter Tryd.func119, Tryd.ntmps119
      go_wp2
      go_ret
      exact ⟨retI hr.out.symm, below2 _ _ _⟩
    · subst h
      have hr := Lib.hid (idCmp_same t r)
      go_enter Tryd.func119, Tryd.ntmps119
      go_wp2
      go_ret
      exact ⟨retI hr.out.symm, below2 _ _ _⟩
    · have hr := Lib.hid (idCmp_gt t r t r' (by omega) (by omega))
      have hne : (r == r') = false := beq_eq_false_iff_ne.2 (by omega)
      have hlt : decide (r < r') = false := decide_eq_false (by omega)
      go_enter Tryd.func119, Tryd.ntmps119
      go_wp2
      go_ret
      exact ⟨retI hr.out.symm, below2 _ _ _⟩
  · have hr := Lib.hid (idCmp_gt t r t' r' (by omega) (by omega))
    have hne : (t == t') = false := beq_eq_false_iff_ne.2 (by omega)
    have hlt : decide (t < t') = false := decide_eq_false (by omega)
    go_enter Tryd.func119, Tryd.ntmps119
    go_wp2
    go_ret
    exact ⟨retI hr.out.symm, below2 _ _ _⟩
def idWithin (x : Id) (f h : List Ent) : Bool := decide (vof f x.2 < x.1) && decide (x.1 ≤ vof h x.2)
theorem within1 {x : Id} {f h : List Ent} (a : vof f x.2 < x.1) : idWithin x f h = decide (x.1 ≤ vof h x.2) := by unfold idWithin; rw [decide_eq_true a, Bool.true_and]
theorem within0 {x : Id} {f h : List Ent} (a : ¬ vof f x.2 < x.1) : idWithin x f h = false := by unfold idWithin; rw [decide_eq_false a, Bool.false_and]
theorem iwithin_any (t r : Int) (n n' c c' : Nat) (A A' : Option Addr) (l l' : List Ent) (w : World) (h : Ents w w.heap.size A n l) (h' : Ents w w.heap.size A' n' l') (hn : n ≤ maxLen) (hn' : n' ≤ maxLen) :
    Calls Tryd.prog 118 #[.agg #[.int .i64 t, .int .i64 r], .slice A n c, .slice A' n' c'] w fun e w' => e = .returned (.bool (idWithin (t, r) l l')) ∧ Below w.heap.size w w' := by
  by_cases g : vof l r < t
  · have hr := Lib.hid (within1 (x := (t, r)) (h := l') g)
    have b0 : Below w.heap.size w (w.alloc (.cells #[.int .i64 t, .int .i64 r] 114)) := below1 _ _
    have c0 := Inv.cell (w := w.alloc (.cells #[.int .i64 t, .int .i64 r] 114)) (a := ⟨w.heap.size, 0, none⟩) (v := .int .i64 t) (by rw [World.cell?_alloc_new]; rfl)
    have c1 := Inv.cell (w := w.alloc (.cells #[.int .i64 t, .int .i64 r] 114)) (a := ⟨w.heap.size, 1, none⟩) (v := .int .i64 r) (by rw [World.cell?_alloc_new]; rfl)
    go_enter Tryd.func118, Tryd.ntmps118
    go_wp2_with fail
    refine wp_region_inv (by kernel_rfl) (by kernel_rfl) ?_
    repeat (go_big_quiet_step ((first
        | (go_at_call_of 26 (Value.slice A n c); exact Calls.inv_of (of_any _ n c A l r (h.inv b0 _) hn))
        | (go_at_call_of 26 (Value.slice A' n' c'); exact Calls.inv_of (of_any _ n' c' A' l' r (h'.inv b0 _) hn')))))
    refine wpQuiet_nil ?_
    intro _ hw'
    obtain ⟨x, rfl⟩ := hw'
    go_wp2
    go_ret
    exact ⟨retB hr.out.symm, b0.trans (x.below.mono b0.size)⟩
  · have hr := Lib.hid (within0 (x := (t, r)) (h := l') g)
    have g' : decide (vof l r < t) = false := decide_eq_false g
    have b0 : Below w.heap.size w (w.alloc (.cells #[.int .i64 t, .int .i64 r] 114)) := below1 _ _
    have c0 := Inv.cell (w := w.alloc (.cells #[.int .i64 t, .int .i64 r] 114)) (a := ⟨w.heap.size, 0, none⟩) (v := .int .i64 t) (by rw [World.cell?_alloc_new]; rfl)
    have c1 := Inv.cell (w := w.alloc (.cells #[.int .i64 t, .int .i64 r] 114)) (a := ⟨w.heap.size, 1, none⟩) (v := .int .i64 r) (by rw [World.cell?_alloc_new]; rfl)
    go_enter Tryd.func118, Tryd.ntmps118
    go_wp2_with fail
    refine wp_region_inv (by kernel_rfl) (by kernel_rfl) ?_
    repeat (go_big_quiet_step ((first
        | (go_at_call_of 26 (Value.slice A n c); exact Calls.inv_of (of_any _ n c A l r (h.inv b0 _) hn))
        | (go_at_call_of 26 (Value.slice A' n' c'); exact Calls.inv_of (of_any _ n' c' A' l' r (h'.inv b0 _) hn')))))
    refine wpQuiet_nil ?_
    intro _ hw'
    obtain ⟨x, rfl⟩ := hw'
    go_wp2
    go_ret
    exact ⟨retB hr.out.symm, b0.trans (x.below.mono b0.size)⟩
theorem rwithin_any (t r : Int) (n n' c c' : Nat) (A A' : Option Addr) (l l' : List Ent) (w : World) (h : Ents w w.heap.size A n l) (h' : Ents w w.heap.size A' n' l') (hn : n ≤ maxLen) (hn' : n' ≤ maxLen) :
    Calls Tryd.prog 120 #[.agg #[.int .i64 t, .int .i64 r], .slice A n c, .slice A' n' c'] w fun e w' => e = .returned (.bool (idWithin (t, r) l l')) ∧ Below w.heap.size w w' := by
  by_cases g : vof l r < t
  · have hr := Lib.hid (within1 (x := (t, r)) (h := l') g)
    have b0 : Below w.heap.size w (w.alloc (.cells #[.int .i64 t, .int .i64 r] 114)) := below1 _ _
    have c0 := Inv.cell (w := w.alloc (.cells #[.int .i64 t, .int .i64 r] 114)) (a := ⟨w.heap.size, 0, none⟩) (v := .int .i64 t) (by rw [World.cell?_alloc_new]; rfl)
    have c1 := Inv.cell (w := w.alloc (.cells #[.int .i64 t, .int .i64 r] 114)) (a := ⟨w.heap.size, 1, none⟩) (v := .int .i64 r) (by rw [World.cell?_alloc_new]; rfl)
    go_enter Tryd.func120, Tryd.ntmps120
    go_wp2_with fail
    refine wp_region_inv (by kernel_rfl) (by kernel_rfl) ?_
    repeat (go_big_quiet_step ((first
        | (go_at_call_of 27 (Value.slice A n c); exact Calls.inv_same (rof_any _ n c A l r (h.inv b0 _) hn))
        | (go_at_call_of 27 (Value.slice A' n' c'); exact Calls.inv_same (rof_any _ n' c' A' l' r (h'.inv b0 _) hn')))))
    refine wpQuiet_nil ?_
    intro _ hw'
    obtain ⟨x, rfl⟩ := hw'
    go_wp2
    go_ret
    exact ⟨retB hr.out.symm, b0.trans (x.below.mono b0.size)⟩
  · have hr := Lib.hid (within0 (x := (t, r)) (h := l') g)
    have g' : decide (vof l r < t) = false := decide_eq_false g
    have b0 : Below w.heap.size w (w.alloc (.cells #[.int .i64 t, .int .i64 r] 114)) := below1 _ _
    have c0 := Inv.cell (w := w.alloc (.cells #[.int .i64 t, .int .i64 r] 114)) (a := ⟨w.heap.size, 0, none⟩) (v := .int .i64 t) (by rw [World.cell?_alloc_new]; rfl)
    have c1 := Inv.cell (w := w.alloc (.cells #[.int .i64 t, .int .i64 r] 114)) (a := ⟨w.heap.size, 1, none⟩) (v := .int .i64 r) (by rw [World.cell?_alloc_new]; rfl)
    go_enter Tryd.func120, Tryd.ntmps120
    go_wp2_with fail
    refine wp_region_inv (by kernel_rfl) (by kernel_rfl) ?_
    repeat (go_big_quiet_step ((first
        | (go_at_call_of 27 (Value.slice A n c); exact Calls.inv_same (rof_any _ n c A l r (h.inv b0 _) hn))
        | (go_at_call_of 27 (Value.slice A' n' c'); exact Calls.inv_same (rof_any _ n' c' A' l' r (h'.inv b0 _) hn')))))
    refine wpQuiet_nil ?_
    intro _ hw'
    obtain ⟨x, rfl⟩ := hw'
    go_wp2
    go_ret
    exact ⟨retB hr.out.symm, b0.trans (x.below.mono b0.size)⟩
end Go.Proofs.YtglemfdnfaemiaaDoor
end

section
namespace Go.Proofs.YtglemfdnfaemiaaDoor
/-- What is wrong with a write: time, replica, kind, key, value, number. -/
def wright (w : Wr) : Int :=
  if w.2.2.1 < 1 ∨ 4 < w.2.2.1 then 1
  else if idRight (w.1, w.2.1) = false then 2
  else if 40 < w.2.2.2.1.size ∨ 300 < w.2.2.2.2.1.size then 4
  else if (w.2.2.1 ≠ 1 ∧ w.2.2.1 ≠ 4 ∧ w.2.2.2.2.1.size ≠ 0) ∨ (w.2.2.1 ≠ 3 ∧ w.2.2.1 ≠ 4 ∧ w.2.2.2.2.2 ≠ 0) then 3
  else if w.2.2.1 = 3 ∧ (w.2.2.2.2.2 < -1125899906842624 ∨ 1125899906842624 < w.2.2.2.2.2) ∨ w.2.2.1 = 4 ∧ (w.2.2.2.2.2 < 0 ∨ 1000 < w.2.2.2.2.2) then 2 else 0
def zigN (n : Int) : Nat := (if n < 0 then 2 * -(n + 1) + 1 else 2 * n).toNat
def zagN (n : Nat) : Int := if n % 2 = 1 then -((n / 2 : Nat) : Int) - 1 else ((n / 2 : Nat) : Int)
/-- A write's tail, if it is right. -/
def wtailOf (w : Wr) : ByteArray :=
  if w.2.2.1 = 1 then strOf (vput w.2.2.2.2.1.size) ++ w.2.2.2.2.1
  else if w.2.2.1 = 3 then strOf (vput (zigN w.2.2.2.2.2))
  else if w.2.2.1 = 4 then strOf (vput w.2.2.2.2.2.toNat) ++ (strOf (vput w.2.2.2.2.1.size) ++ w.2.2.2.2.1)
  else strOf []
def wtail (w : Wr) : ByteArray × Int := if wright w ≠ 0 then (strOf [], wright w) else (wtailOf w, 0)
def noWr : Wr := (0, 0, 0, strOf [], strOf [], 0)
def wend (w : Wr) (k : Nat) : Wr × Nat × Int := if wright w ≠ 0 then (noWr, 0, wright w) else (w, k, 0)
/-- A write with what bytes begin with. -/
def wfill (w : Wr) (s : ByteArray) : Wr × Nat × Int :=
  if w.2.2.1 = 1 then
    if (unspan s).2.2 ≠ 0 then (noWr, 0, (unspan s).2.2) else wend (w.1, w.2.1, w.2.2.1, w.2.2.2.1, (unspan s).1, 0) (unspan s).2.1
  else if w.2.2.1 = 3 then
    if (vget s.data.toList).2.2 ≠ 0 then (noWr, 0, (vget s.data.toList).2.2) else wend (w.1, w.2.1, w.2.2.1, w.2.2.2.1, strOf [], zagN (vget s.data.toList).1) (vget s.data.toList).2.1
  else if w.2.2.1 = 4 then
    if (vint s.data.toList 1000).2.2 ≠ 0 then (noWr, 0, (vint s.data.toList 1000).2.2)
    else if (unspan (s.extract (vint s.data.toList 1000).2.1 s.size)).2.2 ≠ 0 then (noWr, 0, (unspan (s.extract (vint s.data.toList 1000).2.1 s.size)).2.2)
    else wend (w.1, w.2.1, w.2.2.1, w.2.2.2.1, (unspan (s.extract (vint s.data.toList 1000).2.1 s.size)).1, ((vint s.data.toList 1000).1 : Int)) ((vint s.data.toList 1000).2.1 + (unspan (s.extract (vint s.data.toList 1000).2.1 s.size)).2.1)
  else wend (w.1, w.2.1, w.2.2.1, w.2.2.2.1, strOf [], 0) 0
end Go.Proofs.YtglemfdnfaemiaaDoor
end

section
namespace Go.Proofs.YtglemfdnfaemiaaDoor
/-- An entry beyond what there is. -/
def entBad (x : Ent) : Prop := x.1 < 0 ∨ 200 < x.1 ∨ x.2 < 1 ∨ 1099511627776 < x.2
instance (x : Ent) : Decidable (entBad x) := by unfold entBad; infer_instance
/-- What is wrong from entry i on, the replica ahead being last. -/
def vrgo : List Ent → Int → Nat → Int × Int
  | [], _, _ => (0, -1)
  | x :: l, last, i => if entBad x then (2, i) else if x.1 ≤ last then (10, i) else vrgo l x.1 (i + 1)
def vright (l : List Ent) : Int × Int := if 16 < l.length then (4, -1) else vrgo l (-1) 0
/-- The replica ahead of entry k. -/
def lastAt (l : List Ent) (k : Nat) : Int := if k = 0 then -1 else (l.getD (k - 1) (-1, 0)).1
theorem lastAt_zero (l : List Ent) : lastAt l 0 = -1 := rfl
theorem lastAt_succ (l : List Ent) (k : Nat) (r t : Int) (h : l[k]? = some (r, t)) : lastAt l (k + 1) = r := by
  unfold lastAt
  rw [if_neg (by omega)]
  simp [List.getD, h]
/-- As it stands ahead of entry k. -/
def VAt (l : List Ent) (k : Nat) : Prop := vrgo l (-1) 0 = vrgo (l.drop k) (lastAt l k) k
theorem VAt.zero (l : List Ent) : VAt l 0 := rfl
theorem drop_at {α : Type} {l : List α} {k : Nat} {x : α} (h : l[k]? = some x) : l.drop k = x :: l.drop (k + 1) := by
  obtain ⟨hk, e⟩ := List.getElem?_eq_some_iff.1 h
  rw [List.drop_eq_getElem_cons hk, e]
theorem VAt.bad {l : List Ent} {k : Nat} {x : Ent} (h : VAt l k) (hx : l[k]? = some x) (hb : entBad x) : vrgo l (-1) 0 = (2, (k : Int)) := by
  unfold VAt at h
  rw [h, drop_at hx]
  simp only [vrgo]
  rw [if_pos hb]
theorem VAt.order {l : List Ent} {k : Nat} {x : Ent} (h : VAt l k) (hx : l[k]? = some x) (hb : ¬ entBad x) (ho : x.1 ≤ lastAt l k) : vrgo l (-1) 0 = (10, (k : Int)) := by
  unfold VAt at h
  rw [h, drop_at hx]
  simp only [vrgo]
  rw [if_neg hb, if_pos ho]
theorem VAt.succ {l : List Ent} {k : Nat} {r t : Int} (h : VAt l k) (hx : l[k]? = some (r, t)) (hb : ¬ entBad (r, t)) (ho : ¬ r ≤ lastAt l k) : VAt l (k + 1) := by
  unfold VAt at *
  rw [h, drop_at hx]
  simp only [vrgo]
  rw [if_neg hb, if_neg ho, lastAt_succ l k r t hx]
theorem VAt.all {l : List Ent} {k : Nat} (h : VAt l k) (hk : l.length ≤ k) : vrgo l (-1) 0 = (0, -1) := by
  unfold VAt at h
  rw [h, List.drop_eq_nil_of_le hk]
  rfl
theorem vright_big {l : List Ent} (h : 16 < l.length) : vright l = (4, -1) := by unfold vright; rw [if_pos h]
theorem vright_small {l : List Ent} (h : ¬ 16 < l.length) : vright l = vrgo l (-1) 0 := by unfold vright; rw [if_neg h]
theorem vright_ok_len {l : List Ent} (h : (vright l).1 = 0) : l.length ≤ 16 := by
  rcases Nat.lt_or_ge 16 l.length with h' | h'
  · rw [vright_big h'] at h; simp at h
  · exact h'
theorem vrgo_place (l : List Ent) : ∀ (last : Int) (i : Nat), (vrgo l last i).1 = 0 → (vrgo l last i).2 = -1 := by
  induction l with
  | nil => intro _ _ _; rfl
  | cons x l ih =>
    intro last i
    simp only [vrgo]
    split
    · intro h; simp at h
    · split
      · intro h; simp at h
      · exact ih _ _
theorem vright_place {l : List Ent} (h : (vright l).1 = 0) : (vright l).2 = -1 := by
  unfold vright at *
  split
  · rfl
  · rename_i h'; rw [if_neg h'] at h; exact vrgo_place l _ _ h
/-- A right vector: each entry fits, and the replicas rise. -/
theorem vrgo_ok (l : List Ent) : ∀ (last : Int) (i : Nat), (vrgo l last i).1 = 0 → (∀ x ∈ l, ¬ entBad x) ∧ (∀ x ∈ l, last < x.1) ∧ l.Pairwise (fun x y => x.1 < y.1) := by
  induction l with
  | nil => intro _ _ _; simp
  | cons x l ih =>
    intro last i
    simp only [vrgo]
    split
    · intro h; simp at h
    · rename_i hb
      split
      · intro h; simp at h
      · rename_i ho
        intro h
        obtain ⟨h1, h2, h3⟩ := ih _ _ h
        refine ⟨?_, ?_, ?_⟩
        · intro y hy
          rcases List.mem_cons.1 hy with rfl | hy
          · exact hb
          · exact h1 y hy
        · intro y hy
          rcases List.mem_cons.1 hy with rfl | hy
          · omega
          · have := h2 y hy; omega
        · exact List.pairwise_cons.2 ⟨h2, h3⟩
theorem vright_ok {l : List Ent} (h : (vright l).1 = 0) : (∀ x ∈ l, ¬ entBad x) ∧ l.Pairwise (fun x y => x.1 < y.1) := by
  rw [vright_small (by have := vright_ok_len h; omega)] at h
  obtain ⟨h1, _, h3⟩ := vrgo_ok l _ _ h
  exact ⟨h1, h3⟩
end Go.Proofs.YtglemfdnfaemiaaDoor
end
