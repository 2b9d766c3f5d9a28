/- Which of two ids is earlier, whether one may be, and whether it is within two vectors: the functions of package ident and of the reference.

What is wrong with a write, its tail as bytes, and a write out of bytes, in plain Lean. No program in sight.

How far two vectors know together, and whether one covers the other one, in plain Lean. No program in sight.

What is wrong with a batch, in plain Lean. No program in sight.

VectorRight of the reference says what vright says.

vector.Covers and Covers of the reference say what vcovers says.

Whether a text is empty. Any program. -/
import Derived.Test.YtkejlnjnoiidnaaGreatDoorZ1
import Derived.Test.YtkejlnjnoiidnaaGreatDoorZ5
import Derived.Deep.QuietTactic
import Derived.BigQuiet
import Derived.Deep.RegionHeld3
import Derived.StillTailTactics
import Derived.KernelRfl
import Derived.Deep.RegionWith
import Derived.Test.YtkejlnjnoiidnaaGreatDoorZ2
import Derived.Test.YtkejlnjnoiidnaaGreatDoorZ3
section
namespace Go.Proofs.YtkejlnjnoiidnaaGreatDoor
open Go.RowKit

/-- An id: a time and a replica. -/
abbrev Id := Int × Int
def idRight (x : Id) : Bool := decide (1 ≤ x.1 ∧ x.1 ≤ 1099511627776 ∧ 0 ≤ x.2 ∧ x.2 ≤ 200)
def idCmp (a b : Id) : Int := if a.1 < b.1 ∨ (a.1 = b.1 ∧ a.2 < b.2) then -1 else if a = b then 0 else 1
theorem below1 (w : World) (o : Obj) : Below w.heap.size w (w.alloc o) := (Below.refl _ _).alloc (Nat.le_refl _) o
theorem below2 (w : World) (o o' : Obj) : Below w.heap.size w ((w.alloc o).alloc o') := (below1 w o).alloc (by simp) o'
theorem idright_any (t r : Int) (w : World) :
  Calls Tryz.prog 123 #[.agg #[.int .i64 t, .int .i64 r]] w fun e w' => e = .returned (.bool (idRight (t, r))) ∧ Below w.heap.size w w' := by
 go_enter Tryz.func123, Tryz.ntmps123
 go_wp2
 all_goals
  go_ret
  refine ⟨retB ?_, below1 _ _⟩
  unfold idRight
  first | (rw [decide_eq_decide]; omega) | (symm; rw [decide_eq_false_iff_not]; omega)
theorem ridright_any (t r : Int) (w : World) :
  Calls Tryz.prog 118 #[.agg #[.int .i64 t, .int .i64 r]] w fun e w' => e = .returned (.bool (idRight (t, r))) ∧ Below w.heap.size w w' := by
 go_enter Tryz.func118, Tryz.ntmps118
 go_wp2
 all_goals
  go_ret
  refine ⟨retB ?_, below1 _ _⟩
  unfold idRight
  first | (rw [decide_eq_decide]; omega) | (symm; rw [decide_eq_false_iff_not]; omega)
def cmpI (a b : Int) : Int := if a < b then -1 else if b < a then 1 else 0
theorem cmp_any (a b : Int) (w : World) :
  Calls Tryz.prog 125 #[.int .i64 a, .int .i64 b] w fun e w' => e = .returned (.int .i64 (cmpI a b)) ∧ w' = w := by
 rcases Int.lt_trichotomy a b with h | h | h
 ·go_enter Tryz.func125, Tryz.ntmps125
  go_wp2
  go_ret
  exact ⟨retI (by unfold cmpI; rw [if_pos h]), rfl⟩
 ·subst h
  go_enter Tryz.func125, Tryz.ntmps125
  go_wp2
  go_ret
  exact ⟨retI (by unfold cmpI; rw [if_neg (by omega), if_neg (by omega)]), rfl⟩
 ·go_enter Tryz.func125, Tryz.ntmps125
  go_wp2
  go_ret
  exact ⟨retI (by unfold cmpI; rw [if_neg (by omega), if_pos h]), rfl⟩
def orI (a b : Int) : Int := if a = 0 then b else a
theorem orI_n (a b : Int) (h : ¬ a = 0) : orI a b = a := by unfold orI; rw [if_neg h]
def OrRel (a b : Int) (i : Value) : Prop := i = .int .i64 0 ∨ (i = .int .i64 1 ∧ a = 0) ∨ (i = .int .i64 2 ∧ a = 0 ∧ b = 0)
theorem or_any (a b : Int) (g : Nat) (w : World) (h0 : w.cell? ⟨g, 0, none⟩ = some (.int .i64 a)) (h1 : w.cell? ⟨g, 1, none⟩ = some (.int .i64 b)) :
  Calls Tryz.prog 124 #[.slice (some ⟨g, 0, none⟩) 2 2] w fun e w' => e = .returned (.int .i64 (orI a b)) ∧ w' = w := by
 go_enter Tryz.func124, Tryz.ntmps124
 go_wp2
 go_loop [5, 8] (fun _ i => OrRel a b i) (fun _ i => 2 - (intOf i).toNat)
 case atStart => exact .inl rfl
 case round =>
  rcases hrel with rfl | ⟨rfl, rfl⟩ | ⟨rfl, rfl, rfl⟩
  ·by_cases ha : a = 0
   ·subst ha
    go_wp2
    go_round
    case rel => exact .inr (.inl ⟨rfl, rfl⟩)
    case measure => simp [intOf]
   ·have hb : (a != 0) = true := by rw [bne_iff_ne]; exact ha
    have hr := Lib.hid (orI_n a b ha)
    go_wp2
    go_ret
    exact ⟨retI hr.out.symm, rfl⟩
  ·by_cases hb : b = 0
   ·subst hb
    go_wp2
    go_round
    case rel => exact .inr (.inr ⟨rfl, rfl, rfl⟩)
    case measure => simp [intOf]
   ·have hb' : (b != 0) = true := by rw [bne_iff_ne]; exact hb
    go_wp2
    go_ret
    exact ⟨rfl, rfl⟩
  ·go_wp2
   go_ret
   exact ⟨rfl, rfl⟩
theorem new_drew (w : World) (c : Array Value) (t : TypeId) (n i : Nat) (v : Value) (hn : n = w.heap.size) (hv : c[i]? = some v) : (w.alloc (.cells c t)).drew.cell? ⟨n, i, none⟩ = some v := by
 show (w.alloc (.cells c t)).cell? ⟨n, i, none⟩ = some v
 rw [World.cell?_alloc_at c t n i hn, hv]
theorem idCmp_eq (t r t' r' : Int) : orI (cmpI t t') (cmpI r r') = idCmp (t, r) (t', r') := by
 have he : ((t, r) = (t', r')) ↔ (t = t' ∧ r = r') := by simp
 unfold orI cmpI idCmp
 simp only [he]
 by_cases a : t < t' <;> by_cases b : t' < t <;> by_cases c : r < r' <;> by_cases d : r' < r <;> by_cases e : t = t' <;> by_cases f : r = r' <;> simp [a, b, c, d, e, f] <;> omega
theorem below3 (w : World) (o o' o'' : Obj) : Below w.heap.size w (((w.alloc o).alloc o').alloc o'').drew := by
 have h : w.heap.size ≤ ((w.alloc o).alloc o').heap.size := by simp; omega
 exact ((below2 w o o').alloc h o'').drew
theorem compare_any (t r t' r' : Int) (w : World) :
  Calls Tryz.prog 82 #[.agg #[.int .i64 t, .int .i64 r], .agg #[.int .i64 t', .int .i64 r']] w fun e w' => e = .returned (.int .i64 (idCmp (t, r) (t', r'))) ∧ Below w.heap.size w w' := by
 go_enter Tryz.func82, Tryz.ntmps82
 go_wp2_with fail
 go_region_held3 (fun wx => wx.cell? ⟨w.heap.size, 0, none⟩ = some (.int .i64 t) ∧ wx.cell? ⟨w.heap.size, 1, none⟩ = some (.int .i64 r) ∧ wx.cell? ⟨w.heap.size + 1, 0, none⟩ = some (.int .i64 t') ∧ wx.cell? ⟨w.heap.size + 1, 1, none⟩ = some (.int .i64 r')) (go_keep)
  (first
   | (go_at_call_of 125 (Value.int .i64 t); refine (cmp_any t t' _).mono ?_; rintro e w' ⟨rfl, rfl⟩)
   | (go_at_call_of 125 (Value.int .i64 r); refine (cmp_any r r' _).mono ?_; rintro e w' ⟨rfl, rfl⟩)
   | (go_at_call 124; refine (or_any (cmpI t t') (cmpI r r') _ _ (new_drew _ _ _ _ 0 _ (by simp) rfl) (new_drew _ _ _ _ 1 _ (by simp) rfl)).mono ?_; rintro e w' ⟨rfl, rfl⟩))
 go_wp2
 go_ret
 exact ⟨retI (idCmp_eq t r t' r'), below3 _ _ _ _⟩
theorem idCmp_lt (t r t' r' : Int) (h : t < t' ∨ (t = t' ∧ r < r')) : idCmp (t, r) (t', r') = -1 := by unfold idCmp; rw [if_pos h]
theorem idCmp_same (t r : Int) : idCmp (t, r) (t, r) = 0 := by unfold idCmp; rw [if_neg (by simp), if_pos rfl]
theorem idCmp_gt (t r t' r' : Int) (h : ¬ (t < t' ∨ (t = t' ∧ r < r'))) (hn : ¬ (t = t' ∧ r = r')) : idCmp (t, r) (t', r') = 1 := by
 unfold idCmp; rw [if_neg h, if_neg (by simpa using hn)]
theorem rcompare_any (t r t' r' : Int) (w : World) :
  Calls Tryz.prog 73 #[.agg #[.int .i64 t, .int .i64 r], .agg #[.int .i64 t', .int .i64 r']] w fun e w' => e = .returned (.int .i64 (idCmp (t, r) (t', r'))) ∧ Below w.heap.size w w' := by
 rcases Int.lt_trichotomy t t' with h | h | h
 ·have hr := Lib.hid (idCmp_lt t r t' r' (.inl h))
  go_enter Tryz.func73, Tryz.ntmps73
  go_wp2
  go_ret
  exact ⟨retI hr.out.symm, below2 _ _ _⟩
 ·subst h
  rcases Int.lt_trichotomy r r' with h | h | h
  ·have hr := Lib.hid (idCmp_lt t r t r' (.inr ⟨rfl, h⟩))
   go_enter Tryz.func73, Tryz.ntmps73
   go_wp2
   go_ret
   exact ⟨retI hr.out.symm, below2 _ _ _⟩
  ·subst h
   have hr := Lib.hid (idCmp_same t r)
   go_enter Tryz.func73, Tryz.ntmps73
   go_wp2
   go_ret
   exact ⟨retI hr.out.symm, below2 _ _ _⟩
  ·have hr := Lib.hid (idCmp_gt t r t r' (by omega) (by omega))
   have hne : (r == r') = false := beq_eq_false_iff_ne.2 (by omega)
   have hlt : decide (r < r') = false := decide_eq_false (by omega)
   go_enter Tryz.func73, Tryz.ntmps73
   go_wp2
   go_ret
   exact ⟨retI hr.out.symm, below2 _ _ _⟩
 ·have hr := Lib.hid (idCmp_gt t r t' r' (by omega) (by omega))
  have hne : (t == t') = false := beq_eq_false_iff_ne.2 (by omega)
  have hlt : decide (t < t') = false := decide_eq_false (by omega)
  go_enter Tryz.func73, Tryz.ntmps73
  go_wp2
  go_ret
  exact ⟨retI hr.out.symm, below2 _ _ _⟩
def idWithin (x : Id) (f h : List Ent) : Bool := decide (vof f x.2 < x.1) && decide (x.1 ≤ vof h x.2)
theorem within1 {x : Id} {f h : List Ent} (a : vof f x.2 < x.1) : idWithin x f h = decide (x.1 ≤ vof h x.2) := by unfold idWithin; rw [decide_eq_true a, Bool.true_and]
theorem within0 {x : Id} {f h : List Ent} (a : ¬ vof f x.2 < x.1) : idWithin x f h = false := by unfold idWithin; rw [decide_eq_false a, Bool.false_and]
theorem iwithin_any (t r : Int) (n n' c c' : Nat) (A A' : Option Addr) (l l' : List Ent) (w : World) (h : Ents w w.heap.size A n l) (h' : Ents w w.heap.size A' n' l') (hn : n ≤ maxLen) (hn' : n' ≤ maxLen) :
  Calls Tryz.prog 83 #[.agg #[.int .i64 t, .int .i64 r], .slice A n c, .slice A' n' c'] w fun e w' => e = .returned (.bool (idWithin (t, r) l l')) ∧ Below w.heap.size w w' := by
 by_cases g : vof l r < t
 ·have hr := Lib.hid (within1 (x := (t, r)) (h := l') g)
  have b0 : Below w.heap.size w (w.alloc (.cells #[.int .i64 t, .int .i64 r] 51)) := below1 _ _
  have c0 := Inv.cell (w := w.alloc (.cells #[.int .i64 t, .int .i64 r] 51)) (a := ⟨w.heap.size, 0, none⟩) (v := .int .i64 t) (by rw [World.cell?_alloc_new]; rfl)
  have c1 := Inv.cell (w := w.alloc (.cells #[.int .i64 t, .int .i64 r] 51)) (a := ⟨w.heap.size, 1, none⟩) (v := .int .i64 r) (by rw [World.cell?_alloc_new]; rfl)
  go_enter Tryz.func83, Tryz.ntmps83
  go_wp2_with fail
  refine wp_region_inv (by kernel_rfl) (by kernel_rfl) ?_
  repeat (go_big_quiet_step ((first
    | (go_at_call_of 122 (Value.slice A n c); exact Calls.inv_of (of_any _ n c A l r (h.inv b0 _) hn))
    | (go_at_call_of 122 (Value.slice A' n' c'); exact Calls.inv_of (of_any _ n' c' A' l' r (h'.inv b0 _) hn')))))
  refine wpQuiet_nil ?_
  intro _ hw'
  obtain ⟨x, rfl⟩ := hw'
  go_wp2
  go_ret
  exact ⟨retB hr.out.symm, b0.trans (x.below.mono b0.size)⟩
 ·have hr := Lib.hid (within0 (x := (t, r)) (h := l') g)
  have g' : decide (vof l r < t) = false := decide_eq_false g
  have b0 : Below w.heap.size w (w.alloc (.cells #[.int .i64 t, .int .i64 r] 51)) := below1 _ _
  have c0 := Inv.cell (w := w.alloc (.cells #[.int .i64 t, .int .i64 r] 51)) (a := ⟨w.heap.size, 0, none⟩) (v := .int .i64 t) (by rw [World.cell?_alloc_new]; rfl)
  have c1 := Inv.cell (w := w.alloc (.cells #[.int .i64 t, .int .i64 r] 51)) (a := ⟨w.heap.size, 1, none⟩) (v := .int .i64 r) (by rw [World.cell?_alloc_new]; rfl)
  go_enter Tryz.func83, Tryz.ntmps83
  go_wp2_with fail
  refine wp_region_inv (by kernel_rfl) (by kernel_rfl) ?_
  repeat (go_big_quiet_step ((first
    | (go_at_call_of 122 (Value.slice A n c); exact Calls.inv_of (of_any _ n c A l r (h.inv b0 _) hn))
    | (go_at_call_of 122 (Value.slice A' n' c'); exact Calls.inv_of (of_any _ n' c' A' l' r (h'.inv b0 _) hn')))))
  refine wpQuiet_nil ?_
  intro _ hw'
  obtain ⟨x, rfl⟩ := hw'
  go_wp2
  go_ret
  exact ⟨retB hr.out.symm, b0.trans (x.below.mono b0.size)⟩
theorem rwithin_any (t r : Int) (n n' c c' : Nat) (A A' : Option Addr) (l l' : List Ent) (w : World) (h : Ents w w.heap.size A n l) (h' : Ents w w.heap.size A' n' l') (hn : n ≤ maxLen) (hn' : n' ≤ maxLen) :
  Calls Tryz.prog 74 #[.agg #[.int .i64 t, .int .i64 r], .slice A n c, .slice A' n' c'] w fun e w' => e = .returned (.bool (idWithin (t, r) l l')) ∧ Below w.heap.size w w' := by
 by_cases g : vof l r < t
 ·have hr := Lib.hid (within1 (x := (t, r)) (h := l') g)
  have b0 : Below w.heap.size w (w.alloc (.cells #[.int .i64 t, .int .i64 r] 51)) := below1 _ _
  have c0 := Inv.cell (w := w.alloc (.cells #[.int .i64 t, .int .i64 r] 51)) (a := ⟨w.heap.size, 0, none⟩) (v := .int .i64 t) (by rw [World.cell?_alloc_new]; rfl)
  have c1 := Inv.cell (w := w.alloc (.cells #[.int .i64 t, .int .i64 r] 51)) (a := ⟨w.heap.size, 1, none⟩) (v := .int .i64 r) (by rw [World.cell?_alloc_new]; rfl)
  go_enter Tryz.func74, Tryz.ntmps74
  go_wp2_with fail
  refine wp_region_inv (by kernel_rfl) (by kernel_rfl) ?_
  repeat (go_big_quiet_step ((first
    | (go_at_call_of 117 (Value.slice A n c); exact Calls.inv_same (rof_any _ n c A l r (h.inv b0 _) hn))
    | (go_at_call_of 117 (Value.slice A' n' c'); exact Calls.inv_same (rof_any _ n' c' A' l' r (h'.inv b0 _) hn')))))
  refine wpQuiet_nil ?_
  intro _ hw'
  obtain ⟨x, rfl⟩ := hw'
  go_wp2
  go_ret
  exact ⟨retB hr.out.symm, b0.trans (x.below.mono b0.size)⟩
 ·have hr := Lib.hid (within0 (x := (t, r)) (h := l') g)
  have g' : decide (vof l r < t) = false := decide_eq_false g
  have b0 : Below w.heap.size w (w.alloc (.cells #[.int .i64 t, .int .i64 r] 51)) := below1 _ _
  have c0 := Inv.cell (w := w.alloc (.cells #[.int .i64 t, .int .i64 r] 51)) (a := ⟨w.heap.size, 0, none⟩) (v := .int .i64 t) (by rw [World.cell?_alloc_new]; rfl)
  have c1 := Inv.cell (w := w.alloc (.cells #[.int .i64 t, .int .i64 r] 51)) (a := ⟨w.heap.size, 1, none⟩) (v := .int .i64 r) (by rw [World.cell?_alloc_new]; rfl)
  go_enter Tryz.func74, Tryz.ntmps74
  go_wp2_with fail
  refine wp_region_inv (by kernel_rfl) (by kernel_rfl) ?_
  repeat (go_big_quiet_step ((first
    | (go_at_call_of 117 (Value.slice A n c); exact Calls.inv_same (rof_any _ n c A l r (h.inv b0 _) hn))
    | (go_at_call_of 117 (Value.slice A' n' c'); exact Calls.inv_same (rof_any _ n' c' A' l' r (h'.inv b0 _) hn')))))
  refine wpQuiet_nil ?_
  intro _ hw'
  obtain ⟨x, rfl⟩ := hw'
  go_wp2
  go_ret
  exact ⟨retB hr.out.symm, b0.trans (x.below.mono b0.size)⟩
end Go.Proofs.YtkejlnjnoiidnaaGreatDoor
end

section
namespace Go.Proofs.YtkejlnjnoiidnaaGreatDoor
/-- What is wrong with a write: time, replica, kind, key, value, number. -/
def wright (w : Wr) : Int :=
 if w.2.2.1 < 1 ∨ 4 < w.2.2.1 then 1
 else if idRight (w.1, w.2.1) = false then 2
 else if 40 < w.2.2.2.1.size ∨ 300 < w.2.2.2.2.1.size then 4
 else if (w.2.2.1 ≠ 1 ∧ w.2.2.1 ≠ 4 ∧ w.2.2.2.2.1.size ≠ 0) ∨ (w.2.2.1 ≠ 3 ∧ w.2.2.1 ≠ 4 ∧ w.2.2.2.2.2 ≠ 0) then 3
 else if w.2.2.1 = 3 ∧ (w.2.2.2.2.2 < -1125899906842624 ∨ 1125899906842624 < w.2.2.2.2.2) ∨ w.2.2.1 = 4 ∧ (w.2.2.2.2.2 < 0 ∨ 1000 < w.2.2.2.2.2) then 2 else 0
def zigN (n : Int) : Nat := (if n < 0 then 2 * -(n + 1) + 1 else 2 * n).toNat
def zagN (n : Nat) : Int := if n % 2 = 1 then -((n / 2 : Nat) : Int) - 1 else ((n / 2 : Nat) : Int)
/-- A write's tail, if it is right. -/
def wtailOf (w : Wr) : ByteArray :=
 if w.2.2.1 = 1 then strOf (vput w.2.2.2.2.1.size) ++ w.2.2.2.2.1
 else if w.2.2.1 = 3 then strOf (vput (zigN w.2.2.2.2.2))
 else if w.2.2.1 = 4 then strOf (vput w.2.2.2.2.2.toNat) ++ (strOf (vput w.2.2.2.2.1.size) ++ w.2.2.2.2.1)
 else strOf []
def wtail (w : Wr) : ByteArray × Int := if wright w ≠ 0 then (strOf [], wright w) else (wtailOf w, 0)
def noWr : Wr := (0, 0, 0, strOf [], strOf [], 0)
def wend (w : Wr) (k : Nat) : Wr × Nat × Int := if wright w ≠ 0 then (noWr, 0, wright w) else (w, k, 0)
/-- A write with what bytes begin with. -/
def wfill (w : Wr) (s : ByteArray) : Wr × Nat × Int :=
 if w.2.2.1 = 1 then
  if (unspan s).2.2 ≠ 0 then (noWr, 0, (unspan s).2.2) else wend (w.1, w.2.1, w.2.2.1, w.2.2.2.1, (unspan s).1, 0) (unspan s).2.1
 else if w.2.2.1 = 3 then
  if (vget s.data.toList).2.2 ≠ 0 then (noWr, 0, (vget s.data.toList).2.2) else wend (w.1, w.2.1, w.2.2.1, w.2.2.2.1, strOf [], zagN (vget s.data.toList).1) (vget s.data.toList).2.1
 else if w.2.2.1 = 4 then
  if (vint s.data.toList 1000).2.2 ≠ 0 then (noWr, 0, (vint s.data.toList 1000).2.2)
  else if (unspan (s.extract (vint s.data.toList 1000).2.1 s.size)).2.2 ≠ 0 then (noWr, 0, (unspan (s.extract (vint s.data.toList 1000).2.1 s.size)).2.2)
  else wend (w.1, w.2.1, w.2.2.1, w.2.2.2.1, (unspan (s.extract (vint s.data.toList 1000).2.1 s.size)).1, ((vint s.data.toList 1000).1 : Int)) ((vint s.data.toList 1000).2.1 + (unspan (s.extract (vint s.data.toList 1000).2.1 s.size)).2.1)
 else wend (w.1, w.2.1, w.2.2.1, w.2.2.2.1, strOf [], 0) 0
end Go.Proofs.YtkejlnjnoiidnaaGreatDoor
end

section
namespace Go.Proofs.YtkejlnjnoiidnaaGreatDoor
/-- Each entry fits, the replicas rise, from k on. -/
def Rises (k : Int) (l : List Ent) : Prop := (∀ x ∈ l, k ≤ x.1 ∧ x.1 ≤ 200 ∧ 1 ≤ x.2 ∧ x.2 ≤ 1099511627776) ∧ l.Pairwise (fun x y => x.1 < y.1)
theorem rises_of {l : List Ent} (h : (vright l).1 = 0) : Rises 0 l := by
 obtain ⟨h1, h2⟩ := vright_ok h
 refine ⟨fun x hx => ?_, h2⟩
 have := h1 x hx
 unfold entBad at this
 omega
theorem Rises.tail {k : Int} {x : Ent} {l : List Ent} (h : Rises k (x :: l)) : Rises (x.1 + 1) l := by
 obtain ⟨h1, h2⟩ := h
 rw [List.pairwise_cons] at h2
 refine ⟨fun y hy => ?_, h2.2⟩
 have := h1 y (List.mem_cons_of_mem _ hy)
 have := h2.1 y hy
 omega
theorem Rises.head {k : Int} {x : Ent} {l : List Ent} (h : Rises k (x :: l)) : k ≤ x.1 ∧ x.1 ≤ 200 ∧ 1 ≤ x.2 ∧ x.2 ≤ 1099511627776 := h.1 x (by simp)
theorem Rises.cons {k : Int} {x : Ent} {l : List Ent} (h : Rises (x.1 + 1) l) (h0 : k ≤ x.1) (h1 : x.1 ≤ 200) (h2 : 1 ≤ x.2) (h3 : x.2 ≤ 1099511627776) : Rises k (x :: l) := by
 obtain ⟨a, b⟩ := h
 refine ⟨fun y hy => ?_, List.pairwise_cons.2 ⟨fun y hy => ?_, b⟩⟩
 ·rcases List.mem_cons.1 hy with rfl | hy
  ·exact ⟨h0, h1, h2, h3⟩
  ·have := a y hy; omega
 ·have := a y hy; omega
theorem Rises.less {k k' : Int} {l : List Ent} (h : Rises k l) (hk : k' ≤ k) : Rises k' l := ⟨fun x hx => by have := h.1 x hx; omega, h.2⟩
def vcov (a b : List Ent) : Bool := decide (∀ x ∈ b, x.2 ≤ vof a x.1)
def vcovers (a b : List Ent) : Bool := decide ((vright a).1 = 0) && decide ((vright b).1 = 0) && vcov a b
end Go.Proofs.YtkejlnjnoiidnaaGreatDoor
end

section
namespace Go.Proofs.YtkejlnjnoiidnaaGreatDoor
abbrev wid (w : Wr) : Id := (w.1, w.2.1)
/-- What is wrong from write i on, the id ahead being last. -/
def bgo (f h : List Ent) : List Wr → Id → Nat → Int × Int
 | [], _, _ => (0, -1)
 | w :: l, last, i => if wright w ≠ 0 then (wright w, i) else if 0 < i ∧ 0 ≤ idCmp last (wid w) then (10, i) else if idWithin (wid w) f h = false then (6, i) else bgo f h l (wid w) (i + 1)
def bright (f h : List Ent) (l : List Wr) : Int × Int :=
 if (vright f).1 ≠ 0 then ((vright f).1, -1) else if (vright h).1 ≠ 0 then ((vright h).1, -1) else if vcovers h f = false then (13, -1) else if 60 < l.length then (4, -1) else bgo f h l (0, 0) 0
/-- The id ahead of write k. -/
def lastId (l : List Wr) (k : Nat) : Id := if k = 0 then (0, 0) else wid (l.getD (k - 1) noWr)
theorem lastId_succ {l : List Wr} {k : Nat} {w : Wr} (h : l[k]? = some w) : lastId l (k + 1) = wid w := by
 unfold lastId; rw [if_neg (by omega)]; simp [List.getD, h]
/-- As it stands ahead of write k. -/
def BAt (f h : List Ent) (l : List Wr) (k : Nat) : Prop := bgo f h l (0, 0) 0 = bgo f h (l.drop k) (lastId l k) k
section
variable {f h : List Ent} {l : List Wr} {k : Nat} {w : Wr}
theorem BAt.zero : BAt f h l 0 := rfl
theorem BAt.bad (b : BAt f h l k) (hx : l[k]? = some w) (h1 : wright w ≠ 0) : bgo f h l (0, 0) 0 = (wright w, (k : Int)) := by
 unfold BAt at b; rw [b, drop_at hx]; simp only [bgo]; rw [if_pos h1]
theorem BAt.order (b : BAt f h l k) (hx : l[k]? = some w) (h1 : wright w = 0) (h2 : 0 < k) (h3 : 0 ≤ idCmp (lastId l k) (wid w)) : bgo f h l (0, 0) 0 = (10, (k : Int)) := by
 unfold BAt at b; rw [b, drop_at hx]; simp only [bgo]; rw [if_neg (by omega), if_pos ⟨h2, h3⟩]
theorem BAt.state (b : BAt f h l k) (hx : l[k]? = some w) (h1 : wright w = 0) (h2 : ¬ (0 < k ∧ 0 ≤ idCmp (lastId l k) (wid w))) (h3 : idWithin (wid w) f h = false) : bgo f h l (0, 0) 0 = (6, (k : Int)) := by
 unfold BAt at b; rw [b, drop_at hx]; simp only [bgo]; rw [if_neg (by omega), if_neg h2, if_pos h3]
theorem BAt.succ (b : BAt f h l k) (hx : l[k]? = some w) (h1 : wright w = 0) (h2 : ¬ (0 < k ∧ 0 ≤ idCmp (lastId l k) (wid w))) (h3 : idWithin (wid w) f h = true) : BAt f h l (k + 1) := by
 unfold BAt at *; rw [b, drop_at hx, lastId_succ hx]; simp only [bgo]; rw [if_neg (by omega), if_neg h2, if_neg (by simp [h3])]
theorem BAt.all (b : BAt f h l k) (hk : l.length ≤ k) : bgo f h l (0, 0) 0 = (0, -1) := by
 unfold BAt at b; rw [b, List.drop_eq_nil_of_le hk]; rfl
end
/-- A right batch. -/
theorem bgo_ok (f h : List Ent) (l : List Wr) : ∀ (last : Id) (i : Nat), (bgo f h l last i).1 = 0 → bgo f h l last i = (0, -1) ∧ ∀ w ∈ l, wright w = 0 ∧ idWithin (wid w) f h = true := by
 induction l with
 | nil => intro _ _ _; simp [bgo]
 | cons w l ih =>
  intro last i
  simp only [bgo]
  split
  ·rename_i h1; intro h2; exact absurd h2 h1
  ·rename_i h1
   split
   ·intro h; simp at h
   ·split
    ·intro h; simp at h
    ·rename_i h3
     intro h4
     obtain ⟨e, a⟩ := ih _ _ h4
     refine ⟨e, fun x hx => ?_⟩
     rcases List.mem_cons.1 hx with rfl | hx
     ·exact ⟨by omega, by simpa using h3⟩
     ·exact a x hx
theorem bright_ok {f h : List Ent} {l : List Wr} (e : (bright f h l).1 = 0) : bright f h l = (0, -1) ∧ (vright f).1 = 0 ∧ (vright h).1 = 0 ∧ l.length ≤ 60 ∧ ∀ w ∈ l, wright w = 0 ∧ idWithin (wid w) f h = true := by
 unfold bright at *
 split at e
 ·rename_i h1; exact absurd e h1
 ·rename_i h1
  split at e
  ·rename_i h2; exact absurd e h2
  ·rename_i h2
   split at e
   ·simp at e
   ·split at e
    ·simp at e
    ·rename_i h3 h4
     obtain ⟨a, b⟩ := bgo_ok f h l _ _ e
     rw [if_neg h1, if_neg h2, if_neg h3, if_neg h4]
     exact ⟨a, by omega, by omega, by omega, b⟩
end Go.Proofs.YtkejlnjnoiidnaaGreatDoor
end

section
namespace Go.Proofs.YtkejlnjnoiidnaaGreatDoor
open Go.RowKit As
set_option maxHeartbeats 1000000 in
theorem rvright_any (w : World) (n c : Nat) (A : Option Addr) (l : List Ent) (hl : Ents w w.heap.size A n l) (hn : n ≤ maxLen) :
  Calls Tryz.prog 70 #[.slice A n c] w fun e w' => e = .returned (faultV (vright l)) ∧ Below w.heap.size w w' := by
 unfold maxLen at hn
 have hlen := hl.len
 by_cases hbig : 16 < n
 ·have hv := Lib.hid (vright_big (l := l) (by omega))
  have hd : decide (16 < n) = true := by simpa using hbig
  have hlen := Lib.hid hlen
  clear hl
  go_enter Tryz.func70, Tryz.ntmps70
  go_wp2_with fail
  refine (bareF_any _ _).mono ?_
  rintro e w' ⟨rfl, hb⟩
  have hz := hb.size
  obtain ⟨c0, c1, f0, f1⟩ := (Two.new w 0 0 29).below hb
  have S := set2 (.int .i64 4) (.int .i64 (-1)) c0 c1
  simp at hz
  go_wp2
  exact bodyPost_ret (v := .agg #[.int .i64 4, .int .i64 (-1)]) (by simp [results, Tryz.results70, go_sem, S.1, S.2]) rfl ⟨by rw [hv.out]; rfl, below_set2 _ _ ((below1 _ _).trans (hb.mono (by simp))) (Nat.le_refl _)⟩
 ·have hv := Lib.hid (vright_small (l := l) (by omega))
  have hd : decide (16 < n) = false := by simpa using hbig
  have hlen := Lib.hid hlen
  go_enter Tryz.func70, Tryz.ntmps70
  go_wp2
  go_loopw [3, 4, 5, 12] (fun last _ _ i wr => ∃ k : Nat, k ≤ n ∧ i = .int .i64 k ∧ last = .int .i64 (lastAt l k) ∧ VAt l k ∧ Two wr w.heap.size 0 0 ∧ Below w.heap.size w wr) (fun _ _ _ i _ => n - (intOf i).toNat)
  case atStart => exact ⟨0, by omega, rfl, rfl, VAt.zero l, Two.new _ _ _ _, below1 _ _⟩
  case round =>
   obtain ⟨k, hk, rfl, rfl, hat, hT, hbel⟩ := hrel
   have Hat := Lib.hid hat
   clear hat
   obtain ⟨c0, c1, f0, f1⟩ := hT
   have hs : w.heap.size < wr.heap.size := cell_lt c0
   by_cases hlt : k < n
   ·obtain ⟨b, o, r, t, rfl, hb, hx, hf, hc0, hc1⟩ := hl.at_ hlt
    have e0 := (hbel.cell (p := ⟨b, o + k * 2, none⟩) (by simp; omega)).trans hc0
    have e1 := (hbel.cell (p := ⟨b, o + k * 2 + 1, none⟩) (by simp; omega)).trans hc1
    clear hc0 hc1
    have hX := Lib.hid hx
    clear hx
    have hrt := Lib.hid hf
    clear hf
    obtain ⟨last, hla⟩ : ∃ last, last = lastAt l k := ⟨_, rfl⟩
    rw [← hla]
    have hla := Lib.hid hla
    by_cases hbad : entBad (r, t)
    ·have hres := Lib.hid (Hat.out.bad hX.out hbad)
     have hparts := bad_inB hbad
     clear hbad
     have S := set2_alloc (.int .i64 2) (.int .i64 (k : Int)) (.cells #[.int .i64 r, .int .i64 t] 79) hs c0 c1
     rcases hparts with B0' | ⟨B0', B1'⟩
     ·have B0 := Lib.hid B0'
      clear B0'
      go_wp2_with fail
      refine (within_is B0 _).mono ?_
      rintro e w' ⟨rfl, rfl⟩
      go_wp2
      exact bodyPost_ret (v := .agg #[.int .i64 2, .int .i64 (k : Int)]) (by simp [results, Tryz.results70, go_sem, S.1, S.2]) rfl ⟨by rw [hv.out, hres.out]; rfl, (below_set2 _ _ hbel (Nat.le_refl _)).alloc (by simp; omega) _⟩
     ·have B0 := Lib.hid B0'
      have B1 := Lib.hid B1'
      clear B0' B1'
      go_wp2_with fail
      refine (within_is B0 _).mono ?_
      rintro e w' ⟨rfl, rfl⟩
      go_wp2_with fail
      refine (within_is B1 _).mono ?_
      rintro e w' ⟨rfl, rfl⟩
      go_wp2
      exact bodyPost_ret (v := .agg #[.int .i64 2, .int .i64 (k : Int)]) (by simp [results, Tryz.results70, go_sem, S.1, S.2]) rfl ⟨by rw [hv.out, hres.out]; rfl, (below_set2 _ _ hbel (Nat.le_refl _)).alloc (by simp; omega) _⟩
    ·have hok : 0 ≤ r ∧ r ≤ 200 ∧ 1 ≤ t ∧ t ≤ 1099511627776 := by unfold entBad at hbad; simp only at hbad; omega
     obtain ⟨g0, g1, g2, g3⟩ := hok
     have B0 := Lib.hid (show inB r 0 200 = true by unfold inB; simp [g0, g1])
     have B1 := Lib.hid (show inB t 1 1099511627776 = true by unfold inB; simp [g2, g3])
     clear g0 g1 g2 g3
     have Hbad := Lib.hid hbad
     clear hbad
     by_cases ho : r ≤ last
     ·have hres := Lib.hid (Hat.out.order hX.out Hbad.out (by rw [← hla.out]; exact ho))
      have S := set2_alloc (.int .i64 10) (.int .i64 (k : Int)) (.cells #[.int .i64 r, .int .i64 t] 79) hs c0 c1
      go_wp2_with fail
      refine (within_is B0 _).mono ?_
      rintro e w' ⟨rfl, rfl⟩
      go_wp2_with fail
      refine (within_is B1 _).mono ?_
      rintro e w' ⟨rfl, rfl⟩
      go_wp2
      exact bodyPost_ret (v := .agg #[.int .i64 10, .int .i64 (k : Int)]) (by simp [results, Tryz.results70, go_sem, S.1, S.2]) rfl ⟨by rw [hv.out, hres.out]; rfl, (below_set2 _ _ hbel (Nat.le_refl _)).alloc (by simp; omega) _⟩
     ·have hnext := Lib.hid (Hat.out.succ hX.out Hbad.out (by rw [← hla.out]; exact ho))
      have hl2 := Lib.hid (lastAt_succ l k r t hX.out)
      go_wp2_with fail
      refine (within_is B0 _).mono ?_
      rintro e w' ⟨rfl, rfl⟩
      go_wp2_with fail
      refine (within_is B1 _).mono ?_
      rintro e w' ⟨rfl, rfl⟩
      go_wp2
      go_roundw
      case rel => exact ⟨k + 1, by omega, by go_num, by rw [hl2.out], hnext.out, (Two.mk c0 c1 f0 f1).below (below1 _ _), hbel.alloc (by omega) _⟩
      case measure => simp [intOf]; omega
   ·obtain rfl : k = n := by omega
    have hend := Lib.hid (Hat.out.all (by rw [hlen.out]; exact Nat.le_refl _))
    clear hlt
    go_wp2_with fail
    refine (good_any _).mono ?_
    rintro e w' ⟨rfl, hb⟩
    have hz := hb.size
    have f0 := (hb.frozen (p := ⟨w.heap.size, 0, none⟩) hs).trans f0
    have f1 := (hb.frozen (p := ⟨w.heap.size, 1, none⟩) hs).trans f1
    have c0 := (hb.cell (p := ⟨w.heap.size, 0, none⟩) hs).trans c0
    have c1 := (hb.cell (p := ⟨w.heap.size, 1, none⟩) hs).trans c1
    have S := set2 (.int .i64 0) (.int .i64 (-1)) c0 c1
    go_wp2
    exact bodyPost_ret (v := .agg #[.int .i64 0, .int .i64 (-1)]) (by simp [results, Tryz.results70, go_sem, S.1, S.2]) rfl ⟨by rw [hv.out, hend.out]; rfl, below_set2 _ _ (hbel.trans (hb.mono (by omega))) (Nat.le_refl _)⟩
end Go.Proofs.YtkejlnjnoiidnaaGreatDoor
end

section
namespace Go.Proofs.YtkejlnjnoiidnaaGreatDoor
open Go.RowKit As
/-- An error of mine is none, or one that isn't nil. -/
theorem err_nil {w : World} {v : Value} {f : Int × Int} (h : ErrOf w v f) (h0 : f.1 = 0) : v = .nilIface := by
 obtain ⟨e, p⟩ := f
 simp only at h0
 subst h0
 exact (ErrIs.zero h).1
theorem err_some {w : World} {v : Value} {f : Int × Int} (h : ErrOf w v f) (h0 : f.1 ≠ 0) : ∃ t u, v = .iface t u := by
 obtain ⟨e, p⟩ := f
 unfold ErrOf at h
 cases h with
 | none => exact absurd rfl h0
 | bare _ _ => exact ⟨_, _, rfl⟩
 | at_ _ _ _ _ _ _ _ => exact ⟨_, _, rfl⟩
theorem vcov_all {a b : List Ent} (h : ∀ (j : Nat) x, b[j]? = some x → x.2 ≤ vof a x.1) : vcov a b = true := by
 unfold vcov
 rw [decide_eq_true]
 intro x hx
 obtain ⟨j, hj, rfl⟩ := List.mem_iff_getElem.1 hx
 exact h j _ (List.getElem?_eq_getElem hj)
theorem vcov_no {a b : List Ent} {j : Nat} {x : Ent} (hx : b[j]? = some x) (h : ¬ x.2 ≤ vof a x.1) : vcov a b = false := by
 unfold vcov
 rw [decide_eq_false]
 intro h2
 exact h (h2 x (List.mem_of_getElem? hx))
set_option maxHeartbeats 2000000 in
theorem covers_any (w : World) (n c n' c' : Nat) (A A' : Option Addr) (l l' : List Ent) (hl : Ents w w.heap.size A n l) (hl' : Ents w w.heap.size A' n' l') (hn : n ≤ maxLen) (hn' : n' ≤ maxLen) :
  Calls Tryz.prog 80 #[.slice A n c, .slice A' n' c'] w fun e w' => e = .returned (.bool (vcovers l l')) ∧ Below w.heap.size w w' := by
 have hlen := Lib.hid hl'.len
 by_cases h1 : (vright l).1 = 0
 ·by_cases h2 : (vright l').1 = 0
  ·have hr := Lib.hid (show vcovers l l' = vcov l l' by unfold vcovers; rw [decide_eq_true h1, decide_eq_true h2]; rfl)
   go_enter Tryz.func80, Tryz.ntmps80
   go_wp2_with fail
   refine (vright_any w n c A l hl hn).mono ?_
   rintro e w1 ⟨v1, rfl, hv1, hb1⟩
   obtain rfl := err_nil hv1 h1
   have hl1 := hl.grow hb1
   have hl1' := hl'.grow hb1
   go_wp2_with fail
   refine (vright_any w1 n' c' A' l' hl1' hn').mono ?_
   rintro e w2 ⟨v2, rfl, hv2, hb2⟩
   obtain rfl := err_nil hv2 h2
   have hl2 := hl1.grow hb2
   have hl2' := hl1'.grow hb2
   have hb12 := hb1.trans (hb2.mono hb1.size)
   clear hv1 hv2 hl hl' hl1 hl1' h1 h2
   unfold maxLen at hn'
   go_wp2
   go_loopw [6, 17] (fun _ i wr => ∃ k : Nat, k ≤ n' ∧ i = .int .i64 k ∧ Hid (∀ (j : Nat) x, j < k → l'[j]? = some x → x.2 ≤ vof l x.1) ∧ Below w2.heap.size w2 wr) (fun _ i _ => n' - (intOf i).toNat)
   case atStart => exact ⟨0, by omega, rfl, Lib.hid (fun j x hj => by omega), Below.refl _ _⟩
   case round =>
    obtain ⟨k, hk, rfl, hall, hbel⟩ := hrel
    have hB := hbel.size
    by_cases hlt : k < n'
    ·obtain ⟨b, o, r, t, rfl, hb, hx, hf, hc0, hc1⟩ := hl2'.at_ hlt
     have c0 := (hbel.cell (p := ⟨b, o + k * 2, none⟩) (by simp; omega)).trans hc0
     have c1 := (hbel.cell (p := ⟨b, o + k * 2 + 1, none⟩) (by simp; omega)).trans hc1
     have hX := Lib.hid hx
     have hlw := hl2.grow hbel
     have b0 := below1 wr (.cells #[.int .i64 r, .int .i64 t] 79)
     clear hc0 hc1 hx hf
     have k0 := Inv.cell (w := wr.alloc (.cells #[.int .i64 r, .int .i64 t] 79)) (a := ⟨wr.heap.size, 0, none⟩) (v := .int .i64 r) (by rw [World.cell?_alloc_new]; rfl)
     have k1 := Inv.cell (w := wr.alloc (.cells #[.int .i64 r, .int .i64 t] 79)) (a := ⟨wr.heap.size, 1, none⟩) (v := .int .i64 t) (by rw [World.cell?_alloc_new]; rfl)
     by_cases hge : t ≤ vof l r
     ·have hd : decide (vof l r < t) = false := by simp only [decide_eq_false_iff_not]; omega
      have hnx := Lib.hid (show ∀ (j : Nat) x, j < k + 1 → l'[j]? = some x → x.2 ≤ vof l x.1 by
       intro j x hj hjx
       rcases Nat.lt_or_ge j k with h | h
       ·exact hall.out j x h hjx
       ·obtain rfl : j = k := by omega
        rw [hX.out] at hjx
        injection hjx with hjx
        subst hjx
        exact hge)
      have hG := Lib.hid hge
      clear hge
      go_wp2
      refine wp_region_inv (by kernel_rfl) (by kernel_rfl) ?_
      repeat (go_big_quiet_step ((first
       | (go_at_call 122; exact Calls.inv_of (of_any _ n c A l r (hlw.inv b0 _) hn)))))
      refine wpQuiet_nil ?_
      intro _ hw'
      obtain ⟨x, rfl⟩ := hw'
      have hbx := hbel.trans (((b0.trans (x.below.mono b0.size))).mono hB)
      go_wp2
      go_roundw
      case rel => exact ⟨k + 1, by omega, by go_num, hnx, hbx⟩
      case measure => simp [intOf]; omega
     ·have hd : decide (vof l r < t) = true := by simp only [decide_eq_true_eq]; omega
      have hno := Lib.hid (vcov_no hX.out hge)
      clear hge
      go_wp2
      refine wp_region_inv (by kernel_rfl) (by kernel_rfl) ?_
      repeat (go_big_quiet_step ((first
       | (go_at_call 122; exact Calls.inv_of (of_any _ n c A l r (hlw.inv b0 _) hn)))))
      refine wpQuiet_nil ?_
      intro _ hw'
      obtain ⟨x, rfl⟩ := hw'
      have hbx := hbel.trans (((b0.trans (x.below.mono b0.size))).mono hB)
      go_wp2
      go_ret
      exact ⟨retB (by rw [hr.out, hno.out]), hb12.trans (hbx.mono hb12.size)⟩
    ·obtain rfl : k = n' := by omega
     have hyes := Lib.hid (vcov_all (a := l) (b := l') fun j x hx => hall.out j x (by have := (List.getElem?_eq_some_iff.1 hx).1; rw [← hlen.out]; exact this) hx)
     go_wp2
     go_ret
     exact ⟨retB (by rw [hr.out, hyes.out]), hb12.trans (hbel.mono hb12.size)⟩
  ·have hr := Lib.hid (show vcovers l l' = false by unfold vcovers; rw [decide_eq_false h2]; simp)
   go_enter Tryz.func80, Tryz.ntmps80
   go_wp2_with fail
   refine (vright_any w n c A l hl hn).mono ?_
   rintro e w1 ⟨v1, rfl, hv1, hb1⟩
   obtain rfl := err_nil hv1 h1
   have hl1' := hl'.grow hb1
   go_wp2_with fail
   refine (vright_any w1 n' c' A' l' hl1' hn').mono ?_
   rintro e w2 ⟨v2, rfl, hv2, hb2⟩
   obtain ⟨t, u, rfl⟩ := err_some hv2 h2
   have hb12 := hb1.trans (hb2.mono hb1.size)
   clear hv1 hv2
   go_wp2
   go_ret
   exact ⟨retB (by rw [hr.out]), hb12⟩
 ·have hr := Lib.hid (show vcovers l l' = false by unfold vcovers; rw [decide_eq_false h1]; simp)
  go_enter Tryz.func80, Tryz.ntmps80
  go_wp2_with fail
  refine (vright_any w n c A l hl hn).mono ?_
  rintro e w1 ⟨v1, rfl, hv1, hb1⟩
  obtain ⟨t, u, rfl⟩ := err_some hv1 h1
  clear hv1
  go_wp2
  go_ret
  exact ⟨retB (by rw [hr.out]), hb1⟩
theorem vcov_succ {l l' : List Ent} {k : Nat} {r t : Int} (hx : l'[k]? = some (r, t)) : vcov l (l'.take (k + 1)) = (vcov l (l'.take k) && decide (t ≤ vof l r)) := by
 obtain ⟨h1, h2⟩ := List.getElem?_eq_some_iff.1 hx
 unfold vcov
 rw [List.take_succ_eq_append_getElem h1, h2, Bool.eq_iff_iff]
 simp only [decide_eq_true_eq, Bool.and_eq_true, List.mem_append, List.mem_singleton]
 constructor
 ·intro h
  exact ⟨fun x hx => h x (.inl hx), h (r, t) (.inr rfl)⟩
 ·rintro ⟨h3, h4⟩ x (hx | rfl)
  ·exact h3 x hx
  ·exact h4
set_option maxHeartbeats 2000000 in
theorem rcovers_any (w : World) (n c n' c' : Nat) (A A' : Option Addr) (l l' : List Ent) (hl : Ents w w.heap.size A n l) (hl' : Ents w w.heap.size A' n' l') (hn : n ≤ maxLen) (hn' : n' ≤ maxLen) :
  Calls Tryz.prog 71 #[.slice A n c, .slice A' n' c'] w fun e w' => e = .returned (.bool (vcovers l l')) ∧ Below w.heap.size w w' := by
 have hlen := Lib.hid hl'.len
 go_enter Tryz.func71, Tryz.ntmps71
 go_wp2_with fail
 refine (rvright_any w n c A l hl hn).mono ?_
 rintro e w1 ⟨rfl, hb1⟩
 have hl1' := hl'.grow hb1
 unfold faultV
 go_wp2_with fail
 refine (is_any (vright l) w1).mono ?_
 rintro e w2 ⟨rfl, hb2⟩
 have hb12 := hb1.trans (hb2.mono hb1.size)
 have hl2' := hl1'.grow hb2
 cases h1 : ((vright l).1 == 0) with
 | true =>
  go_wp2_with fail
  refine (rvright_any w2 n' c' A' l' hl2' hn').mono ?_
  rintro e w3 ⟨rfl, hb3⟩
  unfold faultV
  go_wp2_with fail
  refine (is_any (vright l') w3).mono ?_
  rintro e w4 ⟨rfl, hb4⟩
  have hb14 := (hb12.trans (hb3.mono hb12.size)).trans (hb4.mono (hb12.trans (hb3.mono hb12.size)).size)
  have hv : Hid (((vright l').1 == 0) = (decide ((vright l).1 = 0) && decide ((vright l').1 = 0))) := Lib.hid (by
   have : (vright l).1 = 0 := by simpa using h1
   rw [decide_eq_true this, Bool.true_and]; rfl)
  generalize hv0 : ((vright l').1 == 0) = v0 at *
  clear hv0 h1
  clear hl1' hl2'
  have hlW := hl.grow hb14
  have hlW' := hl'.grow hb14
  unfold maxLen at hn'
  go_wp2
  go_loopw [5, 7, 18] (fun v _ i wr => ∃ k : Nat, k ≤ n' ∧ i = .int .i64 k ∧ (∃ ok : Bool, v = .bool ok ∧ Hid (ok = (v0 && vcov l (l'.take k)))) ∧ Below w4.heap.size w4 wr) (fun _ _ i _ => n' - (intOf i).toNat)
  case atStart => exact ⟨0, by omega, rfl, ⟨_, rfl, Lib.hid (by simp [vcov])⟩, Below.refl _ _⟩
  case round =>
   obtain ⟨k, hk, rfl, ⟨ok, rfl, hok⟩, hbel⟩ := hrel
   have hB := hbel.size
   by_cases hlt : k < n'
   ·obtain ⟨b, o, r, t, rfl, hb', hx, hf, hc0, hc1⟩ := hlW'.at_ hlt
    have c0 := (hbel.cell (p := ⟨b, o + k * 2, none⟩) (by simp; omega)).trans hc0
    have c1 := (hbel.cell (p := ⟨b, o + k * 2 + 1, none⟩) (by simp; omega)).trans hc1
    have hsu := Lib.hid (vcov_succ (l := l) hx)
    have hlw := hlW.grow hbel
    have b0 := below1 wr (.cells #[.int .i64 r, .int .i64 t] 79)
    clear hc0 hc1 hx hf
    have k0 := Inv.cell (w := wr.alloc (.cells #[.int .i64 r, .int .i64 t] 79)) (a := ⟨wr.heap.size, 0, none⟩) (v := .int .i64 r) (by rw [World.cell?_alloc_new]; rfl)
    have k1 := Inv.cell (w := wr.alloc (.cells #[.int .i64 r, .int .i64 t] 79)) (a := ⟨wr.heap.size, 1, none⟩) (v := .int .i64 t) (by rw [World.cell?_alloc_new]; rfl)
    cases ok with
    | true =>
     go_wp2
     refine wp_region_inv (by kernel_rfl) (by kernel_rfl) ?_
     repeat (go_big_quiet_step ((first
      | (go_at_call 117; exact Calls.inv_same (rof_any _ n c A l r (hlw.inv b0 _) hn)))))
     refine wpQuiet_nil ?_
     intro _ hw'
     obtain ⟨x, rfl⟩ := hw'
     have hbx := hbel.trans (((b0.trans (x.below.mono b0.size))).mono hB)
     go_wp2
     go_roundw
     case rel => exact ⟨k + 1, by omega, by go_num, ⟨_, rfl, Lib.hid (by rw [hsu.out, ← Bool.and_assoc, ← hok.out, Bool.true_and])⟩, hbx⟩
     case measure => simp [intOf]; omega
    | false =>
     go_wp2
     refine wp_region_inv (by kernel_rfl) (by kernel_rfl) ?_
     repeat (go_big_quiet_step (fail))
     refine wpQuiet_nil ?_
     intro _ hw'
     obtain ⟨x, rfl⟩ := hw'
     have hbx := hbel.trans (((b0.trans (x.below.mono b0.size))).mono hB)
     go_wp2
     go_roundw
     case rel => exact ⟨k + 1, by omega, by go_num, ⟨_, rfl, Lib.hid (by rw [hsu.out, ← Bool.and_assoc, ← hok.out, Bool.false_and])⟩, hbx⟩
     case measure => simp [intOf]; omega
   ·obtain rfl : k = n' := by omega
    have hfin := Lib.hid (show ok = vcovers l l' by
     rw [hok.out, List.take_of_length_le (by rw [hlen.out]; exact Nat.le_refl _)]
     unfold vcovers
     rw [← hv.out])
    go_wp2
    go_ret
    exact ⟨retB hfin.out, hb14.trans (hbel.mono hb14.size)⟩
 | false =>
  have hv : Hid (false = (decide ((vright l).1 = 0) && decide ((vright l').1 = 0))) := Lib.hid (by
   have : ¬ (vright l).1 = 0 := by simpa using h1
   rw [decide_eq_false this, Bool.false_and])
  clear h1 hl1' hl2'
  have hlW := hl.grow hb12
  have hlW' := hl'.grow hb12
  unfold maxLen at hn'
  go_wp2
  go_loopw [5, 7, 18] (fun v _ i wr => ∃ k : Nat, k ≤ n' ∧ i = .int .i64 k ∧ (∃ ok : Bool, v = .bool ok ∧ Hid (ok = (false && vcov l (l'.take k)))) ∧ Below w2.heap.size w2 wr) (fun _ _ i _ => n' - (intOf i).toNat)
  case atStart => exact ⟨0, by omega, rfl, ⟨_, rfl, Lib.hid (by simp [vcov])⟩, Below.refl _ _⟩
  case round =>
   obtain ⟨k, hk, rfl, ⟨ok, rfl, hok⟩, hbel⟩ := hrel
   have hB := hbel.size
   by_cases hlt : k < n'
   ·obtain ⟨b, o, r, t, rfl, hb', hx, hf, hc0, hc1⟩ := hlW'.at_ hlt
    have c0 := (hbel.cell (p := ⟨b, o + k * 2, none⟩) (by simp; omega)).trans hc0
    have c1 := (hbel.cell (p := ⟨b, o + k * 2 + 1, none⟩) (by simp; omega)).trans hc1
    have hsu := Lib.hid (vcov_succ (l := l) hx)
    have hlw := hlW.grow hbel
    have b0 := below1 wr (.cells #[.int .i64 r, .int .i64 t] 79)
    clear hc0 hc1 hx hf
    have k0 := Inv.cell (w := wr.alloc (.cells #[.int .i64 r, .int .i64 t] 79)) (a := ⟨wr.heap.size, 0, none⟩) (v := .int .i64 r) (by rw [World.cell?_alloc_new]; rfl)
    have k1 := Inv.cell (w := wr.alloc (.cells #[.int .i64 r, .int .i64 t] 79)) (a := ⟨wr.heap.size, 1, none⟩) (v := .int .i64 t) (by rw [World.cell?_alloc_new]; rfl)
    cases ok with
    | true =>
     go_wp2
     refine wp_region_inv (by kernel_rfl) (by kernel_rfl) ?_
     repeat (go_big_quiet_step ((first
      | (go_at_call 117; exact Calls.inv_same (rof_any _ n c A l r (hlw.inv b0 _) hn)))))
     refine wpQuiet_nil ?_
     intro _ hw'
     obtain ⟨x, rfl⟩ := hw'
     have hbx := hbel.trans (((b0.trans (x.below.mono b0.size))).mono hB)
     go_wp2
     go_roundw
     case rel => exact ⟨k + 1, by omega, by go_num, ⟨_, rfl, Lib.hid (by rw [hsu.out, ← Bool.and_assoc, ← hok.out, Bool.true_and])⟩, hbx⟩
     case measure => simp [intOf]; omega
    | false =>
     go_wp2
     refine wp_region_inv (by kernel_rfl) (by kernel_rfl) ?_
     repeat (go_big_quiet_step (fail))
     refine wpQuiet_nil ?_
     intro _ hw'
     obtain ⟨x, rfl⟩ := hw'
     have hbx := hbel.trans (((b0.trans (x.below.mono b0.size))).mono hB)
     go_wp2
     go_roundw
     case rel => exact ⟨k + 1, by omega, by go_num, ⟨_, rfl, Lib.hid (by rw [hsu.out, ← Bool.and_assoc, ← hok.out, Bool.false_and])⟩, hbx⟩
     case measure => simp [intOf]; omega
   ·obtain rfl : k = n' := by omega
    have hfin := Lib.hid (show ok = vcovers l l' by
     rw [hok.out, List.take_of_length_le (by rw [hlen.out]; exact Nat.le_refl _)]
     unfold vcovers
     rw [← hv.out])
    go_wp2
    go_ret
    exact ⟨retB hfin.out, hb12.trans (hbel.mono hb12.size)⟩
end Go.Proofs.YtkejlnjnoiidnaaGreatDoor
end

section
namespace Go.Proofs.YtkejlnjnoiidnaaGreatDoor
theorem str_empty' (s : ByteArray) : s.toList.isEmpty = decide (s.size = 0) := by
 rw [ByteArray.toList_eq]
 by_cases h : s.size = 0
 ·rw [decide_eq_true h]
  have : s.data.toList = [] := by
   apply List.length_eq_zero_iff.1
   simpa using h
  rw [this]; rfl
 ·rw [decide_eq_false h]
  rw [List.isEmpty_eq_false_iff]
  intro e
  apply h
  have := congrArg List.length e
  simpa using this
end Go.Proofs.YtkejlnjnoiidnaaGreatDoor
end
