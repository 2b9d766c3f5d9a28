/- Which of two ids is earlier, whether one may be, and whether it is within two vectors: the functions of package ident and of the reference. -/
import Derived.Test.YtglemfdnfaemiaaDoorEnts
import Derived.Test.YtglemfdnfaemiaaDoorROf
import Derived.Test.YtglemfdnfaemiaaDoorQuiet
import Derived.Deep.QuietTactic
import Derived.BigQuiet
import Derived.Deep.RegionHeld3
import Derived.StillTailTactics
import Derived.KernelRfl
import Derived.Deep.RegionWith
namespace Go.Proofs.YtglemfdnfaemiaaDoor
open Go.RowKit

/-- An id: a time and a replica. -/
abbrev Id := Int × Int
def idV (x : Id) : Value := .agg #[.int .i64 x.1, .int .i64 x.2]
def idRight (x : Id) : Bool := decide (1 ≤ x.1 ∧ x.1 ≤ 1099511627776 ∧ 0 ≤ x.2 ∧ x.2 ≤ 200)
def idLess (a b : Id) : Bool := decide (a.1 < b.1 ∨ (a.1 = b.1 ∧ a.2 < b.2))
def idCmp (a b : Id) : Int := if a.1 < b.1 ∨ (a.1 = b.1 ∧ a.2 < b.2) then -1 else if a = b then 0 else 1
theorem below1 (w : World) (o : Obj) : Below w.heap.size w (w.alloc o) := (Below.refl _ _).alloc (Nat.le_refl _) o
theorem below2 (w : World) (o o' : Obj) : Below w.heap.size w ((w.alloc o).alloc o') := (below1 w o).alloc (by simp) o'
theorem idright_any (t r : Int) (w : World) :
    Calls Tryd.prog 114 #[.agg #[.int .i64 t, .int .i64 r]] w fun e w' => e = .returned (.bool (idRight (t, r))) ∧ Below w.heap.size w w' := by
  go_enter Tryd.func114, Tryd.ntmps114
  go_wp2
  all_goals
    go_ret
    refine ⟨retB ?_, below1 _ _⟩
    unfold idRight
    first | (rw [decide_eq_decide]; omega) | (symm; rw [decide_eq_false_iff_not]; omega)
theorem ridright_any (t r : Int) (w : World) :
    Calls Tryd.prog 136 #[.agg #[.int .i64 t, .int .i64 r]] w fun e w' => e = .returned (.bool (idRight (t, r))) ∧ Below w.heap.size w w' := by
  go_enter Tryd.func136, Tryd.ntmps136
  go_wp2
  all_goals
    go_ret
    refine ⟨retB ?_, below1 _ _⟩
    unfold idRight
    first | (rw [decide_eq_decide]; omega) | (symm; rw [decide_eq_false_iff_not]; omega)
def cmpI (a b : Int) : Int := if a < b then -1 else if b < a then 1 else 0
theorem cmp_any (a b : Int) (w : World) :
    Calls Tryd.prog 140 #[.int .i64 a, .int .i64 b] w fun e w' => e = .returned (.int .i64 (cmpI a b)) ∧ w' = w := by
  rcases Int.lt_trichotomy a b with h | h | h
  · go_enter Tryd.func140, Tryd.ntmps140
    go_wp2
    go_ret
    exact ⟨retI (by unfold cmpI; rw [if_pos h]), rfl⟩
  · subst h
    go_enter Tryd.func140, Tryd.ntmps140
    go_wp2
    go_ret
    exact ⟨retI (by unfold cmpI; rw [if_neg (by omega), if_neg (by omega)]), rfl⟩
  · go_enter Tryd.func140, Tryd.ntmps140
    go_wp2
    go_ret
    exact ⟨retI (by unfold cmpI; rw [if_neg (by omega), if_pos h]), rfl⟩
def orI (a b : Int) : Int := if a = 0 then b else a
theorem orI_0 (b : Int) : orI 0 b = b := rfl
theorem orI_n (a b : Int) (h : ¬ a = 0) : orI a b = a := by unfold orI; rw [if_neg h]
def OrRel (a b : Int) (i : Value) : Prop := i = .int .i64 0 ∨ (i = .int .i64 1 ∧ a = 0) ∨ (i = .int .i64 2 ∧ a = 0 ∧ b = 0)
theorem or_any (a b : Int) (g : Nat) (w : World) (h0 : w.cell? ⟨g, 0, none⟩ = some (.int .i64 a)) (h1 : w.cell? ⟨g, 1, none⟩ = some (.int .i64 b)) :
    Calls Tryd.prog 139 #[.slice (some ⟨g, 0, none⟩) 2 2] w fun e w' => e = .returned (.int .i64 (orI a b)) ∧ w' = w := by
  go_enter Tryd.func139, Tryd.ntmps139
  go_wp2
  go_loop [5, 8] (fun _ i => OrRel a b i) (fun _ i => 2 - (intOf i).toNat)
  case atStart => exact .inl rfl
  case round =>
    rcases hrel with rfl | ⟨rfl, rfl⟩ | ⟨rfl, rfl, rfl⟩
    · by_cases ha : a = 0
      · subst ha
        go_wp2
        go_round
        case rel => exact .inr (.inl ⟨rfl, rfl⟩)
        case measure => simp [intOf]
      · have hb : (a != 0) = true := by rw [bne_iff_ne]; exact ha
        have hr := Lib.hid (orI_n a b ha)
        go_wp2
        go_ret
        exact ⟨retI hr.out.symm, rfl⟩
    · by_cases hb : b = 0
      · subst hb
        go_wp2
        go_round
        case rel => exact .inr (.inr ⟨rfl, rfl, rfl⟩)
        case measure => simp [intOf]
      · have hb' : (b != 0) = true := by rw [bne_iff_ne]; exact hb
        go_wp2
        go_ret
        exact ⟨rfl, rfl⟩
    · go_wp2
      go_ret
      exact ⟨rfl, rfl⟩
theorem new_drew (w : World) (c : Array Value) (t : TypeId) (n i : Nat) (v : Value) (hn : n = w.heap.size) (hv : c[i]? = some v) : (w.alloc (.cells c t)).drew.cell? ⟨n, i, none⟩ = some v := by
  show (w.alloc (.cells c t)).cell? ⟨n, i, none⟩ = some v
  rw [World.cell?_alloc_at c t n i hn, hv]
theorem idCmp_eq (t r t' r' : Int) : orI (cmpI t t') (cmpI r r') = idCmp (t, r) (t', r') := by
  have he : ((t, r) = (t', r')) ↔ (t = t' ∧ r = r') := by simp
  unfold orI cmpI idCmp
  simp only [he]
  by_cases a : t < t' <;> by_cases b : t' < t <;> by_cases c : r < r' <;> by_cases d : r' < r <;> by_cases e : t = t' <;> by_cases f : r = r' <;> simp [a, b, c, d, e, f] <;> omega
theorem below3 (w : World) (o o' o'' : Obj) : Below w.heap.size w (((w.alloc o).alloc o').alloc o'').drew := by
  have h : w.heap.size ≤ ((w.alloc o).alloc o').heap.size := by simp; omega
  exact ((below2 w o o').alloc h o'').drew
theorem compare_any (t r t' r' : Int) (w : World) :
    Calls Tryd.prog 117 #[.agg #[.int .i64 t, .int .i64 r], .agg #[.int .i64 t', .int .i64 r']] w fun e w' => e = .returned (.int .i64 (idCmp (t, r) (t', r'))) ∧ Below w.heap.size w w' := by
  go_enter Tryd.func117, Tryd.ntmps117
  go_wp2_with fail
  go_region_held3 (fun wx => wx.cell? ⟨w.heap.size, 0, none⟩ = some (.int .i64 t) ∧ wx.cell? ⟨w.heap.size, 1, none⟩ = some (.int .i64 r) ∧ wx.cell? ⟨w.heap.size + 1, 0, none⟩ = some (.int .i64 t') ∧ wx.cell? ⟨w.heap.size + 1, 1, none⟩ = some (.int .i64 r')) (go_keep)
    (first
      | (go_at_call_of 140 (Value.int .i64 t); refine (cmp_any t t' _).mono ?_; rintro e w' ⟨rfl, rfl⟩)
      | (go_at_call_of 140 (Value.int .i64 r); refine (cmp_any r r' _).mono ?_; rintro e w' ⟨rfl, rfl⟩)
      | (go_at_call 139; refine (or_any (cmpI t t') (cmpI r r') _ _ (new_drew _ _ _ _ 0 _ (by simp) rfl) (new_drew _ _ _ _ 1 _ (by simp) rfl)).mono ?_; rintro e w' ⟨rfl, rfl⟩))
  go_wp2
  go_ret
  exact ⟨retI (idCmp_eq t r t' r'), below3 _ _ _ _⟩
theorem idCmp_lt (t r t' r' : Int) (h : t < t' ∨ (t = t' ∧ r < r')) : idCmp (t, r) (t', r') = -1 := by unfold idCmp; rw [if_pos h]
theorem idCmp_same (t r : Int) : idCmp (t, r) (t, r) = 0 := by unfold idCmp; rw [if_neg (by simp), if_pos rfl]
theorem idCmp_gt (t r t' r' : Int) (h : ¬ (t < t' ∨ (t = t' ∧ r < r'))) (hn : ¬ (t = t' ∧ r = r')) : idCmp (t, r) (t', r') = 1 := by
  unfold idCmp; rw [if_neg h, if_neg (by simpa using hn)]
theorem rcompare_any (t r t' r' : Int) (w : World) :
    Calls Tryd.prog 119 #[.agg #[.int .i64 t, .int .i64 r], .agg #[.int .i64 t', .int .i64 r']] w fun e w' => e = .returned (.int .i64 (idCmp (t, r) (t', r'))) ∧ Below w.heap.size w w' := by
  rcases Int.lt_trichotomy t t' with h | h | h
  · have hr := Lib.hid (idCmp_lt t r t' r' (.inl h))
    go_enter Tryd.func119, Tryd.ntmps119
    go_wp2
    go_ret
    exact ⟨retI hr.out.symm, below2 _ _ _⟩
  · subst h
    rcases Int.lt_trichotomy r r' with h | h | h
    · have hr := Lib.hid (idCmp_lt t r t r' (.inr ⟨rfl, h⟩))
      go_enter Tryd.func119, Tryd.ntmps119
      go_wp2
      go_ret
      exact ⟨retI hr.out.symm, below2 _ _ _⟩
    · subst h
      have hr := Lib.hid (idCmp_same t r)
      go_enter Tryd.func119, Tryd.ntmps119
      go_wp2
      go_ret
      exact ⟨retI hr.out.symm, below2 _ _ _⟩
    · have hr := Lib.hid (idCmp_gt t r t r' (by omega) (by omega))
      have hne : (r == r') = false := beq_eq_false_iff_ne.2 (by omega)
      have hlt : decide (r < r') = false := decide_eq_false (by omega)
      go_enter Tryd.func119, Tryd.ntmps119
      go_wp2
      go_ret
      exact ⟨retI hr.out.symm, below2 _ _ _⟩
  · have hr := Lib.hid (idCmp_gt t r t' r' (by omega) (by omega))
    have hne : (t == t') = false := beq_eq_false_iff_ne.2 (by omega)
    have hlt : decide (t < t') = false := decide_eq_false (by omega)
    go_enter Tryd.func119, Tryd.ntmps119
    go_wp2
    go_ret
    exact ⟨retI hr.out.symm, below2 _ _ _⟩
def idWithin (x : Id) (f h : List Ent) : Bool := decide (vof f x.2 < x.1) && decide (x.1 ≤ vof h x.2)
theorem within1 {x : Id} {f h : List Ent} (a : vof f x.2 < x.1) : idWithin x f h = decide (x.1 ≤ vof h x.2) := by unfold idWithin; rw [decide_eq_true a, Bool.true_and]
theorem within0 {x : Id} {f h : List Ent} (a : ¬ vof f x.2 < x.1) : idWithin x f h = false := by unfold idWithin; rw [decide_eq_false a, Bool.false_and]
theorem iwithin_any (t r : Int) (n n' c c' : Nat) (A A' : Option Addr) (l l' : List Ent) (w : World) (h : Ents w w.heap.size A n l) (h' : Ents w w.heap.size A' n' l') (hn : n ≤ maxLen) (hn' : n' ≤ maxLen) :
    Calls Tryd.prog 118 #[.agg #[.int .i64 t, .int .i64 r], .slice A n c, .slice A' n' c'] w fun e w' => e = .returned (.bool (idWithin (t, r) l l')) ∧ Below w.heap.size w w' := by
  by_cases g : vof l r < t
  · have hr := Lib.hid (within1 (x := (t, r)) (h := l') g)
    have b0 : Below w.heap.size w (w.alloc (.cells #[.int .i64 t, .int .i64 r] 114)) := below1 _ _
    have c0 := Inv.cell (w := w.alloc (.cells #[.int .i64 t, .int .i64 r] 114)) (a := ⟨w.heap.size, 0, none⟩) (v := .int .i64 t) (by rw [World.cell?_alloc_new]; rfl)
    have c1 := Inv.cell (w := w.alloc (.cells #[.int .i64 t, .int .i64 r] 114)) (a := ⟨w.heap.size, 1, none⟩) (v := .int .i64 r) (by rw [World.cell?_alloc_new]; rfl)
    go_enter Tryd.func118, Tryd.ntmps118
    go_wp2_with fail
    refine wp_region_inv (by kernel_rfl) (by kernel_rfl) ?_
    repeat (go_big_quiet_step ((first
        | (go_at_call_of 26 (Value.slice A n c); exact Calls.inv_of (of_any _ n c A l r (h.inv b0 _) hn))
        | (go_at_call_of 26 (Value.slice A' n' c'); exact Calls.inv_of (of_any _ n' c' A' l' r (h'.inv b0 _) hn')))))
    refine wpQuiet_nil ?_
    intro _ hw'
    obtain ⟨x, rfl⟩ := hw'
    go_wp2
    go_ret
    exact ⟨retB hr.out.symm, b0.trans (x.below.mono b0.size)⟩
  · have hr := Lib.hid (within0 (x := (t, r)) (h := l') g)
    have g' : decide (vof l r < t) = false := decide_eq_false g
    have b0 : Below w.heap.size w (w.alloc (.cells #[.int .i64 t, .int .i64 r] 114)) := below1 _ _
    have c0 := Inv.cell (w := w.alloc (.cells #[.int .i64 t, .int .i64 r] 114)) (a := ⟨w.heap.size, 0, none⟩) (v := .int .i64 t) (by rw [World.cell?_alloc_new]; rfl)
    have c1 := Inv.cell (w := w.alloc (.cells #[.int .i64 t, .int .i64 r] 114)) (a := ⟨w.heap.size, 1, none⟩) (v := .int .i64 r) (by rw [World.cell?_alloc_new]; rfl)
    go_enter Tryd.func118, Tryd.ntmps118
    go_wp2_with fail
    refine wp_region_inv (by kernel_rfl) (by kernel_rfl) ?_
    repeat (go_big_quiet_step ((first
        | (go_at_call_of 26 (Value.slice A n c); exact Calls.inv_of (of_any _ n c A l r (h.inv b0 _) hn))
        | (go_at_call_of 26 (Value.slice A' n' c'); exact Calls.inv_of (of_any _ n' c' A' l' r (h'.inv b0 _) hn')))))
    refine wpQuiet_nil ?_
    intro _ hw'
    obtain ⟨x, rfl⟩ := hw'
    go_wp2
    go_ret
    exact ⟨retB hr.out.symm, b0.trans (x.below.mono b0.size)⟩
theorem rwithin_any (t r : Int) (n n' c c' : Nat) (A A' : Option Addr) (l l' : List Ent) (w : World) (h : Ents w w.heap.size A n l) (h' : Ents w w.heap.size A' n' l') (hn : n ≤ maxLen) (hn' : n' ≤ maxLen) :
    Calls Tryd.prog 120 #[.agg #[.int .i64 t, .int .i64 r], .slice A n c, .slice A' n' c'] w fun e w' => e = .returned (.bool (idWithin (t, r) l l')) ∧ Below w.heap.size w w' := by
  by_cases g : vof l r < t
  · have hr := Lib.hid (within1 (x := (t, r)) (h := l') g)
    have b0 : Below w.heap.size w (w.alloc (.cells #[.int .i64 t, .int .i64 r] 114)) := below1 _ _
    have c0 := Inv.cell (w := w.alloc (.cells #[.int .i64 t, .int .i64 r] 114)) (a := ⟨w.heap.size, 0, none⟩) (v := .int .i64 t) (by rw [World.cell?_alloc_new]; rfl)
    have c1 := Inv.cell (w := w.alloc (.cells #[.int .i64 t, .int .i64 r] 114)) (a := ⟨w.heap.size, 1, none⟩) (v := .int .i64 r) (by rw [World.cell?_alloc_new]; rfl)
    go_enter Tryd.func120, Tryd.ntmps120
    go_wp2_with fail
    refine wp_region_inv (by kernel_rfl) (by kernel_rfl) ?_
    repeat (go_big_quiet_step ((first
        | (go_at_call_of 27 (Value.slice A n c); exact Calls.inv_same (rof_any _ n c A l r (h.inv b0 _) hn))
        | (go_at_call_of 27 (Value.slice A' n' c'); exact Calls.inv_same (rof_any _ n' c' A' l' r (h'.inv b0 _) hn')))))
    refine wpQuiet_nil ?_
    intro _ hw'
    obtain ⟨x, rfl⟩ := hw'
    go_wp2
    go_ret
    exact ⟨retB hr.out.symm, b0.trans (x.below.mono b0.size)⟩
  · have hr := Lib.hid (within0 (x := (t, r)) (h := l') g)
    have g' : decide (vof l r < t) = false := decide_eq_false g
    have b0 : Below w.heap.size w (w.alloc (.cells #[.int .i64 t, .int .i64 r] 114)) := below1 _ _
    have c0 := Inv.cell (w := w.alloc (.cells #[.int .i64 t, .int .i64 r] 114)) (a := ⟨w.heap.size, 0, none⟩) (v := .int .i64 t) (by rw [World.cell?_alloc_new]; rfl)
    have c1 := Inv.cell (w := w.alloc (.cells #[.int .i64 t, .int .i64 r] 114)) (a := ⟨w.heap.size, 1, none⟩) (v := .int .i64 r) (by rw [World.cell?_alloc_new]; rfl)
    go_enter Tryd.func120, Tryd.ntmps120
    go_wp2_with fail
    refine wp_region_inv (by kernel_rfl) (by kernel_rfl) ?_
    repeat (go_big_quiet_step ((first
        | (go_at_call_of 27 (Value.slice A n c); exact Calls.inv_same (rof_any _ n c A l r (h.inv b0 _) hn))
        | (go_at_call_of 27 (Value.slice A' n' c'); exact Calls.inv_same (rof_any _ n' c' A' l' r (h'.inv b0 _) hn')))))
    refine wpQuiet_nil ?_
    intro _ hw'
    obtain ⟨x, rfl⟩ := hw'
    go_wp2
    go_ret
    exact ⟨retB hr.out.symm, b0.trans (x.below.mono b0.size)⟩
end Go.Proofs.YtglemfdnfaemiaaDoor
