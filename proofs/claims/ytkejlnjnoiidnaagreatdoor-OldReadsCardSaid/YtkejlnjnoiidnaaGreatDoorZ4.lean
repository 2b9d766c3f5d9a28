/- vector.Covers and Covers of the reference say what vcovers says.

Whether a text is empty. Any program.

write.Right says what wright says. Printed by gen_write.py.

Batches in memory. Any program. -/
import Derived.Test.YtkejlnjnoiidnaaGreatDoorZ3
import Derived.Test.YtkejlnjnoiidnaaGreatDoorZ2
import Derived.Test.YtkejlnjnoiidnaaGreatDoorZ1
import Derived.Deep.QuietTactic
import Derived.BigQuiet
section
namespace Go.Proofs.YtkejlnjnoiidnaaGreatDoor
open Go.RowKit As
/-- An error of mine is none, or one that isn't nil. -/
theorem err_nil {w : World} {v : Value} {f : Int × Int} (h : ErrOf w v f) (h0 : f.1 = 0) : v = .nilIface := by
 obtain ⟨e, p⟩ := f
 simp only at h0
 subst h0
 exact (ErrIs.zero h).1
theorem err_some {w : World} {v : Value} {f : Int × Int} (h : ErrOf w v f) (h0 : f.1 ≠ 0) : ∃ t u, v = .iface t u := by
 obtain ⟨e, p⟩ := f
 unfold ErrOf at h
 cases h with
 | none => exact absurd rfl h0
 | bare _ _ => exact ⟨_, _, rfl⟩
 | at_ _ _ _ _ _ _ _ => exact ⟨_, _, rfl⟩
theorem vcov_all {a b : List Ent} (h : ∀ (j : Nat) x, b[j]? = some x → x.2 ≤ vof a x.1) : vcov a b = true := by
 unfold vcov
 rw [decide_eq_true]
 intro x hx
 obtain ⟨j, hj, rfl⟩ := List.mem_iff_getElem.1 hx
 exact h j _ (List.getElem?_eq_getElem hj)
theorem vcov_no {a b : List Ent} {j : Nat} {x : Ent} (hx : b[j]? = some x) (h : ¬ x.2 ≤ vof a x.1) : vcov a b = false := by
 unfold vcov
 rw [decide_eq_false]
 intro h2
 exact h (h2 x (List.mem_of_getElem? hx))
set_option maxHeartbeats 2000000 in
theorem covers_any (w : World) (n c n' c' : Nat) (A A' : Option Addr) (l l' : List Ent) (hl : Ents w w.heap.size A n l) (hl' : Ents w w.heap.size A' n' l') (hn : n ≤ maxLen) (hn' : n' ≤ maxLen) :
  Calls Tryz.prog 80 #[.slice A n c, .slice A' n' c'] w fun e w' => e = .returned (.bool (vcovers l l')) ∧ Below w.heap.size w w' := by
 have hlen := Lib.hid hl'.len
 by_cases h1 : (vright l).1 = 0
 ·by_cases h2 : (vright l').1 = 0
  ·have hr := Lib.hid (show vcovers l l' = vcov l l' by unfold vcovers; rw [decide_eq_true h1, decide_eq_true h2]; rfl)
   go_enter Tryz.func80, Tryz.ntmps80
   go_wp2_with fail
   refine (vright_any w n c A l hl hn).mono ?_
   rintro e w1 ⟨v1, rfl, hv1, hb1⟩
   obtain rfl := err_nil hv1 h1
   have hl1 := hl.grow hb1
   have hl1' := hl'.grow hb1
   go_wp2_with fail
   refine (vright_any w1 n' c' A' l' hl1' hn').mono ?_
   rintro e w2 ⟨v2, rfl, hv2, hb2⟩
   obtain rfl := err_nil hv2 h2
   have hl2 := hl1.grow hb2
   have hl2' := hl1'.grow hb2
   have hb12 := hb1.trans (hb2.mono hb1.size)
   clear hv1 hv2 hl hl' hl1 hl1' h1 h2
   unfold maxLen at hn'
   go_wp2
   go_loopw [6, 17] (fun _ i wr => ∃ k : Nat, k ≤ n' ∧ i = .int .i64 k ∧ Hid (∀ (j : Nat) x, j < k → l'[j]? = some x → x.2 ≤ vof l x.1) ∧ Below w2.heap.size w2 wr) (fun _ i _ => n' - (intOf i).toNat)
   case atStart => exact ⟨0, by omega, rfl, Lib.hid (fun j x hj => by omega), Below.refl _ _⟩
   case round =>
    obtain ⟨k, hk, rfl, hall, hbel⟩ := hrel
    have hB := hbel.size
    by_cases hlt : k < n'
    ·obtain ⟨b, o, r, t, rfl, hb, hx, hf, hc0, hc1⟩ := hl2'.at_ hlt
     have c0 := (hbel.cell (p := ⟨b, o + k * 2, none⟩) (by simp; omega)).trans hc0
     have c1 := (hbel.cell (p := ⟨b, o + k * 2 + 1, none⟩) (by simp; omega)).trans hc1
     have hX := Lib.hid hx
     have hlw := hl2.grow hbel
     have b0 := below1 wr (.cells #[.int .i64 r, .int .i64 t] 79)
     clear hc0 hc1 hx hf
     have k0 := Inv.cell (w := wr.alloc (.cells #[.int .i64 r, .int .i64 t] 79)) (a := ⟨wr.heap.size, 0, none⟩) (v := .int .i64 r) (by rw [World.cell?_alloc_new]; rfl)
     have k1 := Inv.cell (w := wr.alloc (.cells #[.int .i64 r, .int .i64 t] 79)) (a := ⟨wr.heap.size, 1, none⟩) (v := .int .i64 t) (by rw [World.cell?_alloc_new]; rfl)
     by_cases hge : t ≤ vof l r
     ·have hd : decide (vof l r < t) = false := by simp only [decide_eq_false_iff_not]; omega
      have hnx := Lib.hid (show ∀ (j : Nat) x, j < k + 1 → l'[j]? = some x → x.2 ≤ vof l x.1 by
       intro j x hj hjx
       rcases Nat.lt_or_ge j k with h | h
       ·exact hall.out j x h hjx
       ·obtain rfl : j = k := by omega
        rw [hX.out] at hjx
        injection hjx with hjx
        subst hjx
        exact hge)
      have hG := Lib.hid hge
      clear hge
      go_wp2
      refine wp_region_inv (by kernel_rfl) (by kernel_rfl) ?_
      repeat (go_big_quiet_step ((first
       | (go_at_call 122; exact Calls.inv_of (of_any _ n c A l r (hlw.inv b0 _) hn)))))
      refine wpQuiet_nil ?_
      intro _ hw'
      obtain ⟨x, rfl⟩ := hw'
      have hbx := hbel.trans (((b0.trans (x.below.mono b0.size))).mono hB)
      go_wp2
      go_roundw
      case rel => exact ⟨k + 1, by omega, by go_num, hnx, hbx⟩
      case measure => simp [intOf]; omega
     ·have hd : decide (vof l r < t) = true := by simp only [decide_eq_true_eq]; omega
      have hno := Lib.hid (vcov_no hX.out hge)
      clear hge
      go_wp2
      refine wp_region_inv (by kernel_rfl) (by kernel_rfl) ?_
      repeat (go_big_quiet_step ((first
       | (go_at_call 122; exact Calls.inv_of (of_any _ n c A l r (hlw.inv b0 _) hn)))))
      refine wpQuiet_nil ?_
      intro _ hw'
      obtain ⟨x, rfl⟩ := hw'
      have hbx := hbel.trans (((b0.trans (x.below.mono b0.size))).mono hB)
      go_wp2
      go_ret
      exact ⟨retB (by rw [hr.out, hno.out]), hb12.trans (hbx.mono hb12.size)⟩
    ·obtain rfl : k = n' := by omega
     have hyes := Lib.hid (vcov_all (a := l) (b := l') fun j x hx => hall.out j x (by have := (List.getElem?_eq_some_iff.1 hx).1; rw [← hlen.out]; exact this) hx)
     go_wp2
     go_ret
     exact ⟨retB (by rw [hr.out, hyes.out]), hb12.trans (hbel.mono hb12.size)⟩
  ·have hr := Lib.hid (show vcovers l l' = false by unfold vcovers; rw [decide_eq_false h2]; simp)
   go_enter Tryz.func80, Tryz.ntmps80
   go_wp2_with fail
   refine (vright_any w n c A l hl hn).mono ?_
   rintro e w1 ⟨v1, rfl, hv1, hb1⟩
   obtain rfl := err_nil hv1 h1
   have hl1' := hl'.grow hb1
   go_wp2_with fail
   refine (vright_any w1 n' c' A' l' hl1' hn').mono ?_
   rintro e w2 ⟨v2, rfl, hv2, hb2⟩
   obtain ⟨t, u, rfl⟩ := err_some hv2 h2
   have hb12 := hb1.trans (hb2.mono hb1.size)
   clear hv1 hv2
   go_wp2
   go_ret
   exact ⟨retB (by rw [hr.out]), hb12⟩
 ·have hr := Lib.hid (show vcovers l l' = false by unfold vcovers; rw [decide_eq_false h1]; simp)
  go_enter Tryz.func80, Tryz.ntmps80
  go_wp2_with fail
  refine (vright_any w n c A l hl hn).mono ?_
  rintro e w1 ⟨v1, rfl, hv1, hb1⟩
  obtain ⟨t, u, rfl⟩ := err_some hv1 h1
  clear hv1
  go_wp2
  go_ret
  exact ⟨retB (by rw [hr.out]), hb1⟩
theorem vcov_succ {l l' : List Ent} {k : Nat} {r t : Int} (hx : l'[k]? = some (r, t)) : vcov l (l'.take (k + 1)) = (vcov l (l'.take k) && decide (t ≤ vof l r)) := by
 obtain ⟨h1, h2⟩ := List.getElem?_eq_some_iff.1 hx
 unfold vcov
 rw [List.take_succ_eq_append_getElem h1, h2, Bool.eq_iff_iff]
 simp only [decide_eq_true_eq, Bool.and_eq_true, List.mem_append, List.mem_singleton]
 constructor
 ·intro h
  exact ⟨fun x hx => h x (.inl hx), h (r, t) (.inr rfl)⟩
 ·rintro ⟨h3, h4⟩ x (hx | rfl)
  ·exact h3 x hx
  ·exact h4
set_option maxHeartbeats 2000000 in
theorem rcovers_any (w : World) (n c n' c' : Nat) (A A' : Option Addr) (l l' : List Ent) (hl : Ents w w.heap.size A n l) (hl' : Ents w w.heap.size A' n' l') (hn : n ≤ maxLen) (hn' : n' ≤ maxLen) :
  Calls Tryz.prog 71 #[.slice A n c, .slice A' n' c'] w fun e w' => e = .returned (.bool (vcovers l l')) ∧ Below w.heap.size w w' := by
 have hlen := Lib.hid hl'.len
 go_enter Tryz.func71, Tryz.ntmps71
 go_wp2_with fail
 refine (rvright_any w n c A l hl hn).mono ?_
 rintro e w1 ⟨rfl, hb1⟩
 have hl1' := hl'.grow hb1
 unfold faultV
 go_wp2_with fail
 refine (is_any (vright l) w1).mono ?_
 rintro e w2 ⟨rfl, hb2⟩
 have hb12 := hb1.trans (hb2.mono hb1.size)
 have hl2' := hl1'.grow hb2
 cases h1 : ((vright l).1 == 0) with
 | true =>
  go_wp2_with fail
  refine (rvright_any w2 n' c' A' l' hl2' hn').mono ?_
  rintro e w3 ⟨rfl, hb3⟩
  unfold faultV
  go_wp2_with fail
  refine (is_any (vright l') w3).mono ?_
  rintro e w4 ⟨rfl, hb4⟩
  have hb14 := (hb12.trans (hb3.mono hb12.size)).trans (hb4.mono (hb12.trans (hb3.mono hb12.size)).size)
  have hv : Hid (((vright l').1 == 0) = (decide ((vright l).1 = 0) && decide ((vright l').1 = 0))) := Lib.hid (by
   have : (vright l).1 = 0 := by simpa using h1
   rw [decide_eq_true this, Bool.true_and]; rfl)
  generalize hv0 : ((vright l').1 == 0) = v0 at *
  clear hv0 h1
  clear hl1' hl2'
  have hlW := hl.grow hb14
  have hlW' := hl'.grow hb14
  unfold maxLen at hn'
  go_wp2
  go_loopw [5, 7, 18] (fun v _ i wr => ∃ k : Nat, k ≤ n' ∧ i = .int .i64 k ∧ (∃ ok : Bool, v = .bool ok ∧ Hid (ok = (v0 && vcov l (l'.take k)))) ∧ Below w4.heap.size w4 wr) (fun _ _ i _ => n' - (intOf i).toNat)
  case atStart => exact ⟨0, by omega, rfl, ⟨_, rfl, Lib.hid (by simp [vcov])⟩, Below.refl _ _⟩
  case round =>
   obtain ⟨k, hk, rfl, ⟨ok, rfl, hok⟩, hbel⟩ := hrel
   have hB := hbel.size
   by_cases hlt : k < n'
   ·obtain ⟨b, o, r, t, rfl, hb', hx, hf, hc0, hc1⟩ := hlW'.at_ hlt
    have c0 := (hbel.cell (p := ⟨b, o + k * 2, none⟩) (by simp; omega)).trans hc0
    have c1 := (hbel.cell (p := ⟨b, o + k * 2 + 1, none⟩) (by simp; omega)).trans hc1
    have hsu := Lib.hid (vcov_succ (l := l) hx)
    have hlw := hlW.grow hbel
    have b0 := below1 wr (.cells #[.int .i64 r, .int .i64 t] 79)
    clear hc0 hc1 hx hf
    have k0 := Inv.cell (w := wr.alloc (.cells #[.int .i64 r, .int .i64 t] 79)) (a := ⟨wr.heap.size, 0, none⟩) (v := .int .i64 r) (by rw [World.cell?_alloc_new]; rfl)
    have k1 := Inv.cell (w := wr.alloc (.cells #[.int .i64 r, .int .i64 t] 79)) (a := ⟨wr.heap.size, 1, none⟩) (v := .int .i64 t) (by rw [World.cell?_alloc_new]; rfl)
    cases ok with
    | true =>
     go_wp2
     refine wp_region_inv (by kernel_rfl) (by kernel_rfl) ?_
     repeat (go_big_quiet_step ((first
      | (go_at_call 117; exact Calls.inv_same (rof_any _ n c A l r (hlw.inv b0 _) hn)))))
     refine wpQuiet_nil ?_
     intro _ hw'
     obtain ⟨x, rfl⟩ := hw'
     have hbx := hbel.trans (((b0.trans (x.below.mono b0.size))).mono hB)
     go_wp2
     go_roundw
     case rel => exact ⟨k + 1, by omega, by go_num, ⟨_, rfl, Lib.hid (by rw [hsu.out, ← Bool.and_assoc, ← hok.out, Bool.true_and])⟩, hbx⟩
     case measure => simp [intOf]; omega
    | false =>
     go_wp2
     refine wp_region_inv (by kernel_rfl) (by kernel_rfl) ?_
     repeat (go_big_quiet_step (fail))
     refine wpQuiet_nil ?_
     intro _ hw'
     obtain ⟨x, rfl⟩ := hw'
     have hbx := hbel.trans (((b0.trans (x.below.mono b0.size))).mono hB)
     go_wp2
     go_roundw
     case rel => exact ⟨k + 1, by omega, by go_num, ⟨_, rfl, Lib.hid (by rw [hsu.out, ← Bool.and_assoc, ← hok.out, Bool.false_and])⟩, hbx⟩
     case measure => simp [intOf]; omega
   ·obtain rfl : k = n' := by omega
    have hfin := Lib.hid (show ok = vcovers l l' by
     rw [hok.out, List.take_of_length_le (by rw [hlen.out]; exact Nat.le_refl _)]
     unfold vcovers
     rw [← hv.out])
    go_wp2
    go_ret
    exact ⟨retB hfin.out, hb14.trans (hbel.mono hb14.size)⟩
 | false =>
  have hv : Hid (false = (decide ((vright l).1 = 0) && decide ((vright l').1 = 0))) := Lib.hid (by
   have : ¬ (vright l).1 = 0 := by simpa using h1
   rw [decide_eq_false this, Bool.false_and])
  clear h1 hl1' hl2'
  have hlW := hl.grow hb12
  have hlW' := hl'.grow hb12
  unfold maxLen at hn'
  go_wp2
  go_loopw [5, 7, 18] (fun v _ i wr => ∃ k : Nat, k ≤ n' ∧ i = .int .i64 k ∧ (∃ ok : Bool, v = .bool ok ∧ Hid (ok = (false && vcov l (l'.take k)))) ∧ Below w2.heap.size w2 wr) (fun _ _ i _ => n' - (intOf i).toNat)
  case atStart => exact ⟨0, by omega, rfl, ⟨_, rfl, Lib.hid (by simp [vcov])⟩, Below.refl _ _⟩
  case round =>
   obtain ⟨k, hk, rfl, ⟨ok, rfl, hok⟩, hbel⟩ := hrel
   have hB := hbel.size
   by_cases hlt : k < n'
   ·obtain ⟨b, o, r, t, rfl, hb', hx, hf, hc0, hc1⟩ := hlW'.at_ hlt
    have c0 := (hbel.cell (p := ⟨b, o + k * 2, none⟩) (by simp; omega)).trans hc0
    have c1 := (hbel.cell (p := ⟨b, o + k * 2 + 1, none⟩) (by simp; omega)).trans hc1
    have hsu := Lib.hid (vcov_succ (l := l) hx)
    have hlw := hlW.grow hbel
    have b0 := below1 wr (.cells #[.int .i64 r, .int .i64 t] 79)
    clear hc0 hc1 hx hf
    have k0 := Inv.cell (w := wr.alloc (.cells #[.int .i64 r, .int .i64 t] 79)) (a := ⟨wr.heap.size, 0, none⟩) (v := .int .i64 r) (by rw [World.cell?_alloc_new]; rfl)
    have k1 := Inv.cell (w := wr.alloc (.cells #[.int .i64 r, .int .i64 t] 79)) (a := ⟨wr.heap.size, 1, none⟩) (v := .int .i64 t) (by rw [World.cell?_alloc_new]; rfl)
    cases ok with
    | true =>
     go_wp2
     refine wp_region_inv (by kernel_rfl) (by kernel_rfl) ?_
     repeat (go_big_quiet_step ((first
      | (go_at_call 117; exact Calls.inv_same (rof_any _ n c A l r (hlw.inv b0 _) hn)))))
     refine wpQuiet_nil ?_
     intro _ hw'
     obtain ⟨x, rfl⟩ := hw'
     have hbx := hbel.trans (((b0.trans (x.below.mono b0.size))).mono hB)
     go_wp2
     go_roundw
     case rel => exact ⟨k + 1, by omega, by go_num, ⟨_, rfl, Lib.hid (by rw [hsu.out, ← Bool.and_assoc, ← hok.out, Bool.true_and])⟩, hbx⟩
     case measure => simp [intOf]; omega
    | false =>
     go_wp2
     refine wp_region_inv (by kernel_rfl) (by kernel_rfl) ?_
     repeat (go_big_quiet_step (fail))
     refine wpQuiet_nil ?_
     intro _ hw'
     obtain ⟨x, rfl⟩ := hw'
     have hbx := hbel.trans (((b0.trans (x.below.mono b0.size))).mono hB)
     go_wp2
     go_roundw
     case rel => exact ⟨k + 1, by omega, by go_num, ⟨_, rfl, Lib.hid (by rw [hsu.out, ← Bool.and_assoc, ← hok.out, Bool.false_and])⟩, hbx⟩
     case measure => simp [intOf]; omega
   ·obtain rfl : k = n' := by omega
    have hfin := Lib.hid (show ok = vcovers l l' by
     rw [hok.out, List.take_of_length_le (by rw [hlen.out]; exact Nat.le_refl _)]
     unfold vcovers
     rw [← hv.out])
    go_wp2
    go_ret
    exact ⟨retB hfin.out, hb12.trans (hbel.mono hb12.size)⟩
end Go.Proofs.YtkejlnjnoiidnaaGreatDoor
end

section
namespace Go.Proofs.YtkejlnjnoiidnaaGreatDoor
theorem str_empty' (s : ByteArray) : s.toList.isEmpty = decide (s.size = 0) := by
 rw [ByteArray.toList_eq]
 by_cases h : s.size = 0
 ·rw [decide_eq_true h]
  have : s.data.toList = [] := by
   apply List.length_eq_zero_iff.1
   simpa using h
  rw [this]; rfl
 ·rw [decide_eq_false h]
  rw [List.isEmpty_eq_false_iff]
  intro e
  apply h
  have := congrArg List.length e
  simpa using this
end Go.Proofs.YtkejlnjnoiidnaaGreatDoor
end

section
namespace Go.Proofs.YtkejlnjnoiidnaaGreatDoor
set_option linter.unusedSimpArgs false
open Go.RowKit As
def wrightC (k : Int) (i : Bool) (x y : Nat) (n : Int) : Int :=
 if k < 1 ∨ 4 < k then 1
 else if i = false then 2
 else if 40 < x ∨ 300 < y then 4
 else if (k ≠ 1 ∧ k ≠ 4 ∧ y ≠ 0) ∨ (k ≠ 3 ∧ k ≠ 4 ∧ n ≠ 0) then 3
 else if k = 3 ∧ (n < -1125899906842624 ∨ 1125899906842624 < n) ∨ k = 4 ∧ (n < 0 ∨ 1000 < n) then 2 else 0
theorem wright_is (a b c f : Int) (d e : ByteArray) : wright (a, b, c, d, e, f) = wrightC c (idRight (a, b)) d.size e.size f := rfl
abbrev wrV (a b c : Int) (d e : ByteArray) (f : Int) : Value := .agg #[.int .i64 a, .int .i64 b, .int .i64 c, .string d, .string e, .int .i64 f]
abbrev wrO (a b c : Int) (d e : ByteArray) (f : Int) : Obj := .cells #[.int .i64 a, .int .i64 b, .int .i64 c, .string d, .string e, .int .i64 f] 53
/-- The write's cells, later on. -/
structure WrAt (w : World) (B : Nat) (a b c : Int) (d e : ByteArray) (f : Int) : Prop where
 c0 : w.cell? ⟨B, 0, none⟩ = some (.int .i64 a)
 c1 : w.cell? ⟨B, 1, none⟩ = some (.int .i64 b)
 c2 : w.cell? ⟨B, 2, none⟩ = some (.int .i64 c)
 c3 : w.cell? ⟨B, 3, none⟩ = some (.string d)
 c4 : w.cell? ⟨B, 4, none⟩ = some (.string e)
 c5 : w.cell? ⟨B, 5, none⟩ = some (.int .i64 f)
theorem WrAt.new (w : World) (a b c : Int) (d e : ByteArray) (f : Int) : WrAt (w.alloc (wrO a b c d e f)) w.heap.size a b c d e f := by
 refine ⟨?_, ?_, ?_, ?_, ?_, ?_⟩ <;> (rw [World.cell?_alloc_new]; rfl)
theorem WrAt.drewN {w : World} {B : Nat} {a b c f : Int} {d e : ByteArray} (h : WrAt w B a b c d e f) (q : Nat) : WrAt (w.drewN q) B a b c d e f := ⟨h.c0, h.c1, h.c2, h.c3, h.c4, h.c5⟩
theorem WrAt.below {w w' : World} {B : Nat} {a b c f : Int} {d e : ByteArray} (h : WrAt w B a b c d e f) (hb : Below w.heap.size w w') : WrAt w' B a b c d e f :=
 ⟨(hb.cell (cell_lt h.c0)).trans h.c0, (hb.cell (cell_lt h.c1)).trans h.c1, (hb.cell (cell_lt h.c2)).trans h.c2, (hb.cell (cell_lt h.c3)).trans h.c3, (hb.cell (cell_lt h.c4)).trans h.c4, (hb.cell (cell_lt h.c5)).trans h.c5⟩
set_option maxHeartbeats 2000000 in
set_option maxRecDepth 100000 in
theorem wright1 (a b f : Int) (d e : ByteArray) (w : World) : Calls Tryz.prog 81 #[wrV a b (1) d e f] w fun r w' => r = .returned (errV (wright (a, b, 1, d, e, f))) ∧ Below w.heap.size w w' := by
 rw [wright_is]
 have hW := WrAt.new w a b (1) d e f
 cases hidv : idRight (a, b) with
 | false =>
  have hid := Lib.hid hidv
  clear hidv
  have hr := Lib.hid (show wrightC 1 false d.size e.size f = 2 by unfold wrightC; rw [if_neg (by omega), if_pos rfl])
  go_enter Tryz.func81, Tryz.ntmps81
  go_wp2_with fail
  go_quiet (fail)
  go_wp2_with fail
  refine (idright_any a b _).mono ?_
  rintro r w1 ⟨rfl, hb1⟩
  rw [hid.out]
  obtain ⟨c0, c1, c2, c3, c4, c5⟩ := (hW.drewN nq).below hb1
  have hbl : Below w.heap.size w w1 := (below_drewN (below1 w _) nq).trans (hb1.mono (by simp))
  go_wp2
  go_ret
  exact ⟨by rw [hr.out]; rfl, hbl⟩
 | true =>
  have hid := Lib.hid hidv
  clear hidv
  by_cases h1 : 40 < d.size
  ·have hr := Lib.hid (show wrightC 1 true d.size e.size f = 4 by unfold wrightC; rw [if_neg (by omega), if_neg (by simp), if_pos (by omega)])
   have s0 : decide (40 < d.size) = true := by simp only [decide_eq_true_eq, decide_eq_false_iff_not]; omega
   have t0 : decide (40 < (d.size : Int)) = true := by simp only [decide_eq_true_eq, decide_eq_false_iff_not]; omega
   clear h1
   go_enter Tryz.func81, Tryz.ntmps81
   go_wp2_with fail
   go_quiet (fail)
   go_wp2_with fail
   refine (idright_any a b _).mono ?_
   rintro r w1 ⟨rfl, hb1⟩
   rw [hid.out]
   obtain ⟨c0, c1, c2, c3, c4, c5⟩ := (hW.drewN nq).below hb1
   have hbl : Below w.heap.size w w1 := (below_drewN (below1 w _) nq).trans (hb1.mono (by simp))
   go_wp2
   go_ret
   exact ⟨by rw [hr.out]; rfl, hbl⟩
  ·by_cases h2 : 300 < e.size
   ·have hr := Lib.hid (show wrightC 1 true d.size e.size f = 4 by unfold wrightC; rw [if_neg (by omega), if_neg (by simp), if_pos (by omega)])
    have s0 : decide (40 < d.size) = false := by simp only [decide_eq_true_eq, decide_eq_false_iff_not]; omega
    have t0 : decide (40 < (d.size : Int)) = false := by simp only [decide_eq_true_eq, decide_eq_false_iff_not]; omega
    have s1 : decide (300 < e.size) = true := by simp only [decide_eq_true_eq, decide_eq_false_iff_not]; omega
    have t1 : decide (300 < (e.size : Int)) = true := by simp only [decide_eq_true_eq, decide_eq_false_iff_not]; omega
    clear h1 h2
    go_enter Tryz.func81, Tryz.ntmps81
    go_wp2_with fail
    go_quiet (fail)
    go_wp2_with fail
    refine (idright_any a b _).mono ?_
    rintro r w1 ⟨rfl, hb1⟩
    rw [hid.out]
    obtain ⟨c0, c1, c2, c3, c4, c5⟩ := (hW.drewN nq).below hb1
    have hbl : Below w.heap.size w w1 := (below_drewN (below1 w _) nq).trans (hb1.mono (by simp))
    go_wp2
    go_ret
    exact ⟨by rw [hr.out]; rfl, hbl⟩
   ·have hz := str_empty' e
    have s0 : decide (40 < d.size) = false := by simp only [decide_eq_true_eq, decide_eq_false_iff_not]; omega
    have t0 : decide (40 < (d.size : Int)) = false := by simp only [decide_eq_true_eq, decide_eq_false_iff_not]; omega
    have s1 : decide (300 < e.size) = false := by simp only [decide_eq_true_eq, decide_eq_false_iff_not]; omega
    have t1 : decide (300 < (e.size : Int)) = false := by simp only [decide_eq_true_eq, decide_eq_false_iff_not]; omega
    have HZ := Lib.hid hz
    clear hz
    by_cases h3 : f = 0
    ·skip
     have hr := Lib.hid (show wrightC 1 true d.size e.size f = 0 by unfold wrightC; rw [if_neg (by omega), if_neg (by simp), if_neg (by omega), if_neg (by omega), if_neg (by omega)])
     have q0 : (f != 0) = false := by simp only [bne_iff_ne, bne_eq_false_iff_eq, ne_eq]; omega
     clear h1 h2 h3
     go_enter Tryz.func81, Tryz.ntmps81
     go_wp2_with fail
     go_quiet (fail)
     go_wp2_with fail
     refine (idright_any a b _).mono ?_
     rintro r w1 ⟨rfl, hb1⟩
     rw [hid.out]
     obtain ⟨c0, c1, c2, c3, c4, c5⟩ := (hW.drewN nq).below hb1
     have hbl : Below w.heap.size w w1 := (below_drewN (below1 w _) nq).trans (hb1.mono (by simp))
     go_wp2
     go_ret
     exact ⟨by rw [hr.out]; rfl, hbl⟩
    ·skip
     have hr := Lib.hid (show wrightC 1 true d.size e.size f = 3 by unfold wrightC; rw [if_neg (by omega), if_neg (by simp), if_neg (by omega), if_pos (by omega)])
     have q0 : (f != 0) = true := by simp only [bne_iff_ne, bne_eq_false_iff_eq, ne_eq]; omega
     clear h1 h2 h3
     go_enter Tryz.func81, Tryz.ntmps81
     go_wp2_with fail
     go_quiet (fail)
     go_wp2_with fail
     refine (idright_any a b _).mono ?_
     rintro r w1 ⟨rfl, hb1⟩
     rw [hid.out]
     obtain ⟨c0, c1, c2, c3, c4, c5⟩ := (hW.drewN nq).below hb1
     have hbl : Below w.heap.size w w1 := (below_drewN (below1 w _) nq).trans (hb1.mono (by simp))
     go_wp2
     go_ret
     exact ⟨by rw [hr.out]; rfl, hbl⟩
set_option maxHeartbeats 2000000 in
set_option maxRecDepth 100000 in
theorem wright2 (a b f : Int) (d e : ByteArray) (w : World) : Calls Tryz.prog 81 #[wrV a b (2) d e f] w fun r w' => r = .returned (errV (wright (a, b, 2, d, e, f))) ∧ Below w.heap.size w w' := by
 rw [wright_is]
 have hW := WrAt.new w a b (2) d e f
 cases hidv : idRight (a, b) with
 | false =>
  have hid := Lib.hid hidv
  clear hidv
  have hr := Lib.hid (show wrightC 2 false d.size e.size f = 2 by unfold wrightC; rw [if_neg (by omega), if_pos rfl])
  go_enter Tryz.func81, Tryz.ntmps81
  go_wp2_with fail
  go_quiet (fail)
  go_wp2_with fail
  refine (idright_any a b _).mono ?_
  rintro r w1 ⟨rfl, hb1⟩
  rw [hid.out]
  obtain ⟨c0, c1, c2, c3, c4, c5⟩ := (hW.drewN nq).below hb1
  have hbl : Below w.heap.size w w1 := (below_drewN (below1 w _) nq).trans (hb1.mono (by simp))
  go_wp2
  go_ret
  exact ⟨by rw [hr.out]; rfl, hbl⟩
 | true =>
  have hid := Lib.hid hidv
  clear hidv
  by_cases h1 : 40 < d.size
  ·have hr := Lib.hid (show wrightC 2 true d.size e.size f = 4 by unfold wrightC; rw [if_neg (by omega), if_neg (by simp), if_pos (by omega)])
   have s0 : decide (40 < d.size) = true := by simp only [decide_eq_true_eq, decide_eq_false_iff_not]; omega
   have t0 : decide (40 < (d.size : Int)) = true := by simp only [decide_eq_true_eq, decide_eq_false_iff_not]; omega
   clear h1
   go_enter Tryz.func81, Tryz.ntmps81
   go_wp2_with fail
   go_quiet (fail)
   go_wp2_with fail
   refine (idright_any a b _).mono ?_
   rintro r w1 ⟨rfl, hb1⟩
   rw [hid.out]
   obtain ⟨c0, c1, c2, c3, c4, c5⟩ := (hW.drewN nq).below hb1
   have hbl : Below w.heap.size w w1 := (below_drewN (below1 w _) nq).trans (hb1.mono (by simp))
   go_wp2
   go_ret
   exact ⟨by rw [hr.out]; rfl, hbl⟩
  ·by_cases h2 : 300 < e.size
   ·have hr := Lib.hid (show wrightC 2 true d.size e.size f = 4 by unfold wrightC; rw [if_neg (by omega), if_neg (by simp), if_pos (by omega)])
    have s0 : decide (40 < d.size) = false := by simp only [decide_eq_true_eq, decide_eq_false_iff_not]; omega
    have t0 : decide (40 < (d.size : Int)) = false := by simp only [decide_eq_true_eq, decide_eq_false_iff_not]; omega
    have s1 : decide (300 < e.size) = true := by simp only [decide_eq_true_eq, decide_eq_false_iff_not]; omega
    have t1 : decide (300 < (e.size : Int)) = true := by simp only [decide_eq_true_eq, decide_eq_false_iff_not]; omega
    clear h1 h2
    go_enter Tryz.func81, Tryz.ntmps81
    go_wp2_with fail
    go_quiet (fail)
    go_wp2_with fail
    refine (idright_any a b _).mono ?_
    rintro r w1 ⟨rfl, hb1⟩
    rw [hid.out]
    obtain ⟨c0, c1, c2, c3, c4, c5⟩ := (hW.drewN nq).below hb1
    have hbl : Below w.heap.size w w1 := (below_drewN (below1 w _) nq).trans (hb1.mono (by simp))
    go_wp2
    go_ret
    exact ⟨by rw [hr.out]; rfl, hbl⟩
   ·have hz := str_empty' e
    have s0 : decide (40 < d.size) = false := by simp only [decide_eq_true_eq, decide_eq_false_iff_not]; omega
    have t0 : decide (40 < (d.size : Int)) = false := by simp only [decide_eq_true_eq, decide_eq_false_iff_not]; omega
    have s1 : decide (300 < e.size) = false := by simp only [decide_eq_true_eq, decide_eq_false_iff_not]; omega
    have t1 : decide (300 < (e.size : Int)) = false := by simp only [decide_eq_true_eq, decide_eq_false_iff_not]; omega
    have HZ := Lib.hid hz
    clear hz
    by_cases h3 : e.size = 0
    ·by_cases h4 : f = 0
     ·skip
      have hr := Lib.hid (show wrightC 2 true d.size e.size f = 0 by unfold wrightC; rw [if_neg (by omega), if_neg (by simp), if_neg (by omega), if_neg (by omega), if_neg (by omega)])
      have q0 : e.toList.isEmpty = true := by rw [HZ.out]; simp only [decide_eq_true_eq, decide_eq_false_iff_not]; omega
      have q1 : (f != 0) = false := by simp only [bne_iff_ne, bne_eq_false_iff_eq, ne_eq]; omega
      clear h1 h2 h3 h4
      go_enter Tryz.func81, Tryz.ntmps81
      go_wp2_with fail
      go_quiet (fail)
      go_wp2_with fail
      refine (idright_any a b _).mono ?_
      rintro r w1 ⟨rfl, hb1⟩
      rw [hid.out]
      obtain ⟨c0, c1, c2, c3, c4, c5⟩ := (hW.drewN nq).below hb1
      have hbl : Below w.heap.size w w1 := (below_drewN (below1 w _) nq).trans (hb1.mono (by simp))
      go_wp2
      go_ret
      exact ⟨by rw [hr.out]; rfl, hbl⟩
     ·skip
      have hr := Lib.hid (show wrightC 2 true d.size e.size f = 3 by unfold wrightC; rw [if_neg (by omega), if_neg (by simp), if_neg (by omega), if_pos (by omega)])
      have q0 : e.toList.isEmpty = true := by rw [HZ.out]; simp only [decide_eq_true_eq, decide_eq_false_iff_not]; omega
      have q1 : (f != 0) = true := by simp only [bne_iff_ne, bne_eq_false_iff_eq, ne_eq]; omega
      clear h1 h2 h3 h4
      go_enter Tryz.func81, Tryz.ntmps81
      go_wp2_with fail
      go_quiet (fail)
      go_wp2_with fail
      refine (idright_any a b _).mono ?_
      rintro r w1 ⟨rfl, hb1⟩
      rw [hid.out]
      obtain ⟨c0, c1, c2, c3, c4, c5⟩ := (hW.drewN nq).below hb1
      have hbl : Below w.heap.size w w1 := (below_drewN (below1 w _) nq).trans (hb1.mono (by simp))
      go_wp2
      go_ret
      exact ⟨by rw [hr.out]; rfl, hbl⟩
    ·skip
     have hr := Lib.hid (show wrightC 2 true d.size e.size f = 3 by unfold wrightC; rw [if_neg (by omega), if_neg (by simp), if_neg (by omega), if_pos (by omega)])
     have q0 : e.toList.isEmpty = false := by rw [HZ.out]; simp only [decide_eq_true_eq, decide_eq_false_iff_not]; omega
     clear h1 h2 h3
     go_enter Tryz.func81, Tryz.ntmps81
     go_wp2_with fail
     go_quiet (fail)
     go_wp2_with fail
     refine (idright_any a b _).mono ?_
     rintro r w1 ⟨rfl, hb1⟩
     rw [hid.out]
     obtain ⟨c0, c1, c2, c3, c4, c5⟩ := (hW.drewN nq).below hb1
     have hbl : Below w.heap.size w w1 := (below_drewN (below1 w _) nq).trans (hb1.mono (by simp))
     go_wp2
     go_ret
     exact ⟨by rw [hr.out]; rfl, hbl⟩
set_option maxHeartbeats 2000000 in
set_option maxRecDepth 100000 in
theorem wright3 (a b f : Int) (d e : ByteArray) (w : World) : Calls Tryz.prog 81 #[wrV a b (3) d e f] w fun r w' => r = .returned (errV (wright (a, b, 3, d, e, f))) ∧ Below w.heap.size w w' := by
 rw [wright_is]
 have hW := WrAt.new w a b (3) d e f
 cases hidv : idRight (a, b) with
 | false =>
  have hid := Lib.hid hidv
  clear hidv
  have hr := Lib.hid (show wrightC 3 false d.size e.size f = 2 by unfold wrightC; rw [if_neg (by omega), if_pos rfl])
  go_enter Tryz.func81, Tryz.ntmps81
  go_wp2_with fail
  go_quiet (fail)
  go_wp2_with fail
  refine (idright_any a b _).mono ?_
  rintro r w1 ⟨rfl, hb1⟩
  rw [hid.out]
  obtain ⟨c0, c1, c2, c3, c4, c5⟩ := (hW.drewN nq).below hb1
  have hbl : Below w.heap.size w w1 := (below_drewN (below1 w _) nq).trans (hb1.mono (by simp))
  go_wp2
  go_ret
  exact ⟨by rw [hr.out]; rfl, hbl⟩
 | true =>
  have hid := Lib.hid hidv
  clear hidv
  by_cases h1 : 40 < d.size
  ·have hr := Lib.hid (show wrightC 3 true d.size e.size f = 4 by unfold wrightC; rw [if_neg (by omega), if_neg (by simp), if_pos (by omega)])
   have s0 : decide (40 < d.size) = true := by simp only [decide_eq_true_eq, decide_eq_false_iff_not]; omega
   have t0 : decide (40 < (d.size : Int)) = true := by simp only [decide_eq_true_eq, decide_eq_false_iff_not]; omega
   clear h1
   go_enter Tryz.func81, Tryz.ntmps81
   go_wp2_with fail
   go_quiet (fail)
   go_wp2_with fail
   refine (idright_any a b _).mono ?_
   rintro r w1 ⟨rfl, hb1⟩
   rw [hid.out]
   obtain ⟨c0, c1, c2, c3, c4, c5⟩ := (hW.drewN nq).below hb1
   have hbl : Below w.heap.size w w1 := (below_drewN (below1 w _) nq).trans (hb1.mono (by simp))
   go_wp2
   go_ret
   exact ⟨by rw [hr.out]; rfl, hbl⟩
  ·by_cases h2 : 300 < e.size
   ·have hr := Lib.hid (show wrightC 3 true d.size e.size f = 4 by unfold wrightC; rw [if_neg (by omega), if_neg (by simp), if_pos (by omega)])
    have s0 : decide (40 < d.size) = false := by simp only [decide_eq_true_eq, decide_eq_false_iff_not]; omega
    have t0 : decide (40 < (d.size : Int)) = false := by simp only [decide_eq_true_eq, decide_eq_false_iff_not]; omega
    have s1 : decide (300 < e.size) = true := by simp only [decide_eq_true_eq, decide_eq_false_iff_not]; omega
    have t1 : decide (300 < (e.size : Int)) = true := by simp only [decide_eq_true_eq, decide_eq_false_iff_not]; omega
    clear h1 h2
    go_enter Tryz.func81, Tryz.ntmps81
    go_wp2_with fail
    go_quiet (fail)
    go_wp2_with fail
    refine (idright_any a b _).mono ?_
    rintro r w1 ⟨rfl, hb1⟩
    rw [hid.out]
    obtain ⟨c0, c1, c2, c3, c4, c5⟩ := (hW.drewN nq).below hb1
    have hbl : Below w.heap.size w w1 := (below_drewN (below1 w _) nq).trans (hb1.mono (by simp))
    go_wp2
    go_ret
    exact ⟨by rw [hr.out]; rfl, hbl⟩
   ·have hz := str_empty' e
    have s0 : decide (40 < d.size) = false := by simp only [decide_eq_true_eq, decide_eq_false_iff_not]; omega
    have t0 : decide (40 < (d.size : Int)) = false := by simp only [decide_eq_true_eq, decide_eq_false_iff_not]; omega
    have s1 : decide (300 < e.size) = false := by simp only [decide_eq_true_eq, decide_eq_false_iff_not]; omega
    have t1 : decide (300 < (e.size : Int)) = false := by simp only [decide_eq_true_eq, decide_eq_false_iff_not]; omega
    have HZ := Lib.hid hz
    clear hz
    by_cases h3 : e.size = 0
    ·by_cases h4 : f < -1125899906842624
     ·skip
      have hr := Lib.hid (show wrightC 3 true d.size e.size f = 2 by unfold wrightC; rw [if_neg (by omega), if_neg (by simp), if_neg (by omega), if_neg (by omega), if_pos (by omega)])
      have q0 : e.toList.isEmpty = true := by rw [HZ.out]; simp only [decide_eq_true_eq, decide_eq_false_iff_not]; omega
      have q1 : decide (f < -1125899906842624) = true := by simp only [decide_eq_true_eq, decide_eq_false_iff_not]; omega
      clear h1 h2 h3 h4
      go_enter Tryz.func81, Tryz.ntmps81
      go_wp2_with fail
      go_quiet (fail)
      go_wp2_with fail
      refine (idright_any a b _).mono ?_
      rintro r w1 ⟨rfl, hb1⟩
      rw [hid.out]
      obtain ⟨c0, c1, c2, c3, c4, c5⟩ := (hW.drewN nq).below hb1
      have hbl : Below w.heap.size w w1 := (below_drewN (below1 w _) nq).trans (hb1.mono (by simp))
      go_wp2
      go_ret
      exact ⟨by rw [hr.out]; rfl, hbl⟩
     ·by_cases h5 : 1125899906842624 < f
      ·skip
       have hr := Lib.hid (show wrightC 3 true d.size e.size f = 2 by unfold wrightC; rw [if_neg (by omega), if_neg (by simp), if_neg (by omega), if_neg (by omega), if_pos (by omega)])
       have q0 : e.toList.isEmpty = true := by rw [HZ.out]; simp only [decide_eq_true_eq, decide_eq_false_iff_not]; omega
       have q1 : decide (f < -1125899906842624) = false := by simp only [decide_eq_true_eq, decide_eq_false_iff_not]; omega
       have q2 : decide (1125899906842624 < f) = true := by simp only [decide_eq_true_eq, decide_eq_false_iff_not]; omega
       clear h1 h2 h3 h4 h5
       go_enter Tryz.func81, Tryz.ntmps81
       go_wp2_with fail
       go_quiet (fail)
       go_wp2_with fail
       refine (idright_any a b _).mono ?_
       rintro r w1 ⟨rfl, hb1⟩
       rw [hid.out]
       obtain ⟨c0, c1, c2, c3, c4, c5⟩ := (hW.drewN nq).below hb1
       have hbl : Below w.heap.size w w1 := (below_drewN (below1 w _) nq).trans (hb1.mono (by simp))
       go_wp2
       go_ret
       exact ⟨by rw [hr.out]; rfl, hbl⟩
      ·skip
       have hr := Lib.hid (show wrightC 3 true d.size e.size f = 0 by unfold wrightC; rw [if_neg (by omega), if_neg (by simp), if_neg (by omega), if_neg (by omega), if_neg (by omega)])
       have q0 : e.toList.isEmpty = true := by rw [HZ.out]; simp only [decide_eq_true_eq, decide_eq_false_iff_not]; omega
       have q1 : decide (f < -1125899906842624) = false := by simp only [decide_eq_true_eq, decide_eq_false_iff_not]; omega
       have q2 : decide (1125899906842624 < f) = false := by simp only [decide_eq_true_eq, decide_eq_false_iff_not]; omega
       clear h1 h2 h3 h4 h5
       go_enter Tryz.func81, Tryz.ntmps81
       go_wp2_with fail
       go_quiet (fail)
       go_wp2_with fail
       refine (idright_any a b _).mono ?_
       rintro r w1 ⟨rfl, hb1⟩
       rw [hid.out]
       obtain ⟨c0, c1, c2, c3, c4, c5⟩ := (hW.drewN nq).below hb1
       have hbl : Below w.heap.size w w1 := (below_drewN (below1 w _) nq).trans (hb1.mono (by simp))
       go_wp2
       go_ret
       exact ⟨by rw [hr.out]; rfl, hbl⟩
    ·skip
     have hr := Lib.hid (show wrightC 3 true d.size e.size f = 3 by unfold wrightC; rw [if_neg (by omega), if_neg (by simp), if_neg (by omega), if_pos (by omega)])
     have q0 : e.toList.isEmpty = false := by rw [HZ.out]; simp only [decide_eq_true_eq, decide_eq_false_iff_not]; omega
     clear h1 h2 h3
     go_enter Tryz.func81, Tryz.ntmps81
     go_wp2_with fail
     go_quiet (fail)
     go_wp2_with fail
     refine (idright_any a b _).mono ?_
     rintro r w1 ⟨rfl, hb1⟩
     rw [hid.out]
     obtain ⟨c0, c1, c2, c3, c4, c5⟩ := (hW.drewN nq).below hb1
     have hbl : Below w.heap.size w w1 := (below_drewN (below1 w _) nq).trans (hb1.mono (by simp))
     go_wp2
     go_ret
     exact ⟨by rw [hr.out]; rfl, hbl⟩
set_option maxHeartbeats 2000000 in
set_option maxRecDepth 100000 in
theorem wright4 (a b f : Int) (d e : ByteArray) (w : World) : Calls Tryz.prog 81 #[wrV a b (4) d e f] w fun r w' => r = .returned (errV (wright (a, b, 4, d, e, f))) ∧ Below w.heap.size w w' := by
 rw [wright_is]
 have hW := WrAt.new w a b (4) d e f
 cases hidv : idRight (a, b) with
 | false =>
  have hid := Lib.hid hidv
  clear hidv
  have hr := Lib.hid (show wrightC 4 false d.size e.size f = 2 by unfold wrightC; rw [if_neg (by omega), if_pos rfl])
  go_enter Tryz.func81, Tryz.ntmps81
  go_wp2_with fail
  go_quiet (fail)
  go_wp2_with fail
  refine (idright_any a b _).mono ?_
  rintro r w1 ⟨rfl, hb1⟩
  rw [hid.out]
  obtain ⟨c0, c1, c2, c3, c4, c5⟩ := (hW.drewN nq).below hb1
  have hbl : Below w.heap.size w w1 := (below_drewN (below1 w _) nq).trans (hb1.mono (by simp))
  go_wp2
  go_ret
  exact ⟨by rw [hr.out]; rfl, hbl⟩
 | true =>
  have hid := Lib.hid hidv
  clear hidv
  by_cases h1 : 40 < d.size
  ·have hr := Lib.hid (show wrightC 4 true d.size e.size f = 4 by unfold wrightC; rw [if_neg (by omega), if_neg (by simp), if_pos (by omega)])
   have s0 : decide (40 < d.size) = true := by simp only [decide_eq_true_eq, decide_eq_false_iff_not]; omega
   have t0 : decide (40 < (d.size : Int)) = true := by simp only [decide_eq_true_eq, decide_eq_false_iff_not]; omega
   clear h1
   go_enter Tryz.func81, Tryz.ntmps81
   go_wp2_with fail
   go_quiet (fail)
   go_wp2_with fail
   refine (idright_any a b _).mono ?_
   rintro r w1 ⟨rfl, hb1⟩
   rw [hid.out]
   obtain ⟨c0, c1, c2, c3, c4, c5⟩ := (hW.drewN nq).below hb1
   have hbl : Below w.heap.size w w1 := (below_drewN (below1 w _) nq).trans (hb1.mono (by simp))
   go_wp2
   go_ret
   exact ⟨by rw [hr.out]; rfl, hbl⟩
  ·by_cases h2 : 300 < e.size
   ·have hr := Lib.hid (show wrightC 4 true d.size e.size f = 4 by unfold wrightC; rw [if_neg (by omega), if_neg (by simp), if_pos (by omega)])
    have s0 : decide (40 < d.size) = false := by simp only [decide_eq_true_eq, decide_eq_false_iff_not]; omega
    have t0 : decide (40 < (d.size : Int)) = false := by simp only [decide_eq_true_eq, decide_eq_false_iff_not]; omega
    have s1 : decide (300 < e.size) = true := by simp only [decide_eq_true_eq, decide_eq_false_iff_not]; omega
    have t1 : decide (300 < (e.size : Int)) = true := by simp only [decide_eq_true_eq, decide_eq_false_iff_not]; omega
    clear h1 h2
    go_enter Tryz.func81, Tryz.ntmps81
    go_wp2_with fail
    go_quiet (fail)
    go_wp2_with fail
    refine (idright_any a b _).mono ?_
    rintro r w1 ⟨rfl, hb1⟩
    rw [hid.out]
    obtain ⟨c0, c1, c2, c3, c4, c5⟩ := (hW.drewN nq).below hb1
    have hbl : Below w.heap.size w w1 := (below_drewN (below1 w _) nq).trans (hb1.mono (by simp))
    go_wp2
    go_ret
    exact ⟨by rw [hr.out]; rfl, hbl⟩
   ·have hz := str_empty' e
    have s0 : decide (40 < d.size) = false := by simp only [decide_eq_true_eq, decide_eq_false_iff_not]; omega
    have t0 : decide (40 < (d.size : Int)) = false := by simp only [decide_eq_true_eq, decide_eq_false_iff_not]; omega
    have s1 : decide (300 < e.size) = false := by simp only [decide_eq_true_eq, decide_eq_false_iff_not]; omega
    have t1 : decide (300 < (e.size : Int)) = false := by simp only [decide_eq_true_eq, decide_eq_false_iff_not]; omega
    have HZ := Lib.hid hz
    clear hz
    by_cases h4 : f < 0
    ·skip
     have hr := Lib.hid (show wrightC 4 true d.size e.size f = 2 by unfold wrightC; rw [if_neg (by omega), if_neg (by simp), if_neg (by omega), if_neg (by omega), if_pos (by omega)])
     have q0 : decide (f < 0) = true := by simp only [decide_eq_true_eq, decide_eq_false_iff_not]; omega
     clear h1 h2 h4
     go_enter Tryz.func81, Tryz.ntmps81
     go_wp2_with fail
     go_quiet (fail)
     go_wp2_with fail
     refine (idright_any a b _).mono ?_
     rintro r w1 ⟨rfl, hb1⟩
     rw [hid.out]
     obtain ⟨c0, c1, c2, c3, c4, c5⟩ := (hW.drewN nq).below hb1
     have hbl : Below w.heap.size w w1 := (below_drewN (below1 w _) nq).trans (hb1.mono (by simp))
     go_wp2
     go_ret
     exact ⟨by rw [hr.out]; rfl, hbl⟩
    ·by_cases h5 : 1000 < f
     ·skip
      have hr := Lib.hid (show wrightC 4 true d.size e.size f = 2 by unfold wrightC; rw [if_neg (by omega), if_neg (by simp), if_neg (by omega), if_neg (by omega), if_pos (by omega)])
      have q0 : decide (f < 0) = false := by simp only [decide_eq_true_eq, decide_eq_false_iff_not]; omega
      have q1 : decide (1000 < f) = true := by simp only [decide_eq_true_eq, decide_eq_false_iff_not]; omega
      clear h1 h2 h4 h5
      go_enter Tryz.func81, Tryz.ntmps81
      go_wp2_with fail
      go_quiet (fail)
      go_wp2_with fail
      refine (idright_any a b _).mono ?_
      rintro r w1 ⟨rfl, hb1⟩
      rw [hid.out]
      obtain ⟨c0, c1, c2, c3, c4, c5⟩ := (hW.drewN nq).below hb1
      have hbl : Below w.heap.size w w1 := (below_drewN (below1 w _) nq).trans (hb1.mono (by simp))
      go_wp2
      go_ret
      exact ⟨by rw [hr.out]; rfl, hbl⟩
     ·skip
      have hr := Lib.hid (show wrightC 4 true d.size e.size f = 0 by unfold wrightC; rw [if_neg (by omega), if_neg (by simp), if_neg (by omega), if_neg (by omega), if_neg (by omega)])
      have q0 : decide (f < 0) = false := by simp only [decide_eq_true_eq, decide_eq_false_iff_not]; omega
      have q1 : decide (1000 < f) = false := by simp only [decide_eq_true_eq, decide_eq_false_iff_not]; omega
      clear h1 h2 h4 h5
      go_enter Tryz.func81, Tryz.ntmps81
      go_wp2_with fail
      go_quiet (fail)
      go_wp2_with fail
      refine (idright_any a b _).mono ?_
      rintro r w1 ⟨rfl, hb1⟩
      rw [hid.out]
      obtain ⟨c0, c1, c2, c3, c4, c5⟩ := (hW.drewN nq).below hb1
      have hbl : Below w.heap.size w w1 := (below_drewN (below1 w _) nq).trans (hb1.mono (by simp))
      go_wp2
      go_ret
      exact ⟨by rw [hr.out]; rfl, hbl⟩
set_option maxHeartbeats 2000000 in
set_option maxRecDepth 100000 in
theorem wright0 (a b c f : Int) (d e : ByteArray) (w : World) (hc : c < 1 ∨ 4 < c) : Calls Tryz.prog 81 #[wrV a b (c) d e f] w fun r w' => r = .returned (errV (wright (a, b, c, d, e, f))) ∧ Below w.heap.size w w' := by
 rw [wright_is]
 have hW := WrAt.new w a b (c) d e f
 have hr := Lib.hid (show wrightC c (idRight (a, b)) d.size e.size f = 1 by unfold wrightC; rw [if_pos hc])
 have k1 : (c == 1) = false := by rw [beq_eq_false_iff_ne]; omega
 have k3 : (c == 3) = false := by rw [beq_eq_false_iff_ne]; omega
 have k4 : (c == 4) = false := by rw [beq_eq_false_iff_ne]; omega
 by_cases h : c < 1
 ·have q0 : decide (c < 1) = true := by simp only [decide_eq_true_eq, decide_eq_false_iff_not]; omega
  clear h hc
  go_enter Tryz.func81, Tryz.ntmps81
  go_wp2_with fail
  go_quiet (fail)
  go_wp2_with fail
  go_ret
  exact ⟨by rw [hr.out]; rfl, below_drewN (below1 w _) nq⟩
 ·have q0 : decide (c < 1) = false := by simp only [decide_eq_true_eq, decide_eq_false_iff_not]; omega
  have q1 : decide (4 < c) = true := by simp only [decide_eq_true_eq]; omega
  clear h hc
  go_enter Tryz.func81, Tryz.ntmps81
  go_wp2_with fail
  go_quiet (fail)
  go_wp2_with fail
  go_ret
  exact ⟨by rw [hr.out]; rfl, below_drewN (below1 w _) nq⟩
theorem wright_any (x : Wr) (w : World) : Calls Tryz.prog 81 #[wrV x.1 x.2.1 x.2.2.1 x.2.2.2.1 x.2.2.2.2.1 x.2.2.2.2.2] w fun r w' => r = .returned (errV (wright x)) ∧ Below w.heap.size w w' := by
 obtain ⟨a, b, c, d, e, f⟩ := x
 by_cases h : c < 1 ∨ 4 < c
 ·exact wright0 a b c f d e w h
 ·rcases (by omega : c = 1 ∨ c = 2 ∨ c = 3 ∨ c = 4) with rfl | rfl | rfl | rfl
  ·exact wright1 a b f d e w
  ·exact wright2 a b f d e w
  ·exact wright3 a b f d e w
  ·exact wright4 a b f d e w
end Go.Proofs.YtkejlnjnoiidnaaGreatDoor
end

section
namespace Go.Proofs.YtkejlnjnoiidnaaGreatDoor
open Go.RowKit
/-- A batch in an argument: three slices. -/
structure BatArg where
 A : Option Addr
 n : Nat
 c : Nat
 A' : Option Addr
 n' : Nat
 c' : Nat
 A'' : Option Addr
 n'' : Nat
 c'' : Nat
 f : List Ent
 h : List Ent
 l : List Wr
def BatArg.v (b : BatArg) : Value := .agg #[.slice b.A b.n b.c, .slice b.A' b.n' b.c', .slice b.A'' b.n'' b.c'']
structure Bat (w : World) (b : BatArg) : Prop where
 f : Sl w w.heap.size 2 b.A b.n (b.f.flatMap entCells)
 h : Sl w w.heap.size 2 b.A' b.n' (b.h.flatMap entCells)
 l : Sl w w.heap.size 6 b.A'' b.n'' (b.l.flatMap wrCells)
 nf : b.n ≤ maxLen
 nh : b.n' ≤ maxLen
 nl : b.n'' ≤ maxLen
theorem Bat.grow {w w' : World} {b : BatArg} (h : Bat w b) (hb : Below w.heap.size w w') : Bat w' b := ⟨h.f.grow hb, h.h.grow hb, h.l.grow hb, h.nf, h.nh, h.nl⟩
end Go.Proofs.YtkejlnjnoiidnaaGreatDoor
end
