/- vector.Covers and Covers of the reference say what vcovers says. -/
import Derived.Test.YtlpkpfpmcppciaaGreatDoorZ2
import Derived.Test.YtlpkpfpmcppciaaGreatDoorZ1
section
namespace Go.Proofs.YtlpkpfpmcppciaaGreatDoor
open Go.RowKit As
/-- An error of mine is none, or one that isn't nil. -/
theorem err_nil {w : World} {v : Value} {f : Int × Int} (h : ErrOf w v f) (h0 : f.1 = 0) : v = .nilIface := by
 obtain ⟨e, p⟩ := f
 simp only at h0
 subst h0
 exact (ErrIs.zero h).1
theorem err_some {w : World} {v : Value} {f : Int × Int} (h : ErrOf w v f) (h0 : f.1 ≠ 0) : ∃ t u, v = .iface t u := by
 obtain ⟨e, p⟩ := f
 unfold ErrOf at h
 cases h with
 | none => exact absurd rfl h0
 | bare _ _ => exact ⟨_, _, rfl⟩
 | at_ _ _ _ _ _ _ _ => exact ⟨_, _, rfl⟩
theorem vcov_all {a b : List Ent} (h : ∀ (j : Nat) x, b[j]? = some x → x.2 ≤ vof a x.1) : vcov a b = true := by
 unfold vcov
 rw [decide_eq_true]
 intro x hx
 obtain ⟨j, hj, rfl⟩ := List.mem_iff_getElem.1 hx
 exact h j _ (List.getElem?_eq_getElem hj)
theorem vcov_no {a b : List Ent} {j : Nat} {x : Ent} (hx : b[j]? = some x) (h : ¬ x.2 ≤ vof a x.1) : vcov a b = false := by
 unfold vcov
 rw [decide_eq_false]
 intro h2
 exact h (h2 x (List.mem_of_getElem? hx))
set_option maxHeartbeats 2000000 in
theorem covers_any (w : World) (n c n' c' : Nat) (A A' : Option Addr) (l l' : List Ent) (hl : Ents w w.heap.size A n l) (hl' : Ents w w.heap.size A' n' l') (hn : n ≤ maxLen) (hn' : n' ≤ maxLen) :
  Calls Tryz.prog 54 #[.slice A n c, .slice A' n' c'] w fun e w' => e = .returned (.bool (vcovers l l')) ∧ Below w.heap.size w w' := by
 have hlen := Lib.hid hl'.len
 by_cases h1 : (vright l).1 = 0
 ·by_cases h2 : (vright l').1 = 0
  ·have hr := Lib.hid (show vcovers l l' = vcov l l' by unfold vcovers; rw [decide_eq_true h1, decide_eq_true h2]; rfl)
   go_enter Tryz.func54, Tryz.ntmps54
   go_wp2_with fail
   refine (vright_any w n c A l hl hn).mono ?_
   rintro e w1 ⟨v1, rfl, hv1, hb1⟩
   obtain rfl := err_nil hv1 h1
   have hl1 := hl.grow hb1
   have hl1' := hl'.grow hb1
   go_wp2_with fail
   refine (vright_any w1 n' c' A' l' hl1' hn').mono ?_
   rintro e w2 ⟨v2, rfl, hv2, hb2⟩
   obtain rfl := err_nil hv2 h2
   have hl2 := hl1.grow hb2
   have hl2' := hl1'.grow hb2
   have hb12 := hb1.trans (hb2.mono hb1.size)
   clear hv1 hv2 hl hl' hl1 hl1' h1 h2
   unfold maxLen at hn'
   go_wp2
   go_loopw [6, 17] (fun _ i wr => ∃ k : Nat, k ≤ n' ∧ i = .int .i64 k ∧ Hid (∀ (j : Nat) x, j < k → l'[j]? = some x → x.2 ≤ vof l x.1) ∧ Below w2.heap.size w2 wr) (fun _ i _ => n' - (intOf i).toNat)
   case atStart => exact ⟨0, by omega, rfl, Lib.hid (fun j x hj => by omega), Below.refl _ _⟩
   case round =>
    obtain ⟨k, hk, rfl, hall, hbel⟩ := hrel
    have hB := hbel.size
    by_cases hlt : k < n'
    ·obtain ⟨b, o, r, t, rfl, hb, hx, hf, hc0, hc1⟩ := hl2'.at_ hlt
     have c0 := (hbel.cell (p := ⟨b, o + k * 2, none⟩) (by simp; omega)).trans hc0
     have c1 := (hbel.cell (p := ⟨b, o + k * 2 + 1, none⟩) (by simp; omega)).trans hc1
     have hX := Lib.hid hx
     have hlw := hl2.grow hbel
     have b0 := below1 wr (.cells #[.int .i64 r, .int .i64 t] 73)
     clear hc0 hc1 hx hf
     have k0 := Inv.cell (w := wr.alloc (.cells #[.int .i64 r, .int .i64 t] 73)) (a := ⟨wr.heap.size, 0, none⟩) (v := .int .i64 r) (by rw [World.cell?_alloc_new]; rfl)
     have k1 := Inv.cell (w := wr.alloc (.cells #[.int .i64 r, .int .i64 t] 73)) (a := ⟨wr.heap.size, 1, none⟩) (v := .int .i64 t) (by rw [World.cell?_alloc_new]; rfl)
     by_cases hge : t ≤ vof l r
     ·have hd : decide (vof l r < t) = false := by simp only [decide_eq_false_iff_not]; omega
      have hnx := Lib.hid (show ∀ (j : Nat) x, j < k + 1 → l'[j]? = some x → x.2 ≤ vof l x.1 by
       intro j x hj hjx
       rcases Nat.lt_or_ge j k with h | h
       ·exact hall.out j x h hjx
       ·obtain rfl : j = k := by omega
        rw [hX.out] at hjx
        injection hjx with hjx
        subst hjx
        exact hge)
      have hG := Lib.hid hge
      clear hge
      go_wp2
      refine wp_region_inv (by kernel_rfl) (by kernel_rfl) ?_
      repeat (go_big_quiet_step ((first
       | (go_at_call 64; exact Calls.inv_of (of_any _ n c A l r (hlw.inv b0 _) hn)))))
      refine wpQuiet_nil ?_
      intro _ hw'
      obtain ⟨x, rfl⟩ := hw'
      have hbx := hbel.trans (((b0.trans (x.below.mono b0.size))).mono hB)
      go_wp2
      go_roundw
      case rel => exact ⟨k + 1, by omega, by go_num, hnx, hbx⟩
      case measure => simp [intOf]; omega
     ·have hd : decide (vof l r < t) = true := by simp only [decide_eq_true_eq]; omega
      have hno := Lib.hid (vcov_no hX.out hge)
      clear hge
      go_wp2
      refine wp_region_inv (by kernel_rfl) (by kernel_rfl) ?_
      repeat (go_big_quiet_step ((first
       | (go_at_call 64; exact Calls.inv_of (of_any _ n c A l r (hlw.inv b0 _) hn)))))
      refine wpQuiet_nil ?_
      intro _ hw'
      obtain ⟨x, rfl⟩ := hw'
      have hbx := hbel.trans (((b0.trans (x.below.mono b0.size))).mono hB)
      go_wp2
      go_ret
      exact ⟨retB (by rw [hr.out, hno.out]), hb12.trans (hbx.mono hb12.size)⟩
    ·obtain rfl : k = n' := by omega
     have hyes := Lib.hid (vcov_all (a := l) (b := l') fun j x hx => hall.out j x (by have := (List.getElem?_eq_some_iff.1 hx).1; rw [← hlen.out]; exact this) hx)
     go_wp2
     go_ret
     exact ⟨retB (by rw [hr.out, hyes.out]), hb12.trans (hbel.mono hb12.size)⟩
  ·have hr := Lib.hid (show vcovers l l' = false by unfold vcovers; rw [decide_eq_false h2]; simp)
   go_enter Tryz.func54, Tryz.ntmps54
   go_wp2_with fail
   refine (vright_any w n c A l hl hn).mono ?_
   rintro e w1 ⟨v1, rfl, hv1, hb1⟩
   obtain rfl := err_nil hv1 h1
   have hl1' := hl'.grow hb1
   go_wp2_with fail
   refine (vright_any w1 n' c' A' l' hl1' hn').mono ?_
   rintro e w2 ⟨v2, rfl, hv2, hb2⟩
   obtain ⟨t, u, rfl⟩ := err_some hv2 h2
   have hb12 := hb1.trans (hb2.mono hb1.size)
   clear hv1 hv2
   go_wp2
   go_ret
   exact ⟨retB (by rw [hr.out]), hb12⟩
 ·have hr := Lib.hid (show vcovers l l' = false by unfold vcovers; rw [decide_eq_false h1]; simp)
  go_enter Tryz.func54, Tryz.ntmps54
  go_wp2_with fail
  refine (vright_any w n c A l hl hn).mono ?_
  rintro e w1 ⟨v1, rfl, hv1, hb1⟩
  obtain ⟨t, u, rfl⟩ := err_some hv1 h1
  clear hv1
  go_wp2
  go_ret
  exact ⟨retB (by rw [hr.out]), hb1⟩
theorem vcov_succ {l l' : List Ent} {k : Nat} {r t : Int} (hx : l'[k]? = some (r, t)) : vcov l (l'.take (k + 1)) = (vcov l (l'.take k) && decide (t ≤ vof l r)) := by
 obtain ⟨h1, h2⟩ := List.getElem?_eq_some_iff.1 hx
 unfold vcov
 rw [List.take_succ_eq_append_getElem h1, h2, Bool.eq_iff_iff]
 simp only [decide_eq_true_eq, Bool.and_eq_true, List.mem_append, List.mem_singleton]
 constructor
 ·intro h
  exact ⟨fun x hx => h x (.inl hx), h (r, t) (.inr rfl)⟩
 ·rintro ⟨h3, h4⟩ x (hx | rfl)
  ·exact h3 x hx
  ·exact h4
set_option maxHeartbeats 2000000 in
theorem rcovers_any (w : World) (n c n' c' : Nat) (A A' : Option Addr) (l l' : List Ent) (hl : Ents w w.heap.size A n l) (hl' : Ents w w.heap.size A' n' l') (hn : n ≤ maxLen) (hn' : n' ≤ maxLen) :
  Calls Tryz.prog 50 #[.slice A n c, .slice A' n' c'] w fun e w' => e = .returned (.bool (vcovers l l')) ∧ Below w.heap.size w w' := by
 have hlen := Lib.hid hl'.len
 go_enter Tryz.func50, Tryz.ntmps50
 go_wp2_with fail
 refine (rvright_any w n c A l hl hn).mono ?_
 rintro e w1 ⟨rfl, hb1⟩
 have hl1' := hl'.grow hb1
 unfold faultV
 go_wp2_with fail
 refine (is_any (vright l) w1).mono ?_
 rintro e w2 ⟨rfl, hb2⟩
 have hb12 := hb1.trans (hb2.mono hb1.size)
 have hl2' := hl1'.grow hb2
 cases h1 : ((vright l).1 == 0) with
 | true =>
  go_wp2_with fail
  refine (rvright_any w2 n' c' A' l' hl2' hn').mono ?_
  rintro e w3 ⟨rfl, hb3⟩
  unfold faultV
  go_wp2_with fail
  refine (is_any (vright l') w3).mono ?_
  rintro e w4 ⟨rfl, hb4⟩
  have hb14 := (hb12.trans (hb3.mono hb12.size)).trans (hb4.mono (hb12.trans (hb3.mono hb12.size)).size)
  have hv : Hid (((vright l').1 == 0) = (decide ((vright l).1 = 0) && decide ((vright l').1 = 0))) := Lib.hid (by
   have : (vright l).1 = 0 := by simpa using h1
   rw [decide_eq_true this, Bool.true_and]; rfl)
  generalize hv0 : ((vright l').1 == 0) = v0 at *
  clear hv0 h1
  clear hl1' hl2'
  have hlW := hl.grow hb14
  have hlW' := hl'.grow hb14
  unfold maxLen at hn'
  go_wp2
  go_loopw [5, 7, 18] (fun v _ i wr => ∃ k : Nat, k ≤ n' ∧ i = .int .i64 k ∧ (∃ ok : Bool, v = .bool ok ∧ Hid (ok = (v0 && vcov l (l'.take k)))) ∧ Below w4.heap.size w4 wr) (fun _ _ i _ => n' - (intOf i).toNat)
  case atStart => exact ⟨0, by omega, rfl, ⟨_, rfl, Lib.hid (by simp [vcov])⟩, Below.refl _ _⟩
  case round =>
   obtain ⟨k, hk, rfl, ⟨ok, rfl, hok⟩, hbel⟩ := hrel
   have hB := hbel.size
   by_cases hlt : k < n'
   ·obtain ⟨b, o, r, t, rfl, hb', hx, hf, hc0, hc1⟩ := hlW'.at_ hlt
    have c0 := (hbel.cell (p := ⟨b, o + k * 2, none⟩) (by simp; omega)).trans hc0
    have c1 := (hbel.cell (p := ⟨b, o + k * 2 + 1, none⟩) (by simp; omega)).trans hc1
    have hsu := Lib.hid (vcov_succ (l := l) hx)
    have hlw := hlW.grow hbel
    have b0 := below1 wr (.cells #[.int .i64 r, .int .i64 t] 73)
    clear hc0 hc1 hx hf
    have k0 := Inv.cell (w := wr.alloc (.cells #[.int .i64 r, .int .i64 t] 73)) (a := ⟨wr.heap.size, 0, none⟩) (v := .int .i64 r) (by rw [World.cell?_alloc_new]; rfl)
    have k1 := Inv.cell (w := wr.alloc (.cells #[.int .i64 r, .int .i64 t] 73)) (a := ⟨wr.heap.size, 1, none⟩) (v := .int .i64 t) (by rw [World.cell?_alloc_new]; rfl)
    cases ok with
    | true =>
     go_wp2
     refine wp_region_inv (by kernel_rfl) (by kernel_rfl) ?_
     repeat (go_big_quiet_step ((first
      | (go_at_call 61; exact Calls.inv_same (rof_any _ n c A l r (hlw.inv b0 _) hn)))))
     refine wpQuiet_nil ?_
     intro _ hw'
     obtain ⟨x, rfl⟩ := hw'
     have hbx := hbel.trans (((b0.trans (x.below.mono b0.size))).mono hB)
     go_wp2
     go_roundw
     case rel => exact ⟨k + 1, by omega, by go_num, ⟨_, rfl, Lib.hid (by rw [hsu.out, ← Bool.and_assoc, ← hok.out, Bool.true_and])⟩, hbx⟩
     case measure => simp [intOf]; omega
    | false =>
     go_wp2
     refine wp_region_inv (by kernel_rfl) (by kernel_rfl) ?_
     repeat (go_big_quiet_step (fail))
     refine wpQuiet_nil ?_
     intro _ hw'
     obtain ⟨x, rfl⟩ := hw'
     have hbx := hbel.trans (((b0.trans (x.below.mono b0.size))).mono hB)
     go_wp2
     go_roundw
     case rel => exact ⟨k + 1, by omega, by go_num, ⟨_, rfl, Lib.hid (by rw [hsu.out, ← Bool.and_assoc, ← hok.out, Bool.false_and])⟩, hbx⟩
     case measure => simp [intOf]; omega
   ·obtain rfl : k = n' := by omega
    have hfin := Lib.hid (show ok = vcovers l l' by
     rw [hok.out, List.take_of_length_le (by rw [hlen.out]; exact Nat.le_refl _)]
     unfold vcovers
     rw [← hv.out])
    go_wp2
    go_ret
    exact ⟨retB hfin.out, hb14.trans (hbel.mono hb14.size)⟩
 | false =>
  have hv : Hid (false = (decide ((vright l).1 = 0) && decide ((vright l').1 = 0))) := Lib.hid (by
   have : ¬ (vright l).1 = 0 := by simpa using h1
   rw [decide_eq_false this, Bool.false_and])
  clear h1 hl1' hl2'
  have hlW := hl.grow hb12
  have hlW' := hl'.grow hb12
  unfold maxLen at hn'
  go_wp2
  go_loopw [5, 7, 18] (fun v _ i wr => ∃ k : Nat, k ≤ n' ∧ i = .int .i64 k ∧ (∃ ok : Bool, v = .bool ok ∧ Hid (ok = (false && vcov l (l'.take k)))) ∧ Below w2.heap.size w2 wr) (fun _ _ i _ => n' - (intOf i).toNat)
  case atStart => exact ⟨0, by omega, rfl, ⟨_, rfl, Lib.hid (by simp [vcov])⟩, Below.refl _ _⟩
  case round =>
   obtain ⟨k, hk, rfl, ⟨ok, rfl, hok⟩, hbel⟩ := hrel
   have hB := hbel.size
   by_cases hlt : k < n'
   ·obtain ⟨b, o, r, t, rfl, hb', hx, hf, hc0, hc1⟩ := hlW'.at_ hlt
    have c0 := (hbel.cell (p := ⟨b, o + k * 2, none⟩) (by simp; omega)).trans hc0
    have c1 := (hbel.cell (p := ⟨b, o + k * 2 + 1, none⟩) (by simp; omega)).trans hc1
    have hsu := Lib.hid (vcov_succ (l := l) hx)
    have hlw := hlW.grow hbel
    have b0 := below1 wr (.cells #[.int .i64 r, .int .i64 t] 73)
    clear hc0 hc1 hx hf
    have k0 := Inv.cell (w := wr.alloc (.cells #[.int .i64 r, .int .i64 t] 73)) (a := ⟨wr.heap.size, 0, none⟩) (v := .int .i64 r) (by rw [World.cell?_alloc_new]; rfl)
    have k1 := Inv.cell (w := wr.alloc (.cells #[.int .i64 r, .int .i64 t] 73)) (a := ⟨wr.heap.size, 1, none⟩) (v := .int .i64 t) (by rw [World.cell?_alloc_new]; rfl)
    cases ok with
    | true =>
     go_wp2
     refine wp_region_inv (by kernel_rfl) (by kernel_rfl) ?_
     repeat (go_big_quiet_step ((first
      | (go_at_call 61; exact Calls.inv_same (rof_any _ n c A l r (hlw.inv b0 _) hn)))))
     refine wpQuiet_nil ?_
     intro _ hw'
     obtain ⟨x, rfl⟩ := hw'
     have hbx := hbel.trans (((b0.trans (x.below.mono b0.size))).mono hB)
     go_wp2
     go_roundw
     case rel => exact ⟨k + 1, by omega, by go_num, ⟨_, rfl, Lib.hid (by rw [hsu.out, ← Bool.and_assoc, ← hok.out, Bool.true_and])⟩, hbx⟩
     case measure => simp [intOf]; omega
    | false =>
     go_wp2
     refine wp_region_inv (by kernel_rfl) (by kernel_rfl) ?_
     repeat (go_big_quiet_step (fail))
     refine wpQuiet_nil ?_
     intro _ hw'
     obtain ⟨x, rfl⟩ := hw'
     have hbx := hbel.trans (((b0.trans (x.below.mono b0.size))).mono hB)
     go_wp2
     go_roundw
     case rel => exact ⟨k + 1, by omega, by go_num, ⟨_, rfl, Lib.hid (by rw [hsu.out, ← Bool.and_assoc, ← hok.out, Bool.false_and])⟩, hbx⟩
     case measure => simp [intOf]; omega
   ·obtain rfl : k = n' := by omega
    have hfin := Lib.hid (show ok = vcovers l l' by
     rw [hok.out, List.take_of_length_le (by rw [hlen.out]; exact Nat.le_refl _)]
     unfold vcovers
     rw [← hv.out])
    go_wp2
    go_ret
    exact ⟨retB hfin.out, hb12.trans (hbel.mono hb12.size)⟩
end Go.Proofs.YtlpkpfpmcppciaaGreatDoor
end
