/- vector.Covers and Covers of the reference say what vcovers says.

vector.Join says what vjoin says.

vector.Read says what vread says. -/
import Derived.Test.YtnaclpfcldoebaaGreatDoorZ2
import Derived.Test.YtnaclpfcldoebaaGreatDoorZ3
import Derived.Test.YtnaclpfcldoebaaGreatDoorZ4
import Derived.Test.YtnaclpfcldoebaaGreatDoorZ1
import Derived.Deep.RegionHeld3
import Derived.Deep.RegionWith
section
namespace Go.Proofs.YtnaclpfcldoebaaGreatDoor
open Go.RowKit As
/-- An error of mine is none, or one that isn't nil. -/
theorem err_nil {w : World} {v : Value} {f : Int × Int} (h : ErrOf w v f) (h0 : f.1 = 0) : v = .nilIface := by
  obtain ⟨e, p⟩ := f
  simp only at h0
  subst h0
  exact (ErrIs.zero h).1
theorem err_some {w : World} {v : Value} {f : Int × Int} (h : ErrOf w v f) (h0 : f.1 ≠ 0) : ∃ t u, v = .iface t u := by
  obtain ⟨e, p⟩ := f
  unfold ErrOf at h
  cases h with
  | none => exact absurd rfl h0
  | bare _ _ => exact ⟨_, _, rfl⟩
  | at_ _ _ _ _ _ _ _ => exact ⟨_, _, rfl⟩
theorem vcov_all {a b : List Ent} (h : ∀ (j : Nat) x, b[j]? = some x → x.2 ≤ vof a x.1) : vcov a b = true := by
  unfold vcov
  rw [decide_eq_true]
  intro x hx
  obtain ⟨j, hj, rfl⟩ := List.mem_iff_getElem.1 hx
  exact h j _ (List.getElem?_eq_getElem hj)
theorem vcov_no {a b : List Ent} {j : Nat} {x : Ent} (hx : b[j]? = some x) (h : ¬ x.2 ≤ vof a x.1) : vcov a b = false := by
  unfold vcov
  rw [decide_eq_false]
  intro h2
  exact h (h2 x (List.mem_of_getElem? hx))
set_option maxHeartbeats 2000000 in
theorem covers_any (w : World) (n c n' c' : Nat) (A A' : Option Addr) (l l' : List Ent) (hl : Ents w w.heap.size A n l) (hl' : Ents w w.heap.size A' n' l') (hn : n ≤ maxLen) (hn' : n' ≤ maxLen) :
    Calls Tryz.prog 50 #[.slice A n c, .slice A' n' c'] w fun e w' => e = .returned (.bool (vcovers l l')) ∧ Below w.heap.size w w' := by
  have hlen := Lib.hid hl'.len
  by_cases h1 : (vright l).1 = 0
  · by_cases h2 : (vright l').1 = 0
    · have hr := Lib.hid (show vcovers l l' = vcov l l' by unfold vcovers; rw [decide_eq_true h1, decide_eq_true h2]; rfl)
      go_enter Tryz.func50, Tryz.ntmps50
      go_wp2_with fail
      refine (vright_any w n c A l hl hn).mono ?_
      rintro e w1 ⟨v1, rfl, hv1, hb1⟩
      obtain rfl := err_nil hv1 h1
      have hl1 := hl.grow hb1
      have hl1' := hl'.grow hb1
      go_wp2_with fail
      refine (vright_any w1 n' c' A' l' hl1' hn').mono ?_
      rintro e w2 ⟨v2, rfl, hv2, hb2⟩
      obtain rfl := err_nil hv2 h2
      have hl2 := hl1.grow hb2
      have hl2' := hl1'.grow hb2
      have hb12 := hb1.trans (hb2.mono hb1.size)
      clear hv1 hv2 hl hl' hl1 hl1' h1 h2
      unfold maxLen at hn'
      go_wp2
      go_loopw [6, 17] (fun _ i wr => ∃ k : Nat, k ≤ n' ∧ i = .int .i64 k ∧ Hid (∀ (j : Nat) x, j < k → l'[j]? = some x → x.2 ≤ vof l x.1) ∧ Below w2.heap.size w2 wr) (fun _ i _ => n' - (intOf i).toNat)
      case atStart => exact ⟨0, by omega, rfl, Lib.hid (fun j x hj => by omega), Below.refl _ _⟩
      case round =>
        obtain ⟨k, hk, rfl, hall, hbel⟩ := hrel
        have hB := hbel.size
        by_cases hlt : k < n'
        · obtain ⟨b, o, r, t, rfl, hb, hx, hf, hc0, hc1⟩ := hl2'.at_ hlt
          have c0 := (hbel.cell (p := ⟨b, o + k * 2, none⟩) (by simp; omega)).trans hc0
          have c1 := (hbel.cell (p := ⟨b, o + k * 2 + 1, none⟩) (by simp; omega)).trans hc1
          have hX := Lib.hid hx
          have hlw := hl2.grow hbel
          have b0 := below1 wr (.cells #[.int .i64 r, .int .i64 t] 62)
          clear hc0 hc1 hx hf
          have k0 := Inv.cell (w := wr.alloc (.cells #[.int .i64 r, .int .i64 t] 62)) (a := ⟨wr.heap.size, 0, none⟩) (v := .int .i64 r) (by rw [World.cell?_alloc_new]; rfl)
          have k1 := Inv.cell (w := wr.alloc (.cells #[.int .i64 r, .int .i64 t] 62)) (a := ⟨wr.heap.size, 1, none⟩) (v := .int .i64 t) (by rw [World.cell?_alloc_new]; rfl)
          by_cases hge : t ≤ vof l r
          · have hd : decide (vof l r < t) = false := by simp only [decide_eq_false_iff_not]; omega
            have hnx := Lib.hid (show ∀ (j : Nat) x, j < k + 1 → l'[j]? = some x → x.2 ≤ vof l x.1 by
              intro j x hj hjx
              rcases Nat.lt_or_ge j k with h | h
              · exact hall.out j x h hjx
              · obtain rfl : j = k := by omega
                rw [hX.out] at hjx
                injection hjx with hjx
                subst hjx
                exact hge)
            have hG := Lib.hid hge
            clear hge
            go_wp2
            refine wp_region_inv (by kernel_rfl) (by kernel_rfl) ?_
            repeat (go_big_quiet_step ((first
              | (go_at_call 59; exact Calls.inv_of (of_any _ n c A l r (hlw.inv b0 _) hn)))))
            refine wpQuiet_nil ?_
            intro _ hw'
            obtain ⟨x, rfl⟩ := hw'
            have hbx := hbel.trans (((b0.trans (x.below.mono b0.size))).mono hB)
            go_wp2
            go_roundw
            case rel => exact ⟨k + 1, by omega, by go_num, hnx, hbx⟩
            case measure => simp [intOf]; omega
          · have hd : decide (vof l r < t) = true := by simp only [decide_eq_true_eq]; omega
            have hno := Lib.hid (vcov_no hX.out hge)
            clear hge
            go_wp2
            refine wp_region_inv (by kernel_rfl) (by kernel_rfl) ?_
            repeat (go_big_quiet_step ((first
              | (go_at_call 59; exact Calls.inv_of (of_any _ n c A l r (hlw.inv b0 _) hn)))))
            refine wpQuiet_nil ?_
            intro _ hw'
            obtain ⟨x, rfl⟩ := hw'
            have hbx := hbel.trans (((b0.trans (x.below.mono b0.size))).mono hB)
            go_wp2
            go_ret
            exact ⟨retB (by rw [hr.out, hno.out]), hb12.trans (hbx.mono hb12.size)⟩
        · obtain rfl : k = n' := by omega
          have hyes := Lib.hid (vcov_all (a := l) (b := l') fun j x hx => hall.out j x (by have := (List.getElem?_eq_some_iff.1 hx).1; rw [← hlen.out]; exact this) hx)
          go_wp2
          go_ret
          exact ⟨retB (by rw [hr.out, hyes.out]), hb12.trans (hbel.mono hb12.size)⟩
    · have hr := Lib.hid (show vcovers l l' = false by unfold vcovers; rw [decide_eq_false h2]; simp)
      go_enter Tryz.func50, Tryz.ntmps50
      go_wp2_with fail
      refine (vright_any w n c A l hl hn).mono ?_
      rintro e w1 ⟨v1, rfl, hv1, hb1⟩
      obtain rfl := err_nil hv1 h1
      have hl1' := hl'.grow hb1
      go_wp2_with fail
      refine (vright_any w1 n' c' A' l' hl1' hn').mono ?_
      rintro e w2 ⟨v2, rfl, hv2, hb2⟩
      obtain ⟨t, u, rfl⟩ := err_some hv2 h2
      have hb12 := hb1.trans (hb2.mono hb1.size)
      clear hv1 hv2
      go_wp2
      go_ret
      exact ⟨retB (by rw [hr.out]), hb12⟩
  · have hr := Lib.hid (show vcovers l l' = false by unfold vcovers; rw [decide_eq_false h1]; simp)
    go_enter Tryz.func50, Tryz.ntmps50
    go_wp2_with fail
    refine (vright_any w n c A l hl hn).mono ?_
    rintro e w1 ⟨v1, rfl, hv1, hb1⟩
    obtain ⟨t, u, rfl⟩ := err_some hv1 h1
    clear hv1
    go_wp2
    go_ret
    exact ⟨retB (by rw [hr.out]), hb1⟩
theorem vcov_succ {l l' : List Ent} {k : Nat} {r t : Int} (hx : l'[k]? = some (r, t)) : vcov l (l'.take (k + 1)) = (vcov l (l'.take k) && decide (t ≤ vof l r)) := by
  obtain ⟨h1, h2⟩ := List.getElem?_eq_some_iff.1 hx
  unfold vcov
  rw [List.take_succ_eq_append_getElem h1, h2, Bool.eq_iff_iff]
  simp only [decide_eq_true_eq, Bool.and_eq_true, List.mem_append, List.mem_singleton]
  constructor
  · intro h
    exact ⟨fun x hx => h x (.inl hx), h (r, t) (.inr rfl)⟩
  · rintro ⟨h3, h4⟩ x (hx | rfl)
    · exact h3 x hx
    · exact h4
set_option maxHeartbeats 2000000 in
theorem rcovers_any (w : World) (n c n' c' : Nat) (A A' : Option Addr) (l l' : List Ent) (hl : Ents w w.heap.size A n l) (hl' : Ents w w.heap.size A' n' l') (hn : n ≤ maxLen) (hn' : n' ≤ maxLen) :
    Calls Tryz.prog 40 #[.slice A n c, .slice A' n' c'] w fun e w' => e = .returned (.bool (vcovers l l')) ∧ Below w.heap.size w w' := by
  have hlen := Lib.hid hl'.len
  go_enter Tryz.func40, Tryz.ntmps40
  go_wp2_with fail
  refine (rvright_any w n c A l hl hn).mono ?_
  rintro e w1 ⟨rfl, hb1⟩
  have hl1' := hl'.grow hb1
  unfold faultV
  go_wp2_with fail
  refine (is_any (vright l) w1).mono ?_
  rintro e w2 ⟨rfl, hb2⟩
  have hb12 := hb1.trans (hb2.mono hb1.size)
  have hl2' := hl1'.grow hb2
  cases h1 : ((vright l).1 == 0) with
  | true =>
    go_wp2_with fail
    refine (rvright_any w2 n' c' A' l' hl2' hn').mono ?_
    rintro e w3 ⟨rfl, hb3⟩
    unfold faultV
    go_wp2_with fail
    refine (is_any (vright l') w3).mono ?_
    rintro e w4 ⟨rfl, hb4⟩
    have hb14 := (hb12.trans (hb3.mono hb12.size)).trans (hb4.mono (hb12.trans (hb3.mono hb12.size)).size)
    have hv : Hid (((vright l').1 == 0) = (decide ((vright l).1 = 0) && decide ((vright l').1 = 0))) := Lib.hid (by
      have : (vright l).1 = 0 := by simpa using h1
      rw [decide_eq_true this, Bool.true_and]; rfl)
    generalize hv0 : ((vright l').1 == 0) = v0 at *
    clear hv0 h1
    clear hl1' hl2'
    have hlW := hl.grow hb14
    have hlW' := hl'.grow hb14
    unfold maxLen at hn'
    go_wp2
    go_loopw [5, 7, 18] (fun v _ i wr => ∃ k : Nat, k ≤ n' ∧ i = .int .i64 k ∧ (∃ ok : Bool, v = .bool ok ∧ Hid (ok = (v0 && vcov l (l'.take k)))) ∧ Below w4.heap.size w4 wr) (fun _ _ i _ => n' - (intOf i).toNat)
    case atStart => exact ⟨0, by omega, rfl, ⟨_, rfl, Lib.hid (by simp [vcov])⟩, Below.refl _ _⟩
    case round =>
      obtain ⟨k, hk, rfl, ⟨ok, rfl, hok⟩, hbel⟩ := hrel
      have hB := hbel.size
      by_cases hlt : k < n'
      · obtain ⟨b, o, r, t, rfl, hb', hx, hf, hc0, hc1⟩ := hlW'.at_ hlt
        have c0 := (hbel.cell (p := ⟨b, o + k * 2, none⟩) (by simp; omega)).trans hc0
        have c1 := (hbel.cell (p := ⟨b, o + k * 2 + 1, none⟩) (by simp; omega)).trans hc1
        have hsu := Lib.hid (vcov_succ (l := l) hx)
        have hlw := hlW.grow hbel
        have b0 := below1 wr (.cells #[.int .i64 r, .int .i64 t] 62)
        clear hc0 hc1 hx hf
        have k0 := Inv.cell (w := wr.alloc (.cells #[.int .i64 r, .int .i64 t] 62)) (a := ⟨wr.heap.size, 0, none⟩) (v := .int .i64 r) (by rw [World.cell?_alloc_new]; rfl)
        have k1 := Inv.cell (w := wr.alloc (.cells #[.int .i64 r, .int .i64 t] 62)) (a := ⟨wr.heap.size, 1, none⟩) (v := .int .i64 t) (by rw [World.cell?_alloc_new]; rfl)
        cases ok with
        | true =>
          go_wp2
          refine wp_region_inv (by kernel_rfl) (by kernel_rfl) ?_
          repeat (go_big_quiet_step ((first
            | (go_at_call 56; exact Calls.inv_same (rof_any _ n c A l r (hlw.inv b0 _) hn)))))
          refine wpQuiet_nil ?_
          intro _ hw'
          obtain ⟨x, rfl⟩ := hw'
          have hbx := hbel.trans (((b0.trans (x.below.mono b0.size))).mono hB)
          go_wp2
          go_roundw
          case rel => exact ⟨k + 1, by omega, by go_num, ⟨_, rfl, Lib.hid (by rw [hsu.out, ← Bool.and_assoc, ← hok.out, Bool.true_and])⟩, hbx⟩
          case measure => simp [intOf]; omega
        | false =>
          go_wp2
          refine wp_region_inv (by kernel_rfl) (by kernel_rfl) ?_
          repeat (go_big_quiet_step (fail))
          refine wpQuiet_nil ?_
          intro _ hw'
          obtain ⟨x, rfl⟩ := hw'
          have hbx := hbel.trans (((b0.trans (x.below.mono b0.size))).mono hB)
          go_wp2
          go_roundw
          case rel => exact ⟨k + 1, by omega, by go_num, ⟨_, rfl, Lib.hid (by rw [hsu.out, ← Bool.and_assoc, ← hok.out, Bool.false_and])⟩, hbx⟩
          case measure => simp [intOf]; omega
      · obtain rfl : k = n' := by omega
        have hfin := Lib.hid (show ok = vcovers l l' by
          rw [hok.out, List.take_of_length_le (by rw [hlen.out]; exact Nat.le_refl _)]
          unfold vcovers
          rw [← hv.out])
        go_wp2
        go_ret
        exact ⟨retB hfin.out, hb14.trans (hbel.mono hb14.size)⟩
  | false =>
    have hv : Hid (false = (decide ((vright l).1 = 0) && decide ((vright l').1 = 0))) := Lib.hid (by
      have : ¬ (vright l).1 = 0 := by simpa using h1
      rw [decide_eq_false this, Bool.false_and])
    clear h1 hl1' hl2'
    have hlW := hl.grow hb12
    have hlW' := hl'.grow hb12
    unfold maxLen at hn'
    go_wp2
    go_loopw [5, 7, 18] (fun v _ i wr => ∃ k : Nat, k ≤ n' ∧ i = .int .i64 k ∧ (∃ ok : Bool, v = .bool ok ∧ Hid (ok = (false && vcov l (l'.take k)))) ∧ Below w2.heap.size w2 wr) (fun _ _ i _ => n' - (intOf i).toNat)
    case atStart => exact ⟨0, by omega, rfl, ⟨_, rfl, Lib.hid (by simp [vcov])⟩, Below.refl _ _⟩
    case round =>
      obtain ⟨k, hk, rfl, ⟨ok, rfl, hok⟩, hbel⟩ := hrel
      have hB := hbel.size
      by_cases hlt : k < n'
      · obtain ⟨b, o, r, t, rfl, hb', hx, hf, hc0, hc1⟩ := hlW'.at_ hlt
        have c0 := (hbel.cell (p := ⟨b, o + k * 2, none⟩) (by simp; omega)).trans hc0
        have c1 := (hbel.cell (p := ⟨b, o + k * 2 + 1, none⟩) (by simp; omega)).trans hc1
        have hsu := Lib.hid (vcov_succ (l := l) hx)
        have hlw := hlW.grow hbel
        have b0 := below1 wr (.cells #[.int .i64 r, .int .i64 t] 62)
        clear hc0 hc1 hx hf
        have k0 := Inv.cell (w := wr.alloc (.cells #[.int .i64 r, .int .i64 t] 62)) (a := ⟨wr.heap.size, 0, none⟩) (v := .int .i64 r) (by rw [World.cell?_alloc_new]; rfl)
        have k1 := Inv.cell (w := wr.alloc (.cells #[.int .i64 r, .int .i64 t] 62)) (a := ⟨wr.heap.size, 1, none⟩) (v := .int .i64 t) (by rw [World.cell?_alloc_new]; rfl)
        cases ok with
        | true =>
          go_wp2
          refine wp_region_inv (by kernel_rfl) (by kernel_rfl) ?_
          repeat (go_big_quiet_step ((first
            | (go_at_call 56; exact Calls.inv_same (rof_any _ n c A l r (hlw.inv b0 _) hn)))))
          refine wpQuiet_nil ?_
          intro _ hw'
          obtain ⟨x, rfl⟩ := hw'
          have hbx := hbel.trans (((b0.trans (x.below.mono b0.size))).mono hB)
          go_wp2
          go_roundw
          case rel => exact ⟨k + 1, by omega, by go_num, ⟨_, rfl, Lib.hid (by rw [hsu.out, ← Bool.and_assoc, ← hok.out, Bool.true_and])⟩, hbx⟩
          case measure => simp [intOf]; omega
        | false =>
          go_wp2
          refine wp_region_inv (by kernel_rfl) (by kernel_rfl) ?_
          repeat (go_big_quiet_step (fail))
          refine wpQuiet_nil ?_
          intro _ hw'
          obtain ⟨x, rfl⟩ := hw'
          have hbx := hbel.trans (((b0.trans (x.below.mono b0.size))).mono hB)
          go_wp2
          go_roundw
          case rel => exact ⟨k + 1, by omega, by go_num, ⟨_, rfl, Lib.hid (by rw [hsu.out, ← Bool.and_assoc, ← hok.out, Bool.false_and])⟩, hbx⟩
          case measure => simp [intOf]; omega
      · obtain rfl : k = n' := by omega
        have hfin := Lib.hid (show ok = vcovers l l' by
          rw [hok.out, List.take_of_length_le (by rw [hlen.out]; exact Nat.le_refl _)]
          unfold vcovers
          rw [← hv.out])
        go_wp2
        go_ret
        exact ⟨retB hfin.out, hb12.trans (hbel.mono hb12.size)⟩
end Go.Proofs.YtnaclpfcldoebaaGreatDoor
end

section
namespace Go.Proofs.YtnaclpfcldoebaaGreatDoor
open Go.RowKit As
def slLen : Value → Nat
  | .slice _ n _ => n
  | _ => 0
theorem Ents.tail {w : World} {B c : Nat} {A : Option Addr} {x : Ent} {l : List Ent} (h : Ents w B A (x :: l).length (x :: l)) (hc : (x :: l).length ≤ c) : Ents w B (if c = 1 then A else A.map (·.add (1 * 2))) l.length l := by
  refine ⟨⟨flat_len entCells 2 entCells_len l, fun hn => ?_⟩, fun y hy => h.2 y (List.mem_cons_of_mem _ hy)⟩
  simp only [List.length_cons] at hc
  rw [if_neg (by omega)]
  obtain ⟨b, o, rfl, hb, hx⟩ := h.1.2 (by simp)
  refine ⟨b, o + 2, by simp [Addr.add], hb, fun j u hu => ?_⟩
  have := hx (j + 2) u (by simp only [List.flatMap_cons]; rw [List.getElem?_append_right (by simp [entCells])]; simpa [entCells] using hu)
  rw [show o + 2 + j = o + (j + 2) by omega]
  exact this
theorem Ents.head {w : World} {B : Nat} {A : Option Addr} {r t : Int} {l : List Ent} (h : Ents w B A ((r, t) :: l).length ((r, t) :: l)) :
    ∃ b o, A = some ⟨b, o, none⟩ ∧ b < B ∧ w.cell? ⟨b, o, none⟩ = some (.int .i64 r) ∧ w.cell? ⟨b, o + 1, none⟩ = some (.int .i64 t) := by
  obtain ⟨b, o, r', t', e, hb, hx, _, c0, c1⟩ := h.at_ (k := 0) (by simp)
  simp at hx
  obtain ⟨rfl, rfl⟩ := hx
  exact ⟨b, o, e, hb, by simpa using c0, by simpa using c1⟩
theorem run_tail (A : Option Addr) (c n : Nat) (h : 1 ≤ n) (w : World) : (Instr.slice 22 (.slice A n c) (some (.int .i64 1)) none none).run Tryz.prog w = .ok (.slice (if c = 1 then A else A.map (·.add (1 * 2))) (n - 1) (c - 1)) w := by
  rw [run_slice_l w _ A n c (by kernel_rfl) .i64 1 (by omega) (by omega), show (sizeOf (Tryz.prog.elem 22)).run Tryz.prog w = .ok 2 w by kernel_rfl]
  rfl
/-- As it stands in Join's loop. -/
structure JRel (w : World) (l l' : List Ent) (va vb vo : Value) (A1 A2 : Option Addr) (c1 c2 : Nat) (a b o : List Ent) (wr : World) : Prop where
  ea : va = .slice A1 a.length c1
  eb : vb = .slice A2 b.length c2
  la : a.length ≤ c1
  lb : b.length ≤ c2
  sa : Ents w w.heap.size A1 a.length a
  sb : Ents w w.heap.size A2 b.length b
  m : vmerge l l' = o ++ vmerge a b
  n : o.length + a.length + b.length ≤ 32
  own : wr.ownsRow w.heap.size 62 2 vo o.length (entV o)
  bel : Below w.heap.size w wr
end Go.Proofs.YtnaclpfcldoebaaGreatDoor
end

section
namespace Go.Proofs.YtnaclpfcldoebaaGreatDoor
set_option linter.unusedSimpArgs false
set_option linter.unusedVariables false
open Go.RowKit As
theorem jx0 (a b : Value) (w : World) : (Instr.index 124 (.agg #[a, b]) (.int .i64 0)).run Tryz.prog w = .ok a w := by kernel_rfl
theorem jx1 (a b : Value) (w : World) : (Instr.index 124 (.agg #[a, b]) (.int .i64 1)).run Tryz.prog w = .ok b w := by kernel_rfl
/-- Two numbers of a run: how far they have been read. -/
def NumRel (s : ByteArray) (p : Nat) (w : World) (g : Nat) (pv iv : Value) (wx : World) : Prop :=
  Below w.heap.size w wx ∧ (
    (iv = .int .i64 0 ∧ pv = .int .i64 (p : Int) ∧ Two wx g 0 0) ∨
    (iv = .int .i64 1 ∧ ∃ n k : Nat, vat s p 200 = (n, k, 0) ∧ (n : Int) ≤ 200 ∧ p + k ≤ s.size ∧ pv = .int .i64 ((p + k : Nat) : Int) ∧ Two wx g n 0) ∨
    (iv = .int .i64 2 ∧ ∃ n k m j : Nat, vat s p 200 = (n, k, 0) ∧ (n : Int) ≤ 200 ∧ vat s (p + k) 16 = (m, j, 0) ∧ (m : Int) ≤ 16 ∧ p + k + j ≤ s.size ∧ pv = .int .i64 ((p + k + j : Nat) : Int) ∧ Two wx g n m))
theorem Two.set0 {w : World} {g : Nat} {a b : Int} (h : Two w g a b) (x : Int) : Two (w.setCell ⟨g, 0, none⟩ (.int .i64 x)) g x b :=
  ⟨World.cell?_setCell_same _ _ _ h.c0, res_ne h.c1 (by omega), by simpa using h.f0, by simpa using h.f1⟩
theorem Two.set1 {w : World} {g : Nat} {a b : Int} (h : Two w g a b) (x : Int) : Two (w.setCell ⟨g, 1, none⟩ (.int .i64 x)) g a x :=
  ⟨res_ne h.c0 (by omega), World.cell?_setCell_same _ _ _ h.c1, by simpa using h.f0, by simpa using h.f1⟩
/-- The replica of the run behind a gap, as vector.Read has it. -/
theorem gap_next {r g i : Nat} (hr : r ≤ 10000) (hg : (g : Int) ≤ 200) (hi : decide (r < 1) = decide (i = 0)) :
    ∃ R : Nat, (r ≤ R ∧ R ≤ r + 201) ∧ (r : Int) + (g : Int) + (if decide (r < 1) then 0 else 1) = (R : Int) ∧ IntKind.i64.wrap ((r : Int) + (g : Int)) = (r : Int) + (g : Int) ∧
      (decide ((0 : Int) < (i : Int)) = true ∧ decide (0 < i) = true ∧ IntKind.i64.wrap ((r : Int) + (g : Int) + 1) = (R : Int) ∨
       decide ((0 : Int) < (i : Int)) = false ∧ decide (0 < i) = false ∧ (r : Int) + (g : Int) = (R : Int)) := by
  have w0 : IntKind.i64.wrap ((r : Int) + (g : Int)) = (r : Int) + (g : Int) := IntWalk.i64_in _ (by omega)
  by_cases h : i = 0
  · rw [decide_eq_true h] at hi
    refine ⟨r + g, ⟨by omega, by omega⟩, by rw [hi, if_pos rfl]; omega, w0, .inr ⟨by simp only [decide_eq_false_iff_not]; omega, by simp only [decide_eq_false_iff_not]; omega, by omega⟩⟩
  · rw [decide_eq_false h] at hi
    refine ⟨r + g + 1, ⟨by omega, by omega⟩, by rw [hi, if_neg (by simp)]; omega, w0, .inl ⟨by simp only [decide_eq_true_eq]; omega, by simp only [decide_eq_true_eq]; omega, ?_⟩⟩
    rw [show (r : Int) + (g : Int) + 1 = ((r + g + 1 : Nat) : Int) by omega]
    exact IntWalk.i64_in _ (by omega)
set_option maxHeartbeats 4000000 in
set_option maxRecDepth 100000 in
theorem vecread_any (s : ByteArray) (w : World) (hs : s.size ≤ 1000000) (hg : Handle w) :
    Calls Tryz.prog 43 #[.string s] w fun e w' => ∃ v, e = .returned (.tuple #[v, .int .i64 ((vread s).2.1 : Int), errV (vread s).2.2]) ∧ w'.ownsRow w.heap.size 62 2 v (vread s).1.length (entV (vread s).1) ∧ Below w.heap.size w w' := by
  obtain ⟨i0, hi, hz0, hz1, hz2⟩ := info_parts entInfo
  obtain ⟨X, hX⟩ : ∃ X, X = vrall s := ⟨_, rfl⟩
  have HX := Lib.hid hX.symm
  clear hX
  obtain ⟨c, k, e, ha, hx⟩ := vat_of s 0 16
  have hsm : s.size ≤ maxLen := by unfold maxLen; omega
  have hv0 := Lib.hid (show vint s.data.toList 16 = (c, k, e) by rw [← ha]; unfold vat; rw [show s.extract 0 s.size = s from ByteArray.extract_zero_size])
  go_enter Tryz.func43, Tryz.ntmps43
  go_wp2_with fail
  refine (vint_any s 16 _ hsm (by omega)).mono ?_
  rintro r w' ⟨rfl, rfl⟩
  rw [hv0.out]
  simp only
  rcases hx with ⟨rfl, x1, x2, x3, x4⟩ | ⟨he, rfl, rfl⟩
  · have HV := Lib.hid (HX.out.symm.trans (vrall_go ha))
    rw [errV_zero]
    have hc16 : c ≤ 16 := by omega
    have hk : k ≤ s.size := by omega
    clear ha x1 x2 x3 x4
    go_wp2
    go_loopw [6, 8, 9, 31] (fun pv ov rv iv wr => ∃ (d c' r p : Nat) (acc : List Ent), iv = .int .i64 d ∧ rv = .int .i64 r ∧ pv = .int .i64 p ∧ d + c' = c ∧ Hid (decide (r < 1) = decide (d = 0)) ∧ r ≤ 220 * (16 - c') ∧ p ≤ s.size ∧ Hid (X = vruns s c' (decide (r < 1)) (r : Int) p acc) ∧ (acc.length ≤ r ∧ Hid (AFits acc)) ∧ wr.ownsRow w.heap.size 62 2 ov acc.length (entV acc) ∧ Below w.heap.size w wr) (fun _ _ _ iv _ => c - (intOf iv).toNat)
    case atStart => exact ⟨0, c, 0, k, [], rfl, rfl, rfl, by omega, Lib.hid rfl, by omega, hk, HV, ⟨Nat.le_refl _, Lib.hid AFits.nil⟩, World.ownsRow_nil _ _ _ _, Below.refl _ _⟩
    case round =>
      obtain ⟨d, c', r, p, acc, rfl, rfl, rfl, hdc, HD, hr, hp, HR, ⟨hacc, HF⟩, hT, hbel⟩ := hrel
      clear HV
      have hB := hbel.size
      have hrr := small_r hr
      by_cases h0 : 1 ≤ c'
      · obtain ⟨c2, hc2⟩ : ∃ c2, c' = c2 + 1 := ⟨c' - 1, by omega⟩
        have HR' := Lib.hid (show X = vruns s (c2 + 1) (decide (r < 1)) (r : Int) p acc by rw [← hc2]; exact HR.out)
        have hr' : r ≤ 220 * (16 - (c2 + 1)) := by omega
        have hcc : c2 + 1 ≤ 16 := by omega
        have hdc' : d < c := by omega
        have hdc2 : (d + 1) + c2 = c := by omega
        have t0 : decide ((d : Int) < (c : Int)) = true := by simp only [decide_eq_true_eq]; omega
        have t0' : decide (d < c) = true := by simp only [decide_eq_true_eq]; omega
        have dw : IntKind.i64.wrap ((d : Int) + 1) = ((d + 1 : Nat) : Int) := IntWalk.i64_in _ (by omega)
        clear hc2 HR h0 hr hdc
        have hTw := Two.new wr 0 0 124
        have bA := below1 wr (.cells #[.int .i64 0, .int .i64 0] 124)
        go_wp2
        generalize hG : wr.heap.size = g at *
        have hgB : w.heap.size ≤ g := hB
        have hi0 := jx0
        have hi1 := jx1
        go_loopw [6, 35] (fun pv iv wx => NumRel s p wr g pv iv wx) (fun _ iv _ => 2 - (intOf iv).toNat)
        case atStart => exact ⟨by rw [hG]; exact bA, .inl ⟨rfl, rfl, hTw⟩⟩
        case round =>
          obtain ⟨hbx, hcase⟩ := hrel
          clear bA hTw
          have bW := hbel.trans (hbx.mono (by rw [hG]; exact hgB))
          rcases hcase with ⟨rfl, rfl, hC⟩ | ⟨rfl, n, k, ha, hn, hk, rfl, hC⟩ | ⟨rfl, n, k, m, j, ha, hn, hb, hm, hk, rfl, hC⟩
          · obtain ⟨n, k, e, ha, hx⟩ := vat_of s p 200
            have hl : (s.extract p s.size).size ≤ maxLen := by rw [ByteArray.size_extract]; unfold maxLen; omega
            have hv := Lib.hid (show vint (s.extract p s.size).data.toList 200 = (n, k, e) from ha)
            have q1 : (0 : Int) ≤ (p : Int) := by omega
            have q2 : (p : Int) ≤ (s.size : Int) := by omega
            have HA := Lib.hid ha
            clear ha
            go_wp2_with fail
            refine (vint_any (s.extract p s.size) 200 _ hl (by omega)).mono ?_
            rintro r w' ⟨rfl, rfl⟩
            rw [hv.out]
            simp only
            rcases hx with ⟨rfl, x1, x2, x3, x4⟩ | ⟨he, rfl, rfl⟩
            · rw [errV_zero]
              have w1 : IntKind.i64.wrap ((p : Int) + (k : Int)) = ((p + k : Nat) : Int) := IntWalk.i64_in _ (by omega)
              have hCn := hC.set0 (n : Int)
              have bn := hbx.setCell (p := ⟨g, 0, none⟩) (by rw [hG]; exact Nat.le_refl _) (.int .i64 (n : Int))
              obtain ⟨k0, k1, f0, f1⟩ := hC
              go_wp2
              go_roundw
              case rel => exact ⟨bn, .inr (.inl ⟨rfl, n, k, HA.out, x1, x4, by go_num, hCn⟩)⟩
              case measure => simp [intOf]
            · have HV := Lib.hid (vread_bad HX.out (vruns_gap' HR'.out HA.out he) he)
              have HE := Lib.hid he
              rw [errV_of he]
              clear he
              go_wp2
              go_ret3
              refine ⟨_, by rw [HV.out, errV_of HE.out]; rfl, ?_, bW⟩
              rw [HV.out]; exact World.ownsRow_nil _ _ _ _
          · obtain ⟨m, j, e, hb, hx⟩ := vat_of s (p + k) 16
            have hl : (s.extract (p + k) s.size).size ≤ maxLen := by rw [ByteArray.size_extract]; unfold maxLen; omega
            have hv := Lib.hid (show vint (s.extract (p + k) s.size).data.toList 16 = (m, j, e) from hb)
            have q1 : (0 : Int) ≤ ((p + k : Nat) : Int) := by omega
            have q2 : ((p + k : Nat) : Int) ≤ (s.size : Int) := by omega
            have HA := Lib.hid ha
            have HB := Lib.hid hb
            clear ha hb
            obtain ⟨P, hP⟩ : ∃ P, P = p + k := ⟨_, rfl⟩
            rw [← hP] at hl hv q1 q2 HB hx hk ⊢
            have HP := Lib.hid hP
            clear hP
            go_wp2_with fail
            refine (vint_any (s.extract P s.size) 16 _ hl (by omega)).mono ?_
            rintro r w' ⟨rfl, rfl⟩
            rw [hv.out]
            simp only
            rcases hx with ⟨rfl, x1, x2, x3, x4⟩ | ⟨he, rfl, rfl⟩
            · rw [errV_zero]
              have w1 : IntKind.i64.wrap ((P : Int) + (j : Int)) = ((P + j : Nat) : Int) := IntWalk.i64_in _ (by omega)
              have hCn := hC.set1 (m : Int)
              have bn := hbx.setCell (p := ⟨g, 1, none⟩) (by rw [hG]; exact Nat.le_refl _) (.int .i64 (m : Int))
              obtain ⟨k0, k1, f0, f1⟩ := hC
              go_wp2
              go_roundw
              case rel => exact ⟨bn, .inr (.inr ⟨rfl, n, k, m, j, HA.out, hn, by rw [← HP.out]; exact HB.out, x1, by rw [← HP.out]; exact x4, by rw [← HP.out]; go_num, hCn⟩)⟩
              case measure => simp [intOf]
            · have HV := Lib.hid (vread_bad HX.out (vruns_len' HR'.out HA.out (show vat s (p + k) 16 = (0, 0, e) by rw [← HP.out]; exact HB.out) he) he)
              have HE := Lib.hid he
              rw [errV_of he]
              clear he
              go_wp2
              go_ret3
              refine ⟨_, by rw [HV.out, errV_of HE.out]; rfl, ?_, bW⟩
              rw [HV.out]; exact World.ownsRow_nil _ _ _ _
          · obtain ⟨x, hx, hbad, hgo⟩ := vruns_go HR'.out ha hb
            obtain ⟨R, ⟨R0, R1⟩, hif, ww, ht⟩ := gap_next hrr hn HD.out
            rw [hif] at hx
            have HXX := Lib.hid hx
            have HBD := Lib.hid hbad
            have HGO := Lib.hid hgo
            have hT2 := own_below hT hbx
            have hRm := run_bound hr' hcc R1 hm
            have hm16 : m ≤ 16 := by omega
            have hma : acc.length ≤ R := Nat.le_trans hacc R0
            have wm : IntKind.i64.wrap ((m : Int) + 1) = ((m + 1 : Nat) : Int) := IntWalk.i64_in _ (by omega)
            obtain ⟨k0, k1, f0, f1⟩ := hC
            clear hx hbad hgo ha hb hif hbx hbel hT HR' hn hm hi0 hi1
            obtain ⟨P, hP⟩ : ∃ P, P = p + k + j := ⟨_, rfl⟩
            rw [← hP] at hk HXX ⊢
            clear hP
            obtain ⟨M, hM⟩ : ∃ M, M = m + 1 := ⟨_, rfl⟩
            rw [← hM] at wm HXX hRm
            have hM17 : M ≤ 17 := by omega
            have hM1 : 1 ≤ M := by omega
            clear hM
            rcases ht with ⟨t1, t1', t2⟩ | ⟨t1, t1', t2⟩
            all_goals
              go_wp2
              go_loopw [6, 8, 9, 69] (fun pv ov rv iv wy => ∃ (e2 c3 R2 p2 : Nat) (acc2 : List Ent), iv = .int .i64 e2 ∧ rv = .int .i64 R2 ∧ pv = .int .i64 p2 ∧ e2 + c3 = M ∧ R2 + c3 = R + M ∧ p2 ≤ s.size ∧ Hid (x = vtimes s c3 (R2 : Int) p2 acc2) ∧ (acc2.length ≤ R2 ∧ Hid (AFits acc2)) ∧ wy.ownsRow w.heap.size 62 2 ov acc2.length (entV acc2) ∧ Below w.heap.size w wy) (fun _ _ _ iv _ => M - (intOf iv).toNat)
              case atStart => exact ⟨0, M, R, P, acc, rfl, rfl, rfl, by omega, rfl, hk, HXX, ⟨hma, HF⟩, hT2, bW⟩
              case round =>
                obtain ⟨e2, c3, R2, p2, acc2, rfl, rfl, rfl, hec, hRc, hp2, HT, ⟨hacc2, HF2⟩, hT3, hb3⟩ := hrel
                clear hT2 bW t1 t1' t2 ww k0 k1 f0 f1
                have hB3 := hb3.size
                have hR2 : R2 ≤ 10000 := by omega
                by_cases h1 : 1 ≤ c3
                · obtain ⟨c4, hc4⟩ : ∃ c4, c3 = c4 + 1 := ⟨c3 - 1, by omega⟩
                  have HT' := Lib.hid (show x = vtimes s (c4 + 1) (R2 : Int) p2 acc2 by rw [← hc4]; exact HT.out)
                  have hec' : e2 < M := by omega
                  have hec4 : (e2 + 1) + c4 = M := by omega
                  have hRc4 : (R2 + 1) + c4 = R + M := by omega
                  have u0 : decide ((e2 : Int) < (M : Int)) = true := by simp only [decide_eq_true_eq]; omega
                  have u0' : decide (e2 < M) = true := by simp only [decide_eq_true_eq]; omega
                  have uw : IntKind.i64.wrap ((e2 : Int) + 1) = ((e2 + 1 : Nat) : Int) := IntWalk.i64_in _ (by omega)
                  have ur : IntKind.i64.wrap ((R2 : Int) + 1) = ((R2 + 1 : Nat) : Int) := IntWalk.i64_in _ (by omega)
                  obtain ⟨tm, k4, e, ht, hx⟩ := vat_of s p2 1099511627776
                  have hl : (s.extract p2 s.size).size ≤ maxLen := by rw [ByteArray.size_extract]; unfold maxLen; omega
                  have hv := Lib.hid (show vint (s.extract p2 s.size).data.toList 1099511627776 = (tm, k4, e) from ht)
                  have q1 : (0 : Int) ≤ (p2 : Int) := by omega
                  have q2 : (p2 : Int) ≤ (s.size : Int) := by omega
                  have HTT := Lib.hid ht
                  clear ht hc4 HT h1 hec hRc
                  go_wp2_with fail
                  refine (vint_any (s.extract p2 s.size) 1099511627776 _ hl (by omega)).mono ?_
                  rintro r w' ⟨rfl, rfl⟩
                  rw [hv.out]
                  simp only
                  rcases hx with ⟨rfl, x1, x2, x3, x4⟩ | ⟨he, rfl, rfl⟩
                  · rw [errV_zero]
                    have HN := Lib.hid (vtimes_next' HT'.out HTT.out)
                    have up : IntKind.i64.wrap ((p2 : Int) + (k4 : Int)) = ((p2 + k4 : Nat) : Int) := IntWalk.i64_in _ (by omega)
                    have hlen : acc2.length ≤ 10000 := Nat.le_trans hacc2 hR2
                    go_wp2_with (first
                      | (at_builtin; refine wpList_append_own _ rfl (.tmp 82) (.tmp 86) 22 rfl w.heap.size 62 i0 (.agg #[.int .i64 0, .int .i64 0]) 2 16 Tryz.underlying22 hi hz0 hz1 hz2 rfl (by decide) u8 acc2.length (entV acc2) rfl (hT3.alloc _) ⟨wr.heap.size, 0, none⟩ 1 1 [.int .i64 (R2 : Int), .int .i64 (tm : Int)] rfl rfl (cells_ent _ _ _ _) (by intro u hu; simp at hu; rcases hu with rfl | rfl <;> rfl) (by unfold maxLen; omega) (by omega) (by simp; omega) ?_; intro v1 w6 hT6 hg6 _; have b6 := grown_own (hb3.alloc hB3 _) hg6 (by simp; omega) (hT3.alloc _); have hT7 := entV_snoc (x := ((R2 : Int), (tm : Int))) rfl hT6))
                    go_roundw
                    case rel => exact ⟨e2 + 1, c4, R2 + 1, p2 + k4, acc2 ++ [((R2 : Int), (tm : Int))], by go_num, by go_num, by go_num, hec4, hRc4, x4, HN, ⟨by rw [List.length_append]; exact Nat.succ_le_succ hacc2, Lib.hid (HF2.out.snoc hR2 x1)⟩, hT7, b6⟩
                    case measure => simp [intOf]; omega
                  · have HXB := Lib.hid (vtimes_bad' HT'.out HTT.out he)
                    have HV := Lib.hid (vread_bad HX.out (show X = ([], 0, e, 0) by have h5 := HBD.out (by rw [HXB.out]; exact he); rw [HXB.out] at h5; exact h5) he)
                    have HE := Lib.hid he
                    rw [errV_of he]
                    clear he
                    go_wp2
                    go_ret3
                    refine ⟨_, by rw [HV.out, errV_of HE.out]; rfl, ?_, hb3⟩
                    rw [HV.out]; exact World.ownsRow_nil _ _ _ _
                · have hc30 : c3 = 0 := by omega
                  have HE0 := Lib.hid (show x = (acc2, p2, 0, (R2 : Int)) by rw [HT.out, hc30]; rfl)
                  have hdec : decide (R2 < 1) = false := by simp only [decide_eq_false_iff_not]; omega
                  have HR2 := Lib.hid (show X = vruns s c2 (decide (R2 < 1)) (R2 : Int) p2 acc2 by
                    have h5 := HGO.out (by rw [HE0.out])
                    rw [HE0.out] at h5
                    rw [hdec]; exact h5)
                  have hb220 : R2 ≤ 220 * (16 - c2) := by omega
                  have u0 : decide ((e2 : Int) < (M : Int)) = false := by simp only [decide_eq_false_iff_not]; omega
                  have u0' : decide (e2 < M) = false := by simp only [decide_eq_false_iff_not]; omega
                  have HD2 := Lib.hid (show decide (R2 < 1) = decide (d + 1 = 0) by rw [hdec, decide_eq_false]; omega)
                  clear hc30 hdec h1 hRc hec
                  go_wp2
                  go_roundw
                  case rel => exact ⟨d + 1, c2, R2, p2, acc2, by go_num, rfl, rfl, hdc2, HD2, hb220, hp2, HR2, ⟨hacc2, HF2⟩, hT3, hb3⟩
                  case measure => simp [intOf]; omega
      · have hc0 : c' = 0 := by omega
        have HE0 := Lib.hid (show X = (acc, p, 0, (r : Int)) by rw [HR.out, hc0]; rfl)
        have t0 : decide ((d : Int) < (c : Int)) = false := by simp only [decide_eq_false_iff_not]; omega
        have t0' : decide (d < c) = false := by simp only [decide_eq_false_iff_not]; omega
        have hlen : acc.length ≤ maxLen := by unfold maxLen; omega
        obtain ⟨A9, c9, rfl⟩ := own_form hT
        have hE : Ents wr wr.heap.size A9 acc.length acc := ⟨Sl.of_own hT, HF.out⟩
        have hg1 := hg.below hbel
        clear hc0 h0 hr HR hdc
        go_wp2_with fail
        refine (vright_any wr acc.length c9 A9 acc hE hlen).mono ?_
        rintro e w1 ⟨v1, rfl, hv1, hb1⟩
        have hb01 := hbel.trans (hb1.mono hB)
        have hT1 := own_below hT hb1
        by_cases h1 : (vright acc).1 = 0
        · have HV := Lib.hid (vread_good HX.out HE0.out h1)
          obtain rfl := err_nil hv1 h1
          clear hv1 h1
          go_wp2
          go_ret3
          refine ⟨_, by rw [HV.out]; rfl, ?_, hb01⟩
          rw [HV.out]; exact hT1
        · have HV := Lib.hid (vread_false HX.out HE0.out h1)
          obtain ⟨ty, u, rfl⟩ := err_some hv1 h1
          have HE := Lib.hid h1
          have HVV := Lib.hid hv1
          clear h1 hv1
          go_wp2_with fail
          refine (tell_any HVV.out (hg.below hb01)).mono ?_
          rintro e w2 ⟨rfl, hb2⟩
          go_wp2
          go_ret3
          refine ⟨_, by rw [HV.out, errV_of HE.out]; rfl, ?_, hb01.trans (hb2.mono hb01.size)⟩
          rw [HV.out]; exact World.ownsRow_nil _ _ _ _
  · have HV := Lib.hid (vread_bad HX.out (HX.out.symm.trans (vrall_bad ha he)) he)
    have HE := Lib.hid he
    rw [errV_of he]
    clear he ha
    go_wp2
    go_ret3
    refine ⟨_, by rw [HV.out, errV_of HE.out]; rfl, ?_, Below.refl _ _⟩
    rw [HV.out]; exact World.ownsRow_nil _ _ _ _
end Go.Proofs.YtnaclpfcldoebaaGreatDoor
end
