/- vector.Covers and Covers of the reference say what vcovers says. -/
import Derived.Test.YtkejlnjnoiidnaaGreatDoorZ5
import Derived.Test.YtkejlnjnoiidnaaGreatDoorZ3
import Derived.Test.YtkejlnjnoiidnaaGreatDoorZ1
import Derived.Test.YtkejlnjnoiidnaaGreatDoorZ2
import Derived.Deep.QuietTactic
import Derived.BigQuiet
import Derived.Deep.RegionWith
set_option linter.unusedSimpArgs false
set_option linter.unusedVariables false
section
namespace Go.Proofs.YtkejlnjnoiidnaaGreatDoor
open Go.RowKit As
theorem zhk {w : World} {v : Value} {f : Int × Int} (h : zck w v f) (h0 : f.1 = 0) : v = .nilIface := by
 obtain ⟨e, p⟩ := f;simp only at h0;subst h0;exact (zbo.zero h).1
theorem zgo {w : World} {v : Value} {f : Int × Int} (h : zck w v f) (h0 : f.1 ≠ 0) : ∃ t u, v = .iface t u := by
 obtain ⟨e, p⟩ := f;unfold zck at h;cases h with
 | none => exact absurd rfl h0
 | bare _ _ => exact ⟨_, _, rfl⟩
 | at_ _ _ _ _ _ _ _ => exact ⟨_, _, rfl⟩
theorem ygk {a b : List Ent} (h : ∀ (j : Nat) x, b[j]? = some x → x.2 ≤ vof a x.1) : vcov a b = true := by
 unfold vcov;rw [decide_eq_true];intro x hx;obtain ⟨j, hj, rfl⟩ := List.mem_iff_getElem.1 hx;exact h j _ (List.getElem?_eq_getElem hj)
theorem yly {a b : List Ent} {j : Nat} {x : Ent} (hx : b[j]? = some x) (h : ¬ x.2 ≤ vof a x.1) : vcov a b = false := by
 unfold vcov;rw [decide_eq_false];intro h2;exact h (h2 x (List.mem_of_getElem? hx))
set_option maxHeartbeats 2000000 in
theorem zky (w : World) (n c n' c' : Nat) (A A' : Option Addr) (l l' : List Ent) (hl : Ents w w.heap.size A n l) (hl' : Ents w w.heap.size A' n' l') (hn : n ≤ maxLen) (hn' : n' ≤ maxLen) :
  Calls Tryz.prog 80 #[.slice A n c, .slice A' n' c'] w fun e w' => e = .returned (.bool (zcx l l')) ∧ Below w.heap.size w w' := by
 have hlen := Lib.hid hl'.len;by_cases h1 : (zaf l).1 = 0
 ·by_cases h2 : (zaf l').1 = 0
  ·have hr := Lib.hid (show zcx l l' = vcov l l' by unfold zcx; rw [decide_eq_true h1, decide_eq_true h2]; rfl);go_enter Tryz.func80, Tryz.ntmps80;go_wp2_with fail;refine (zcn w n c A l hl hn).mono ?_;rintro e w1 ⟨v1, rfl, hv1, hb1⟩;obtain rfl := zhk hv1 h1;have hl1 := hl.grow hb1;have hl1' := hl'.grow hb1;go_wp2_with fail;refine (zcn w1 n' c' A' l' hl1' hn').mono ?_;rintro e w2 ⟨v2, rfl, hv2, hb2⟩;obtain rfl := zhk hv2 h2;have hl2 := hl1.grow hb2;have hl2' := hl1'.grow hb2;have hb12 := hb1.trans (hb2.mono hb1.size);clear hv1 hv2 hl hl' hl1 hl1' h1 h2;unfold maxLen at hn';go_wp2;go_loopw [6, 17] (fun _ i wr => ∃ k : Nat, k ≤ n' ∧ i = .int .i64 k ∧ Hid (∀ (j : Nat) x, j < k → l'[j]? = some x → x.2 ≤ vof l x.1) ∧ Below w2.heap.size w2 wr) (fun _ i _ => n' - (intOf i).toNat)
   case atStart => exact ⟨0, by omega, rfl, Lib.hid (fun j x hj => by omega), Below.refl _ _⟩
   case round =>
    obtain ⟨k, hk, rfl, hall, hbel⟩ := hrel;have hB := hbel.size;by_cases hlt : k < n'
    ·obtain ⟨b, o, r, t, rfl, hb, hx, hf, hc0, hc1⟩ := hl2'.at_ hlt;have c0 := (hbel.cell (p := ⟨b, o + k * 2, none⟩) (by simp; omega)).trans hc0;have c1 := (hbel.cell (p := ⟨b, o + k * 2 + 1, none⟩) (by simp; omega)).trans hc1;have hX := Lib.hid hx;have hlw := hl2.grow hbel;have b0 := zaa wr (.cells #[.int .i64 r, .int .i64 t] 79);clear hc0 hc1 hx hf;have k0 := Inv.cell (w := wr.alloc (.cells #[.int .i64 r, .int .i64 t] 79)) (a := ⟨wr.heap.size, 0, none⟩) (v := .int .i64 r) (by rw [World.cell?_alloc_new]; rfl);have k1 := Inv.cell (w := wr.alloc (.cells #[.int .i64 r, .int .i64 t] 79)) (a := ⟨wr.heap.size, 1, none⟩) (v := .int .i64 t) (by rw [World.cell?_alloc_new]; rfl);by_cases hge : t ≤ vof l r
     ·have hd : decide (vof l r < t) = false := decide_eq_false (by omega);have hnx := Lib.hid (show ∀ (j : Nat) x, j < k + 1 → l'[j]? = some x → x.2 ≤ vof l x.1 by
       intro j x hj hjx;rcases Nat.lt_or_ge j k with h | h
       ·exact hall.out j x h hjx
       ·obtain rfl : j = k := by omega
        rw [hX.out] at hjx;injection hjx with hjx
        subst hjx;exact hge)
      have hG := Lib.hid hge;clear hge;go_wp2;refine zbg (by kernel_rfl) (by kernel_rfl) ?_;repeat (go_big_quiet_step ((first
       | (go_at_call 122; exact Calls.inv_of (zoq _ n c A l r (hlw.inv b0 _) hn)))))
      refine wpQuiet_nil ?_;intro _ hw';obtain ⟨x, rfl⟩ := hw';have hbx := hbel.trans (((b0.trans (x.below.mono b0.size))).mono hB);go_wp2;go_roundw
      case rel => exact ⟨k + 1, by omega, by go_num, hnx, hbx⟩
      case measure => simp [intOf]; omega
     ·have hd : decide (vof l r < t) = true := decide_eq_true (by omega);have hno := Lib.hid (yly hX.out hge);clear hge;go_wp2;refine zbg (by kernel_rfl) (by kernel_rfl) ?_;repeat (go_big_quiet_step ((first
       | (go_at_call 122; exact Calls.inv_of (zoq _ n c A l r (hlw.inv b0 _) hn)))))
      refine wpQuiet_nil ?_;intro _ hw';obtain ⟨x, rfl⟩ := hw';have hbx := hbel.trans (((b0.trans (x.below.mono b0.size))).mono hB);go_wp2;go_ret;exact ⟨retB (by rw [hr.out, hno.out]), hb12.trans (hbx.mono hb12.size)⟩
    ·obtain rfl : k = n' := by omega
     have hyes := Lib.hid (ygk (a := l) (b := l') fun j x hx => hall.out j x (by have := (List.getElem?_eq_some_iff.1 hx).1; rw [← hlen.out]; exact this) hx);go_wp2;go_ret;exact ⟨retB (by rw [hr.out, hyes.out]), hb12.trans (hbel.mono hb12.size)⟩
  ·have hr := Lib.hid (show zcx l l' = false by unfold zcx; rw [decide_eq_false h2]; simp);go_enter Tryz.func80, Tryz.ntmps80;go_wp2_with fail;refine (zcn w n c A l hl hn).mono ?_;rintro e w1 ⟨v1, rfl, hv1, hb1⟩;obtain rfl := zhk hv1 h1;have hl1' := hl'.grow hb1;go_wp2_with fail;refine (zcn w1 n' c' A' l' hl1' hn').mono ?_;rintro e w2 ⟨v2, rfl, hv2, hb2⟩;obtain ⟨t, u, rfl⟩ := zgo hv2 h2;have hb12 := hb1.trans (hb2.mono hb1.size);clear hv1 hv2;go_wp2;go_ret;exact ⟨retB (by rw [hr.out]), hb12⟩
 ·have hr := Lib.hid (show zcx l l' = false by unfold zcx; rw [decide_eq_false h1]; simp);go_enter Tryz.func80, Tryz.ntmps80;go_wp2_with fail;refine (zcn w n c A l hl hn).mono ?_;rintro e w1 ⟨v1, rfl, hv1, hb1⟩;obtain ⟨t, u, rfl⟩ := zgo hv1 h1;clear hv1;go_wp2;go_ret;exact ⟨retB (by rw [hr.out]), hb1⟩
theorem ztz {l l' : List Ent} {k : Nat} {r t : Int} (hx : l'[k]? = some (r, t)) : vcov l (l'.take (k + 1)) = (vcov l (l'.take k) && decide (t ≤ vof l r)) := by
 obtain ⟨h1, h2⟩ := List.getElem?_eq_some_iff.1 hx;unfold vcov;rw [List.take_succ_eq_append_getElem h1, h2, Bool.eq_iff_iff];simp only [decide_eq_true_eq, Bool.and_eq_true, List.mem_append, List.mem_singleton];constructor
 ·intro h;exact ⟨fun x hx => h x (.inl hx), h (r, t) (.inr rfl)⟩
 ·rintro ⟨h3, h4⟩ x (hx | rfl)
  ·exact h3 x hx
  ·exact h4
set_option maxHeartbeats 2000000 in
theorem zvs (w : World) (n c n' c' : Nat) (A A' : Option Addr) (l l' : List Ent) (hl : Ents w w.heap.size A n l) (hl' : Ents w w.heap.size A' n' l') (hn : n ≤ maxLen) (hn' : n' ≤ maxLen) :
  Calls Tryz.prog 71 #[.slice A n c, .slice A' n' c'] w fun e w' => e = .returned (.bool (zcx l l')) ∧ Below w.heap.size w w' := by
 have hlen := Lib.hid hl'.len;go_enter Tryz.func71, Tryz.ntmps71;go_wp2_with fail;refine (zeo w n c A l hl hn).mono ?_;rintro e w1 ⟨rfl, hb1⟩;have hl1' := hl'.grow hb1;unfold zba;go_wp2_with fail;refine (zcd (zaf l) w1).mono ?_;rintro e w2 ⟨rfl, hb2⟩;have hb12 := hb1.trans (hb2.mono hb1.size);have hl2' := hl1'.grow hb2;cases h1 : ((zaf l).1 == 0) with
 | true =>
  go_wp2_with fail;refine (zeo w2 n' c' A' l' hl2' hn').mono ?_;rintro e w3 ⟨rfl, hb3⟩;unfold zba;go_wp2_with fail;refine (zcd (zaf l') w3).mono ?_;rintro e w4 ⟨rfl, hb4⟩;have hb14 := (hb12.trans (hb3.mono hb12.size)).trans (hb4.mono (hb12.trans (hb3.mono hb12.size)).size);have hv : Hid (((zaf l').1 == 0) = (decide ((zaf l).1 = 0) && decide ((zaf l').1 = 0))) := Lib.hid (by
   have : (zaf l).1 = 0 := by simpa using h1
   rw [decide_eq_true this, Bool.true_and]; rfl)
  generalize hv0 : ((zaf l').1 == 0) = v0 at *;clear hv0 h1;clear hl1' hl2';have hlW := hl.grow hb14;have hlW' := hl'.grow hb14;unfold maxLen at hn';go_wp2;go_loopw [5, 7, 18] (fun v _ i wr => ∃ k : Nat, k ≤ n' ∧ i = .int .i64 k ∧ (∃ ok : Bool, v = .bool ok ∧ Hid (ok = (v0 && vcov l (l'.take k)))) ∧ Below w4.heap.size w4 wr) (fun _ _ i _ => n' - (intOf i).toNat)
  case atStart => exact ⟨0, by omega, rfl, ⟨_, rfl, Lib.hid (by simp [vcov])⟩, Below.refl _ _⟩
  case round =>
   obtain ⟨k, hk, rfl, ⟨ok, rfl, hok⟩, hbel⟩ := hrel;have hB := hbel.size;by_cases hlt : k < n'
   ·obtain ⟨b, o, r, t, rfl, hb', hx, hf, hc0, hc1⟩ := hlW'.at_ hlt;have c0 := (hbel.cell (p := ⟨b, o + k * 2, none⟩) (by simp; omega)).trans hc0;have c1 := (hbel.cell (p := ⟨b, o + k * 2 + 1, none⟩) (by simp; omega)).trans hc1;have hsu := Lib.hid (ztz (l := l) hx);have hlw := hlW.grow hbel;have b0 := zaa wr (.cells #[.int .i64 r, .int .i64 t] 79);clear hc0 hc1 hx hf;have k0 := Inv.cell (w := wr.alloc (.cells #[.int .i64 r, .int .i64 t] 79)) (a := ⟨wr.heap.size, 0, none⟩) (v := .int .i64 r) (by rw [World.cell?_alloc_new]; rfl);have k1 := Inv.cell (w := wr.alloc (.cells #[.int .i64 r, .int .i64 t] 79)) (a := ⟨wr.heap.size, 1, none⟩) (v := .int .i64 t) (by rw [World.cell?_alloc_new]; rfl);cases ok with
    | true =>
     go_wp2;refine zbg (by kernel_rfl) (by kernel_rfl) ?_;repeat (go_big_quiet_step ((first
      | (go_at_call 117; exact Calls.zic (zkv _ n c A l r (hlw.inv b0 _) hn)))))
     refine wpQuiet_nil ?_;intro _ hw';obtain ⟨x, rfl⟩ := hw';have hbx := hbel.trans (((b0.trans (x.below.mono b0.size))).mono hB);go_wp2;go_roundw
     case rel => exact ⟨k + 1, by omega, by go_num, ⟨_, rfl, Lib.hid (by rw [hsu.out, ← Bool.and_assoc, ← hok.out, Bool.true_and])⟩, hbx⟩
     case measure => simp [intOf]; omega
    | false =>
     go_wp2;refine zbg (by kernel_rfl) (by kernel_rfl) ?_;repeat (go_big_quiet_step (fail))
     refine wpQuiet_nil ?_;intro _ hw';obtain ⟨x, rfl⟩ := hw';have hbx := hbel.trans (((b0.trans (x.below.mono b0.size))).mono hB);go_wp2;go_roundw
     case rel => exact ⟨k + 1, by omega, by go_num, ⟨_, rfl, Lib.hid (by rw [hsu.out, ← Bool.and_assoc, ← hok.out, Bool.false_and])⟩, hbx⟩
     case measure => simp [intOf]; omega
   ·obtain rfl : k = n' := by omega
    have hfin := Lib.hid (show ok = zcx l l' by
     rw [hok.out, List.take_of_length_le (by rw [hlen.out]; exact Nat.le_refl _)];unfold zcx;rw [← hv.out])
    go_wp2;go_ret;exact ⟨retB hfin.out, hb14.trans (hbel.mono hb14.size)⟩
 | false =>
  have hv : Hid (false = (decide ((zaf l).1 = 0) && decide ((zaf l').1 = 0))) := Lib.hid (by
   have : ¬ (zaf l).1 = 0 := by simpa using h1
   rw [decide_eq_false this, Bool.false_and])
  clear h1 hl1' hl2';have hlW := hl.grow hb12;have hlW' := hl'.grow hb12;unfold maxLen at hn';go_wp2;go_loopw [5, 7, 18] (fun v _ i wr => ∃ k : Nat, k ≤ n' ∧ i = .int .i64 k ∧ (∃ ok : Bool, v = .bool ok ∧ Hid (ok = (false && vcov l (l'.take k)))) ∧ Below w2.heap.size w2 wr) (fun _ _ i _ => n' - (intOf i).toNat)
  case atStart => exact ⟨0, by omega, rfl, ⟨_, rfl, Lib.hid (by simp [vcov])⟩, Below.refl _ _⟩
  case round =>
   obtain ⟨k, hk, rfl, ⟨ok, rfl, hok⟩, hbel⟩ := hrel;have hB := hbel.size;by_cases hlt : k < n'
   ·obtain ⟨b, o, r, t, rfl, hb', hx, hf, hc0, hc1⟩ := hlW'.at_ hlt;have c0 := (hbel.cell (p := ⟨b, o + k * 2, none⟩) (by simp; omega)).trans hc0;have c1 := (hbel.cell (p := ⟨b, o + k * 2 + 1, none⟩) (by simp; omega)).trans hc1;have hsu := Lib.hid (ztz (l := l) hx);have hlw := hlW.grow hbel;have b0 := zaa wr (.cells #[.int .i64 r, .int .i64 t] 79);clear hc0 hc1 hx hf;have k0 := Inv.cell (w := wr.alloc (.cells #[.int .i64 r, .int .i64 t] 79)) (a := ⟨wr.heap.size, 0, none⟩) (v := .int .i64 r) (by rw [World.cell?_alloc_new]; rfl);have k1 := Inv.cell (w := wr.alloc (.cells #[.int .i64 r, .int .i64 t] 79)) (a := ⟨wr.heap.size, 1, none⟩) (v := .int .i64 t) (by rw [World.cell?_alloc_new]; rfl);cases ok with
    | true =>
     go_wp2;refine zbg (by kernel_rfl) (by kernel_rfl) ?_;repeat (go_big_quiet_step ((first
      | (go_at_call 117; exact Calls.zic (zkv _ n c A l r (hlw.inv b0 _) hn)))))
     refine wpQuiet_nil ?_;intro _ hw';obtain ⟨x, rfl⟩ := hw';have hbx := hbel.trans (((b0.trans (x.below.mono b0.size))).mono hB);go_wp2;go_roundw
     case rel => exact ⟨k + 1, by omega, by go_num, ⟨_, rfl, Lib.hid (by rw [hsu.out, ← Bool.and_assoc, ← hok.out, Bool.true_and])⟩, hbx⟩
     case measure => simp [intOf]; omega
    | false =>
     go_wp2;refine zbg (by kernel_rfl) (by kernel_rfl) ?_;repeat (go_big_quiet_step (fail))
     refine wpQuiet_nil ?_;intro _ hw';obtain ⟨x, rfl⟩ := hw';have hbx := hbel.trans (((b0.trans (x.below.mono b0.size))).mono hB);go_wp2;go_roundw
     case rel => exact ⟨k + 1, by omega, by go_num, ⟨_, rfl, Lib.hid (by rw [hsu.out, ← Bool.and_assoc, ← hok.out, Bool.false_and])⟩, hbx⟩
     case measure => simp [intOf]; omega
   ·obtain rfl : k = n' := by omega
    have hfin := Lib.hid (show ok = zcx l l' by
     rw [hok.out, List.take_of_length_le (by rw [hlen.out]; exact Nat.le_refl _)];unfold zcx;rw [← hv.out])
    go_wp2;go_ret;exact ⟨retB hfin.out, hb12.trans (hbel.mono hb12.size)⟩
end Go.Proofs.YtkejlnjnoiidnaaGreatDoor
end

section
namespace Go.Proofs.YtkejlnjnoiidnaaGreatDoor
theorem zcf (s : ByteArray) : s.toList.isEmpty = decide (s.size = 0) := by
 rw [ByteArray.toList_eq];by_cases h : s.size = 0
 ·rw [decide_eq_true h];have : s.data.toList = [] := by
   apply List.length_eq_zero_iff.1;simpa using h
  rw [this]; rfl
 ·rw [decide_eq_false h];rw [List.isEmpty_eq_false_iff];intro e;apply h;have := congrArg List.length e;simpa using this
end Go.Proofs.YtkejlnjnoiidnaaGreatDoor
end

section
namespace Go.Proofs.YtkejlnjnoiidnaaGreatDoor
open Go.RowKit As
def zac (k : Int) (i : Bool) (x y : Nat) (n : Int) : Int :=
 if k < 1 ∨ 4 < k then 1
 else if i = false then 2
 else if 40 < x ∨ 300 < y then 4
 else if (k ≠ 1 ∧ k ≠ 4 ∧ y ≠ 0) ∨ (k ≠ 3 ∧ k ≠ 4 ∧ n ≠ 0) then 3
 else if k = 3 ∧ (n < -1125899906842624 ∨ 1125899906842624 < n) ∨ k = 4 ∧ (n < 0 ∨ 1000 < n) then 2 else 0
theorem zdx (a b c f : Int) (d e : ByteArray) : zao (a, b, c, d, e, f) = zac c (zdd (a, b)) d.size e.size f := rfl
abbrev wrV (a b c : Int) (d e : ByteArray) (f : Int) : Value := .agg #[.int .i64 a, .int .i64 b, .int .i64 c, .string d, .string e, .int .i64 f]
abbrev wrO (a b c : Int) (d e : ByteArray) (f : Int) : Obj := .cells #[.int .i64 a, .int .i64 b, .int .i64 c, .string d, .string e, .int .i64 f] 53
structure WrAt (w : World) (B : Nat) (a b c : Int) (d e : ByteArray) (f : Int) : Prop where
 c0 : w.cell? ⟨B, 0, none⟩ = some (.int .i64 a)
 c1 : w.cell? ⟨B, 1, none⟩ = some (.int .i64 b)
 c2 : w.cell? ⟨B, 2, none⟩ = some (.int .i64 c)
 c3 : w.cell? ⟨B, 3, none⟩ = some (.string d)
 c4 : w.cell? ⟨B, 4, none⟩ = some (.string e)
 c5 : w.cell? ⟨B, 5, none⟩ = some (.int .i64 f)
theorem WrAt.new (w : World) (a b c : Int) (d e : ByteArray) (f : Int) : WrAt (w.alloc (wrO a b c d e f)) w.heap.size a b c d e f := by
 refine ⟨?_, ?_, ?_, ?_, ?_, ?_⟩ <;> (rw [World.cell?_alloc_new]; rfl)
theorem WrAt.drewN {w : World} {B : Nat} {a b c f : Int} {d e : ByteArray} (h : WrAt w B a b c d e f) (q : Nat) : WrAt (w.drewN q) B a b c d e f := ⟨h.c0, h.c1, h.c2, h.c3, h.c4, h.c5⟩
theorem WrAt.below {w w' : World} {B : Nat} {a b c f : Int} {d e : ByteArray} (h : WrAt w B a b c d e f) (hb : Below w.heap.size w w') : WrAt w' B a b c d e f :=
 ⟨(hb.cell (cell_lt h.c0)).trans h.c0, (hb.cell (cell_lt h.c1)).trans h.c1, (hb.cell (cell_lt h.c2)).trans h.c2, (hb.cell (cell_lt h.c3)).trans h.c3, (hb.cell (cell_lt h.c4)).trans h.c4, (hb.cell (cell_lt h.c5)).trans h.c5⟩
set_option maxHeartbeats 2000000 in
set_option maxRecDepth 100000 in
theorem yla (a b f : Int) (d e : ByteArray) (w : World) : Calls Tryz.prog 81 #[wrV a b (1) d e f] w fun r w' => r = .returned (errV (zao (a, b, 1, d, e, f))) ∧ Below w.heap.size w w' := by
 rw [zdx];have hW := WrAt.new w a b (1) d e f;cases hidv : zdd (a, b) with
 | false =>
  have hid := Lib.hid hidv;clear hidv;have hr := Lib.hid (show zac 1 false d.size e.size f = 2 by unfold zac; rw [if_neg (by omega), if_pos rfl]);go_enter Tryz.func81, Tryz.ntmps81;go_wp2_with fail;go_quiet (fail)
  go_wp2_with fail;refine (zat a b _).mono ?_;rintro r w1 ⟨rfl, hb1⟩;rw [hid.out];obtain ⟨c0, c1, c2, c3, c4, c5⟩ := (hW.drewN nq).below hb1;have hbl : Below w.heap.size w w1 := (below_drewN (zaa w _) nq).trans (hb1.mono (by simp));go_wp2;go_ret;exact ⟨by rw [hr.out]; rfl, hbl⟩
 | true =>
  have hid := Lib.hid hidv;clear hidv;by_cases h1 : 40 < d.size
  ·have hr := Lib.hid (show zac 1 true d.size e.size f = 4 by unfold zac; rw [if_neg (by omega), if_neg (by simp), if_pos (by omega)]);have s0 : decide (40 < d.size) = true := decide_eq_true (by omega);have t0 : decide (40 < (d.size : Int)) = true := decide_eq_true (by omega);clear h1;go_enter Tryz.func81, Tryz.ntmps81;go_wp2_with fail;go_quiet (fail)
   go_wp2_with fail;refine (zat a b _).mono ?_;rintro r w1 ⟨rfl, hb1⟩;rw [hid.out];obtain ⟨c0, c1, c2, c3, c4, c5⟩ := (hW.drewN nq).below hb1;have hbl : Below w.heap.size w w1 := (below_drewN (zaa w _) nq).trans (hb1.mono (by simp));go_wp2;go_ret;exact ⟨by rw [hr.out]; rfl, hbl⟩
  ·by_cases h2 : 300 < e.size
   ·have hr := Lib.hid (show zac 1 true d.size e.size f = 4 by unfold zac; rw [if_neg (by omega), if_neg (by simp), if_pos (by omega)]);have s0 : decide (40 < d.size) = false := decide_eq_false (by omega);have t0 : decide (40 < (d.size : Int)) = false := decide_eq_false (by omega);have s1 : decide (300 < e.size) = true := decide_eq_true (by omega);have t1 : decide (300 < (e.size : Int)) = true := decide_eq_true (by omega);clear h1 h2;go_enter Tryz.func81, Tryz.ntmps81;go_wp2_with fail;go_quiet (fail)
    go_wp2_with fail;refine (zat a b _).mono ?_;rintro r w1 ⟨rfl, hb1⟩;rw [hid.out];obtain ⟨c0, c1, c2, c3, c4, c5⟩ := (hW.drewN nq).below hb1;have hbl : Below w.heap.size w w1 := (below_drewN (zaa w _) nq).trans (hb1.mono (by simp));go_wp2;go_ret;exact ⟨by rw [hr.out]; rfl, hbl⟩
   ·have hz := zcf e;have s0 : decide (40 < d.size) = false := decide_eq_false (by omega);have t0 : decide (40 < (d.size : Int)) = false := decide_eq_false (by omega);have s1 : decide (300 < e.size) = false := decide_eq_false (by omega);have t1 : decide (300 < (e.size : Int)) = false := decide_eq_false (by omega);have HZ := Lib.hid hz;clear hz;by_cases h3 : f = 0
    ·skip;have hr := Lib.hid (show zac 1 true d.size e.size f = 0 by unfold zac; rw [if_neg (by omega), if_neg (by simp), if_neg (by omega), if_neg (by omega), if_neg (by omega)]);have q0 : (f != 0) = false := by simp only [bne_iff_ne, bne_eq_false_iff_eq, ne_eq]; omega
     clear h1 h2 h3;go_enter Tryz.func81, Tryz.ntmps81;go_wp2_with fail;go_quiet (fail)
     go_wp2_with fail;refine (zat a b _).mono ?_;rintro r w1 ⟨rfl, hb1⟩;rw [hid.out];obtain ⟨c0, c1, c2, c3, c4, c5⟩ := (hW.drewN nq).below hb1;have hbl : Below w.heap.size w w1 := (below_drewN (zaa w _) nq).trans (hb1.mono (by simp));go_wp2;go_ret;exact ⟨by rw [hr.out]; rfl, hbl⟩
    ·skip;have hr := Lib.hid (show zac 1 true d.size e.size f = 3 by unfold zac; rw [if_neg (by omega), if_neg (by simp), if_neg (by omega), if_pos (by omega)]);have q0 : (f != 0) = true := by simp only [bne_iff_ne, bne_eq_false_iff_eq, ne_eq]; omega
     clear h1 h2 h3;go_enter Tryz.func81, Tryz.ntmps81;go_wp2_with fail;go_quiet (fail)
     go_wp2_with fail;refine (zat a b _).mono ?_;rintro r w1 ⟨rfl, hb1⟩;rw [hid.out];obtain ⟨c0, c1, c2, c3, c4, c5⟩ := (hW.drewN nq).below hb1;have hbl : Below w.heap.size w w1 := (below_drewN (zaa w _) nq).trans (hb1.mono (by simp));go_wp2;go_ret;exact ⟨by rw [hr.out]; rfl, hbl⟩
set_option maxHeartbeats 2000000 in
set_option maxRecDepth 100000 in
theorem ylp (a b f : Int) (d e : ByteArray) (w : World) : Calls Tryz.prog 81 #[wrV a b (2) d e f] w fun r w' => r = .returned (errV (zao (a, b, 2, d, e, f))) ∧ Below w.heap.size w w' := by
 rw [zdx];have hW := WrAt.new w a b (2) d e f;cases hidv : zdd (a, b) with
 | false =>
  have hid := Lib.hid hidv;clear hidv;have hr := Lib.hid (show zac 2 false d.size e.size f = 2 by unfold zac; rw [if_neg (by omega), if_pos rfl]);go_enter Tryz.func81, Tryz.ntmps81;go_wp2_with fail;go_quiet (fail)
  go_wp2_with fail;refine (zat a b _).mono ?_;rintro r w1 ⟨rfl, hb1⟩;rw [hid.out];obtain ⟨c0, c1, c2, c3, c4, c5⟩ := (hW.drewN nq).below hb1;have hbl : Below w.heap.size w w1 := (below_drewN (zaa w _) nq).trans (hb1.mono (by simp));go_wp2;go_ret;exact ⟨by rw [hr.out]; rfl, hbl⟩
 | true =>
  have hid := Lib.hid hidv;clear hidv;by_cases h1 : 40 < d.size
  ·have hr := Lib.hid (show zac 2 true d.size e.size f = 4 by unfold zac; rw [if_neg (by omega), if_neg (by simp), if_pos (by omega)]);have s0 : decide (40 < d.size) = true := decide_eq_true (by omega);have t0 : decide (40 < (d.size : Int)) = true := decide_eq_true (by omega);clear h1;go_enter Tryz.func81, Tryz.ntmps81;go_wp2_with fail;go_quiet (fail)
   go_wp2_with fail;refine (zat a b _).mono ?_;rintro r w1 ⟨rfl, hb1⟩;rw [hid.out];obtain ⟨c0, c1, c2, c3, c4, c5⟩ := (hW.drewN nq).below hb1;have hbl : Below w.heap.size w w1 := (below_drewN (zaa w _) nq).trans (hb1.mono (by simp));go_wp2;go_ret;exact ⟨by rw [hr.out]; rfl, hbl⟩
  ·by_cases h2 : 300 < e.size
   ·have hr := Lib.hid (show zac 2 true d.size e.size f = 4 by unfold zac; rw [if_neg (by omega), if_neg (by simp), if_pos (by omega)]);have s0 : decide (40 < d.size) = false := decide_eq_false (by omega);have t0 : decide (40 < (d.size : Int)) = false := decide_eq_false (by omega);have s1 : decide (300 < e.size) = true := decide_eq_true (by omega);have t1 : decide (300 < (e.size : Int)) = true := decide_eq_true (by omega);clear h1 h2;go_enter Tryz.func81, Tryz.ntmps81;go_wp2_with fail;go_quiet (fail)
    go_wp2_with fail;refine (zat a b _).mono ?_;rintro r w1 ⟨rfl, hb1⟩;rw [hid.out];obtain ⟨c0, c1, c2, c3, c4, c5⟩ := (hW.drewN nq).below hb1;have hbl : Below w.heap.size w w1 := (below_drewN (zaa w _) nq).trans (hb1.mono (by simp));go_wp2;go_ret;exact ⟨by rw [hr.out]; rfl, hbl⟩
   ·have hz := zcf e;have s0 : decide (40 < d.size) = false := decide_eq_false (by omega);have t0 : decide (40 < (d.size : Int)) = false := decide_eq_false (by omega);have s1 : decide (300 < e.size) = false := decide_eq_false (by omega);have t1 : decide (300 < (e.size : Int)) = false := decide_eq_false (by omega);have HZ := Lib.hid hz;clear hz;by_cases h3 : e.size = 0
    ·by_cases h4 : f = 0
     ·skip;have hr := Lib.hid (show zac 2 true d.size e.size f = 0 by unfold zac; rw [if_neg (by omega), if_neg (by simp), if_neg (by omega), if_neg (by omega), if_neg (by omega)]);have q0 : e.toList.isEmpty = true := by rw [HZ.out]; simp only [decide_eq_true_eq, decide_eq_false_iff_not]; omega
      have q1 : (f != 0) = false := by simp only [bne_iff_ne, bne_eq_false_iff_eq, ne_eq]; omega
      clear h1 h2 h3 h4;go_enter Tryz.func81, Tryz.ntmps81;go_wp2_with fail;go_quiet (fail)
      go_wp2_with fail;refine (zat a b _).mono ?_;rintro r w1 ⟨rfl, hb1⟩;rw [hid.out];obtain ⟨c0, c1, c2, c3, c4, c5⟩ := (hW.drewN nq).below hb1;have hbl : Below w.heap.size w w1 := (below_drewN (zaa w _) nq).trans (hb1.mono (by simp));go_wp2;go_ret;exact ⟨by rw [hr.out]; rfl, hbl⟩
     ·skip;have hr := Lib.hid (show zac 2 true d.size e.size f = 3 by unfold zac; rw [if_neg (by omega), if_neg (by simp), if_neg (by omega), if_pos (by omega)]);have q0 : e.toList.isEmpty = true := by rw [HZ.out]; simp only [decide_eq_true_eq, decide_eq_false_iff_not]; omega
      have q1 : (f != 0) = true := by simp only [bne_iff_ne, bne_eq_false_iff_eq, ne_eq]; omega
      clear h1 h2 h3 h4;go_enter Tryz.func81, Tryz.ntmps81;go_wp2_with fail;go_quiet (fail)
      go_wp2_with fail;refine (zat a b _).mono ?_;rintro r w1 ⟨rfl, hb1⟩;rw [hid.out];obtain ⟨c0, c1, c2, c3, c4, c5⟩ := (hW.drewN nq).below hb1;have hbl : Below w.heap.size w w1 := (below_drewN (zaa w _) nq).trans (hb1.mono (by simp));go_wp2;go_ret;exact ⟨by rw [hr.out]; rfl, hbl⟩
    ·skip;have hr := Lib.hid (show zac 2 true d.size e.size f = 3 by unfold zac; rw [if_neg (by omega), if_neg (by simp), if_neg (by omega), if_pos (by omega)]);have q0 : e.toList.isEmpty = false := by rw [HZ.out]; simp only [decide_eq_true_eq, decide_eq_false_iff_not]; omega
     clear h1 h2 h3;go_enter Tryz.func81, Tryz.ntmps81;go_wp2_with fail;go_quiet (fail)
     go_wp2_with fail;refine (zat a b _).mono ?_;rintro r w1 ⟨rfl, hb1⟩;rw [hid.out];obtain ⟨c0, c1, c2, c3, c4, c5⟩ := (hW.drewN nq).below hb1;have hbl : Below w.heap.size w w1 := (below_drewN (zaa w _) nq).trans (hb1.mono (by simp));go_wp2;go_ret;exact ⟨by rw [hr.out]; rfl, hbl⟩
set_option maxHeartbeats 2000000 in
set_option maxRecDepth 100000 in
theorem ykv (a b f : Int) (d e : ByteArray) (w : World) : Calls Tryz.prog 81 #[wrV a b (3) d e f] w fun r w' => r = .returned (errV (zao (a, b, 3, d, e, f))) ∧ Below w.heap.size w w' := by
 rw [zdx];have hW := WrAt.new w a b (3) d e f;cases hidv : zdd (a, b) with
 | false =>
  have hid := Lib.hid hidv;clear hidv;have hr := Lib.hid (show zac 3 false d.size e.size f = 2 by unfold zac; rw [if_neg (by omega), if_pos rfl]);go_enter Tryz.func81, Tryz.ntmps81;go_wp2_with fail;go_quiet (fail)
  go_wp2_with fail;refine (zat a b _).mono ?_;rintro r w1 ⟨rfl, hb1⟩;rw [hid.out];obtain ⟨c0, c1, c2, c3, c4, c5⟩ := (hW.drewN nq).below hb1;have hbl : Below w.heap.size w w1 := (below_drewN (zaa w _) nq).trans (hb1.mono (by simp));go_wp2;go_ret;exact ⟨by rw [hr.out]; rfl, hbl⟩
 | true =>
  have hid := Lib.hid hidv;clear hidv;by_cases h1 : 40 < d.size
  ·have hr := Lib.hid (show zac 3 true d.size e.size f = 4 by unfold zac; rw [if_neg (by omega), if_neg (by simp), if_pos (by omega)]);have s0 : decide (40 < d.size) = true := decide_eq_true (by omega);have t0 : decide (40 < (d.size : Int)) = true := decide_eq_true (by omega);clear h1;go_enter Tryz.func81, Tryz.ntmps81;go_wp2_with fail;go_quiet (fail)
   go_wp2_with fail;refine (zat a b _).mono ?_;rintro r w1 ⟨rfl, hb1⟩;rw [hid.out];obtain ⟨c0, c1, c2, c3, c4, c5⟩ := (hW.drewN nq).below hb1;have hbl : Below w.heap.size w w1 := (below_drewN (zaa w _) nq).trans (hb1.mono (by simp));go_wp2;go_ret;exact ⟨by rw [hr.out]; rfl, hbl⟩
  ·by_cases h2 : 300 < e.size
   ·have hr := Lib.hid (show zac 3 true d.size e.size f = 4 by unfold zac; rw [if_neg (by omega), if_neg (by simp), if_pos (by omega)]);have s0 : decide (40 < d.size) = false := decide_eq_false (by omega);have t0 : decide (40 < (d.size : Int)) = false := decide_eq_false (by omega);have s1 : decide (300 < e.size) = true := decide_eq_true (by omega);have t1 : decide (300 < (e.size : Int)) = true := decide_eq_true (by omega);clear h1 h2;go_enter Tryz.func81, Tryz.ntmps81;go_wp2_with fail;go_quiet (fail)
    go_wp2_with fail;refine (zat a b _).mono ?_;rintro r w1 ⟨rfl, hb1⟩;rw [hid.out];obtain ⟨c0, c1, c2, c3, c4, c5⟩ := (hW.drewN nq).below hb1;have hbl : Below w.heap.size w w1 := (below_drewN (zaa w _) nq).trans (hb1.mono (by simp));go_wp2;go_ret;exact ⟨by rw [hr.out]; rfl, hbl⟩
   ·have hz := zcf e;have s0 : decide (40 < d.size) = false := decide_eq_false (by omega);have t0 : decide (40 < (d.size : Int)) = false := decide_eq_false (by omega);have s1 : decide (300 < e.size) = false := decide_eq_false (by omega);have t1 : decide (300 < (e.size : Int)) = false := decide_eq_false (by omega);have HZ := Lib.hid hz;clear hz;by_cases h3 : e.size = 0
    ·by_cases h4 : f < -1125899906842624
     ·skip;have hr := Lib.hid (show zac 3 true d.size e.size f = 2 by unfold zac; rw [if_neg (by omega), if_neg (by simp), if_neg (by omega), if_neg (by omega), if_pos (by omega)]);have q0 : e.toList.isEmpty = true := by rw [HZ.out]; simp only [decide_eq_true_eq, decide_eq_false_iff_not]; omega
      have q1 : decide (f < -1125899906842624) = true := decide_eq_true (by omega);clear h1 h2 h3 h4;go_enter Tryz.func81, Tryz.ntmps81;go_wp2_with fail;go_quiet (fail)
      go_wp2_with fail;refine (zat a b _).mono ?_;rintro r w1 ⟨rfl, hb1⟩;rw [hid.out];obtain ⟨c0, c1, c2, c3, c4, c5⟩ := (hW.drewN nq).below hb1;have hbl : Below w.heap.size w w1 := (below_drewN (zaa w _) nq).trans (hb1.mono (by simp));go_wp2;go_ret;exact ⟨by rw [hr.out]; rfl, hbl⟩
     ·by_cases h5 : 1125899906842624 < f
      ·skip;have hr := Lib.hid (show zac 3 true d.size e.size f = 2 by unfold zac; rw [if_neg (by omega), if_neg (by simp), if_neg (by omega), if_neg (by omega), if_pos (by omega)]);have q0 : e.toList.isEmpty = true := by rw [HZ.out]; simp only [decide_eq_true_eq, decide_eq_false_iff_not]; omega
       have q1 : decide (f < -1125899906842624) = false := decide_eq_false (by omega);have q2 : decide (1125899906842624 < f) = true := decide_eq_true (by omega);clear h1 h2 h3 h4 h5;go_enter Tryz.func81, Tryz.ntmps81;go_wp2_with fail;go_quiet (fail)
       go_wp2_with fail;refine (zat a b _).mono ?_;rintro r w1 ⟨rfl, hb1⟩;rw [hid.out];obtain ⟨c0, c1, c2, c3, c4, c5⟩ := (hW.drewN nq).below hb1;have hbl : Below w.heap.size w w1 := (below_drewN (zaa w _) nq).trans (hb1.mono (by simp));go_wp2;go_ret;exact ⟨by rw [hr.out]; rfl, hbl⟩
      ·skip;have hr := Lib.hid (show zac 3 true d.size e.size f = 0 by unfold zac; rw [if_neg (by omega), if_neg (by simp), if_neg (by omega), if_neg (by omega), if_neg (by omega)]);have q0 : e.toList.isEmpty = true := by rw [HZ.out]; simp only [decide_eq_true_eq, decide_eq_false_iff_not]; omega
       have q1 : decide (f < -1125899906842624) = false := decide_eq_false (by omega);have q2 : decide (1125899906842624 < f) = false := decide_eq_false (by omega);clear h1 h2 h3 h4 h5;go_enter Tryz.func81, Tryz.ntmps81;go_wp2_with fail;go_quiet (fail)
       go_wp2_with fail;refine (zat a b _).mono ?_;rintro r w1 ⟨rfl, hb1⟩;rw [hid.out];obtain ⟨c0, c1, c2, c3, c4, c5⟩ := (hW.drewN nq).below hb1;have hbl : Below w.heap.size w w1 := (below_drewN (zaa w _) nq).trans (hb1.mono (by simp));go_wp2;go_ret;exact ⟨by rw [hr.out]; rfl, hbl⟩
    ·skip;have hr := Lib.hid (show zac 3 true d.size e.size f = 3 by unfold zac; rw [if_neg (by omega), if_neg (by simp), if_neg (by omega), if_pos (by omega)]);have q0 : e.toList.isEmpty = false := by rw [HZ.out]; simp only [decide_eq_true_eq, decide_eq_false_iff_not]; omega
     clear h1 h2 h3;go_enter Tryz.func81, Tryz.ntmps81;go_wp2_with fail;go_quiet (fail)
     go_wp2_with fail;refine (zat a b _).mono ?_;rintro r w1 ⟨rfl, hb1⟩;rw [hid.out];obtain ⟨c0, c1, c2, c3, c4, c5⟩ := (hW.drewN nq).below hb1;have hbl : Below w.heap.size w w1 := (below_drewN (zaa w _) nq).trans (hb1.mono (by simp));go_wp2;go_ret;exact ⟨by rw [hr.out]; rfl, hbl⟩
set_option maxHeartbeats 2000000 in
set_option maxRecDepth 100000 in
theorem yky (a b f : Int) (d e : ByteArray) (w : World) : Calls Tryz.prog 81 #[wrV a b (4) d e f] w fun r w' => r = .returned (errV (zao (a, b, 4, d, e, f))) ∧ Below w.heap.size w w' := by
 rw [zdx];have hW := WrAt.new w a b (4) d e f;cases hidv : zdd (a, b) with
 | false =>
  have hid := Lib.hid hidv;clear hidv;have hr := Lib.hid (show zac 4 false d.size e.size f = 2 by unfold zac; rw [if_neg (by omega), if_pos rfl]);go_enter Tryz.func81, Tryz.ntmps81;go_wp2_with fail;go_quiet (fail)
  go_wp2_with fail;refine (zat a b _).mono ?_;rintro r w1 ⟨rfl, hb1⟩;rw [hid.out];obtain ⟨c0, c1, c2, c3, c4, c5⟩ := (hW.drewN nq).below hb1;have hbl : Below w.heap.size w w1 := (below_drewN (zaa w _) nq).trans (hb1.mono (by simp));go_wp2;go_ret;exact ⟨by rw [hr.out]; rfl, hbl⟩
 | true =>
  have hid := Lib.hid hidv;clear hidv;by_cases h1 : 40 < d.size
  ·have hr := Lib.hid (show zac 4 true d.size e.size f = 4 by unfold zac; rw [if_neg (by omega), if_neg (by simp), if_pos (by omega)]);have s0 : decide (40 < d.size) = true := decide_eq_true (by omega);have t0 : decide (40 < (d.size : Int)) = true := decide_eq_true (by omega);clear h1;go_enter Tryz.func81, Tryz.ntmps81;go_wp2_with fail;go_quiet (fail)
   go_wp2_with fail;refine (zat a b _).mono ?_;rintro r w1 ⟨rfl, hb1⟩;rw [hid.out];obtain ⟨c0, c1, c2, c3, c4, c5⟩ := (hW.drewN nq).below hb1;have hbl : Below w.heap.size w w1 := (below_drewN (zaa w _) nq).trans (hb1.mono (by simp));go_wp2;go_ret;exact ⟨by rw [hr.out]; rfl, hbl⟩
  ·by_cases h2 : 300 < e.size
   ·have hr := Lib.hid (show zac 4 true d.size e.size f = 4 by unfold zac; rw [if_neg (by omega), if_neg (by simp), if_pos (by omega)]);have s0 : decide (40 < d.size) = false := decide_eq_false (by omega);have t0 : decide (40 < (d.size : Int)) = false := decide_eq_false (by omega);have s1 : decide (300 < e.size) = true := decide_eq_true (by omega);have t1 : decide (300 < (e.size : Int)) = true := decide_eq_true (by omega);clear h1 h2;go_enter Tryz.func81, Tryz.ntmps81;go_wp2_with fail;go_quiet (fail)
    go_wp2_with fail;refine (zat a b _).mono ?_;rintro r w1 ⟨rfl, hb1⟩;rw [hid.out];obtain ⟨c0, c1, c2, c3, c4, c5⟩ := (hW.drewN nq).below hb1;have hbl : Below w.heap.size w w1 := (below_drewN (zaa w _) nq).trans (hb1.mono (by simp));go_wp2;go_ret;exact ⟨by rw [hr.out]; rfl, hbl⟩
   ·have hz := zcf e;have s0 : decide (40 < d.size) = false := decide_eq_false (by omega);have t0 : decide (40 < (d.size : Int)) = false := decide_eq_false (by omega);have s1 : decide (300 < e.size) = false := decide_eq_false (by omega);have t1 : decide (300 < (e.size : Int)) = false := decide_eq_false (by omega);have HZ := Lib.hid hz;clear hz;by_cases h4 : f < 0
    ·skip;have hr := Lib.hid (show zac 4 true d.size e.size f = 2 by unfold zac; rw [if_neg (by omega), if_neg (by simp), if_neg (by omega), if_neg (by omega), if_pos (by omega)]);have q0 : decide (f < 0) = true := decide_eq_true (by omega);clear h1 h2 h4;go_enter Tryz.func81, Tryz.ntmps81;go_wp2_with fail;go_quiet (fail)
     go_wp2_with fail;refine (zat a b _).mono ?_;rintro r w1 ⟨rfl, hb1⟩;rw [hid.out];obtain ⟨c0, c1, c2, c3, c4, c5⟩ := (hW.drewN nq).below hb1;have hbl : Below w.heap.size w w1 := (below_drewN (zaa w _) nq).trans (hb1.mono (by simp));go_wp2;go_ret;exact ⟨by rw [hr.out]; rfl, hbl⟩
    ·by_cases h5 : 1000 < f
     ·skip;have hr := Lib.hid (show zac 4 true d.size e.size f = 2 by unfold zac; rw [if_neg (by omega), if_neg (by simp), if_neg (by omega), if_neg (by omega), if_pos (by omega)]);have q0 : decide (f < 0) = false := decide_eq_false (by omega);have q1 : decide (1000 < f) = true := decide_eq_true (by omega);clear h1 h2 h4 h5;go_enter Tryz.func81, Tryz.ntmps81;go_wp2_with fail;go_quiet (fail)
      go_wp2_with fail;refine (zat a b _).mono ?_;rintro r w1 ⟨rfl, hb1⟩;rw [hid.out];obtain ⟨c0, c1, c2, c3, c4, c5⟩ := (hW.drewN nq).below hb1;have hbl : Below w.heap.size w w1 := (below_drewN (zaa w _) nq).trans (hb1.mono (by simp));go_wp2;go_ret;exact ⟨by rw [hr.out]; rfl, hbl⟩
     ·skip;have hr := Lib.hid (show zac 4 true d.size e.size f = 0 by unfold zac; rw [if_neg (by omega), if_neg (by simp), if_neg (by omega), if_neg (by omega), if_neg (by omega)]);have q0 : decide (f < 0) = false := decide_eq_false (by omega);have q1 : decide (1000 < f) = false := decide_eq_false (by omega);clear h1 h2 h4 h5;go_enter Tryz.func81, Tryz.ntmps81;go_wp2_with fail;go_quiet (fail)
      go_wp2_with fail;refine (zat a b _).mono ?_;rintro r w1 ⟨rfl, hb1⟩;rw [hid.out];obtain ⟨c0, c1, c2, c3, c4, c5⟩ := (hW.drewN nq).below hb1;have hbl : Below w.heap.size w w1 := (below_drewN (zaa w _) nq).trans (hb1.mono (by simp));go_wp2;go_ret;exact ⟨by rw [hr.out]; rfl, hbl⟩
set_option maxHeartbeats 2000000 in
set_option maxRecDepth 100000 in
theorem yju (a b c f : Int) (d e : ByteArray) (w : World) (hc : c < 1 ∨ 4 < c) : Calls Tryz.prog 81 #[wrV a b (c) d e f] w fun r w' => r = .returned (errV (zao (a, b, c, d, e, f))) ∧ Below w.heap.size w w' := by
 rw [zdx];have hW := WrAt.new w a b (c) d e f;have hr := Lib.hid (show zac c (zdd (a, b)) d.size e.size f = 1 by unfold zac; rw [if_pos hc]);have k1 : (c == 1) = false := by rw [beq_eq_false_iff_ne]; omega
 have k3 : (c == 3) = false := by rw [beq_eq_false_iff_ne]; omega
 have k4 : (c == 4) = false := by rw [beq_eq_false_iff_ne]; omega
 by_cases h : c < 1
 ·have q0 : decide (c < 1) = true := decide_eq_true (by omega);clear h hc;go_enter Tryz.func81, Tryz.ntmps81;go_wp2_with fail;go_quiet (fail)
  go_wp2_with fail;go_ret;exact ⟨by rw [hr.out]; rfl, below_drewN (zaa w _) nq⟩
 ·have q0 : decide (c < 1) = false := decide_eq_false (by omega);have q1 : decide (4 < c) = true := decide_eq_true (by omega);clear h hc;go_enter Tryz.func81, Tryz.ntmps81;go_wp2_with fail;go_quiet (fail)
  go_wp2_with fail;go_ret;exact ⟨by rw [hr.out]; rfl, below_drewN (zaa w _) nq⟩
theorem zcm (x : Wr) (w : World) : Calls Tryz.prog 81 #[wrV x.1 x.2.1 x.2.2.1 x.2.2.2.1 x.2.2.2.2.1 x.2.2.2.2.2] w fun r w' => r = .returned (errV (zao x)) ∧ Below w.heap.size w w' := by
 obtain ⟨a, b, c, d, e, f⟩ := x;by_cases h : c < 1 ∨ 4 < c
 ·exact yju a b c f d e w h
 ·rcases (by omega : c = 1 ∨ c = 2 ∨ c = 3 ∨ c = 4) with rfl | rfl | rfl | rfl
  ·exact yla a b f d e w
  ·exact ylp a b f d e w
  ·exact ykv a b f d e w
  ·exact yky a b f d e w
end Go.Proofs.YtkejlnjnoiidnaaGreatDoor
end

section
namespace Go.Proofs.YtkejlnjnoiidnaaGreatDoor
open Go.RowKit
structure zav where
 A : Option Addr
 n : Nat
 c : Nat
 A' : Option Addr
 n' : Nat
 c' : Nat
 A'' : Option Addr
 n'' : Nat
 c'' : Nat
 f : List Ent
 h : List Ent
 l : List Wr
def zav.v (b : zav) : Value := .agg #[.slice b.A b.n b.c, .slice b.A' b.n' b.c', .slice b.A'' b.n'' b.c'']
structure Bat (w : World) (b : zav) : Prop where
 f : Sl w w.heap.size 2 b.A b.n (b.f.flatMap zbv)
 h : Sl w w.heap.size 2 b.A' b.n' (b.h.flatMap zbv)
 l : Sl w w.heap.size 6 b.A'' b.n'' (b.l.flatMap zbb)
 nf : b.n ≤ maxLen
 nh : b.n' ≤ maxLen
 nl : b.n'' ≤ maxLen
theorem Bat.grow {w w' : World} {b : zav} (h : Bat w b) (hb : Below w.heap.size w w') : Bat w' b := ⟨h.f.grow hb, h.h.grow hb, h.l.grow hb, h.nf, h.nh, h.nl⟩
end Go.Proofs.YtkejlnjnoiidnaaGreatDoor
end

section
namespace Go.Proofs.YtkejlnjnoiidnaaGreatDoor
open Go.RowKit As
theorem zvh {w : World} {B n : Nat} {A : Option Addr} {l : List Wr} (h : Sl w B 6 A n (l.flatMap zbb)) {k : Nat} (hk : k < n) :
  ∃ b o x, A = some ⟨b, o, none⟩ ∧ b < B ∧ l[k]? = some x ∧ ∀ j u, (zbb x)[j]? = some u → w.cell? ⟨b, o + k * 6 + j, none⟩ = some u :=
 zob zbb 6 (fun _ => rfl) h (zfx zbb 6 (by omega) (fun _ => rfl) h) hk
structure BxAt (w : World) (B : Nat) (b : zav) : Prop where
 c0 : w.cell? ⟨B, 0, none⟩ = some (.slice b.A b.n b.c)
 c1 : w.cell? ⟨B, 1, none⟩ = some (.slice b.A' b.n' b.c')
 c2 : w.cell? ⟨B, 2, none⟩ = some (.slice b.A'' b.n'' b.c'')
theorem BxAt.new (w : World) (b : zav) : BxAt (w.alloc (.cells #[.slice b.A b.n b.c, .slice b.A' b.n' b.c', .slice b.A'' b.n'' b.c''] 25)) w.heap.size b := by
 refine ⟨?_, ?_, ?_⟩ <;> (rw [World.cell?_alloc_new]; rfl)
theorem BxAt.below {w w' : World} {B : Nat} {b : zav} (h : BxAt w B b) (hb : Below w.heap.size w w') : BxAt w' B b :=
 ⟨(hb.cell (cell_lt h.c0)).trans h.c0, (hb.cell (cell_lt h.c1)).trans h.c1, (hb.cell (cell_lt h.c2)).trans h.c2⟩
theorem zyd {f h : List Ent} {l : List Wr} (e : (zaf f).1 ≠ 0) : zbd f h l = ((zaf f).1, -1) := by unfold zbd; rw [if_pos e]
theorem zyp {f h : List Ent} {l : List Wr} (e0 : (zaf f).1 = 0) (e : (zaf h).1 ≠ 0) : zbd f h l = ((zaf h).1, -1) := by unfold zbd; rw [if_neg (by omega), if_pos e]
theorem zwk {f h : List Ent} {l : List Wr} (e0 : (zaf f).1 = 0) (e1 : (zaf h).1 = 0) (e : zcx h f = false) : zbd f h l = (13, -1) := by unfold zbd; rw [if_neg (by omega), if_neg (by omega), if_pos e]
theorem zxu {f h : List Ent} {l : List Wr} (e0 : (zaf f).1 = 0) (e1 : (zaf h).1 = 0) (e2 : zcx h f = true) (e : 60 < l.length) : zbd f h l = (4, -1) := by unfold zbd; rw [if_neg (by omega), if_neg (by omega), if_neg (by simp [e2]), if_pos e]
theorem zsv {f h : List Ent} {l : List Wr} (e0 : (zaf f).1 = 0) (e1 : (zaf h).1 = 0) (e2 : zcx h f = true) (e : ¬ 60 < l.length) : zbd f h l = bgo f h l (0, 0) 0 := by unfold zbd; rw [if_neg (by omega), if_neg (by omega), if_neg (by simp [e2]), if_neg e]
set_option maxHeartbeats 4000000 in
set_option maxRecDepth 100000 in
theorem zif (w : World) (x : zav) (hb : Bat w x) (hf : ∀ y ∈ x.f, zbe y) (hh : ∀ y ∈ x.h, zbe y) (hg : zbh w) :
  Calls Tryz.prog 36 #[x.v] w fun e w' => ∃ v, e = .returned v ∧ zck w' v (zbd x.f x.h x.l) ∧ Below w.heap.size w w' := by
 have hbx := BxAt.new w x;have b0 := zaa w (.cells #[.slice x.A x.n x.c, .slice x.A' x.n' x.c', .slice x.A'' x.n'' x.c''] 25);obtain ⟨A, n, c, A', n', c', A'', n'', c'', f, h, l⟩ := x;obtain ⟨sf, sh, sl, nf, nh, nl⟩ := hb;simp only at hbx b0 hf hh sf sh sl nf nh nl ⊢;have ef : Ents w w.heap.size A n f := ⟨sf, hf⟩;have eh : Ents w w.heap.size A' n' h := ⟨sh, hh⟩;have ef0 := ef.grow b0;have eh0 := eh.grow b0;have sl0 := sl.grow b0;have hg0 := hg.below b0;have hll := zfx zbb 6 (by omega) (fun _ => rfl) sl;clear sf sh hf hh sl ef eh;unfold zav.v;simp only;have hix0 : ∀ w : World, (Instr.index 109 (.agg #[.slice A n c, .slice A' n' c']) (.int .i64 0)).run Tryz.prog w = .ok (.slice A n c) w := fun _ => by kernel_rfl
 have hix1 : ∀ w : World, (Instr.index 109 (.agg #[.slice A n c, .slice A' n' c']) (.int .i64 1)).run Tryz.prog w = .ok (.slice A' n' c') w := fun _ => by kernel_rfl
 go_enter Tryz.func36, Tryz.ntmps36;go_wp2;generalize hW : w.alloc (.cells #[.slice A n c, .slice A' n' c', .slice A'' n'' c''] 25) = W at *;go_loopw [4, 5, 14] (fun _ _ i wr => (i = .int .i64 0 ∨ (i = .int .i64 1 ∧ Hid ((zaf f).1 = 0)) ∨ (i = .int .i64 2 ∧ Hid ((zaf f).1 = 0) ∧ Hid ((zaf h).1 = 0))) ∧ Below W.heap.size W wr) (fun _ _ i _ => 2 - (intOf i).toNat)
 case atStart => exact ⟨.inl rfl, Below.refl _ _⟩
 case round =>
  obtain ⟨hi, hbel⟩ := hrel;have hB := hbel.size;have efw := ef0.grow hbel;have ehw := eh0.grow hbel;have hgw := hg0.below hbel;rcases hi with rfl | ⟨rfl, h1⟩ | ⟨rfl, h1, h2⟩
  ·by_cases hz : (zaf f).1 = 0
   ·go_wp2_with fail;refine (zcn wr n c A f efw nf).mono ?_;rintro r w1 ⟨v, rfl, hv, hb1⟩;obtain rfl := zhk hv hz;have HZ := Lib.hid hz;clear hv hz;go_wp2;go_roundw
    case rel => exact ⟨.inr (.inl ⟨by go_num, HZ⟩), hbel.trans (hb1.mono hB)⟩
    case measure => simp [intOf]
   ·have hr := Lib.hid (zyd (h := h) (l := l) hz);go_wp2_with fail;refine (zcn wr n c A f efw nf).mono ?_;rintro r w1 ⟨v, rfl, hv, hb1⟩;have hg1 := hgw.below hb1;obtain ⟨t, u, rfl⟩ := zgo hv hz;unfold zck at hv;have HZ := Lib.hid hz;have HV := Lib.hid hv;clear hz hv;go_wp2_with fail;refine (zde HV.out hg1).mono ?_;rintro r w2 ⟨rfl, hb2⟩;go_wp2;go_ret;exact ⟨_, rfl, zck.of (.bare _ HZ.out) hr.out, b0.trans (((hbel.trans (hb1.mono hB)).trans (hb2.mono (hbel.trans (hb1.mono hB)).size)).mono b0.size)⟩
  ·by_cases hz : (zaf h).1 = 0
   ·go_wp2_with fail;refine (zcn wr n' c' A' h ehw nh).mono ?_;rintro r w1 ⟨v, rfl, hv, hb1⟩;obtain rfl := zhk hv hz;have HZ := Lib.hid hz;clear hv hz;go_wp2;go_roundw
    case rel => exact ⟨.inr (.inr ⟨by go_num, h1, HZ⟩), hbel.trans (hb1.mono hB)⟩
    case measure => simp [intOf]
   ·have hr := Lib.hid (zyp (l := l) h1.out hz);go_wp2_with fail;refine (zcn wr n' c' A' h ehw nh).mono ?_;rintro r w1 ⟨v, rfl, hv, hb1⟩;have hg1 := hgw.below hb1;obtain ⟨t, u, rfl⟩ := zgo hv hz;unfold zck at hv;have HZ := Lib.hid hz;have HV := Lib.hid hv;clear hz hv;go_wp2_with fail;refine (zde HV.out hg1).mono ?_;rintro r w2 ⟨rfl, hb2⟩;go_wp2;go_ret;exact ⟨_, rfl, zck.of (.bare _ HZ.out) hr.out, b0.trans (((hbel.trans (hb1.mono hB)).trans (hb2.mono (hbel.trans (hb1.mono hB)).size)).mono b0.size)⟩
  ·obtain ⟨d0, d1, d2⟩ := hbx.below hbel;simp only at d0 d1 d2;by_cases hc : zcx h f = true
   ·have hll' : l.length = n'' := by omega
    by_cases hl6 : 60 < n''
    ·have hr := Lib.hid (zxu (l := l) h1.out h2.out hc (by omega));have e5 : decide ((60 : Int) < (n'' : Int)) = true := by simp; omega
     have e6 : decide (60 < n'') = true := by simp; omega
     go_wp2_with fail;refine (zky wr n' c' n c A' A h f ehw efw nh nf).mono ?_;rintro r w1 ⟨rfl, hb1⟩;rw [hc];clear hc;have d2 := (hb1.cell (cell_lt d2)).trans d2;go_wp2;go_ret;exact ⟨_, rfl, zck.of (.bare 4 (by omega)) hr.out, b0.trans ((hbel.trans (hb1.mono hB)).mono b0.size)⟩
    ·have hr := Lib.hid (zsv (l := l) h1.out h2.out hc (by omega));have e5 : decide ((60 : Int) < (n'' : Int)) = false := by simp; omega
     have e6 : decide (60 < n'') = false := by simp; omega
     go_wp2_with fail;refine (zky wr n' c' n c A' A h f ehw efw nh nf).mono ?_;rintro r w1 ⟨rfl, hb1⟩;rw [hc];clear hc;have d2 := (hb1.cell (cell_lt d2)).trans d2;have sl1 := (sl0.grow hbel).grow hb1;have ef1 := efw.grow hb1;have eh1 := ehw.grow hb1;have hg1 := hgw.below hb1;have d0 := (hb1.cell (cell_lt d0)).trans d0;have d1 := (hb1.cell (cell_lt d1)).trans d1;have hbx1 := b0.trans ((hbel.trans (hb1.mono hB)).mono b0.size);have hd60 : n'' ≤ 60 := by omega
     clear sl0 efw ehw hgw ef0 eh0 hg0;go_wp2;go_loopw [6, 7, 8, 42] (fun _ _ _ i wr => ∃ k : Nat, k ≤ n'' ∧ i = .int .i64 k ∧ Hid (BAt f h l k) ∧ Below w1.heap.size w1 wr) (fun _ _ _ i _ => n'' - (intOf i).toNat)
     case atStart => exact ⟨0, by omega, rfl, Lib.hid BAt.zero, Below.refl _ _⟩
     case round =>
      obtain ⟨k, hk, rfl, hat, hbel2⟩ := hrel;have hB2 := hbel2.size;by_cases hlt : k < n''
      ·obtain ⟨b, o, ⟨a0, a1, a2, d, e, m⟩, rfl, hbB, hx, hcl⟩ := zvh (sl1.grow hbel2) hlt;have c0 : wr.cell? ⟨b, o + k * 6, none⟩ = some (.int .i64 a0) := hcl 0 _ rfl;have c1 := hcl 1 _ rfl;have c2 := hcl 2 _ rfl;have c3 := hcl 3 _ rfl;have c4 := hcl 4 _ rfl;have c5 := hcl 5 _ rfl;have hX := Lib.hid hx;clear hcl hx;have kb := zaa wr (wrO a0 a1 a2 d e m);have ka := WrAt.new wr a0 a1 a2 d e m;have hbd := hX.out;by_cases hz : zao (a0, a1, a2, d, e, m) = 0
       ·by_cases h0 : k = 0
        ·have hno : ¬ (0 < k ∧ 0 ≤ zdr (zda l k) (wid (a0, a1, a2, d, e, m))) := by omega
         have e8 : decide (0 < k) = false := by simp; omega
         have e9 : decide ((0 : Int) < (k : Int)) = false := by simp; omega
         clear h0;have Hno := Lib.hid hno;have hwr0 := Lib.hid hz;clear hz hno;go_wp2_with fail;refine (zcm (a0, a1, a2, d, e, m) _).mono ?_;rintro r w2 ⟨rfl, hb2⟩;rw [hwr0.out];have hk2 := kb.trans (hb2.mono kb.size);go_wp2_with fail;refine (zde (zfz w2 0) ((hg1.below hbel2).below hk2)).mono ?_;rintro r w3 ⟨rfl, hb3⟩;have hk3 := hk2.trans (hb3.mono hk2.size);have hb23 := hb2.trans (hb3.mono hb2.size);have k2 := Inv.cell ((hb23.cell (cell_lt ka.c0)).trans ka.c0);have k3 := Inv.cell ((hb23.cell (cell_lt ka.c1)).trans ka.c1);go_wp2;refine zbg (by kernel_rfl) (by kernel_rfl) ?_;repeat (go_big_quiet_step (fail))
         refine wpQuiet_nil ?_;intro _ hw';obtain ⟨y, rfl⟩ := hw';have hk4 := hk3.trans (y.below.mono hk3.size);have q2 := k2 y;have q3 := k3 y;have q0 := (hk4.cell (cell_lt ((hbel2.cell (cell_lt d0)).trans d0))).trans ((hbel2.cell (cell_lt d0)).trans d0);have q1 := (hk4.cell (cell_lt ((hbel2.cell (cell_lt d1)).trans d1))).trans ((hbel2.cell (cell_lt d1)).trans d1);have ef2 := (ef1.grow hbel2).grow hk4;have eh2 := (eh1.grow hbel2).grow hk4;clear k2 k3;cases hin : zco (a0, a1) f h with
         | true =>
          have hnx := Lib.hid (BAt.succ hat.out hX.out hwr0.out Hno.out hin);go_wp2_with fail;refine (zgp a0 a1 n n' c c' A A' f h _ ef2 eh2 nf nh).mono ?_;rintro r w5 ⟨rfl, hb5⟩;rw [hin];clear hin;go_wp2;go_roundw
          case rel => exact ⟨k + 1, by omega, by go_num, hnx, hbel2.trans ((hk4.trans (hb5.mono hk4.size)).mono hB2)⟩
          case measure => simp [intOf]; omega
         | false =>
          have hres := Lib.hid (BAt.state hat.out hX.out hwr0.out Hno.out hin);go_wp2_with fail;refine (zgp a0 a1 n n' c c' A A' f h _ ef2 eh2 nf nh).mono ?_;rintro r w5 ⟨rfl, hb5⟩;rw [hin];clear hin;have hk5 := hk4.trans (hb5.mono hk4.size);go_wp2;go_ret;exact ⟨_, rfl, zck.of (zft _ _ 6 k (by omega) rfl) (hr.out.trans hres.out), hbx1.trans (((hbel2.trans (hk5.mono hB2)).alloc (hbel2.trans (hk5.mono hB2)).size _).mono hbx1.size)⟩
        ·have e8 : decide (0 < k) = true := by simp; omega
         have e9 : decide ((0 : Int) < (k : Int)) = true := by simp; omega
         obtain ⟨bp, op, ⟨p0, p1, p2, pd, pe, pm⟩, hpA, hpB, hpx, hpl⟩ := zvh (sl1.grow hbel2) (k := k - 1) (by omega);injection hpA with hpA
         injection hpA with hpA1 hpA2
         subst hpA1;subst hpA2;have p0' : wr.cell? ⟨b, o + (k - 1) * 6, none⟩ = some (.int .i64 p0) := hpl 0 _ rfl;have p1' := hpl 1 _ rfl;have HPX := Lib.hid hpx;clear hpl hpx;have hlast := Lib.hid (show zda l k = (p0, p1) by
          unfold zda;rw [if_neg h0];simp [List.getD, HPX.out])
         have hZ := Lib.hid hz;have hwr0 := Lib.hid (show zao (a0, a1, a2, d, e, m) = 0 from hz);clear hz;go_wp2_with fail;refine (zcm (a0, a1, a2, d, e, m) _).mono ?_;rintro r w2 ⟨rfl, hb2⟩;rw [hwr0.out];have hk2 := kb.trans (hb2.mono kb.size);go_wp2_with fail;refine (zde (zfz w2 0) ((hg1.below hbel2).below hk2)).mono ?_;rintro r w3 ⟨rfl, hb3⟩;have hk3 := hk2.trans (hb3.mono hk2.size);have k0 := Inv.cell ((hk3.cell (cell_lt p0')).trans p0');have k1 := Inv.cell ((hk3.cell (cell_lt p1')).trans p1');have hb23 := hb2.trans (hb3.mono hb2.size);have k2 := Inv.cell ((hb23.cell (cell_lt ka.c0)).trans ka.c0);have k3 := Inv.cell ((hb23.cell (cell_lt ka.c1)).trans ka.c1);have k4 := Inv.cell ((hk3.cell (cell_lt ((hbel2.cell (cell_lt d2)).trans d2))).trans ((hbel2.cell (cell_lt d2)).trans d2));have hwk : IntKind.i64.wrap ((k : Int) - 1) = ((k - 1 : Nat) : Int) := by rw [show ((k : Int) - 1) = ((k - 1 : Nat) : Int) by omega]; exact IntWalk.i64_in _ (by omega)
         go_wp2;refine zbg (by kernel_rfl) (by kernel_rfl) ?_;repeat (go_big_quiet_step ((first
          | (go_at_call 82; exact Calls.inv_of (zwb p0 p1 a0 a1 _)))))
         refine wpQuiet_nil ?_;intro _ hw';obtain ⟨y, rfl⟩ := hw';have hk4 := hk3.trans (y.below.mono hk3.size);have q2 := k2 y;have q3 := k3 y;have q0 := (hk4.cell (cell_lt ((hbel2.cell (cell_lt d0)).trans d0))).trans ((hbel2.cell (cell_lt d0)).trans d0);have q1 := (hk4.cell (cell_lt ((hbel2.cell (cell_lt d1)).trans d1))).trans ((hbel2.cell (cell_lt d1)).trans d1);have ef2 := (ef1.grow hbel2).grow hk4;have eh2 := (eh1.grow hbel2).grow hk4;by_cases hcmp : 0 ≤ zdr (p0, p1) (a0, a1)
         ·have hres := Lib.hid (BAt.order hat.out hX.out hwr0.out (by omega) (by rw [hlast.out]; exact hcmp));have e10 : decide (0 ≤ zdr (p0, p1) (a0, a1)) = true := by simpa using hcmp
          have e11 : decide (zdr (p0, p1) (a0, a1) ≥ 0) = true := by simpa using hcmp
          clear k0 k1 k2 k3 k4;go_wp2;go_ret;exact ⟨_, rfl, zck.of (zft _ _ 10 k (by omega) rfl) (hr.out.trans hres.out), hbx1.trans (((hbel2.trans (hk4.mono hB2)).alloc (hbel2.trans (hk4.mono hB2)).size _).mono hbx1.size)⟩
         ·have hno := Lib.hid (show ¬ (0 < k ∧ 0 ≤ zdr (zda l k) (wid (a0, a1, a2, d, e, m))) by rw [hlast.out]; exact fun hh => hcmp hh.2);have e10 : decide (0 ≤ zdr (p0, p1) (a0, a1)) = false := by simpa using hcmp
          have e11 : decide (zdr (p0, p1) (a0, a1) ≥ 0) = false := by simpa using hcmp
          have hc2 : zdr (p0, p1) (a0, a1) < 0 := by omega
          clear k0 k1 k2 k3 k4;cases hin : zco (a0, a1) f h with
          | true =>
           have hnx := Lib.hid (BAt.succ hat.out hX.out hwr0.out hno.out hin);go_wp2_with fail;refine (zgp a0 a1 n n' c c' A A' f h _ ef2 eh2 nf nh).mono ?_;rintro r w5 ⟨rfl, hb5⟩;rw [hin];clear hin;go_wp2;go_roundw
           case rel => exact ⟨k + 1, by omega, by go_num, hnx, hbel2.trans ((hk4.trans (hb5.mono hk4.size)).mono hB2)⟩
           case measure => simp [intOf]; omega
          | false =>
           have hres := Lib.hid (BAt.state hat.out hX.out hwr0.out hno.out hin);go_wp2_with fail;refine (zgp a0 a1 n n' c c' A A' f h _ ef2 eh2 nf nh).mono ?_;rintro r w5 ⟨rfl, hb5⟩;rw [hin];clear hin;have hk5 := hk4.trans (hb5.mono hk4.size);go_wp2;go_ret;exact ⟨_, rfl, zck.of (zft _ _ 6 k (by omega) rfl) (hr.out.trans hres.out), hbx1.trans (((hbel2.trans (hk5.mono hB2)).alloc (hbel2.trans (hk5.mono hB2)).size _).mono hbx1.size)⟩
       ·have hres := Lib.hid (BAt.bad hat.out hX.out hz);generalize hwr : zao (a0, a1, a2, d, e, m) = q at *;have hWR := Lib.hid hwr;have e7 : (q != 0) = true := by simpa using hz
        have HZ := Lib.hid hz;clear hwr hz;go_wp2_with fail;refine (zcm (a0, a1, a2, d, e, m) _).mono ?_;rintro r w2 ⟨rfl, hb2⟩;rw [hWR.out];have hk2 := kb.trans (hb2.mono kb.size);go_wp2_with fail;refine (zde (zfz w2 q) ((hg1.below hbel2).below hk2)).mono ?_;rintro r w3 ⟨rfl, hb3⟩;have hk3 := hk2.trans (hb3.mono hk2.size);go_wp2;go_ret;exact ⟨_, rfl, zck.of (zft _ _ q k HZ.out rfl) (hr.out.trans hres.out), hbx1.trans (((hbel2.trans (hk3.mono hB2)).alloc (hbel2.trans (hk3.mono hB2)).size _).mono hbx1.size)⟩
      ·obtain rfl : k = n'' := by omega
       have hres := Lib.hid (BAt.all hat.out (by omega));go_wp2;go_ret;exact ⟨_, rfl, zck.of .none (hr.out.trans hres.out), hbx1.trans (hbel2.mono hbx1.size)⟩
   ·have hcf : zcx h f = false := by simpa using hc
    have hr := Lib.hid (zwk (l := l) h1.out h2.out hcf);clear hc;go_wp2_with fail;refine (zky wr n' c' n c A' A h f ehw efw nh nf).mono ?_;rintro r w1 ⟨rfl, hb1⟩;rw [hcf];clear hcf;go_wp2;go_ret;exact ⟨_, rfl, zck.of (.bare 13 (by omega)) hr.out, b0.trans ((hbel.trans (hb1.mono hB)).mono b0.size)⟩
end Go.Proofs.YtkejlnjnoiidnaaGreatDoor
end

section
namespace Go.Proofs.YtkejlnjnoiidnaaGreatDoor
def zln (rs : List (List Ent)) (x : Ent) : List (List Ent) :=
 match rs.getLast? with
 | none => [[x]]
 | some r => if (r.getLast?.getD (0, 0)).1 + 1 = x.1 then rs.dropLast ++ [r ++ [x]] else rs ++ [[x]]
def runs (l : List Ent) : List (List Ent) := l.foldl zln []
theorem zfk (l : List Ent) (x : Ent) : runs (l ++ [x]) = zln (runs l) x := by simp [runs, List.foldl_append]
theorem zty {l : List Ent} {k : Nat} {x : Ent} (h : l[k]? = some x) : runs (l.take (k + 1)) = zln (runs (l.take k)) x := by
 obtain ⟨hk, e⟩ := List.getElem?_eq_some_iff.1 h;rw [List.take_succ_eq_append_getElem hk, e, zfk]
def times (r : List Ent) : List UInt8 := r.flatMap fun x => vput x.2.toNat
def zza (b : List UInt8 × Int) (r : List Ent) : List UInt8 × Int :=
 (b.1 ++ (vput (if b.2 < 0 then (r.head?.getD (0, 0)).1 else (r.head?.getD (0, 0)).1 - b.2 - 2).toNat ++ vput (r.length - 1) ++ times r), (r.getLast?.getD (0, 0)).1)
def ziv (rs : List (List Ent)) : List UInt8 × Int := rs.foldl zza ([], -1)
theorem zfh (rs : List (List Ent)) (r : List Ent) : ziv (rs ++ [r]) = zza (ziv rs) r := by simp [ziv, List.foldl_append]
def zbt (l : List Ent) : List UInt8 := vput (runs l).length ++ (ziv (runs l)).1
def zlg (l : List Ent) : ByteArray × Int × Int := if (zaf l).1 ≠ 0 then (strOf [], zaf l) else (strOf (zbt l), 0, -1)
def Chain (r : List Ent) : Prop := ∀ j x y, r[j]? = some x → r[j + 1]? = some y → x.1 + 1 = y.1
def Brk (l : List Ent) (k : Nat) : Prop := k = 0 ∨ ∃ x, l[k - 1]? = some x ∧ ∀ y, l[k]? = some y → x.1 + 1 ≠ y.1
theorem zwg (l : List Ent) : ∀ r ∈ runs l, r ≠ [] := by
 suffices h : ∀ l : List Ent, ∀ r ∈ runs l.reverse, r ≠ [] by have := h l.reverse; simpa using this
 intro l;induction l with
 | nil => intro r hr; simp [runs] at hr
 | cons x l ih =>
  intro r hr;rw [List.reverse_cons, zfk] at hr;unfold zln at hr;split at hr
  ·simp at hr; subst hr; simp
  ·rename_i q hq;split at hr
   ·rcases List.mem_append.1 hr with hr | hr
    ·exact ih r (List.dropLast_subset _ hr)
    ·simp at hr; subst hr; simp
   ·rcases List.mem_append.1 hr with hr | hr
    ·exact ih r hr
    ·simp at hr; subst hr; simp
theorem zhw (l : List Ent) (x : Ent) : ∃ rs r, runs (l ++ [x]) = rs ++ [r] ∧ r.getLast? = some x := by
 rw [zfk];unfold zln;split
 ·exact ⟨[], [x], rfl, rfl⟩
 ·rename_i q hq;split
  ·exact ⟨_, q ++ [x], rfl, by simp⟩
  ·exact ⟨_, [x], rfl, rfl⟩
theorem zhp (l : List Ent) : (runs l).flatten = l := by
 suffices h : ∀ l : List Ent, (runs l.reverse).flatten = l.reverse by have := h l.reverse; simpa using this
 intro l;induction l with
 | nil => rfl
 | cons x l ih =>
  rw [List.reverse_cons, zfk];unfold zln;split
  ·rename_i hq;rw [List.getLast?_eq_none_iff] at hq;rw [hq] at ih;rw [← ih]; rfl
  ·rename_i q hq;obtain ⟨rs, hrs⟩ := List.getLast?_eq_some_iff.1 hq;rw [hrs] at ih ⊢;split
   ·rw [← ih]; simp
   ·rw [← ih]; simp
theorem zly (l : List Ent) : (runs l).length ≤ l.length := by
 suffices h : ∀ l : List Ent, (runs l.reverse).length ≤ l.length by have := h l.reverse; simpa using this
 intro l;induction l with
 | nil => exact Nat.le_refl _
 | cons x l ih =>
  rw [List.reverse_cons, zfk];unfold zln;split
  ·simp
  ·split
   ·simp; omega
   ·simp; exact ih
theorem yem (l r : List Ent) (n : Nat) (h : Brk (l ++ r) l.length) (hc : Chain r) (hn : 0 < n) (hr : n ≤ r.length) : runs (l ++ r.take n) = runs l ++ [r.take n] := by
 induction n with
 | zero => omega
 | succ n ih =>
  have hlt : n < r.length := by omega
  rw [List.take_succ_eq_append_getElem hlt, ← List.append_assoc, zfk];rcases Nat.eq_zero_or_pos n with rfl | hn'
  ·simp only [List.take_zero, List.append_nil, List.nil_append];unfold zln;split
   ·rename_i hq;rw [List.getLast?_eq_none_iff] at hq;rw [hq]; rfl
   ·rename_i q hq;rcases List.eq_nil_or_concat l with rfl | ⟨l', x, rfl⟩
    ·simp [runs] at hq
    ·obtain ⟨rs, r', e1, e2⟩ := zhw l' x;rw [List.concat_eq_append] at hq h ⊢;rw [e1] at hq;rw [List.getLast?_append] at hq;simp at hq;subst hq;rw [e2];rcases h with h | ⟨z, hz, hb⟩
     ·simp at h
     ·have ez : z = x := by
       simp at hz;exact hz.symm
      subst ez;have := hb r[0] (by simp [List.getElem?_append]);rw [if_neg (by simpa using this)]
  ·rw [ih hn' (by omega)];unfold zln;rw [List.getLast?_append];simp only [List.getLast?_singleton, Option.some_or];have hne : r.take n ≠ [] := by
    intro e;have := congrArg List.length e;rw [List.length_take, List.length_nil] at this;omega
   have hl : (r.take n).getLast? = some r[n - 1] := by
    rw [List.getLast?_eq_getElem?, List.length_take, Nat.min_eq_left (by omega), List.getElem?_take_of_lt (by omega), List.getElem?_eq_getElem]
   rw [hl];have hcc := hc (n - 1) _ _ (List.getElem?_eq_getElem (by omega)) (by rw [Nat.sub_add_cancel hn']; exact List.getElem?_eq_getElem hlt);rw [if_pos (by simpa using hcc)];simp
end Go.Proofs.YtkejlnjnoiidnaaGreatDoor
end
