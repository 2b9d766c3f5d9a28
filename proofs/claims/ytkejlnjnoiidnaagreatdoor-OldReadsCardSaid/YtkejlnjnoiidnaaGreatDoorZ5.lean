/- batch.Right says what bright says.

A vector as bytes, in plain Lean: runs of replicas beside each other. No program in sight.

Plain facts on tables of keys: each key once, and of each which one it is. No program in sight.

A batch as bytes, in plain Lean. No program in sight.

How far a vector's bytes are, run by run, in plain Lean. No program in sight.

What a right batch gives its writer, and its writes as bytes, one by one. Plain Lean.

vector.Write says what vwrite says. -/
import Derived.Test.YtkejlnjnoiidnaaGreatDoorZ3
import Derived.Test.YtkejlnjnoiidnaaGreatDoorZ4
import Derived.Deep.RegionWith
import Derived.Test.YtkejlnjnoiidnaaGreatDoorZ1
import Derived.Maps.Own
import Derived.Maps.OwnOps
import Derived.Maps.OwnSet
import Derived.Maps.Views
import Derived.Test.YtkejlnjnoiidnaaGreatDoorZ2
import Derived.Deep.Light
section
namespace Go.Proofs.YtkejlnjnoiidnaaGreatDoor
set_option linter.unusedSimpArgs false
open Go.RowKit As
/-- Element k of a slice of writes. -/
theorem wr_at {w : World} {B n : Nat} {A : Option Addr} {l : List Wr} (h : Sl w B 6 A n (l.flatMap wrCells)) {k : Nat} (hk : k < n) :
  ∃ b o x, A = some ⟨b, o, none⟩ ∧ b < B ∧ l[k]? = some x ∧ ∀ j u, (wrCells x)[j]? = some u → w.cell? ⟨b, o + k * 6 + j, none⟩ = some u :=
 slk_at wrCells 6 (fun _ => rfl) h (slk_len wrCells 6 (by omega) (fun _ => rfl) h) hk
/-- The batch's box. -/
structure BxAt (w : World) (B : Nat) (b : BatArg) : Prop where
 c0 : w.cell? ⟨B, 0, none⟩ = some (.slice b.A b.n b.c)
 c1 : w.cell? ⟨B, 1, none⟩ = some (.slice b.A' b.n' b.c')
 c2 : w.cell? ⟨B, 2, none⟩ = some (.slice b.A'' b.n'' b.c'')
theorem BxAt.new (w : World) (b : BatArg) : BxAt (w.alloc (.cells #[.slice b.A b.n b.c, .slice b.A' b.n' b.c', .slice b.A'' b.n'' b.c''] 25)) w.heap.size b := by
 refine ⟨?_, ?_, ?_⟩ <;> (rw [World.cell?_alloc_new]; rfl)
theorem BxAt.below {w w' : World} {B : Nat} {b : BatArg} (h : BxAt w B b) (hb : Below w.heap.size w w') : BxAt w' B b :=
 ⟨(hb.cell (cell_lt h.c0)).trans h.c0, (hb.cell (cell_lt h.c1)).trans h.c1, (hb.cell (cell_lt h.c2)).trans h.c2⟩
theorem bright_f {f h : List Ent} {l : List Wr} (e : (vright f).1 ≠ 0) : bright f h l = ((vright f).1, -1) := by unfold bright; rw [if_pos e]
theorem bright_h {f h : List Ent} {l : List Wr} (e0 : (vright f).1 = 0) (e : (vright h).1 ≠ 0) : bright f h l = ((vright h).1, -1) := by unfold bright; rw [if_neg (by omega), if_pos e]
theorem bright_c {f h : List Ent} {l : List Wr} (e0 : (vright f).1 = 0) (e1 : (vright h).1 = 0) (e : vcovers h f = false) : bright f h l = (13, -1) := by unfold bright; rw [if_neg (by omega), if_neg (by omega), if_pos e]
theorem bright_l {f h : List Ent} {l : List Wr} (e0 : (vright f).1 = 0) (e1 : (vright h).1 = 0) (e2 : vcovers h f = true) (e : 60 < l.length) : bright f h l = (4, -1) := by unfold bright; rw [if_neg (by omega), if_neg (by omega), if_neg (by simp [e2]), if_pos e]
theorem bright_go {f h : List Ent} {l : List Wr} (e0 : (vright f).1 = 0) (e1 : (vright h).1 = 0) (e2 : vcovers h f = true) (e : ¬ 60 < l.length) : bright f h l = bgo f h l (0, 0) 0 := by unfold bright; rw [if_neg (by omega), if_neg (by omega), if_neg (by simp [e2]), if_neg e]
set_option maxHeartbeats 4000000 in
set_option maxRecDepth 100000 in
theorem bright_any (w : World) (x : BatArg) (hb : Bat w x) (hf : ∀ y ∈ x.f, entFits y) (hh : ∀ y ∈ x.h, entFits y) (hg : Handle w) :
  Calls Tryz.prog 36 #[x.v] w fun e w' => ∃ v, e = .returned v ∧ ErrOf w' v (bright x.f x.h x.l) ∧ Below w.heap.size w w' := by
 have hbx := BxAt.new w x
 have b0 := below1 w (.cells #[.slice x.A x.n x.c, .slice x.A' x.n' x.c', .slice x.A'' x.n'' x.c''] 25)
 obtain ⟨A, n, c, A', n', c', A'', n'', c'', f, h, l⟩ := x
 obtain ⟨sf, sh, sl, nf, nh, nl⟩ := hb
 simp only at hbx b0 hf hh sf sh sl nf nh nl ⊢
 have ef : Ents w w.heap.size A n f := ⟨sf, hf⟩
 have eh : Ents w w.heap.size A' n' h := ⟨sh, hh⟩
 have ef0 := ef.grow b0
 have eh0 := eh.grow b0
 have sl0 := sl.grow b0
 have hg0 := hg.below b0
 have hll := slk_len wrCells 6 (by omega) (fun _ => rfl) sl
 clear sf sh hf hh sl ef eh
 unfold BatArg.v
 simp only
 have hix0 : ∀ w : World, (Instr.index 109 (.agg #[.slice A n c, .slice A' n' c']) (.int .i64 0)).run Tryz.prog w = .ok (.slice A n c) w := fun _ => by kernel_rfl
 have hix1 : ∀ w : World, (Instr.index 109 (.agg #[.slice A n c, .slice A' n' c']) (.int .i64 1)).run Tryz.prog w = .ok (.slice A' n' c') w := fun _ => by kernel_rfl
 go_enter Tryz.func36, Tryz.ntmps36
 go_wp2
 generalize hW : w.alloc (.cells #[.slice A n c, .slice A' n' c', .slice A'' n'' c''] 25) = W at *
 go_loopw [4, 5, 14] (fun _ _ i wr => (i = .int .i64 0 ∨ (i = .int .i64 1 ∧ Hid ((vright f).1 = 0)) ∨ (i = .int .i64 2 ∧ Hid ((vright f).1 = 0) ∧ Hid ((vright h).1 = 0))) ∧ Below W.heap.size W wr) (fun _ _ i _ => 2 - (intOf i).toNat)
 case atStart => exact ⟨.inl rfl, Below.refl _ _⟩
 case round =>
  obtain ⟨hi, hbel⟩ := hrel
  have hB := hbel.size
  have efw := ef0.grow hbel
  have ehw := eh0.grow hbel
  have hgw := hg0.below hbel
  rcases hi with rfl | ⟨rfl, h1⟩ | ⟨rfl, h1, h2⟩
  ·by_cases hz : (vright f).1 = 0
   ·go_wp2_with fail
    refine (vright_any wr n c A f efw nf).mono ?_
    rintro r w1 ⟨v, rfl, hv, hb1⟩
    obtain rfl := err_nil hv hz
    have HZ := Lib.hid hz
    clear hv hz
    go_wp2
    go_roundw
    case rel => exact ⟨.inr (.inl ⟨by go_num, HZ⟩), hbel.trans (hb1.mono hB)⟩
    case measure => simp [intOf]
   ·have hr := Lib.hid (bright_f (h := h) (l := l) hz)
    go_wp2_with fail
    refine (vright_any wr n c A f efw nf).mono ?_
    rintro r w1 ⟨v, rfl, hv, hb1⟩
    have hg1 := hgw.below hb1
    obtain ⟨t, u, rfl⟩ := err_some hv hz
    unfold ErrOf at hv
    have HZ := Lib.hid hz
    have HV := Lib.hid hv
    clear hz hv
    go_wp2_with fail
    refine (tell_any HV.out hg1).mono ?_
    rintro r w2 ⟨rfl, hb2⟩
    go_wp2
    go_ret
    exact ⟨_, rfl, ErrOf.of (.bare _ HZ.out) hr.out, b0.trans (((hbel.trans (hb1.mono hB)).trans (hb2.mono (hbel.trans (hb1.mono hB)).size)).mono b0.size)⟩
  ·by_cases hz : (vright h).1 = 0
   ·go_wp2_with fail
    refine (vright_any wr n' c' A' h ehw nh).mono ?_
    rintro r w1 ⟨v, rfl, hv, hb1⟩
    obtain rfl := err_nil hv hz
    have HZ := Lib.hid hz
    clear hv hz
    go_wp2
    go_roundw
    case rel => exact ⟨.inr (.inr ⟨by go_num, h1, HZ⟩), hbel.trans (hb1.mono hB)⟩
    case measure => simp [intOf]
   ·have hr := Lib.hid (bright_h (l := l) h1.out hz)
    go_wp2_with fail
    refine (vright_any wr n' c' A' h ehw nh).mono ?_
    rintro r w1 ⟨v, rfl, hv, hb1⟩
    have hg1 := hgw.below hb1
    obtain ⟨t, u, rfl⟩ := err_some hv hz
    unfold ErrOf at hv
    have HZ := Lib.hid hz
    have HV := Lib.hid hv
    clear hz hv
    go_wp2_with fail
    refine (tell_any HV.out hg1).mono ?_
    rintro r w2 ⟨rfl, hb2⟩
    go_wp2
    go_ret
    exact ⟨_, rfl, ErrOf.of (.bare _ HZ.out) hr.out, b0.trans (((hbel.trans (hb1.mono hB)).trans (hb2.mono (hbel.trans (hb1.mono hB)).size)).mono b0.size)⟩
  ·obtain ⟨d0, d1, d2⟩ := hbx.below hbel
   simp only at d0 d1 d2
   by_cases hc : vcovers h f = true
   ·have hll' : l.length = n'' := by omega
    by_cases hl6 : 60 < n''
    ·have hr := Lib.hid (bright_l (l := l) h1.out h2.out hc (by omega))
     have e5 : decide ((60 : Int) < (n'' : Int)) = true := by simp; omega
     have e6 : decide (60 < n'') = true := by simp; omega
     go_wp2_with fail
     refine (covers_any wr n' c' n c A' A h f ehw efw nh nf).mono ?_
     rintro r w1 ⟨rfl, hb1⟩
     rw [hc]
     clear hc
     have d2 := (hb1.cell (cell_lt d2)).trans d2
     go_wp2
     go_ret
     exact ⟨_, rfl, ErrOf.of (.bare 4 (by omega)) hr.out, b0.trans ((hbel.trans (hb1.mono hB)).mono b0.size)⟩
    ·have hr := Lib.hid (bright_go (l := l) h1.out h2.out hc (by omega))
     have e5 : decide ((60 : Int) < (n'' : Int)) = false := by simp; omega
     have e6 : decide (60 < n'') = false := by simp; omega
     go_wp2_with fail
     refine (covers_any wr n' c' n c A' A h f ehw efw nh nf).mono ?_
     rintro r w1 ⟨rfl, hb1⟩
     rw [hc]
     clear hc
     have d2 := (hb1.cell (cell_lt d2)).trans d2
     have sl1 := (sl0.grow hbel).grow hb1
     have ef1 := efw.grow hb1
     have eh1 := ehw.grow hb1
     have hg1 := hgw.below hb1
     have d0 := (hb1.cell (cell_lt d0)).trans d0
     have d1 := (hb1.cell (cell_lt d1)).trans d1
     have hbx1 := b0.trans ((hbel.trans (hb1.mono hB)).mono b0.size)
     have hd60 : n'' ≤ 60 := by omega
     clear sl0 efw ehw hgw ef0 eh0 hg0
     go_wp2
     go_loopw [6, 7, 8, 42] (fun _ _ _ i wr => ∃ k : Nat, k ≤ n'' ∧ i = .int .i64 k ∧ Hid (BAt f h l k) ∧ Below w1.heap.size w1 wr) (fun _ _ _ i _ => n'' - (intOf i).toNat)
     case atStart => exact ⟨0, by omega, rfl, Lib.hid BAt.zero, Below.refl _ _⟩
     case round =>
      obtain ⟨k, hk, rfl, hat, hbel2⟩ := hrel
      have hB2 := hbel2.size
      by_cases hlt : k < n''
      ·obtain ⟨b, o, ⟨a0, a1, a2, d, e, m⟩, rfl, hbB, hx, hcl⟩ := wr_at (sl1.grow hbel2) hlt
       have c0 : wr.cell? ⟨b, o + k * 6, none⟩ = some (.int .i64 a0) := hcl 0 _ rfl
       have c1 := hcl 1 _ rfl
       have c2 := hcl 2 _ rfl
       have c3 := hcl 3 _ rfl
       have c4 := hcl 4 _ rfl
       have c5 := hcl 5 _ rfl
       have hX := Lib.hid hx
       clear hcl hx
       have kb := below1 wr (wrO a0 a1 a2 d e m)
       have ka := WrAt.new wr a0 a1 a2 d e m
       have hbd := hX.out
       by_cases hz : wright (a0, a1, a2, d, e, m) = 0
       ·by_cases h0 : k = 0
        ·have hno : ¬ (0 < k ∧ 0 ≤ idCmp (lastId l k) (wid (a0, a1, a2, d, e, m))) := by omega
         have e8 : decide (0 < k) = false := by simp; omega
         have e9 : decide ((0 : Int) < (k : Int)) = false := by simp; omega
         clear h0
         have Hno := Lib.hid hno
         have hwr0 := Lib.hid hz
         clear hz hno
         go_wp2_with fail
         refine (wright_any (a0, a1, a2, d, e, m) _).mono ?_
         rintro r w2 ⟨rfl, hb2⟩
         rw [hwr0.out]
         have hk2 := kb.trans (hb2.mono kb.size)
         go_wp2_with fail
         refine (tell_any (errV_is w2 0) ((hg1.below hbel2).below hk2)).mono ?_
         rintro r w3 ⟨rfl, hb3⟩
         have hk3 := hk2.trans (hb3.mono hk2.size)
         have hb23 := hb2.trans (hb3.mono hb2.size)
         have k2 := Inv.cell ((hb23.cell (cell_lt ka.c0)).trans ka.c0)
         have k3 := Inv.cell ((hb23.cell (cell_lt ka.c1)).trans ka.c1)
         go_wp2
         refine wp_region_inv (by kernel_rfl) (by kernel_rfl) ?_
         repeat (go_big_quiet_step (fail))
         refine wpQuiet_nil ?_
         intro _ hw'
         obtain ⟨y, rfl⟩ := hw'
         have hk4 := hk3.trans (y.below.mono hk3.size)
         have q2 := k2 y
         have q3 := k3 y
         have q0 := (hk4.cell (cell_lt ((hbel2.cell (cell_lt d0)).trans d0))).trans ((hbel2.cell (cell_lt d0)).trans d0)
         have q1 := (hk4.cell (cell_lt ((hbel2.cell (cell_lt d1)).trans d1))).trans ((hbel2.cell (cell_lt d1)).trans d1)
         have ef2 := (ef1.grow hbel2).grow hk4
         have eh2 := (eh1.grow hbel2).grow hk4
         clear k2 k3
         cases hin : idWithin (a0, a1) f h with
         | true =>
          have hnx := Lib.hid (BAt.succ hat.out hX.out hwr0.out Hno.out hin)
          go_wp2_with fail
          refine (iwithin_any a0 a1 n n' c c' A A' f h _ ef2 eh2 nf nh).mono ?_
          rintro r w5 ⟨rfl, hb5⟩
          rw [hin]
          clear hin
          go_wp2
          go_roundw
          case rel => exact ⟨k + 1, by omega, by go_num, hnx, hbel2.trans ((hk4.trans (hb5.mono hk4.size)).mono hB2)⟩
          case measure => simp [intOf]; omega
         | false =>
          have hres := Lib.hid (BAt.state hat.out hX.out hwr0.out Hno.out hin)
          go_wp2_with fail
          refine (iwithin_any a0 a1 n n' c c' A A' f h _ ef2 eh2 nf nh).mono ?_
          rintro r w5 ⟨rfl, hb5⟩
          rw [hin]
          clear hin
          have hk5 := hk4.trans (hb5.mono hk4.size)
          go_wp2
          go_ret
          exact ⟨_, rfl, ErrOf.of (err_at _ _ 6 k (by omega) rfl) (hr.out.trans hres.out), hbx1.trans (((hbel2.trans (hk5.mono hB2)).alloc (hbel2.trans (hk5.mono hB2)).size _).mono hbx1.size)⟩
        ·have e8 : decide (0 < k) = true := by simp; omega
         have e9 : decide ((0 : Int) < (k : Int)) = true := by simp; omega
         obtain ⟨bp, op, ⟨p0, p1, p2, pd, pe, pm⟩, hpA, hpB, hpx, hpl⟩ := wr_at (sl1.grow hbel2) (k := k - 1) (by omega)
         injection hpA with hpA
         injection hpA with hpA1 hpA2
         subst hpA1
         subst hpA2
         have p0' : wr.cell? ⟨b, o + (k - 1) * 6, none⟩ = some (.int .i64 p0) := hpl 0 _ rfl
         have p1' := hpl 1 _ rfl
         have HPX := Lib.hid hpx
         clear hpl hpx
         have hlast := Lib.hid (show lastId l k = (p0, p1) by
          unfold lastId
          rw [if_neg h0]
          simp [List.getD, HPX.out])
         have hZ := Lib.hid hz
         have hwr0 := Lib.hid (show wright (a0, a1, a2, d, e, m) = 0 from hz)
         clear hz
         go_wp2_with fail
         refine (wright_any (a0, a1, a2, d, e, m) _).mono ?_
         rintro r w2 ⟨rfl, hb2⟩
         rw [hwr0.out]
         have hk2 := kb.trans (hb2.mono kb.size)
         go_wp2_with fail
         refine (tell_any (errV_is w2 0) ((hg1.below hbel2).below hk2)).mono ?_
         rintro r w3 ⟨rfl, hb3⟩
         have hk3 := hk2.trans (hb3.mono hk2.size)
         have k0 := Inv.cell ((hk3.cell (cell_lt p0')).trans p0')
         have k1 := Inv.cell ((hk3.cell (cell_lt p1')).trans p1')
         have hb23 := hb2.trans (hb3.mono hb2.size)
         have k2 := Inv.cell ((hb23.cell (cell_lt ka.c0)).trans ka.c0)
         have k3 := Inv.cell ((hb23.cell (cell_lt ka.c1)).trans ka.c1)
         have k4 := Inv.cell ((hk3.cell (cell_lt ((hbel2.cell (cell_lt d2)).trans d2))).trans ((hbel2.cell (cell_lt d2)).trans d2))
         have hwk : IntKind.i64.wrap ((k : Int) - 1) = ((k - 1 : Nat) : Int) := by rw [show ((k : Int) - 1) = ((k - 1 : Nat) : Int) by omega]; exact IntWalk.i64_in _ (by omega)
         go_wp2
         refine wp_region_inv (by kernel_rfl) (by kernel_rfl) ?_
         repeat (go_big_quiet_step ((first
          | (go_at_call 82; exact Calls.inv_of (compare_any p0 p1 a0 a1 _)))))
         refine wpQuiet_nil ?_
         intro _ hw'
         obtain ⟨y, rfl⟩ := hw'
         have hk4 := hk3.trans (y.below.mono hk3.size)
         have q2 := k2 y
         have q3 := k3 y
         have q0 := (hk4.cell (cell_lt ((hbel2.cell (cell_lt d0)).trans d0))).trans ((hbel2.cell (cell_lt d0)).trans d0)
         have q1 := (hk4.cell (cell_lt ((hbel2.cell (cell_lt d1)).trans d1))).trans ((hbel2.cell (cell_lt d1)).trans d1)
         have ef2 := (ef1.grow hbel2).grow hk4
         have eh2 := (eh1.grow hbel2).grow hk4
         by_cases hcmp : 0 ≤ idCmp (p0, p1) (a0, a1)
         ·have hres := Lib.hid (BAt.order hat.out hX.out hwr0.out (by omega) (by rw [hlast.out]; exact hcmp))
          have e10 : decide (0 ≤ idCmp (p0, p1) (a0, a1)) = true := by simpa using hcmp
          have e11 : decide (idCmp (p0, p1) (a0, a1) ≥ 0) = true := by simpa using hcmp
          clear k0 k1 k2 k3 k4
          go_wp2
          go_ret
          exact ⟨_, rfl, ErrOf.of (err_at _ _ 10 k (by omega) rfl) (hr.out.trans hres.out), hbx1.trans (((hbel2.trans (hk4.mono hB2)).alloc (hbel2.trans (hk4.mono hB2)).size _).mono hbx1.size)⟩
         ·have hno := Lib.hid (show ¬ (0 < k ∧ 0 ≤ idCmp (lastId l k) (wid (a0, a1, a2, d, e, m))) by rw [hlast.out]; exact fun hh => hcmp hh.2)
          have e10 : decide (0 ≤ idCmp (p0, p1) (a0, a1)) = false := by simpa using hcmp
          have e11 : decide (idCmp (p0, p1) (a0, a1) ≥ 0) = false := by simpa using hcmp
          have hc2 : idCmp (p0, p1) (a0, a1) < 0 := by omega
          clear k0 k1 k2 k3 k4
          cases hin : idWithin (a0, a1) f h with
          | true =>
           have hnx := Lib.hid (BAt.succ hat.out hX.out hwr0.out hno.out hin)
           go_wp2_with fail
           refine (iwithin_any a0 a1 n n' c c' A A' f h _ ef2 eh2 nf nh).mono ?_
           rintro r w5 ⟨rfl, hb5⟩
           rw [hin]
           clear hin
           go_wp2
           go_roundw
           case rel => exact ⟨k + 1, by omega, by go_num, hnx, hbel2.trans ((hk4.trans (hb5.mono hk4.size)).mono hB2)⟩
           case measure => simp [intOf]; omega
          | false =>
           have hres := Lib.hid (BAt.state hat.out hX.out hwr0.out hno.out hin)
           go_wp2_with fail
           refine (iwithin_any a0 a1 n n' c c' A A' f h _ ef2 eh2 nf nh).mono ?_
           rintro r w5 ⟨rfl, hb5⟩
           rw [hin]
           clear hin
           have hk5 := hk4.trans (hb5.mono hk4.size)
           go_wp2
           go_ret
           exact ⟨_, rfl, ErrOf.of (err_at _ _ 6 k (by omega) rfl) (hr.out.trans hres.out), hbx1.trans (((hbel2.trans (hk5.mono hB2)).alloc (hbel2.trans (hk5.mono hB2)).size _).mono hbx1.size)⟩
       ·have hres := Lib.hid (BAt.bad hat.out hX.out hz)
        generalize hwr : wright (a0, a1, a2, d, e, m) = q at *
        have hWR := Lib.hid hwr
        have e7 : (q != 0) = true := by simpa using hz
        have HZ := Lib.hid hz
        clear hwr hz
        go_wp2_with fail
        refine (wright_any (a0, a1, a2, d, e, m) _).mono ?_
        rintro r w2 ⟨rfl, hb2⟩
        rw [hWR.out]
        have hk2 := kb.trans (hb2.mono kb.size)
        go_wp2_with fail
        refine (tell_any (errV_is w2 q) ((hg1.below hbel2).below hk2)).mono ?_
        rintro r w3 ⟨rfl, hb3⟩
        have hk3 := hk2.trans (hb3.mono hk2.size)
        go_wp2
        go_ret
        exact ⟨_, rfl, ErrOf.of (err_at _ _ q k HZ.out rfl) (hr.out.trans hres.out), hbx1.trans (((hbel2.trans (hk3.mono hB2)).alloc (hbel2.trans (hk3.mono hB2)).size _).mono hbx1.size)⟩
      ·obtain rfl : k = n'' := by omega
       have hres := Lib.hid (BAt.all hat.out (by omega))
       go_wp2
       go_ret
       exact ⟨_, rfl, ErrOf.of .none (hr.out.trans hres.out), hbx1.trans (hbel2.mono hbx1.size)⟩
   ·have hcf : vcovers h f = false := by simpa using hc
    have hr := Lib.hid (bright_c (l := l) h1.out h2.out hcf)
    clear hc
    go_wp2_with fail
    refine (covers_any wr n' c' n c A' A h f ehw efw nh nf).mono ?_
    rintro r w1 ⟨rfl, hb1⟩
    rw [hcf]
    clear hcf
    go_wp2
    go_ret
    exact ⟨_, rfl, ErrOf.of (.bare 13 (by omega)) hr.out, b0.trans ((hbel.trans (hb1.mono hB)).mono b0.size)⟩
end Go.Proofs.YtkejlnjnoiidnaaGreatDoor
end

section
namespace Go.Proofs.YtkejlnjnoiidnaaGreatDoor
/-- The runs, one entry more. -/
def rstep (rs : List (List Ent)) (x : Ent) : List (List Ent) :=
 match rs.getLast? with
 | none => [[x]]
 | some r => if (r.getLast?.getD (0, 0)).1 + 1 = x.1 then rs.dropLast ++ [r ++ [x]] else rs ++ [[x]]
def runs (l : List Ent) : List (List Ent) := l.foldl rstep []
theorem runs_snoc (l : List Ent) (x : Ent) : runs (l ++ [x]) = rstep (runs l) x := by simp [runs, List.foldl_append]
/-- A run's times. -/
def times (r : List Ent) : List UInt8 := r.flatMap fun x => vput x.2.toNat
/-- The bytes of runs, and the last replica so far (-1: none). -/
def bstep (b : List UInt8 × Int) (r : List Ent) : List UInt8 × Int :=
 (b.1 ++ (vput (if b.2 < 0 then (r.head?.getD (0, 0)).1 else (r.head?.getD (0, 0)).1 - b.2 - 2).toNat ++ vput (r.length - 1) ++ times r), (r.getLast?.getD (0, 0)).1)
def rbytes (rs : List (List Ent)) : List UInt8 × Int := rs.foldl bstep ([], -1)
theorem rbytes_snoc (rs : List (List Ent)) (r : List Ent) : rbytes (rs ++ [r]) = bstep (rbytes rs) r := by simp [rbytes, List.foldl_append]
def vbytes (l : List Ent) : List UInt8 := vput (runs l).length ++ (rbytes (runs l)).1
/-- Entries beside each other. -/
def Chain (r : List Ent) : Prop := ∀ j x y, r[j]? = some x → r[j + 1]? = some y → x.1 + 1 = y.1
/-- A break ahead of entry k. -/
def Brk (l : List Ent) (k : Nat) : Prop := k = 0 ∨ ∃ x, l[k - 1]? = some x ∧ ∀ y, l[k]? = some y → x.1 + 1 ≠ y.1
theorem runs_ne (l : List Ent) : ∀ r ∈ runs l, r ≠ [] := by
 suffices h : ∀ l : List Ent, ∀ r ∈ runs l.reverse, r ≠ [] by have := h l.reverse; simpa using this
 intro l
 induction l with
 | nil => intro r hr; simp [runs] at hr
 | cons x l ih =>
  intro r hr
  rw [List.reverse_cons, runs_snoc] at hr
  unfold rstep at hr
  split at hr
  ·simp at hr; subst hr; simp
  ·rename_i q hq
   split at hr
   ·rcases List.mem_append.1 hr with hr | hr
    ·exact ih r (List.dropLast_subset _ hr)
    ·simp at hr; subst hr; simp
   ·rcases List.mem_append.1 hr with hr | hr
    ·exact ih r hr
    ·simp at hr; subst hr; simp
theorem runs_last (l : List Ent) (x : Ent) : ∃ rs r, runs (l ++ [x]) = rs ++ [r] ∧ r.getLast? = some x := by
 rw [runs_snoc]
 unfold rstep
 split
 ·exact ⟨[], [x], rfl, rfl⟩
 ·rename_i q hq
  split
  ·exact ⟨_, q ++ [x], rfl, by simp⟩
  ·exact ⟨_, [x], rfl, rfl⟩
theorem runs_flat (l : List Ent) : (runs l).flatten = l := by
 suffices h : ∀ l : List Ent, (runs l.reverse).flatten = l.reverse by have := h l.reverse; simpa using this
 intro l
 induction l with
 | nil => rfl
 | cons x l ih =>
  rw [List.reverse_cons, runs_snoc]
  unfold rstep
  split
  ·rename_i hq
   rw [List.getLast?_eq_none_iff] at hq
   rw [hq] at ih
   rw [← ih]; rfl
  ·rename_i q hq
   obtain ⟨rs, hrs⟩ := List.getLast?_eq_some_iff.1 hq
   rw [hrs] at ih ⊢
   split
   ·rw [← ih]; simp
   ·rw [← ih]; simp
theorem runs_grow (l r : List Ent) (n : Nat) (h : Brk (l ++ r) l.length) (hc : Chain r) (hn : 0 < n) (hr : n ≤ r.length) : runs (l ++ r.take n) = runs l ++ [r.take n] := by
 induction n with
 | zero => omega
 | succ n ih =>
  have hlt : n < r.length := by omega
  rw [List.take_succ_eq_append_getElem hlt, ← List.append_assoc, runs_snoc]
  rcases Nat.eq_zero_or_pos n with rfl | hn'
  ·simp only [List.take_zero, List.append_nil, List.nil_append]
   unfold rstep
   split
   ·rename_i hq
    rw [List.getLast?_eq_none_iff] at hq
    rw [hq]; rfl
   ·rename_i q hq
    rcases List.eq_nil_or_concat l with rfl | ⟨l', x, rfl⟩
    ·simp [runs] at hq
    ·obtain ⟨rs, r', e1, e2⟩ := runs_last l' x
     rw [List.concat_eq_append] at hq h ⊢
     rw [e1] at hq
     rw [List.getLast?_append] at hq
     simp at hq
     subst hq
     rw [e2]
     rcases h with h | ⟨z, hz, hb⟩
     ·simp at h
     ·have ez : z = x := by
       simp at hz
       exact hz.symm
      subst ez
      have := hb r[0] (by simp [List.getElem?_append])
      rw [if_neg (by simpa using this)]
  ·rw [ih hn' (by omega)]
   unfold rstep
   rw [List.getLast?_append]
   simp only [List.getLast?_singleton, Option.some_or]
   have hne : r.take n ≠ [] := by
    intro e
    have := congrArg List.length e
    rw [List.length_take, List.length_nil] at this
    omega
   have hl : (r.take n).getLast? = some r[n - 1] := by
    rw [List.getLast?_eq_getElem?, List.length_take, Nat.min_eq_left (by omega), List.getElem?_take_of_lt (by omega), List.getElem?_eq_getElem]
   rw [hl]
   have hcc := hc (n - 1) _ _ (List.getElem?_eq_getElem (by omega)) (by rw [Nat.sub_add_cancel hn']; exact List.getElem?_eq_getElem hlt)
   rw [if_pos (by simpa using hcc)]
   simp
end Go.Proofs.YtkejlnjnoiidnaaGreatDoor
end

section
namespace Go.Proofs.YtkejlnjnoiidnaaGreatDoor.Keys
open Go.RowKit Go.Maps
abbrev Tab := List ByteArray × List Int
def step (t : Tab) (s : ByteArray) : Tab := if s ∈ t.1 then (t.1, t.2 ++ [(t.1.idxOf s : Int)]) else (t.1 ++ [s], t.2 ++ [(t.1.length : Int)])
/-- What the map says of the table. -/
def Tied (D : DataW Unit) (T : List ByteArray) : Prop := ∀ s : ByteArray, Maps.has D (.string s.data.toList) = decide (s ∈ T) ∧ (s ∈ T → D.atKey (.string s.data.toList) (.lit (.int .i64 0)) = .lit (.int .i64 (T.idxOf s : Int)))
theorem lit_ne {s t : ByteArray} (h : ¬ s = t) : Lit.string s.data.toList ≠ Lit.string t.data.toList := by
 intro e
 apply h
 injection e with e
 obtain ⟨⟨a⟩⟩ := s
 obtain ⟨⟨b⟩⟩ := t
 simp at e
 rw [e]
theorem Tied.nil : Tied (.map []) [] := fun s => ⟨by simp [Maps.has], fun h => by simp at h⟩
theorem Tied.put {D : DataW Unit} {T : List ByteArray} {s : ByteArray} (h : Tied D T) (hD : IsMap D) (hs : ¬ s ∈ T) : Tied (D.put (.string s.data.toList) (.lit (.int .i64 (T.length : Int)))) (T ++ [s]) := by
 intro x
 by_cases hx : x = s
 ·subst hx
  refine ⟨?_, fun _ => ?_⟩
  ·rw [has_put_same hD (by simp [WideAt.IsKeyLit])]
   simp
  ·rw [atKey_put_same hD (by simp [WideAt.IsKeyLit])]
   rw [List.idxOf_append, if_neg hs]
   simp
 ·refine ⟨?_, fun hm => ?_⟩
  ·rw [has_put_other (lit_ne hx), (h x).1]
   simp [hx]
  ·rw [atKey_put_other (lit_ne hx)]
   have hm' : x ∈ T := by simpa [hx] using hm
   rw [(h x).2 hm', List.idxOf_append, if_pos hm']
end Go.Proofs.YtkejlnjnoiidnaaGreatDoor.Keys
end

section
namespace Go.Proofs.YtkejlnjnoiidnaaGreatDoor
end Go.Proofs.YtkejlnjnoiidnaaGreatDoor
end

section
namespace Go.Proofs.YtkejlnjnoiidnaaGreatDoor
/-- The entries of a run that begins at k. -/
def runAt (l : List Ent) (k m : Nat) : List Ent := (l.drop k).take m
structure WAt (l : List Ent) (k : Nat) (X : List UInt8) (q : Nat) (e : Int) : Prop where
 fx : (rbytes (runs (l.take k))).1 = X
 fq : (runs (l.take k)).length = q
 fe : (rbytes (runs (l.take k))).2 + 1 = e
 brk : Brk l k
 len : X.length ≤ 40 * k
 lo : 0 ≤ e
 hi : e ≤ 201
 zero : k = 0 ↔ e = 0
theorem WAt.new (l : List Ent) : WAt l 0 [] 0 0 := ⟨rfl, rfl, rfl, .inl rfl, by simp, by omega, by omega, by simp⟩
theorem runAt_get {l : List Ent} {k m j : Nat} (h : j < m) : (runAt l k m)[j]? = l[k + j]? := by
 unfold runAt
 rw [List.getElem?_take_of_lt h, List.getElem?_drop]
theorem runAt_len {l : List Ent} {k m : Nat} (h : k + m ≤ l.length) : (runAt l k m).length = m := by
 unfold runAt
 rw [List.length_take, List.length_drop]; omega
theorem take_run {l : List Ent} {k m : Nat} : l.take (k + m) = l.take k ++ runAt l k m := by
 unfold runAt
 rw [List.take_add]
theorem times_len {r : List Ent} (h : ∀ x ∈ r, 1 ≤ x.2 ∧ x.2 ≤ 1099511627776) : (times r).length ≤ 10 * r.length := by
 induction r with
 | nil => simp [times]
 | cons x r ih =>
  have h1 := ih fun y hy => h y (by simp [hy])
  have h2 := h x (by simp)
  have h3 := vput_len10 (n := x.2.toNat) (by omega)
  unfold times at h1 ⊢
  simp only [List.flatMap_cons, List.length_append, List.length_cons]
  omega
theorem WAt.next {l : List Ent} {k m : Nat} {X : List UInt8} {q : Nat} {e r t : Int} (h : WAt l k X q e) (hl : Rises 0 l) (hk : l[k]? = some (r, t)) (hm : 0 < m) (hkm : k + m ≤ l.length)
  (hc : ∀ j x, j < m → l[k + j]? = some x → x.1 = r + j) (hb : ∀ y, l[k + m]? = some y → y.1 ≠ r + m) :
  WAt l (k + m) (X ++ (vput (if k = 0 then r - e else r - e - 1).toNat ++ vput (m - 1) ++ times (runAt l k m))) (q + 1) (r + m) ∧ 0 ≤ (if k = 0 then r - e else r - e - 1) ∧ (if k = 0 then r - e else r - e - 1) ≤ 200 := by
 have hlen := runAt_len hkm
 have h0 : (runAt l k m)[0]? = some (r, t) := by rw [runAt_get hm]; exact hk
 have hmem : (r, t) ∈ l := List.mem_of_getElem? hk
 have hr := hl.1 _ hmem
 simp only at hr
 have hchain : Chain (runAt l k m) := by
  intro j x y hx hy
  have hj : j + 1 < m := by have := (List.getElem?_eq_some_iff.1 hy).1; omega
  rw [runAt_get (by omega)] at hx hy
  have h1 := hc j x (by omega) hx
  have h2 := hc (j + 1) y hj hy
  omega
 have hrun : runs (l.take (k + m)) = runs (l.take k) ++ [runAt l k m] := by
  have hg := runs_grow (l.take k) (runAt l k m) m ?_ hchain hm (by omega)
  ·rw [List.take_of_length_le (i := m) (l := runAt l k m) (by omega)] at hg
   rw [take_run]; exact hg
  ·rw [← take_run, List.length_take, Nat.min_eq_left (by omega)]
   rcases h.brk with h' | ⟨x, hx, hy⟩
   ·exact .inl h'
   ·by_cases hk0 : k = 0
    ·exact .inl hk0
    ·refine .inr ⟨x, ?_, fun y hyy => hy y ?_⟩
     ·rw [List.getElem?_take_of_lt (by omega)]; exact hx
     ·rw [List.getElem?_take_of_lt (by omega)] at hyy; exact hyy
 have hlast : ((runAt l k m).getLast?.getD (0, 0)).1 = r + m - 1 := by
  rw [List.getLast?_eq_getElem?, hlen]
  have hx : (runAt l k m)[m - 1]? = some (runAt l k m)[m - 1] := List.getElem?_eq_getElem (by omega)
  rw [hx]
  rw [runAt_get (by omega)] at hx
  have := hc (m - 1) _ (by omega) hx
  simp only [Option.getD_some]
  rw [this]; omega
 have hhead : ((runAt l k m).head?.getD (0, 0)).1 = r := by
  rw [List.head?_eq_getElem?, h0]; rfl
 have hend : (l[k + m - 1]?).map (·.1) = some (r + m - 1) := by
  have hx : l[k + (m - 1)]? = some l[k + (m - 1)] := List.getElem?_eq_getElem (by omega)
  have := hc (m - 1) _ (by omega) hx
  rw [show k + m - 1 = k + (m - 1) by omega, hx, Option.map_some, this]
  congr 1; omega
 have hbound : r + m - 1 ≤ 200 := by
  have hx : l[k + (m - 1)]? = some l[k + (m - 1)] := List.getElem?_eq_getElem (by omega)
  have h1 := hc (m - 1) _ (by omega) hx
  have h2 := (hl.1 _ (List.mem_of_getElem? hx)).2.1
  omega
 have he := h.fe
 have hz := h.zero
 have hlo := h.lo
 have hgap : (if (rbytes (runs (l.take k))).2 < 0 then r else r - (rbytes (runs (l.take k))).2 - 2) = (if k = 0 then r - e else r - e - 1) := by
  by_cases hk0 : k = 0
  ·have := hz.1 hk0
   rw [if_pos hk0, if_pos (by omega)]; omega
  ·have : e ≠ 0 := fun e0 => hk0 (hz.2 e0)
   rw [if_neg hk0, if_neg (by omega)]; omega
 have hgood : 0 ≤ (if k = 0 then r - e else r - e - 1) := by
  by_cases hk0 : k = 0
  ·have := hz.1 hk0
   rw [if_pos hk0]; omega
  ·rw [if_neg hk0]
   rcases h.brk with h' | ⟨x, hx, hy⟩
   ·exact absurd h' hk0
   ·have hne := hy _ hk
    -- the replica ahead
    have hxe : x.1 + 1 = e := by
     have hl1 : l.take k = l.take (k - 1) ++ [x] := by
      obtain ⟨hk1, ex⟩ := List.getElem?_eq_some_iff.1 hx
      have := List.take_succ_eq_append_getElem hk1
      rw [show k - 1 + 1 = k by omega, ex] at this
      exact this
     rw [← he, hl1]
     obtain ⟨rs, rr, e1, e2⟩ := runs_last (l.take (k - 1)) x
     rw [e1, rbytes_snoc]
     simp only [bstep, e2, Option.getD_some]
    have hlt : x.1 < r := by
     have hp := hl.2
     rw [List.pairwise_iff_getElem] at hp
     obtain ⟨h1, e1⟩ := List.getElem?_eq_some_iff.1 hx
     obtain ⟨h2, e2⟩ := List.getElem?_eq_some_iff.1 hk
     have := hp (k - 1) k h1 h2 (by omega)
     rw [e1, e2] at this
     exact this
    omega
 have hgl := vput_len10 (n := (if k = 0 then r - e else r - e - 1).toNat) (by split <;> omega)
 have hml := vput_len10 (n := m - 1) (by omega)
 have htl := times_len (r := runAt l k m) (fun x hx => by
  have : x ∈ l := List.mem_of_mem_drop (List.mem_of_mem_take hx)
  have := hl.1 x this
  exact ⟨this.2.2.1, this.2.2.2⟩)
 refine ⟨⟨?_, ?_, ?_, ?_, ?_, by omega, by omega, by omega⟩, hgood, by split <;> omega⟩
 ·rw [hrun, rbytes_snoc]
  simp only [bstep]
  rw [hhead, hgap, hlen, h.fx]
 ·rw [hrun, List.length_append, h.fq]; rfl
 ·rw [hrun, rbytes_snoc]
  simp only [bstep]
  rw [hlast]; omega
 ·have hx : l[k + m - 1]? = some l[k + m - 1] := List.getElem?_eq_getElem (by omega)
  rw [hx, Option.map_some] at hend
  injection hend with hend
  exact .inr ⟨_, hx, fun y hy => by have := hb y hy; rw [hend]; omega⟩
 ·simp only [List.length_append]
  have := h.len
  rw [hlen] at htl
  omega
theorem WAt.done {l : List Ent} {X : List UInt8} {q : Nat} {e : Int} (h : WAt l l.length X q e) : vbytes l = vput q ++ X := by
 have h1 := h.fx
 have h2 := h.fq
 rw [List.take_length] at h1 h2
 unfold vbytes
 rw [h1, h2]
end Go.Proofs.YtkejlnjnoiidnaaGreatDoor
end

section
namespace Go.Proofs.YtkejlnjnoiidnaaGreatDoor
end Go.Proofs.YtkejlnjnoiidnaaGreatDoor
end

section
namespace Go.Proofs.YtkejlnjnoiidnaaGreatDoor
set_option linter.unusedSimpArgs false
open Go.RowKit As
theorem meas_next {m n : Nat} (h : m < n) : n - ((m : Int) + 1).toNat < n - ((m : Int)).toNat := by omega
theorem lt_dec {j m : Nat} (h : j < m) : decide ((j : Int) < (m : Int)) = true ∧ decide (j < m) = true := ⟨by simp; omega, by simpa using h⟩
theorem lt_no {j m : Nat} (h : ¬ j < m) : decide ((j : Int) < (m : Int)) = false ∧ decide (j < m) = false := ⟨by simp; omega, by simpa using h⟩
theorem j_facts {j : Nat} (h : j ≤ 16) : wrap64 ((j : Int) + 1) = (j : Int) + 1 ∧ IntKind.i64.wrap ((j : Int) + 1) = (j : Int) + 1 := ⟨IntWalk.wrap64_in _ (by omega), IntWalk.i64_in _ (by omega)⟩
end Go.Proofs.YtkejlnjnoiidnaaGreatDoor
end
