/- batch.Right says what bright says. -/
import Derived.Test.YtlpkpfpmcppciaaGreatDoorZ2
import Derived.Test.YtlpkpfpmcppciaaGreatDoorZ6b
import Derived.Test.YtlpkpfpmcppciaaGreatDoorZ7
import Derived.Test.YtlpkpfpmcppciaaGreatDoorZ10
import Derived.Deep.RegionWith
section
namespace Go.Proofs.YtlpkpfpmcppciaaGreatDoor
set_option linter.unusedSimpArgs false
open Go.RowKit As
/-- Element k of a slice of writes. -/
theorem wr_at {w : World} {B n : Nat} {A : Option Addr} {l : List Wr} (h : Sl w B 6 A n (l.flatMap wrCells)) {k : Nat} (hk : k < n) :
  ∃ b o x, A = some ⟨b, o, none⟩ ∧ b < B ∧ l[k]? = some x ∧ ∀ j u, (wrCells x)[j]? = some u → w.cell? ⟨b, o + k * 6 + j, none⟩ = some u :=
 slk_at wrCells 6 (fun _ => rfl) h (slk_len wrCells 6 (by omega) (fun _ => rfl) h) hk
/-- The batch's box. -/
structure BxAt (w : World) (B : Nat) (b : BatArg) : Prop where
 c0 : w.cell? ⟨B, 0, none⟩ = some (.slice b.A b.n b.c)
 c1 : w.cell? ⟨B, 1, none⟩ = some (.slice b.A' b.n' b.c')
 c2 : w.cell? ⟨B, 2, none⟩ = some (.slice b.A'' b.n'' b.c'')
theorem BxAt.new (w : World) (b : BatArg) : BxAt (w.alloc (.cells #[.slice b.A b.n b.c, .slice b.A' b.n' b.c', .slice b.A'' b.n'' b.c''] 26)) w.heap.size b := by
 refine ⟨?_, ?_, ?_⟩ <;> (rw [World.cell?_alloc_new]; rfl)
theorem BxAt.below {w w' : World} {B : Nat} {b : BatArg} (h : BxAt w B b) (hb : Below w.heap.size w w') : BxAt w' B b :=
 ⟨(hb.cell (cell_lt h.c0)).trans h.c0, (hb.cell (cell_lt h.c1)).trans h.c1, (hb.cell (cell_lt h.c2)).trans h.c2⟩
theorem bright_f {f h : List Ent} {l : List Wr} (e : (vright f).1 ≠ 0) : bright f h l = ((vright f).1, -1) := by unfold bright; rw [if_pos e]
theorem bright_h {f h : List Ent} {l : List Wr} (e0 : (vright f).1 = 0) (e : (vright h).1 ≠ 0) : bright f h l = ((vright h).1, -1) := by unfold bright; rw [if_neg (by omega), if_pos e]
theorem bright_c {f h : List Ent} {l : List Wr} (e0 : (vright f).1 = 0) (e1 : (vright h).1 = 0) (e : vcovers h f = false) : bright f h l = (13, -1) := by unfold bright; rw [if_neg (by omega), if_neg (by omega), if_pos e]
theorem bright_l {f h : List Ent} {l : List Wr} (e0 : (vright f).1 = 0) (e1 : (vright h).1 = 0) (e2 : vcovers h f = true) (e : 60 < l.length) : bright f h l = (4, -1) := by unfold bright; rw [if_neg (by omega), if_neg (by omega), if_neg (by simp [e2]), if_pos e]
theorem bright_go {f h : List Ent} {l : List Wr} (e0 : (vright f).1 = 0) (e1 : (vright h).1 = 0) (e2 : vcovers h f = true) (e : ¬ 60 < l.length) : bright f h l = bgo f h l (0, 0) 0 := by unfold bright; rw [if_neg (by omega), if_neg (by omega), if_neg (by simp [e2]), if_neg e]
set_option maxHeartbeats 4000000 in
set_option maxRecDepth 100000 in
theorem bright_any (w : World) (x : BatArg) (hb : Bat w x) (hf : ∀ y ∈ x.f, entFits y) (hh : ∀ y ∈ x.h, entFits y) (hg : Handle w) :
  Calls Tryz.prog 53 #[x.v] w fun e w' => ∃ v, e = .returned v ∧ ErrOf w' v (bright x.f x.h x.l) ∧ Below w.heap.size w w' := by
 have hbx := BxAt.new w x
 have b0 := below1 w (.cells #[.slice x.A x.n x.c, .slice x.A' x.n' x.c', .slice x.A'' x.n'' x.c''] 26)
 obtain ⟨A, n, c, A', n', c', A'', n'', c'', f, h, l⟩ := x
 obtain ⟨sf, sh, sl, nf, nh, nl⟩ := hb
 simp only at hbx b0 hf hh sf sh sl nf nh nl ⊢
 have ef : Ents w w.heap.size A n f := ⟨sf, hf⟩
 have eh : Ents w w.heap.size A' n' h := ⟨sh, hh⟩
 have ef0 := ef.grow b0
 have eh0 := eh.grow b0
 have sl0 := sl.grow b0
 have hg0 := hg.below b0
 have hll := slk_len wrCells 6 (by omega) (fun _ => rfl) sl
 clear sf sh hf hh sl ef eh
 unfold BatArg.v
 simp only
 have hix0 : ∀ w : World, (Instr.index 140 (.agg #[.slice A n c, .slice A' n' c']) (.int .i64 0)).run Tryz.prog w = .ok (.slice A n c) w := fun _ => by kernel_rfl
 have hix1 : ∀ w : World, (Instr.index 140 (.agg #[.slice A n c, .slice A' n' c']) (.int .i64 1)).run Tryz.prog w = .ok (.slice A' n' c') w := fun _ => by kernel_rfl
 go_enter Tryz.func53, Tryz.ntmps53
 go_wp2
 generalize hW : w.alloc (.cells #[.slice A n c, .slice A' n' c', .slice A'' n'' c''] 26) = W at *
 go_loopw [4, 5, 14] (fun _ _ i wr => (i = .int .i64 0 ∨ (i = .int .i64 1 ∧ Hid ((vright f).1 = 0)) ∨ (i = .int .i64 2 ∧ Hid ((vright f).1 = 0) ∧ Hid ((vright h).1 = 0))) ∧ Below W.heap.size W wr) (fun _ _ i _ => 2 - (intOf i).toNat)
 case atStart => exact ⟨.inl rfl, Below.refl _ _⟩
 case round =>
  obtain ⟨hi, hbel⟩ := hrel
  have hB := hbel.size
  have efw := ef0.grow hbel
  have ehw := eh0.grow hbel
  have hgw := hg0.below hbel
  rcases hi with rfl | ⟨rfl, h1⟩ | ⟨rfl, h1, h2⟩
  ·by_cases hz : (vright f).1 = 0
   ·go_wp2_with fail
    refine (vright_any wr n c A f efw nf).mono ?_
    rintro r w1 ⟨v, rfl, hv, hb1⟩
    obtain rfl := err_nil hv hz
    have HZ := Lib.hid hz
    clear hv hz
    go_wp2
    go_roundw
    case rel => exact ⟨.inr (.inl ⟨by go_num, HZ⟩), hbel.trans (hb1.mono hB)⟩
    case measure => simp [intOf]
   ·have hr := Lib.hid (bright_f (h := h) (l := l) hz)
    go_wp2_with fail
    refine (vright_any wr n c A f efw nf).mono ?_
    rintro r w1 ⟨v, rfl, hv, hb1⟩
    have hg1 := hgw.below hb1
    obtain ⟨t, u, rfl⟩ := err_some hv hz
    unfold ErrOf at hv
    have HZ := Lib.hid hz
    have HV := Lib.hid hv
    clear hz hv
    go_wp2_with fail
    refine (tell_any HV.out hg1).mono ?_
    rintro r w2 ⟨rfl, hb2⟩
    go_wp2
    go_ret
    exact ⟨_, rfl, ErrOf.of (.bare _ HZ.out) hr.out, b0.trans (((hbel.trans (hb1.mono hB)).trans (hb2.mono (hbel.trans (hb1.mono hB)).size)).mono b0.size)⟩
  ·by_cases hz : (vright h).1 = 0
   ·go_wp2_with fail
    refine (vright_any wr n' c' A' h ehw nh).mono ?_
    rintro r w1 ⟨v, rfl, hv, hb1⟩
    obtain rfl := err_nil hv hz
    have HZ := Lib.hid hz
    clear hv hz
    go_wp2
    go_roundw
    case rel => exact ⟨.inr (.inr ⟨by go_num, h1, HZ⟩), hbel.trans (hb1.mono hB)⟩
    case measure => simp [intOf]
   ·have hr := Lib.hid (bright_h (l := l) h1.out hz)
    go_wp2_with fail
    refine (vright_any wr n' c' A' h ehw nh).mono ?_
    rintro r w1 ⟨v, rfl, hv, hb1⟩
    have hg1 := hgw.below hb1
    obtain ⟨t, u, rfl⟩ := err_some hv hz
    unfold ErrOf at hv
    have HZ := Lib.hid hz
    have HV := Lib.hid hv
    clear hz hv
    go_wp2_with fail
    refine (tell_any HV.out hg1).mono ?_
    rintro r w2 ⟨rfl, hb2⟩
    go_wp2
    go_ret
    exact ⟨_, rfl, ErrOf.of (.bare _ HZ.out) hr.out, b0.trans (((hbel.trans (hb1.mono hB)).trans (hb2.mono (hbel.trans (hb1.mono hB)).size)).mono b0.size)⟩
  ·obtain ⟨d0, d1, d2⟩ := hbx.below hbel
   simp only at d0 d1 d2
   by_cases hc : vcovers h f = true
   ·have hll' : l.length = n'' := by omega
    by_cases hl6 : 60 < n''
    ·have hr := Lib.hid (bright_l (l := l) h1.out h2.out hc (by omega))
     have e5 : decide ((60 : Int) < (n'' : Int)) = true := by simp; omega
     have e6 : decide (60 < n'') = true := by simp; omega
     go_wp2_with fail
     refine (covers_any wr n' c' n c A' A h f ehw efw nh nf).mono ?_
     rintro r w1 ⟨rfl, hb1⟩
     rw [hc]
     clear hc
     have d2 := (hb1.cell (cell_lt d2)).trans d2
     go_wp2
     go_ret
     exact ⟨_, rfl, ErrOf.of (.bare 4 (by omega)) hr.out, b0.trans ((hbel.trans (hb1.mono hB)).mono b0.size)⟩
    ·have hr := Lib.hid (bright_go (l := l) h1.out h2.out hc (by omega))
     have e5 : decide ((60 : Int) < (n'' : Int)) = false := by simp; omega
     have e6 : decide (60 < n'') = false := by simp; omega
     go_wp2_with fail
     refine (covers_any wr n' c' n c A' A h f ehw efw nh nf).mono ?_
     rintro r w1 ⟨rfl, hb1⟩
     rw [hc]
     clear hc
     have d2 := (hb1.cell (cell_lt d2)).trans d2
     have sl1 := (sl0.grow hbel).grow hb1
     have ef1 := efw.grow hb1
     have eh1 := ehw.grow hb1
     have hg1 := hgw.below hb1
     have d0 := (hb1.cell (cell_lt d0)).trans d0
     have d1 := (hb1.cell (cell_lt d1)).trans d1
     have hbx1 := b0.trans ((hbel.trans (hb1.mono hB)).mono b0.size)
     have hd60 : n'' ≤ 60 := by omega
     clear sl0 efw ehw hgw ef0 eh0 hg0
     go_wp2
     go_loopw [6, 7, 8, 42] (fun _ _ _ i wr => ∃ k : Nat, k ≤ n'' ∧ i = .int .i64 k ∧ Hid (BAt f h l k) ∧ Below w1.heap.size w1 wr) (fun _ _ _ i _ => n'' - (intOf i).toNat)
     case atStart => exact ⟨0, by omega, rfl, Lib.hid BAt.zero, Below.refl _ _⟩
     case round =>
      obtain ⟨k, hk, rfl, hat, hbel2⟩ := hrel
      have hB2 := hbel2.size
      by_cases hlt : k < n''
      ·obtain ⟨b, o, ⟨a0, a1, a2, d, e, m⟩, rfl, hbB, hx, hcl⟩ := wr_at (sl1.grow hbel2) hlt
       have c0 : wr.cell? ⟨b, o + k * 6, none⟩ = some (.int .i64 a0) := hcl 0 _ rfl
       have c1 := hcl 1 _ rfl
       have c2 := hcl 2 _ rfl
       have c3 := hcl 3 _ rfl
       have c4 := hcl 4 _ rfl
       have c5 := hcl 5 _ rfl
       have hX := Lib.hid hx
       clear hcl hx
       have kb := below1 wr (wrO a0 a1 a2 d e m)
       have ka := WrAt.new wr a0 a1 a2 d e m
       have hbd := hX.out
       by_cases hz : wright (a0, a1, a2, d, e, m) = 0
       ·by_cases h0 : k = 0
        ·have hno : ¬ (0 < k ∧ 0 ≤ idCmp (lastId l k) (wid (a0, a1, a2, d, e, m))) := by omega
         have e8 : decide (0 < k) = false := by simp; omega
         have e9 : decide ((0 : Int) < (k : Int)) = false := by simp; omega
         clear h0
         have Hno := Lib.hid hno
         have hwr0 := Lib.hid hz
         clear hz hno
         go_wp2_with fail
         refine (wright_any (a0, a1, a2, d, e, m) _).mono ?_
         rintro r w2 ⟨rfl, hb2⟩
         rw [hwr0.out]
         have hk2 := kb.trans (hb2.mono kb.size)
         go_wp2_with fail
         refine (tell_any (errV_is w2 0) ((hg1.below hbel2).below hk2)).mono ?_
         rintro r w3 ⟨rfl, hb3⟩
         have hk3 := hk2.trans (hb3.mono hk2.size)
         have hb23 := hb2.trans (hb3.mono hb2.size)
         have k2 := Inv.cell ((hb23.cell (cell_lt ka.c0)).trans ka.c0)
         have k3 := Inv.cell ((hb23.cell (cell_lt ka.c1)).trans ka.c1)
         go_wp2
         refine wp_region_inv (by kernel_rfl) (by kernel_rfl) ?_
         repeat (go_big_quiet_step (fail))
         refine wpQuiet_nil ?_
         intro _ hw'
         obtain ⟨y, rfl⟩ := hw'
         have hk4 := hk3.trans (y.below.mono hk3.size)
         have q2 := k2 y
         have q3 := k3 y
         have q0 := (hk4.cell (cell_lt ((hbel2.cell (cell_lt d0)).trans d0))).trans ((hbel2.cell (cell_lt d0)).trans d0)
         have q1 := (hk4.cell (cell_lt ((hbel2.cell (cell_lt d1)).trans d1))).trans ((hbel2.cell (cell_lt d1)).trans d1)
         have ef2 := (ef1.grow hbel2).grow hk4
         have eh2 := (eh1.grow hbel2).grow hk4
         clear k2 k3
         cases hin : idWithin (a0, a1) f h with
         | true =>
          have hnx := Lib.hid (BAt.succ hat.out hX.out hwr0.out Hno.out hin)
          go_wp2_with fail
          refine (iwithin_any a0 a1 n n' c c' A A' f h _ ef2 eh2 nf nh).mono ?_
          rintro r w5 ⟨rfl, hb5⟩
          rw [hin]
          clear hin
          go_wp2
          go_roundw
          case rel => exact ⟨k + 1, by omega, by go_num, hnx, hbel2.trans ((hk4.trans (hb5.mono hk4.size)).mono hB2)⟩
          case measure => simp [intOf]; omega
         | false =>
          have hres := Lib.hid (BAt.state hat.out hX.out hwr0.out Hno.out hin)
          go_wp2_with fail
          refine (iwithin_any a0 a1 n n' c c' A A' f h _ ef2 eh2 nf nh).mono ?_
          rintro r w5 ⟨rfl, hb5⟩
          rw [hin]
          clear hin
          have hk5 := hk4.trans (hb5.mono hk4.size)
          go_wp2
          go_ret
          exact ⟨_, rfl, ErrOf.of (err_at _ _ 6 k (by omega) rfl) (hr.out.trans hres.out), hbx1.trans (((hbel2.trans (hk5.mono hB2)).alloc (hbel2.trans (hk5.mono hB2)).size _).mono hbx1.size)⟩
        ·have e8 : decide (0 < k) = true := by simp; omega
         have e9 : decide ((0 : Int) < (k : Int)) = true := by simp; omega
         obtain ⟨bp, op, ⟨p0, p1, p2, pd, pe, pm⟩, hpA, hpB, hpx, hpl⟩ := wr_at (sl1.grow hbel2) (k := k - 1) (by omega)
         injection hpA with hpA
         injection hpA with hpA1 hpA2
         subst hpA1
         subst hpA2
         have p0' : wr.cell? ⟨b, o + (k - 1) * 6, none⟩ = some (.int .i64 p0) := hpl 0 _ rfl
         have p1' := hpl 1 _ rfl
         have HPX := Lib.hid hpx
         clear hpl hpx
         have hlast := Lib.hid (show lastId l k = (p0, p1) by
          unfold lastId
          rw [if_neg h0]
          simp [List.getD, HPX.out])
         have hZ := Lib.hid hz
         have hwr0 := Lib.hid (show wright (a0, a1, a2, d, e, m) = 0 from hz)
         clear hz
         go_wp2_with fail
         refine (wright_any (a0, a1, a2, d, e, m) _).mono ?_
         rintro r w2 ⟨rfl, hb2⟩
         rw [hwr0.out]
         have hk2 := kb.trans (hb2.mono kb.size)
         go_wp2_with fail
         refine (tell_any (errV_is w2 0) ((hg1.below hbel2).below hk2)).mono ?_
         rintro r w3 ⟨rfl, hb3⟩
         have hk3 := hk2.trans (hb3.mono hk2.size)
         have k0 := Inv.cell ((hk3.cell (cell_lt p0')).trans p0')
         have k1 := Inv.cell ((hk3.cell (cell_lt p1')).trans p1')
         have hb23 := hb2.trans (hb3.mono hb2.size)
         have k2 := Inv.cell ((hb23.cell (cell_lt ka.c0)).trans ka.c0)
         have k3 := Inv.cell ((hb23.cell (cell_lt ka.c1)).trans ka.c1)
         have k4 := Inv.cell ((hk3.cell (cell_lt ((hbel2.cell (cell_lt d2)).trans d2))).trans ((hbel2.cell (cell_lt d2)).trans d2))
         have hwk : IntKind.i64.wrap ((k : Int) - 1) = ((k - 1 : Nat) : Int) := by rw [show ((k : Int) - 1) = ((k - 1 : Nat) : Int) by omega]; exact IntWalk.i64_in _ (by omega)
         go_wp2
         refine wp_region_inv (by kernel_rfl) (by kernel_rfl) ?_
         repeat (go_big_quiet_step ((first
          | (go_at_call 58; exact Calls.inv_of (compare_any p0 p1 a0 a1 _)))))
         refine wpQuiet_nil ?_
         intro _ hw'
         obtain ⟨y, rfl⟩ := hw'
         have hk4 := hk3.trans (y.below.mono hk3.size)
         have q2 := k2 y
         have q3 := k3 y
         have q0 := (hk4.cell (cell_lt ((hbel2.cell (cell_lt d0)).trans d0))).trans ((hbel2.cell (cell_lt d0)).trans d0)
         have q1 := (hk4.cell (cell_lt ((hbel2.cell (cell_lt d1)).trans d1))).trans ((hbel2.cell (cell_lt d1)).trans d1)
         have ef2 := (ef1.grow hbel2).grow hk4
         have eh2 := (eh1.grow hbel2).grow hk4
         by_cases hcmp : 0 ≤ idCmp (p0, p1) (a0, a1)
         ·have hres := Lib.hid (BAt.order hat.out hX.out hwr0.out (by omega) (by rw [hlast.out]; exact hcmp))
          have e10 : decide (0 ≤ idCmp (p0, p1) (a0, a1)) = true := by simpa using hcmp
          have e11 : decide (idCmp (p0, p1) (a0, a1) ≥ 0) = true := by simpa using hcmp
          clear k0 k1 k2 k3 k4
          go_wp2
          go_ret
          exact ⟨_, rfl, ErrOf.of (err_at _ _ 10 k (by omega) rfl) (hr.out.trans hres.out), hbx1.trans (((hbel2.trans (hk4.mono hB2)).alloc (hbel2.trans (hk4.mono hB2)).size _).mono hbx1.size)⟩
         ·have hno := Lib.hid (show ¬ (0 < k ∧ 0 ≤ idCmp (lastId l k) (wid (a0, a1, a2, d, e, m))) by rw [hlast.out]; exact fun hh => hcmp hh.2)
          have e10 : decide (0 ≤ idCmp (p0, p1) (a0, a1)) = false := by simpa using hcmp
          have e11 : decide (idCmp (p0, p1) (a0, a1) ≥ 0) = false := by simpa using hcmp
          have hc2 : idCmp (p0, p1) (a0, a1) < 0 := by omega
          clear k0 k1 k2 k3 k4
          cases hin : idWithin (a0, a1) f h with
          | true =>
           have hnx := Lib.hid (BAt.succ hat.out hX.out hwr0.out hno.out hin)
           go_wp2_with fail
           refine (iwithin_any a0 a1 n n' c c' A A' f h _ ef2 eh2 nf nh).mono ?_
           rintro r w5 ⟨rfl, hb5⟩
           rw [hin]
           clear hin
           go_wp2
           go_roundw
           case rel => exact ⟨k + 1, by omega, by go_num, hnx, hbel2.trans ((hk4.trans (hb5.mono hk4.size)).mono hB2)⟩
           case measure => simp [intOf]; omega
          | false =>
           have hres := Lib.hid (BAt.state hat.out hX.out hwr0.out hno.out hin)
           go_wp2_with fail
           refine (iwithin_any a0 a1 n n' c c' A A' f h _ ef2 eh2 nf nh).mono ?_
           rintro r w5 ⟨rfl, hb5⟩
           rw [hin]
           clear hin
           have hk5 := hk4.trans (hb5.mono hk4.size)
           go_wp2
           go_ret
           exact ⟨_, rfl, ErrOf.of (err_at _ _ 6 k (by omega) rfl) (hr.out.trans hres.out), hbx1.trans (((hbel2.trans (hk5.mono hB2)).alloc (hbel2.trans (hk5.mono hB2)).size _).mono hbx1.size)⟩
       ·have hres := Lib.hid (BAt.bad hat.out hX.out hz)
        generalize hwr : wright (a0, a1, a2, d, e, m) = q at *
        have hWR := Lib.hid hwr
        have e7 : (q != 0) = true := by simpa using hz
        have HZ := Lib.hid hz
        clear hwr hz
        go_wp2_with fail
        refine (wright_any (a0, a1, a2, d, e, m) _).mono ?_
        rintro r w2 ⟨rfl, hb2⟩
        rw [hWR.out]
        have hk2 := kb.trans (hb2.mono kb.size)
        go_wp2_with fail
        refine (tell_any (errV_is w2 q) ((hg1.below hbel2).below hk2)).mono ?_
        rintro r w3 ⟨rfl, hb3⟩
        have hk3 := hk2.trans (hb3.mono hk2.size)
        go_wp2
        go_ret
        exact ⟨_, rfl, ErrOf.of (err_at _ _ q k HZ.out rfl) (hr.out.trans hres.out), hbx1.trans (((hbel2.trans (hk3.mono hB2)).alloc (hbel2.trans (hk3.mono hB2)).size _).mono hbx1.size)⟩
      ·obtain rfl : k = n'' := by omega
       have hres := Lib.hid (BAt.all hat.out (by omega))
       go_wp2
       go_ret
       exact ⟨_, rfl, ErrOf.of .none (hr.out.trans hres.out), hbx1.trans (hbel2.mono hbx1.size)⟩
   ·have hcf : vcovers h f = false := by simpa using hc
    have hr := Lib.hid (bright_c (l := l) h1.out h2.out hcf)
    clear hc
    go_wp2_with fail
    refine (covers_any wr n' c' n c A' A h f ehw efw nh nf).mono ?_
    rintro r w1 ⟨rfl, hb1⟩
    rw [hcf]
    clear hcf
    go_wp2
    go_ret
    exact ⟨_, rfl, ErrOf.of (.bare 13 (by omega)) hr.out, b0.trans ((hbel.trans (hb1.mono hB)).mono b0.size)⟩
end Go.Proofs.YtlpkpfpmcppciaaGreatDoor
end
