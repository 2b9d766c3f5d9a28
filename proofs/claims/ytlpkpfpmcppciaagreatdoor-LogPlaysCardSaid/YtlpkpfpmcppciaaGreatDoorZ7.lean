/- vector.Join says what vjoin says.

Whether a text is empty. Any program.

write.Right says what wright says. Printed by gen_write.py. -/
import Derived.Test.YtlpkpfpmcppciaaGreatDoorZ3
import Derived.Test.YtlpkpfpmcppciaaGreatDoorZ6b
import Derived.Deep.RegionHeld3
import Derived.Deep.RegionWith
import Derived.Test.YtlpkpfpmcppciaaGreatDoorZ1
import Derived.Test.YtlpkpfpmcppciaaGreatDoorZ2
import Derived.Deep.QuietTactic
import Derived.BigQuiet
section
namespace Go.Proofs.YtlpkpfpmcppciaaGreatDoor
open Go.RowKit As
def slLen : Value → Nat
 | .slice _ n _ => n
 | _ => 0
theorem Ents.tail {w : World} {B c : Nat} {A : Option Addr} {x : Ent} {l : List Ent} (h : Ents w B A (x :: l).length (x :: l)) (hc : (x :: l).length ≤ c) : Ents w B (if c = 1 then A else A.map (·.add (1 * 2))) l.length l := by
 refine ⟨⟨flat_len entCells 2 entCells_len l, fun hn => ?_⟩, fun y hy => h.2 y (List.mem_cons_of_mem _ hy)⟩
 simp only [List.length_cons] at hc
 rw [if_neg (by omega)]
 obtain ⟨b, o, rfl, hb, hx⟩ := h.1.2 (by simp)
 refine ⟨b, o + 2, by simp [Addr.add], hb, fun j u hu => ?_⟩
 have := hx (j + 2) u (by simp only [List.flatMap_cons]; rw [List.getElem?_append_right (by simp [entCells])]; simpa [entCells] using hu)
 rw [show o + 2 + j = o + (j + 2) by omega]
 exact this
theorem Ents.head {w : World} {B : Nat} {A : Option Addr} {r t : Int} {l : List Ent} (h : Ents w B A ((r, t) :: l).length ((r, t) :: l)) :
  ∃ b o, A = some ⟨b, o, none⟩ ∧ b < B ∧ w.cell? ⟨b, o, none⟩ = some (.int .i64 r) ∧ w.cell? ⟨b, o + 1, none⟩ = some (.int .i64 t) := by
 obtain ⟨b, o, r', t', e, hb, hx, _, c0, c1⟩ := h.at_ (k := 0) (by simp)
 simp at hx
 obtain ⟨rfl, rfl⟩ := hx
 exact ⟨b, o, e, hb, by simpa using c0, by simpa using c1⟩
theorem run_tail (A : Option Addr) (c n : Nat) (h : 1 ≤ n) (w : World) : (Instr.slice 24 (.slice A n c) (some (.int .i64 1)) none none).run Tryz.prog w = .ok (.slice (if c = 1 then A else A.map (·.add (1 * 2))) (n - 1) (c - 1)) w := by
 rw [run_slice_l w _ A n c (by kernel_rfl) .i64 1 (by omega) (by omega), show (sizeOf (Tryz.prog.elem 24)).run Tryz.prog w = .ok 2 w by kernel_rfl]
 rfl
/-- As it stands in Join's loop. -/
structure JRel (w : World) (l l' : List Ent) (va vb vo : Value) (A1 A2 : Option Addr) (c1 c2 : Nat) (a b o : List Ent) (wr : World) : Prop where
 ea : va = .slice A1 a.length c1
 eb : vb = .slice A2 b.length c2
 la : a.length ≤ c1
 lb : b.length ≤ c2
 sa : Ents w w.heap.size A1 a.length a
 sb : Ents w w.heap.size A2 b.length b
 m : vmerge l l' = o ++ vmerge a b
 n : o.length + a.length + b.length ≤ 32
 own : wr.ownsRow w.heap.size 73 2 vo o.length (entV o)
 bel : Below w.heap.size w wr
set_option maxHeartbeats 16000000 in
set_option maxRecDepth 100000 in
theorem vjoin_any (w : World) (n c n' c' : Nat) (A A' : Option Addr) (l l' : List Ent) (hl : Ents w w.heap.size A n l) (hl' : Ents w w.heap.size A' n' l') (hn : n ≤ maxLen) (hn' : n' ≤ maxLen) (hc : n ≤ c) (hc' : n' ≤ c') (hg : Handle w) :
  Calls Tryz.prog 47 #[.slice A n c, .slice A' n' c'] w fun e w' => ∃ v, e = .returned (.tuple #[v, errV (vjoin l l').2]) ∧ w'.ownsRow w.heap.size 73 2 v (vjoin l l').1.length (entV (vjoin l l').1) ∧ Below w.heap.size w w' := by
 obtain ⟨i0, hi, hz0, hz1, hz2⟩ := info_parts entInfo
 obtain rfl := hl.len
 obtain rfl := hl'.len
 have x0 : ∀ w : World, (Instr.index 140 (.agg #[.slice A l.length c, .slice A' l'.length c']) (.int .i64 0)).run Tryz.prog w = .ok (.slice A l.length c) w := fun _ => by kernel_rfl
 have x1 : ∀ w : World, (Instr.index 140 (.agg #[.slice A l.length c, .slice A' l'.length c']) (.int .i64 1)).run Tryz.prog w = .ok (.slice A' l'.length c') w := fun _ => by kernel_rfl
 go_enter Tryz.func47, Tryz.ntmps47
 go_wp2
 go_loopw [7, 8, 13] (fun _ _ i wr => ∃ k : Nat, k ≤ 2 ∧ i = .int .i64 k ∧ Hid (1 ≤ k → (vright l).1 = 0) ∧ Hid (2 ≤ k → (vright l').1 = 0) ∧ Below w.heap.size w wr) (fun _ _ i _ => 2 - (intOf i).toNat)
 case atStart => exact ⟨0, by omega, rfl, Lib.hid (by omega), Lib.hid (by omega), Below.refl _ _⟩
 case round =>
  obtain ⟨k, hk, rfl, hk1, hk2, hbel⟩ := hrel
  have hB := hbel.size
  have hgr := hg.below hbel
  have el := hl.grow hbel
  have el' := hl'.grow hbel
  rcases Nat.lt_or_ge k 1 with h0 | h0
  ·obtain rfl : k = 0 := by omega
   by_cases h1 : (vright l).1 = 0
   ·go_wp2_with fail
    refine (vright_any wr l.length c A l el hn).mono ?_
    rintro e w1 ⟨v1, rfl, hv1, hb1⟩
    obtain rfl := err_nil hv1 h1
    have H1 := Lib.hid h1
    clear h1 hv1
    go_wp2
    go_roundw
    case rel => exact ⟨1, by omega, rfl, Lib.hid (fun _ => H1.out), Lib.hid (by omega), hbel.trans (hb1.mono hB)⟩
    case measure => simp [intOf]
   ·have hr := Lib.hid (join_bad (b := l') h1)
    go_wp2_with fail
    refine (vright_any wr l.length c A l el hn).mono ?_
    rintro e w1 ⟨v1, rfl, hv1, hb1⟩
    obtain ⟨ty, u, rfl⟩ := err_some hv1 h1
    have H1 := Lib.hid h1
    have HV := Lib.hid hv1
    clear h1 hv1
    have hb01 := hbel.trans (hb1.mono hB)
    go_wp2_with fail
    refine (tell_any HV.out (hg.below hb01)).mono ?_
    rintro e w2 ⟨rfl, hb2⟩
    go_wp2
    go_ret2
    refine ⟨_, by rw [hr.out]; simp only; rw [errV_of H1.out]; rfl, ?_, hb01.trans (hb2.mono hb01.size)⟩
    rw [hr.out]; exact World.ownsRow_nil _ _ _ _
  ·rcases Nat.lt_or_ge k 2 with h00 | h00
   ·obtain rfl : k = 1 := by omega
    by_cases h1 : (vright l').1 = 0
    ·go_wp2_with fail
     refine (vright_any wr l'.length c' A' l' el' hn').mono ?_
     rintro e w1 ⟨v1, rfl, hv1, hb1⟩
     obtain rfl := err_nil hv1 h1
     have H1 := Lib.hid h1
     clear h1 hv1
     go_wp2
     go_roundw
     case rel => exact ⟨2, by omega, rfl, Lib.hid (fun _ => hk1.out (by omega)), Lib.hid (fun _ => H1.out), hbel.trans (hb1.mono hB)⟩
     case measure => simp [intOf]
    ·have hr := Lib.hid (join_bad' (hk1.out (by omega)) h1)
     go_wp2_with fail
     refine (vright_any wr l'.length c' A' l' el' hn').mono ?_
     rintro e w1 ⟨v1, rfl, hv1, hb1⟩
     obtain ⟨ty, u, rfl⟩ := err_some hv1 h1
     have H1 := Lib.hid h1
     have HV := Lib.hid hv1
     clear h1 hv1
     have hb01 := hbel.trans (hb1.mono hB)
     go_wp2_with fail
     refine (tell_any HV.out (hg.below hb01)).mono ?_
     rintro e w2 ⟨rfl, hb2⟩
     go_wp2
     go_ret2
     refine ⟨_, by rw [hr.out]; simp only; rw [errV_of H1.out]; rfl, ?_, hb01.trans (hb2.mono hb01.size)⟩
     rw [hr.out]; exact World.ownsRow_nil _ _ _ _
   ·obtain rfl : k = 2 := by omega
    rw [show ((2 : Nat) : Int) = 2 from rfl]
    have H1 := Lib.hid (hk1.out (by omega))
    have H2 := Lib.hid (hk2.out (by omega))
    have n1 := vright_ok_len H1.out
    have n2 := vright_ok_len H2.out
    clear hk1 hk2 el el' x0 x1
    -- LOOP
    go_wp2
    go_loopw [0, 1, 9, 53, 81] (fun va vb vo _ _ wr => ∃ (A1 A2 : Option Addr) (c1 c2 : Nat) (a b o : List Ent), JRel w l l' va vb vo A1 A2 c1 c2 a b o wr) (fun va vb _ _ _ _ => slLen va + slLen vb)
    case atStart => exact ⟨A, A', c, c', l, l', [], rfl, rfl, hc, hc', hl, hl', rfl, by simp; omega, World.ownsRow_nil _ _ _ _, hbel⟩
    case round =>
     obtain ⟨A1, A2, c1, c2, a, b, o, rfl, rfl, la, lb, sa, sb, hm, hno, hT, hb⟩ := hrel
     have HM := Lib.hid hm
     clear hm
     have hB := hb.size
     cases a with
     | nil =>
      cases b with
      | nil =>
       have he : vmerge l l' = o := by rw [HM.out, vmerge_nil, List.append_nil]
       obtain ⟨A9, c9, rfl⟩ := own_form hT
       simp only [List.length_nil] at *
       by_cases hbig : 16 < o.length
       ·have hr := Lib.hid (join_big H1.out H2.out (by rw [he]; exact hbig))
        have d0 : decide (16 < o.length) = true := by simpa using hbig
        go_wp2
        go_ret2
        refine ⟨_, by rw [hr.out]; rfl, ?_, hb⟩
        rw [hr.out]; exact World.ownsRow_nil _ _ _ _
       ·have hr := Lib.hid (join_good H1.out H2.out (by rw [he]; exact hbig))
        have HE := Lib.hid he
        have d0 : decide (16 < o.length) = false := by simpa using hbig
        go_wp2
        go_ret2
        refine ⟨_, by rw [hr.out]; rfl, ?_, hb⟩
        rw [hr.out, HE.out]; exact hT
      | cons y b =>
       obtain ⟨r2, t2⟩ := y
       obtain ⟨p2, q2, rfl, hp2, cb0, cb1⟩ := sb.head
       have sb' := sb.tail lb
       have w0b := Lib.hid cb0
       have w1b := Lib.hid cb1
       have sb0 := Lib.hid sb
       have cb0 := (hb.cell (p := ⟨p2, q2, none⟩) hp2).trans cb0
       have cb1 := (hb.cell (p := ⟨p2, q2 + 1, none⟩) hp2).trans cb1
       have hsl2 := run_tail (some ⟨p2, q2, none⟩) c2 (b.length + 1) (by omega)
       obtain ⟨T2, hT2⟩ : ∃ T2, T2 = (if c2 = 1 then some (⟨p2, q2, none⟩ : Addr) else (some (⟨p2, q2, none⟩ : Addr)).map (·.add (1 * 2))) := ⟨_, rfl⟩
       rw [← hT2] at sb' hsl2
       clear hT2 sb
       simp only [List.length_cons, List.length_nil] at *
       obtain ⟨n2, hn2⟩ : ∃ n2, n2 = b.length + 1 := ⟨_, rfl⟩
       rw [← hn2] at hsl2 lb hno ⊢
       have zb1 : decide (0 < n2) = true := by simp; omega
       have zb2 : decide ((0 : Int) < (n2 : Int)) = true := by simp; omega
       have zb3 : ((n2 : Int) == 0) = false := by simp; omega
       have zb4 : (n2 == 0) = false := by simp; omega
       have zb5 : (0 : Int) < (n2 : Int) := by omega
       have zb6 : 0 < n2 := by omega
       have HN2 := Lib.hid hn2
       clear hn2
       have HN := Lib.hid (HM.out.trans (show o ++ vmerge [] ((r2, t2) :: b) = (o ++ [(r2, t2)]) ++ vmerge [] b by rw [vmerge_right (.inl rfl), List.append_assoc]; rfl))
       clear HM
       go_wp2
       go_quiet (fail)
       have hT1 : (wr.drewN nq).ownsRow w.heap.size 73 2 u9 o.length (entV o) := hT
       have hb1 := below_drewN hb nq
       have cb0_1 : (wr.drewN nq).cell? ⟨p2, q2, none⟩ = some (.int .i64 r2) := cb0
       have cb1_1 : (wr.drewN nq).cell? ⟨p2, q2 + 1, none⟩ = some (.int .i64 t2) := cb1
       have hB1 := hb1.size
       clear hT hb hB cb0 cb1
       generalize wr.drewN nq = W1 at *
       go_wp2
       go_quiet (fail)
       have hT2 : (W1.drewN nq).ownsRow w.heap.size 73 2 u9 o.length (entV o) := hT1
       have hb2 := below_drewN hb1 nq
       have cb0_2 : (W1.drewN nq).cell? ⟨p2, q2, none⟩ = some (.int .i64 r2) := cb0_1
       have cb1_2 : (W1.drewN nq).cell? ⟨p2, q2 + 1, none⟩ = some (.int .i64 t2) := cb1_1
       have hB2 := hb2.size
       clear hT1 hb1 hB1 cb0_1 cb1_1
       generalize W1.drewN nq = W2 at *
       go_wp2_with fail
       have k0 : W2.drew.cell? ⟨p2, q2, none⟩ = some (.int .i64 r2) ∧ W2.drew.cell? ⟨p2, q2 + 1, none⟩ = some (.int .i64 t2) := ⟨cb0_2, cb1_2⟩
       go_region_held3 (fun wx => wx.cell? ⟨p2, q2, none⟩ = some (.int .i64 r2) ∧ wx.cell? ⟨p2, q2 + 1, none⟩ = some (.int .i64 t2))
        (first | exact k0 | exact k9 | go_keep)
        (first | (refine step_append_own rfl (.tmp 96) (.tmp 100) 24 rfl w.heap.size 73 i0 (.agg #[.int .i64 0, .int .i64 0]) 2 16 Tryz.underlying24 hi hz0 hz1 hz2 rfl (by decide) u9 o.length (entV o) rfl (hT2.alloc _) ⟨W2.heap.size, 0, none⟩ 1 1 [.int .i64 r2, .int .i64 t2] rfl rfl (cells_ent _ _ _ _) (by intro u hu; simp at hu; rcases hu with rfl | rfl <;> rfl) (by unfold maxLen; omega) (by omega) (by simp; omega) ?_; intro v1 wE hT9 hg9; have hb9 := grown_own (hb2.alloc hB2 _).drew hg9 (by simp; omega) (hT2.alloc _); have hTE := entV_snoc (x := (r2, t2)) rfl hT9; have k9 : wE.cell? ⟨p2, q2, none⟩ = some (.int .i64 r2) ∧ wE.cell? ⟨p2, q2 + 1, none⟩ = some (.int .i64 t2) := ⟨(hb9.cell (p := ⟨p2, q2, none⟩) hp2).trans w0b.out, (hb9.cell (p := ⟨p2, q2 + 1, none⟩) hp2).trans w1b.out⟩))
       go_wp2
       go_roundw
       case rel => have hn2 := HN2.out; exact ⟨A1, T2, c1, c2 - 1, [], b, o ++ [(r2, t2)], rfl, by rw [HN2.out]; rfl, la, by omega, sa, sb', HN.out, by simp; omega, hTE, hb9⟩
       case measure => simp [slLen]; omega
     | cons x a =>
      cases b with
      | nil =>
       obtain ⟨r1, t1⟩ := x
       obtain ⟨p1, q1, rfl, hp1, ca0, ca1⟩ := sa.head
       have sa' := sa.tail la
       have w0a := Lib.hid ca0
       have w1a := Lib.hid ca1
       have sa0 := Lib.hid sa
       have ca0 := (hb.cell (p := ⟨p1, q1, none⟩) hp1).trans ca0
       have ca1 := (hb.cell (p := ⟨p1, q1 + 1, none⟩) hp1).trans ca1
       have hsl1 := run_tail (some ⟨p1, q1, none⟩) c1 (a.length + 1) (by omega)
       obtain ⟨T1, hT1⟩ : ∃ T1, T1 = (if c1 = 1 then some (⟨p1, q1, none⟩ : Addr) else (some (⟨p1, q1, none⟩ : Addr)).map (·.add (1 * 2))) := ⟨_, rfl⟩
       rw [← hT1] at sa' hsl1
       clear hT1 sa
       simp only [List.length_cons, List.length_nil] at *
       obtain ⟨n1, hn1⟩ : ∃ n1, n1 = a.length + 1 := ⟨_, rfl⟩
       rw [← hn1] at hsl1 la hno ⊢
       have za1 : decide (0 < n1) = true := by simp; omega
       have za2 : decide ((0 : Int) < (n1 : Int)) = true := by simp; omega
       have za3 : ((n1 : Int) == 0) = false := by simp; omega
       have za4 : (n1 == 0) = false := by simp; omega
       have za5 : (0 : Int) < (n1 : Int) := by omega
       have za6 : 0 < n1 := by omega
       have HN1 := Lib.hid hn1
       clear hn1
       have HN := Lib.hid (HM.out.trans (show o ++ vmerge ((r1, t1) :: a) [] = (o ++ [(r1, t1)]) ++ vmerge a [] by rw [vmerge_left (.inl rfl), List.append_assoc]; rfl))
       clear HM
       go_wp2
       go_quiet (fail)
       have hT1 : (wr.drewN nq).ownsRow w.heap.size 73 2 u9 o.length (entV o) := hT
       have hb1 := below_drewN hb nq
       have ca0_1 : (wr.drewN nq).cell? ⟨p1, q1, none⟩ = some (.int .i64 r1) := ca0
       have ca1_1 : (wr.drewN nq).cell? ⟨p1, q1 + 1, none⟩ = some (.int .i64 t1) := ca1
       have hB1 := hb1.size
       clear hT hb hB ca0 ca1
       generalize wr.drewN nq = W1 at *
       go_wp2_with fail
       have k0 : W1.drew.cell? ⟨p1, q1, none⟩ = some (.int .i64 r1) ∧ W1.drew.cell? ⟨p1, q1 + 1, none⟩ = some (.int .i64 t1) := ⟨ca0_1, ca1_1⟩
       go_region_held3 (fun wx => wx.cell? ⟨p1, q1, none⟩ = some (.int .i64 r1) ∧ wx.cell? ⟨p1, q1 + 1, none⟩ = some (.int .i64 t1))
        (first | exact k0 | exact k9 | go_keep)
        (first | (refine step_append_own rfl (.tmp 73) (.tmp 77) 24 rfl w.heap.size 73 i0 (.agg #[.int .i64 0, .int .i64 0]) 2 16 Tryz.underlying24 hi hz0 hz1 hz2 rfl (by decide) u9 o.length (entV o) rfl (hT1.alloc _) ⟨W1.heap.size, 0, none⟩ 1 1 [.int .i64 r1, .int .i64 t1] rfl rfl (cells_ent _ _ _ _) (by intro u hu; simp at hu; rcases hu with rfl | rfl <;> rfl) (by unfold maxLen; omega) (by omega) (by simp; omega) ?_; intro v1 wE hT9 hg9; have hb9 := grown_own (hb1.alloc hB1 _).drew hg9 (by simp; omega) (hT1.alloc _); have hTE := entV_snoc (x := (r1, t1)) rfl hT9; have k9 : wE.cell? ⟨p1, q1, none⟩ = some (.int .i64 r1) ∧ wE.cell? ⟨p1, q1 + 1, none⟩ = some (.int .i64 t1) := ⟨(hb9.cell (p := ⟨p1, q1, none⟩) hp1).trans w0a.out, (hb9.cell (p := ⟨p1, q1 + 1, none⟩) hp1).trans w1a.out⟩))
       go_wp2
       go_roundw
       case rel => have hn1 := HN1.out; exact ⟨T1, A2, c1 - 1, c2, a, [], o ++ [(r1, t1)], by rw [HN1.out]; rfl, rfl, by omega, lb, sa', sb, HN.out, by simp; omega, hTE, hb9⟩
       case measure => simp [slLen]; omega
      | cons y b =>
       obtain ⟨r1, t1⟩ := x
       obtain ⟨p1, q1, rfl, hp1, ca0, ca1⟩ := sa.head
       have sa' := sa.tail la
       have w0a := Lib.hid ca0
       have w1a := Lib.hid ca1
       have sa0 := Lib.hid sa
       have ca0 := (hb.cell (p := ⟨p1, q1, none⟩) hp1).trans ca0
       have ca1 := (hb.cell (p := ⟨p1, q1 + 1, none⟩) hp1).trans ca1
       have hsl1 := run_tail (some ⟨p1, q1, none⟩) c1 (a.length + 1) (by omega)
       obtain ⟨T1, hT1⟩ : ∃ T1, T1 = (if c1 = 1 then some (⟨p1, q1, none⟩ : Addr) else (some (⟨p1, q1, none⟩ : Addr)).map (·.add (1 * 2))) := ⟨_, rfl⟩
       rw [← hT1] at sa' hsl1
       clear hT1 sa
       obtain ⟨r2, t2⟩ := y
       obtain ⟨p2, q2, rfl, hp2, cb0, cb1⟩ := sb.head
       have sb' := sb.tail lb
       have w0b := Lib.hid cb0
       have w1b := Lib.hid cb1
       have sb0 := Lib.hid sb
       have cb0 := (hb.cell (p := ⟨p2, q2, none⟩) hp2).trans cb0
       have cb1 := (hb.cell (p := ⟨p2, q2 + 1, none⟩) hp2).trans cb1
       have hsl2 := run_tail (some ⟨p2, q2, none⟩) c2 (b.length + 1) (by omega)
       obtain ⟨T2, hT2⟩ : ∃ T2, T2 = (if c2 = 1 then some (⟨p2, q2, none⟩ : Addr) else (some (⟨p2, q2, none⟩ : Addr)).map (·.add (1 * 2))) := ⟨_, rfl⟩
       rw [← hT2] at sb' hsl2
       clear hT2 sb
       simp only [List.length_cons] at *
       obtain ⟨n1, hn1⟩ : ∃ n1, n1 = a.length + 1 := ⟨_, rfl⟩
       rw [← hn1] at hsl1 la hno ⊢
       have za1 : decide (0 < n1) = true := by simp; omega
       have za2 : decide ((0 : Int) < (n1 : Int)) = true := by simp; omega
       have za3 : ((n1 : Int) == 0) = false := by simp; omega
       have za4 : (n1 == 0) = false := by simp; omega
       have za5 : (0 : Int) < (n1 : Int) := by omega
       have za6 : 0 < n1 := by omega
       have HN1 := Lib.hid hn1
       clear hn1
       obtain ⟨n2, hn2⟩ : ∃ n2, n2 = b.length + 1 := ⟨_, rfl⟩
       rw [← hn2] at hsl2 lb hno ⊢
       have zb1 : decide (0 < n2) = true := by simp; omega
       have zb2 : decide ((0 : Int) < (n2 : Int)) = true := by simp; omega
       have zb3 : ((n2 : Int) == 0) = false := by simp; omega
       have zb4 : (n2 == 0) = false := by simp; omega
       have zb5 : (0 : Int) < (n2 : Int) := by omega
       have zb6 : 0 < n2 := by omega
       have HN2 := Lib.hid hn2
       clear hn2
       by_cases hlt : r1 < r2
       ·have d0 : decide (r1 < r2) = true := by simpa using hlt
        have HN := Lib.hid (HM.out.trans (show o ++ vmerge ((r1, t1) :: a) ((r2, t2) :: b) = (o ++ [(r1, t1)]) ++ vmerge a ((r2, t2) :: b) by rw [vmerge_left (.inr ⟨_, _, rfl, hlt⟩), List.append_assoc]; rfl))
        clear HM
        go_wp2
        go_quiet (fail)
        have hT1 : (wr.drewN nq).ownsRow w.heap.size 73 2 u9 o.length (entV o) := hT
        have hb1 := below_drewN hb nq
        have ca0_1 : (wr.drewN nq).cell? ⟨p1, q1, none⟩ = some (.int .i64 r1) := ca0
        have ca1_1 : (wr.drewN nq).cell? ⟨p1, q1 + 1, none⟩ = some (.int .i64 t1) := ca1
        have cb0_1 : (wr.drewN nq).cell? ⟨p2, q2, none⟩ = some (.int .i64 r2) := cb0
        have cb1_1 : (wr.drewN nq).cell? ⟨p2, q2 + 1, none⟩ = some (.int .i64 t2) := cb1
        have hB1 := hb1.size
        clear hT hb hB ca0 ca1 cb0 cb1
        generalize wr.drewN nq = W1 at *
        go_wp2_with fail
        have k0 : W1.drew.cell? ⟨p1, q1, none⟩ = some (.int .i64 r1) ∧ W1.drew.cell? ⟨p1, q1 + 1, none⟩ = some (.int .i64 t1) := ⟨ca0_1, ca1_1⟩
        go_region_held3 (fun wx => wx.cell? ⟨p1, q1, none⟩ = some (.int .i64 r1) ∧ wx.cell? ⟨p1, q1 + 1, none⟩ = some (.int .i64 t1))
         (first | exact k0 | exact k9 | go_keep)
         (first | (refine step_append_own rfl (.tmp 73) (.tmp 77) 24 rfl w.heap.size 73 i0 (.agg #[.int .i64 0, .int .i64 0]) 2 16 Tryz.underlying24 hi hz0 hz1 hz2 rfl (by decide) u9 o.length (entV o) rfl (hT1.alloc _) ⟨W1.heap.size, 0, none⟩ 1 1 [.int .i64 r1, .int .i64 t1] rfl rfl (cells_ent _ _ _ _) (by intro u hu; simp at hu; rcases hu with rfl | rfl <;> rfl) (by unfold maxLen; omega) (by omega) (by simp; omega) ?_; intro v1 wE hT9 hg9; have hb9 := grown_own (hb1.alloc hB1 _).drew hg9 (by simp; omega) (hT1.alloc _); have hTE := entV_snoc (x := (r1, t1)) rfl hT9; have k9 : wE.cell? ⟨p1, q1, none⟩ = some (.int .i64 r1) ∧ wE.cell? ⟨p1, q1 + 1, none⟩ = some (.int .i64 t1) := ⟨(hb9.cell (p := ⟨p1, q1, none⟩) hp1).trans w0a.out, (hb9.cell (p := ⟨p1, q1 + 1, none⟩) hp1).trans w1a.out⟩))
        go_wp2
        go_roundw
        case rel => have hn1 := HN1.out; have hn2 := HN2.out; exact ⟨T1, _, c1 - 1, c2, a, (r2, t2) :: b, o ++ [(r1, t1)], by rw [HN1.out]; rfl, by rw [HN2.out]; rfl, by omega, by simp; omega, sa', sb0.out, HN.out, by simp; omega, hTE, hb9⟩
        case measure => simp [slLen]; omega
       ·have d0 : decide (r1 < r2) = false := by simpa using hlt
        by_cases hgt : r2 < r1
        ·have d1 : decide (r2 < r1) = true := by simpa using hgt
         have HN := Lib.hid (HM.out.trans (show o ++ vmerge ((r1, t1) :: a) ((r2, t2) :: b) = (o ++ [(r2, t2)]) ++ vmerge ((r1, t1) :: a) b by rw [vmerge_right (.inr ⟨_, _, rfl, hgt⟩), List.append_assoc]; rfl))
         clear HM
         go_wp2
         go_quiet (fail)
         have hT1 : (wr.drewN nq).ownsRow w.heap.size 73 2 u9 o.length (entV o) := hT
         have hb1 := below_drewN hb nq
         have ca0_1 : (wr.drewN nq).cell? ⟨p1, q1, none⟩ = some (.int .i64 r1) := ca0
         have ca1_1 : (wr.drewN nq).cell? ⟨p1, q1 + 1, none⟩ = some (.int .i64 t1) := ca1
         have cb0_1 : (wr.drewN nq).cell? ⟨p2, q2, none⟩ = some (.int .i64 r2) := cb0
         have cb1_1 : (wr.drewN nq).cell? ⟨p2, q2 + 1, none⟩ = some (.int .i64 t2) := cb1
         have hB1 := hb1.size
         clear hT hb hB ca0 ca1 cb0 cb1
         generalize wr.drewN nq = W1 at *
         go_wp2
         go_quiet (fail)
         have hT2 : (W1.drewN nq).ownsRow w.heap.size 73 2 u9 o.length (entV o) := hT1
         have hb2 := below_drewN hb1 nq
         have ca0_2 : (W1.drewN nq).cell? ⟨p1, q1, none⟩ = some (.int .i64 r1) := ca0_1
         have ca1_2 : (W1.drewN nq).cell? ⟨p1, q1 + 1, none⟩ = some (.int .i64 t1) := ca1_1
         have cb0_2 : (W1.drewN nq).cell? ⟨p2, q2, none⟩ = some (.int .i64 r2) := cb0_1
         have cb1_2 : (W1.drewN nq).cell? ⟨p2, q2 + 1, none⟩ = some (.int .i64 t2) := cb1_1
         have hB2 := hb2.size
         clear hT1 hb1 hB1 ca0_1 ca1_1 cb0_1 cb1_1
         generalize W1.drewN nq = W2 at *
         go_wp2_with fail
         have k0 : W2.drew.cell? ⟨p2, q2, none⟩ = some (.int .i64 r2) ∧ W2.drew.cell? ⟨p2, q2 + 1, none⟩ = some (.int .i64 t2) := ⟨cb0_2, cb1_2⟩
         go_region_held3 (fun wx => wx.cell? ⟨p2, q2, none⟩ = some (.int .i64 r2) ∧ wx.cell? ⟨p2, q2 + 1, none⟩ = some (.int .i64 t2))
          (first | exact k0 | exact k9 | go_keep)
          (first | (refine step_append_own rfl (.tmp 96) (.tmp 100) 24 rfl w.heap.size 73 i0 (.agg #[.int .i64 0, .int .i64 0]) 2 16 Tryz.underlying24 hi hz0 hz1 hz2 rfl (by decide) u9 o.length (entV o) rfl (hT2.alloc _) ⟨W2.heap.size, 0, none⟩ 1 1 [.int .i64 r2, .int .i64 t2] rfl rfl (cells_ent _ _ _ _) (by intro u hu; simp at hu; rcases hu with rfl | rfl <;> rfl) (by unfold maxLen; omega) (by omega) (by simp; omega) ?_; intro v1 wE hT9 hg9; have hb9 := grown_own (hb2.alloc hB2 _).drew hg9 (by simp; omega) (hT2.alloc _); have hTE := entV_snoc (x := (r2, t2)) rfl hT9; have k9 : wE.cell? ⟨p2, q2, none⟩ = some (.int .i64 r2) ∧ wE.cell? ⟨p2, q2 + 1, none⟩ = some (.int .i64 t2) := ⟨(hb9.cell (p := ⟨p2, q2, none⟩) hp2).trans w0b.out, (hb9.cell (p := ⟨p2, q2 + 1, none⟩) hp2).trans w1b.out⟩))
         go_wp2
         go_roundw
         case rel => have hn1 := HN1.out; have hn2 := HN2.out; exact ⟨_, T2, c1, c2 - 1, (r1, t1) :: a, b, o ++ [(r2, t2)], by rw [HN1.out]; rfl, by rw [HN2.out]; rfl, by simp; omega, by omega, sa0.out, sb', HN.out, by simp; omega, hTE, hb9⟩
         case measure => simp [slLen]; omega
        ·have d1 : decide (r2 < r1) = false := by simpa using hgt
         obtain rfl : r1 = r2 := by omega
         have hmx : (if t1 < t2 then t2 else t1) = max t1 t2 := by split <;> omega
         obtain ⟨t, ht⟩ : ∃ t, t = max t1 t2 := ⟨_, rfl⟩
         rw [← ht] at hmx
         have HN := Lib.hid (HM.out.trans (show o ++ vmerge ((r1, t1) :: a) ((r1, t2) :: b) = (o ++ [(r1, t)]) ++ vmerge a b by rw [vmerge_both (x := (r1, t1)) (y := (r1, t2)) rfl, List.append_assoc, ht]; rfl))
         clear HM ht
         go_wp2
         go_quiet (fail)
         have hT1 : (wr.drewN nq).ownsRow w.heap.size 73 2 u9 o.length (entV o) := hT
         have hb1 := below_drewN hb nq
         have ca0_1 : (wr.drewN nq).cell? ⟨p1, q1, none⟩ = some (.int .i64 r1) := ca0
         have ca1_1 : (wr.drewN nq).cell? ⟨p1, q1 + 1, none⟩ = some (.int .i64 t1) := ca1
         have cb0_1 : (wr.drewN nq).cell? ⟨p2, q2, none⟩ = some (.int .i64 r1) := cb0
         have cb1_1 : (wr.drewN nq).cell? ⟨p2, q2 + 1, none⟩ = some (.int .i64 t2) := cb1
         have hB1 := hb1.size
         clear hT hb hB ca0 ca1 cb0 cb1
         generalize wr.drewN nq = W1 at *
         go_wp2
         go_quiet (fail)
         have hT2 : (W1.drewN nq).ownsRow w.heap.size 73 2 u9 o.length (entV o) := hT1
         have hb2 := below_drewN hb1 nq
         have ca0_2 : (W1.drewN nq).cell? ⟨p1, q1, none⟩ = some (.int .i64 r1) := ca0_1
         have ca1_2 : (W1.drewN nq).cell? ⟨p1, q1 + 1, none⟩ = some (.int .i64 t1) := ca1_1
         have cb0_2 : (W1.drewN nq).cell? ⟨p2, q2, none⟩ = some (.int .i64 r1) := cb0_1
         have cb1_2 : (W1.drewN nq).cell? ⟨p2, q2 + 1, none⟩ = some (.int .i64 t2) := cb1_1
         have hB2 := hb2.size
         clear hT1 hb1 hB1 ca0_1 ca1_1 cb0_1 cb1_1
         generalize W1.drewN nq = W2 at *
         go_wp2_with fail
         have k0 : W2.drew.cell? ⟨p1, q1, none⟩ = some (.int .i64 r1) ∧ W2.drew.cell? ⟨p1, q1 + 1, none⟩ = some (.int .i64 t1) ∧ W2.drew.cell? ⟨p2, q2, none⟩ = some (.int .i64 r1) ∧ W2.drew.cell? ⟨p2, q2 + 1, none⟩ = some (.int .i64 t2) := ⟨ca0_2, ca1_2, cb0_2, cb1_2⟩
         go_region_held3 (fun wx => wx.cell? ⟨p1, q1, none⟩ = some (.int .i64 r1) ∧ wx.cell? ⟨p1, q1 + 1, none⟩ = some (.int .i64 t1) ∧ wx.cell? ⟨p2, q2, none⟩ = some (.int .i64 r1) ∧ wx.cell? ⟨p2, q2 + 1, none⟩ = some (.int .i64 t2))
          (first | exact k0 | exact k9 | go_keep)
          (first | (refine step_append_own rfl (.tmp 32) (.tmp 47) 24 rfl w.heap.size 73 i0 (.agg #[.int .i64 0, .int .i64 0]) 2 16 Tryz.underlying24 hi hz0 hz1 hz2 rfl (by decide) u9 o.length (entV o) rfl (hT2.alloc _) ⟨W2.heap.size, 0, none⟩ 1 1 [.int .i64 r1, .int .i64 t] rfl rfl (cells_ent _ _ _ _) (by intro u hu; simp at hu; rcases hu with rfl | rfl <;> rfl) (by unfold maxLen; omega) (by omega) (by simp; omega) ?_; intro v1 wE hT9 hg9; have hb9 := grown_own (hb2.alloc hB2 _).drew hg9 (by simp; omega) (hT2.alloc _); have hTE := entV_snoc (x := (r1, t)) rfl hT9; have k9 : wE.cell? ⟨p1, q1, none⟩ = some (.int .i64 r1) ∧ wE.cell? ⟨p1, q1 + 1, none⟩ = some (.int .i64 t1) ∧ wE.cell? ⟨p2, q2, none⟩ = some (.int .i64 r1) ∧ wE.cell? ⟨p2, q2 + 1, none⟩ = some (.int .i64 t2) := ⟨(hb9.cell (p := ⟨p1, q1, none⟩) hp1).trans w0a.out, (hb9.cell (p := ⟨p1, q1 + 1, none⟩) hp1).trans w1a.out, (hb9.cell (p := ⟨p2, q2, none⟩) hp2).trans w0b.out, (hb9.cell (p := ⟨p2, q2 + 1, none⟩) hp2).trans w1b.out⟩))
         go_wp2_with fail
         go_region
         go_wp2
         go_roundw
         case rel => have hn1 := HN1.out; have hn2 := HN2.out; exact ⟨T1, T2, c1 - 1, c2 - 1, a, b, o ++ [(r1, t)], by rw [HN1.out]; rfl, by rw [HN2.out]; rfl, by omega, by omega, sa', sb', HN.out, by simp; omega, hTE, hb9.drew⟩
         case measure => simp [slLen]; omega
end Go.Proofs.YtlpkpfpmcppciaaGreatDoor
end

section
namespace Go.Proofs.YtlpkpfpmcppciaaGreatDoor
theorem str_empty' (s : ByteArray) : s.toList.isEmpty = decide (s.size = 0) := by
 rw [ByteArray.toList_eq]
 by_cases h : s.size = 0
 ·rw [decide_eq_true h]
  have : s.data.toList = [] := by
   apply List.length_eq_zero_iff.1
   simpa using h
  rw [this]; rfl
 ·rw [decide_eq_false h]
  rw [List.isEmpty_eq_false_iff]
  intro e
  apply h
  have := congrArg List.length e
  simpa using this
end Go.Proofs.YtlpkpfpmcppciaaGreatDoor
end

section
namespace Go.Proofs.YtlpkpfpmcppciaaGreatDoor
set_option linter.unusedSimpArgs false
open Go.RowKit As
def wrightC (k : Int) (i : Bool) (x y : Nat) (n : Int) : Int :=
 if k < 1 ∨ 4 < k then 1
 else if i = false then 2
 else if 40 < x ∨ 300 < y then 4
 else if (k ≠ 1 ∧ k ≠ 4 ∧ y ≠ 0) ∨ (k ≠ 3 ∧ k ≠ 4 ∧ n ≠ 0) then 3
 else if k = 3 ∧ (n < -1125899906842624 ∨ 1125899906842624 < n) ∨ k = 4 ∧ (n < 0 ∨ 1000 < n) then 2 else 0
theorem wright_is (a b c f : Int) (d e : ByteArray) : wright (a, b, c, d, e, f) = wrightC c (idRight (a, b)) d.size e.size f := rfl
abbrev wrV (a b c : Int) (d e : ByteArray) (f : Int) : Value := .agg #[.int .i64 a, .int .i64 b, .int .i64 c, .string d, .string e, .int .i64 f]
abbrev wrO (a b c : Int) (d e : ByteArray) (f : Int) : Obj := .cells #[.int .i64 a, .int .i64 b, .int .i64 c, .string d, .string e, .int .i64 f] 32
/-- The write's cells, later on. -/
structure WrAt (w : World) (B : Nat) (a b c : Int) (d e : ByteArray) (f : Int) : Prop where
 c0 : w.cell? ⟨B, 0, none⟩ = some (.int .i64 a)
 c1 : w.cell? ⟨B, 1, none⟩ = some (.int .i64 b)
 c2 : w.cell? ⟨B, 2, none⟩ = some (.int .i64 c)
 c3 : w.cell? ⟨B, 3, none⟩ = some (.string d)
 c4 : w.cell? ⟨B, 4, none⟩ = some (.string e)
 c5 : w.cell? ⟨B, 5, none⟩ = some (.int .i64 f)
theorem WrAt.new (w : World) (a b c : Int) (d e : ByteArray) (f : Int) : WrAt (w.alloc (wrO a b c d e f)) w.heap.size a b c d e f := by
 refine ⟨?_, ?_, ?_, ?_, ?_, ?_⟩ <;> (rw [World.cell?_alloc_new]; rfl)
theorem WrAt.drewN {w : World} {B : Nat} {a b c f : Int} {d e : ByteArray} (h : WrAt w B a b c d e f) (q : Nat) : WrAt (w.drewN q) B a b c d e f := ⟨h.c0, h.c1, h.c2, h.c3, h.c4, h.c5⟩
theorem WrAt.below {w w' : World} {B : Nat} {a b c f : Int} {d e : ByteArray} (h : WrAt w B a b c d e f) (hb : Below w.heap.size w w') : WrAt w' B a b c d e f :=
 ⟨(hb.cell (cell_lt h.c0)).trans h.c0, (hb.cell (cell_lt h.c1)).trans h.c1, (hb.cell (cell_lt h.c2)).trans h.c2, (hb.cell (cell_lt h.c3)).trans h.c3, (hb.cell (cell_lt h.c4)).trans h.c4, (hb.cell (cell_lt h.c5)).trans h.c5⟩
set_option maxHeartbeats 2000000 in
set_option maxRecDepth 100000 in
theorem wright1 (a b f : Int) (d e : ByteArray) (w : World) : Calls Tryz.prog 34 #[wrV a b (1) d e f] w fun r w' => r = .returned (errV (wright (a, b, 1, d, e, f))) ∧ Below w.heap.size w w' := by
 rw [wright_is]
 have hW := WrAt.new w a b (1) d e f
 cases hidv : idRight (a, b) with
 | false =>
  have hid := Lib.hid hidv
  clear hidv
  have hr := Lib.hid (show wrightC 1 false d.size e.size f = 2 by unfold wrightC; rw [if_neg (by omega), if_pos rfl])
  go_enter Tryz.func34, Tryz.ntmps34
  go_wp2_with fail
  go_quiet (fail)
  go_wp2_with fail
  refine (idright_any a b _).mono ?_
  rintro r w1 ⟨rfl, hb1⟩
  rw [hid.out]
  obtain ⟨c0, c1, c2, c3, c4, c5⟩ := (hW.drewN nq).below hb1
  have hbl : Below w.heap.size w w1 := (below_drewN (below1 w _) nq).trans (hb1.mono (by simp))
  go_wp2
  go_ret
  exact ⟨by rw [hr.out]; rfl, hbl⟩
 | true =>
  have hid := Lib.hid hidv
  clear hidv
  by_cases h1 : 40 < d.size
  ·have hr := Lib.hid (show wrightC 1 true d.size e.size f = 4 by unfold wrightC; rw [if_neg (by omega), if_neg (by simp), if_pos (by omega)])
   have s0 : decide (40 < d.size) = true := by simp only [decide_eq_true_eq, decide_eq_false_iff_not]; omega
   have t0 : decide (40 < (d.size : Int)) = true := by simp only [decide_eq_true_eq, decide_eq_false_iff_not]; omega
   clear h1
   go_enter Tryz.func34, Tryz.ntmps34
   go_wp2_with fail
   go_quiet (fail)
   go_wp2_with fail
   refine (idright_any a b _).mono ?_
   rintro r w1 ⟨rfl, hb1⟩
   rw [hid.out]
   obtain ⟨c0, c1, c2, c3, c4, c5⟩ := (hW.drewN nq).below hb1
   have hbl : Below w.heap.size w w1 := (below_drewN (below1 w _) nq).trans (hb1.mono (by simp))
   go_wp2
   go_ret
   exact ⟨by rw [hr.out]; rfl, hbl⟩
  ·by_cases h2 : 300 < e.size
   ·have hr := Lib.hid (show wrightC 1 true d.size e.size f = 4 by unfold wrightC; rw [if_neg (by omega), if_neg (by simp), if_pos (by omega)])
    have s0 : decide (40 < d.size) = false := by simp only [decide_eq_true_eq, decide_eq_false_iff_not]; omega
    have t0 : decide (40 < (d.size : Int)) = false := by simp only [decide_eq_true_eq, decide_eq_false_iff_not]; omega
    have s1 : decide (300 < e.size) = true := by simp only [decide_eq_true_eq, decide_eq_false_iff_not]; omega
    have t1 : decide (300 < (e.size : Int)) = true := by simp only [decide_eq_true_eq, decide_eq_false_iff_not]; omega
    clear h1 h2
    go_enter Tryz.func34, Tryz.ntmps34
    go_wp2_with fail
    go_quiet (fail)
    go_wp2_with fail
    refine (idright_any a b _).mono ?_
    rintro r w1 ⟨rfl, hb1⟩
    rw [hid.out]
    obtain ⟨c0, c1, c2, c3, c4, c5⟩ := (hW.drewN nq).below hb1
    have hbl : Below w.heap.size w w1 := (below_drewN (below1 w _) nq).trans (hb1.mono (by simp))
    go_wp2
    go_ret
    exact ⟨by rw [hr.out]; rfl, hbl⟩
   ·have hz := str_empty' e
    have s0 : decide (40 < d.size) = false := by simp only [decide_eq_true_eq, decide_eq_false_iff_not]; omega
    have t0 : decide (40 < (d.size : Int)) = false := by simp only [decide_eq_true_eq, decide_eq_false_iff_not]; omega
    have s1 : decide (300 < e.size) = false := by simp only [decide_eq_true_eq, decide_eq_false_iff_not]; omega
    have t1 : decide (300 < (e.size : Int)) = false := by simp only [decide_eq_true_eq, decide_eq_false_iff_not]; omega
    have HZ := Lib.hid hz
    clear hz
    by_cases h3 : f = 0
    ·skip
     have hr := Lib.hid (show wrightC 1 true d.size e.size f = 0 by unfold wrightC; rw [if_neg (by omega), if_neg (by simp), if_neg (by omega), if_neg (by omega), if_neg (by omega)])
     have q0 : (f != 0) = false := by simp only [bne_iff_ne, bne_eq_false_iff_eq, ne_eq]; omega
     clear h1 h2 h3
     go_enter Tryz.func34, Tryz.ntmps34
     go_wp2_with fail
     go_quiet (fail)
     go_wp2_with fail
     refine (idright_any a b _).mono ?_
     rintro r w1 ⟨rfl, hb1⟩
     rw [hid.out]
     obtain ⟨c0, c1, c2, c3, c4, c5⟩ := (hW.drewN nq).below hb1
     have hbl : Below w.heap.size w w1 := (below_drewN (below1 w _) nq).trans (hb1.mono (by simp))
     go_wp2
     go_ret
     exact ⟨by rw [hr.out]; rfl, hbl⟩
    ·skip
     have hr := Lib.hid (show wrightC 1 true d.size e.size f = 3 by unfold wrightC; rw [if_neg (by omega), if_neg (by simp), if_neg (by omega), if_pos (by omega)])
     have q0 : (f != 0) = true := by simp only [bne_iff_ne, bne_eq_false_iff_eq, ne_eq]; omega
     clear h1 h2 h3
     go_enter Tryz.func34, Tryz.ntmps34
     go_wp2_with fail
     go_quiet (fail)
     go_wp2_with fail
     refine (idright_any a b _).mono ?_
     rintro r w1 ⟨rfl, hb1⟩
     rw [hid.out]
     obtain ⟨c0, c1, c2, c3, c4, c5⟩ := (hW.drewN nq).below hb1
     have hbl : Below w.heap.size w w1 := (below_drewN (below1 w _) nq).trans (hb1.mono (by simp))
     go_wp2
     go_ret
     exact ⟨by rw [hr.out]; rfl, hbl⟩
set_option maxHeartbeats 2000000 in
set_option maxRecDepth 100000 in
theorem wright2 (a b f : Int) (d e : ByteArray) (w : World) : Calls Tryz.prog 34 #[wrV a b (2) d e f] w fun r w' => r = .returned (errV (wright (a, b, 2, d, e, f))) ∧ Below w.heap.size w w' := by
 rw [wright_is]
 have hW := WrAt.new w a b (2) d e f
 cases hidv : idRight (a, b) with
 | false =>
  have hid := Lib.hid hidv
  clear hidv
  have hr := Lib.hid (show wrightC 2 false d.size e.size f = 2 by unfold wrightC; rw [if_neg (by omega), if_pos rfl])
  go_enter Tryz.func34, Tryz.ntmps34
  go_wp2_with fail
  go_quiet (fail)
  go_wp2_with fail
  refine (idright_any a b _).mono ?_
  rintro r w1 ⟨rfl, hb1⟩
  rw [hid.out]
  obtain ⟨c0, c1, c2, c3, c4, c5⟩ := (hW.drewN nq).below hb1
  have hbl : Below w.heap.size w w1 := (below_drewN (below1 w _) nq).trans (hb1.mono (by simp))
  go_wp2
  go_ret
  exact ⟨by rw [hr.out]; rfl, hbl⟩
 | true =>
  have hid := Lib.hid hidv
  clear hidv
  by_cases h1 : 40 < d.size
  ·have hr := Lib.hid (show wrightC 2 true d.size e.size f = 4 by unfold wrightC; rw [if_neg (by omega), if_neg (by simp), if_pos (by omega)])
   have s0 : decide (40 < d.size) = true := by simp only [decide_eq_true_eq, decide_eq_false_iff_not]; omega
   have t0 : decide (40 < (d.size : Int)) = true := by simp only [decide_eq_true_eq, decide_eq_false_iff_not]; omega
   clear h1
   go_enter Tryz.func34, Tryz.ntmps34
   go_wp2_with fail
   go_quiet (fail)
   go_wp2_with fail
   refine (idright_any a b _).mono ?_
   rintro r w1 ⟨rfl, hb1⟩
   rw [hid.out]
   obtain ⟨c0, c1, c2, c3, c4, c5⟩ := (hW.drewN nq).below hb1
   have hbl : Below w.heap.size w w1 := (below_drewN (below1 w _) nq).trans (hb1.mono (by simp))
   go_wp2
   go_ret
   exact ⟨by rw [hr.out]; rfl, hbl⟩
  ·by_cases h2 : 300 < e.size
   ·have hr := Lib.hid (show wrightC 2 true d.size e.size f = 4 by unfold wrightC; rw [if_neg (by omega), if_neg (by simp), if_pos (by omega)])
    have s0 : decide (40 < d.size) = false := by simp only [decide_eq_true_eq, decide_eq_false_iff_not]; omega
    have t0 : decide (40 < (d.size : Int)) = false := by simp only [decide_eq_true_eq, decide_eq_false_iff_not]; omega
    have s1 : decide (300 < e.size) = true := by simp only [decide_eq_true_eq, decide_eq_false_iff_not]; omega
    have t1 : decide (300 < (e.size : Int)) = true := by simp only [decide_eq_true_eq, decide_eq_false_iff_not]; omega
    clear h1 h2
    go_enter Tryz.func34, Tryz.ntmps34
    go_wp2_with fail
    go_quiet (fail)
    go_wp2_with fail
    refine (idright_any a b _).mono ?_
    rintro r w1 ⟨rfl, hb1⟩
    rw [hid.out]
    obtain ⟨c0, c1, c2, c3, c4, c5⟩ := (hW.drewN nq).below hb1
    have hbl : Below w.heap.size w w1 := (below_drewN (below1 w _) nq).trans (hb1.mono (by simp))
    go_wp2
    go_ret
    exact ⟨by rw [hr.out]; rfl, hbl⟩
   ·have hz := str_empty' e
    have s0 : decide (40 < d.size) = false := by simp only [decide_eq_true_eq, decide_eq_false_iff_not]; omega
    have t0 : decide (40 < (d.size : Int)) = false := by simp only [decide_eq_true_eq, decide_eq_false_iff_not]; omega
    have s1 : decide (300 < e.size) = false := by simp only [decide_eq_true_eq, decide_eq_false_iff_not]; omega
    have t1 : decide (300 < (e.size : Int)) = false := by simp only [decide_eq_true_eq, decide_eq_false_iff_not]; omega
    have HZ := Lib.hid hz
    clear hz
    by_cases h3 : e.size = 0
    ·by_cases h4 : f = 0
     ·skip
      have hr := Lib.hid (show wrightC 2 true d.size e.size f = 0 by unfold wrightC; rw [if_neg (by omega), if_neg (by simp), if_neg (by omega), if_neg (by omega), if_neg (by omega)])
      have q0 : e.toList.isEmpty = true := by rw [HZ.out]; simp only [decide_eq_true_eq, decide_eq_false_iff_not]; omega
      have q1 : (f != 0) = false := by simp only [bne_iff_ne, bne_eq_false_iff_eq, ne_eq]; omega
      clear h1 h2 h3 h4
      go_enter Tryz.func34, Tryz.ntmps34
      go_wp2_with fail
      go_quiet (fail)
      go_wp2_with fail
      refine (idright_any a b _).mono ?_
      rintro r w1 ⟨rfl, hb1⟩
      rw [hid.out]
      obtain ⟨c0, c1, c2, c3, c4, c5⟩ := (hW.drewN nq).below hb1
      have hbl : Below w.heap.size w w1 := (below_drewN (below1 w _) nq).trans (hb1.mono (by simp))
      go_wp2
      go_ret
      exact ⟨by rw [hr.out]; rfl, hbl⟩
     ·skip
      have hr := Lib.hid (show wrightC 2 true d.size e.size f = 3 by unfold wrightC; rw [if_neg (by omega), if_neg (by simp), if_neg (by omega), if_pos (by omega)])
      have q0 : e.toList.isEmpty = true := by rw [HZ.out]; simp only [decide_eq_true_eq, decide_eq_false_iff_not]; omega
      have q1 : (f != 0) = true := by simp only [bne_iff_ne, bne_eq_false_iff_eq, ne_eq]; omega
      clear h1 h2 h3 h4
      go_enter Tryz.func34, Tryz.ntmps34
      go_wp2_with fail
      go_quiet (fail)
      go_wp2_with fail
      refine (idright_any a b _).mono ?_
      rintro r w1 ⟨rfl, hb1⟩
      rw [hid.out]
      obtain ⟨c0, c1, c2, c3, c4, c5⟩ := (hW.drewN nq).below hb1
      have hbl : Below w.heap.size w w1 := (below_drewN (below1 w _) nq).trans (hb1.mono (by simp))
      go_wp2
      go_ret
      exact ⟨by rw [hr.out]; rfl, hbl⟩
    ·skip
     have hr := Lib.hid (show wrightC 2 true d.size e.size f = 3 by unfold wrightC; rw [if_neg (by omega), if_neg (by simp), if_neg (by omega), if_pos (by omega)])
     have q0 : e.toList.isEmpty = false := by rw [HZ.out]; simp only [decide_eq_true_eq, decide_eq_false_iff_not]; omega
     clear h1 h2 h3
     go_enter Tryz.func34, Tryz.ntmps34
     go_wp2_with fail
     go_quiet (fail)
     go_wp2_with fail
     refine (idright_any a b _).mono ?_
     rintro r w1 ⟨rfl, hb1⟩
     rw [hid.out]
     obtain ⟨c0, c1, c2, c3, c4, c5⟩ := (hW.drewN nq).below hb1
     have hbl : Below w.heap.size w w1 := (below_drewN (below1 w _) nq).trans (hb1.mono (by simp))
     go_wp2
     go_ret
     exact ⟨by rw [hr.out]; rfl, hbl⟩
set_option maxHeartbeats 2000000 in
set_option maxRecDepth 100000 in
theorem wright3 (a b f : Int) (d e : ByteArray) (w : World) : Calls Tryz.prog 34 #[wrV a b (3) d e f] w fun r w' => r = .returned (errV (wright (a, b, 3, d, e, f))) ∧ Below w.heap.size w w' := by
 rw [wright_is]
 have hW := WrAt.new w a b (3) d e f
 cases hidv : idRight (a, b) with
 | false =>
  have hid := Lib.hid hidv
  clear hidv
  have hr := Lib.hid (show wrightC 3 false d.size e.size f = 2 by unfold wrightC; rw [if_neg (by omega), if_pos rfl])
  go_enter Tryz.func34, Tryz.ntmps34
  go_wp2_with fail
  go_quiet (fail)
  go_wp2_with fail
  refine (idright_any a b _).mono ?_
  rintro r w1 ⟨rfl, hb1⟩
  rw [hid.out]
  obtain ⟨c0, c1, c2, c3, c4, c5⟩ := (hW.drewN nq).below hb1
  have hbl : Below w.heap.size w w1 := (below_drewN (below1 w _) nq).trans (hb1.mono (by simp))
  go_wp2
  go_ret
  exact ⟨by rw [hr.out]; rfl, hbl⟩
 | true =>
  have hid := Lib.hid hidv
  clear hidv
  by_cases h1 : 40 < d.size
  ·have hr := Lib.hid (show wrightC 3 true d.size e.size f = 4 by unfold wrightC; rw [if_neg (by omega), if_neg (by simp), if_pos (by omega)])
   have s0 : decide (40 < d.size) = true := by simp only [decide_eq_true_eq, decide_eq_false_iff_not]; omega
   have t0 : decide (40 < (d.size : Int)) = true := by simp only [decide_eq_true_eq, decide_eq_false_iff_not]; omega
   clear h1
   go_enter Tryz.func34, Tryz.ntmps34
   go_wp2_with fail
   go_quiet (fail)
   go_wp2_with fail
   refine (idright_any a b _).mono ?_
   rintro r w1 ⟨rfl, hb1⟩
   rw [hid.out]
   obtain ⟨c0, c1, c2, c3, c4, c5⟩ := (hW.drewN nq).below hb1
   have hbl : Below w.heap.size w w1 := (below_drewN (below1 w _) nq).trans (hb1.mono (by simp))
   go_wp2
   go_ret
   exact ⟨by rw [hr.out]; rfl, hbl⟩
  ·by_cases h2 : 300 < e.size
   ·have hr := Lib.hid (show wrightC 3 true d.size e.size f = 4 by unfold wrightC; rw [if_neg (by omega), if_neg (by simp), if_pos (by omega)])
    have s0 : decide (40 < d.size) = false := by simp only [decide_eq_true_eq, decide_eq_false_iff_not]; omega
    have t0 : decide (40 < (d.size : Int)) = false := by simp only [decide_eq_true_eq, decide_eq_false_iff_not]; omega
    have s1 : decide (300 < e.size) = true := by simp only [decide_eq_true_eq, decide_eq_false_iff_not]; omega
    have t1 : decide (300 < (e.size : Int)) = true := by simp only [decide_eq_true_eq, decide_eq_false_iff_not]; omega
    clear h1 h2
    go_enter Tryz.func34, Tryz.ntmps34
    go_wp2_with fail
    go_quiet (fail)
    go_wp2_with fail
    refine (idright_any a b _).mono ?_
    rintro r w1 ⟨rfl, hb1⟩
    rw [hid.out]
    obtain ⟨c0, c1, c2, c3, c4, c5⟩ := (hW.drewN nq).below hb1
    have hbl : Below w.heap.size w w1 := (below_drewN (below1 w _) nq).trans (hb1.mono (by simp))
    go_wp2
    go_ret
    exact ⟨by rw [hr.out]; rfl, hbl⟩
   ·have hz := str_empty' e
    have s0 : decide (40 < d.size) = false := by simp only [decide_eq_true_eq, decide_eq_false_iff_not]; omega
    have t0 : decide (40 < (d.size : Int)) = false := by simp only [decide_eq_true_eq, decide_eq_false_iff_not]; omega
    have s1 : decide (300 < e.size) = false := by simp only [decide_eq_true_eq, decide_eq_false_iff_not]; omega
    have t1 : decide (300 < (e.size : Int)) = false := by simp only [decide_eq_true_eq, decide_eq_false_iff_not]; omega
    have HZ := Lib.hid hz
    clear hz
    by_cases h3 : e.size = 0
    ·by_cases h4 : f < -1125899906842624
     ·skip
      have hr := Lib.hid (show wrightC 3 true d.size e.size f = 2 by unfold wrightC; rw [if_neg (by omega), if_neg (by simp), if_neg (by omega), if_neg (by omega), if_pos (by omega)])
      have q0 : e.toList.isEmpty = true := by rw [HZ.out]; simp only [decide_eq_true_eq, decide_eq_false_iff_not]; omega
      have q1 : decide (f < -1125899906842624) = true := by simp only [decide_eq_true_eq, decide_eq_false_iff_not]; omega
      clear h1 h2 h3 h4
      go_enter Tryz.func34, Tryz.ntmps34
      go_wp2_with fail
      go_quiet (fail)
      go_wp2_with fail
      refine (idright_any a b _).mono ?_
      rintro r w1 ⟨rfl, hb1⟩
      rw [hid.out]
      obtain ⟨c0, c1, c2, c3, c4, c5⟩ := (hW.drewN nq).below hb1
      have hbl : Below w.heap.size w w1 := (below_drewN (below1 w _) nq).trans (hb1.mono (by simp))
      go_wp2
      go_ret
      exact ⟨by rw [hr.out]; rfl, hbl⟩
     ·by_cases h5 : 1125899906842624 < f
      ·skip
       have hr := Lib.hid (show wrightC 3 true d.size e.size f = 2 by unfold wrightC; rw [if_neg (by omega), if_neg (by simp), if_neg (by omega), if_neg (by omega), if_pos (by omega)])
       have q0 : e.toList.isEmpty = true := by rw [HZ.out]; simp only [decide_eq_true_eq, decide_eq_false_iff_not]; omega
       have q1 : decide (f < -1125899906842624) = false := by simp only [decide_eq_true_eq, decide_eq_false_iff_not]; omega
       have q2 : decide (1125899906842624 < f) = true := by simp only [decide_eq_true_eq, decide_eq_false_iff_not]; omega
       clear h1 h2 h3 h4 h5
       go_enter Tryz.func34, Tryz.ntmps34
       go_wp2_with fail
       go_quiet (fail)
       go_wp2_with fail
       refine (idright_any a b _).mono ?_
       rintro r w1 ⟨rfl, hb1⟩
       rw [hid.out]
       obtain ⟨c0, c1, c2, c3, c4, c5⟩ := (hW.drewN nq).below hb1
       have hbl : Below w.heap.size w w1 := (below_drewN (below1 w _) nq).trans (hb1.mono (by simp))
       go_wp2
       go_ret
       exact ⟨by rw [hr.out]; rfl, hbl⟩
      ·skip
       have hr := Lib.hid (show wrightC 3 true d.size e.size f = 0 by unfold wrightC; rw [if_neg (by omega), if_neg (by simp), if_neg (by omega), if_neg (by omega), if_neg (by omega)])
       have q0 : e.toList.isEmpty = true := by rw [HZ.out]; simp only [decide_eq_true_eq, decide_eq_false_iff_not]; omega
       have q1 : decide (f < -1125899906842624) = false := by simp only [decide_eq_true_eq, decide_eq_false_iff_not]; omega
       have q2 : decide (1125899906842624 < f) = false := by simp only [decide_eq_true_eq, decide_eq_false_iff_not]; omega
       clear h1 h2 h3 h4 h5
       go_enter Tryz.func34, Tryz.ntmps34
       go_wp2_with fail
       go_quiet (fail)
       go_wp2_with fail
       refine (idright_any a b _).mono ?_
       rintro r w1 ⟨rfl, hb1⟩
       rw [hid.out]
       obtain ⟨c0, c1, c2, c3, c4, c5⟩ := (hW.drewN nq).below hb1
       have hbl : Below w.heap.size w w1 := (below_drewN (below1 w _) nq).trans (hb1.mono (by simp))
       go_wp2
       go_ret
       exact ⟨by rw [hr.out]; rfl, hbl⟩
    ·skip
     have hr := Lib.hid (show wrightC 3 true d.size e.size f = 3 by unfold wrightC; rw [if_neg (by omega), if_neg (by simp), if_neg (by omega), if_pos (by omega)])
     have q0 : e.toList.isEmpty = false := by rw [HZ.out]; simp only [decide_eq_true_eq, decide_eq_false_iff_not]; omega
     clear h1 h2 h3
     go_enter Tryz.func34, Tryz.ntmps34
     go_wp2_with fail
     go_quiet (fail)
     go_wp2_with fail
     refine (idright_any a b _).mono ?_
     rintro r w1 ⟨rfl, hb1⟩
     rw [hid.out]
     obtain ⟨c0, c1, c2, c3, c4, c5⟩ := (hW.drewN nq).below hb1
     have hbl : Below w.heap.size w w1 := (below_drewN (below1 w _) nq).trans (hb1.mono (by simp))
     go_wp2
     go_ret
     exact ⟨by rw [hr.out]; rfl, hbl⟩
set_option maxHeartbeats 2000000 in
set_option maxRecDepth 100000 in
theorem wright4 (a b f : Int) (d e : ByteArray) (w : World) : Calls Tryz.prog 34 #[wrV a b (4) d e f] w fun r w' => r = .returned (errV (wright (a, b, 4, d, e, f))) ∧ Below w.heap.size w w' := by
 rw [wright_is]
 have hW := WrAt.new w a b (4) d e f
 cases hidv : idRight (a, b) with
 | false =>
  have hid := Lib.hid hidv
  clear hidv
  have hr := Lib.hid (show wrightC 4 false d.size e.size f = 2 by unfold wrightC; rw [if_neg (by omega), if_pos rfl])
  go_enter Tryz.func34, Tryz.ntmps34
  go_wp2_with fail
  go_quiet (fail)
  go_wp2_with fail
  refine (idright_any a b _).mono ?_
  rintro r w1 ⟨rfl, hb1⟩
  rw [hid.out]
  obtain ⟨c0, c1, c2, c3, c4, c5⟩ := (hW.drewN nq).below hb1
  have hbl : Below w.heap.size w w1 := (below_drewN (below1 w _) nq).trans (hb1.mono (by simp))
  go_wp2
  go_ret
  exact ⟨by rw [hr.out]; rfl, hbl⟩
 | true =>
  have hid := Lib.hid hidv
  clear hidv
  by_cases h1 : 40 < d.size
  ·have hr := Lib.hid (show wrightC 4 true d.size e.size f = 4 by unfold wrightC; rw [if_neg (by omega), if_neg (by simp), if_pos (by omega)])
   have s0 : decide (40 < d.size) = true := by simp only [decide_eq_true_eq, decide_eq_false_iff_not]; omega
   have t0 : decide (40 < (d.size : Int)) = true := by simp only [decide_eq_true_eq, decide_eq_false_iff_not]; omega
   clear h1
   go_enter Tryz.func34, Tryz.ntmps34
   go_wp2_with fail
   go_quiet (fail)
   go_wp2_with fail
   refine (idright_any a b _).mono ?_
   rintro r w1 ⟨rfl, hb1⟩
   rw [hid.out]
   obtain ⟨c0, c1, c2, c3, c4, c5⟩ := (hW.drewN nq).below hb1
   have hbl : Below w.heap.size w w1 := (below_drewN (below1 w _) nq).trans (hb1.mono (by simp))
   go_wp2
   go_ret
   exact ⟨by rw [hr.out]; rfl, hbl⟩
  ·by_cases h2 : 300 < e.size
   ·have hr := Lib.hid (show wrightC 4 true d.size e.size f = 4 by unfold wrightC; rw [if_neg (by omega), if_neg (by simp), if_pos (by omega)])
    have s0 : decide (40 < d.size) = false := by simp only [decide_eq_true_eq, decide_eq_false_iff_not]; omega
    have t0 : decide (40 < (d.size : Int)) = false := by simp only [decide_eq_true_eq, decide_eq_false_iff_not]; omega
    have s1 : decide (300 < e.size) = true := by simp only [decide_eq_true_eq, decide_eq_false_iff_not]; omega
    have t1 : decide (300 < (e.size : Int)) = true := by simp only [decide_eq_true_eq, decide_eq_false_iff_not]; omega
    clear h1 h2
    go_enter Tryz.func34, Tryz.ntmps34
    go_wp2_with fail
    go_quiet (fail)
    go_wp2_with fail
    refine (idright_any a b _).mono ?_
    rintro r w1 ⟨rfl, hb1⟩
    rw [hid.out]
    obtain ⟨c0, c1, c2, c3, c4, c5⟩ := (hW.drewN nq).below hb1
    have hbl : Below w.heap.size w w1 := (below_drewN (below1 w _) nq).trans (hb1.mono (by simp))
    go_wp2
    go_ret
    exact ⟨by rw [hr.out]; rfl, hbl⟩
   ·have hz := str_empty' e
    have s0 : decide (40 < d.size) = false := by simp only [decide_eq_true_eq, decide_eq_false_iff_not]; omega
    have t0 : decide (40 < (d.size : Int)) = false := by simp only [decide_eq_true_eq, decide_eq_false_iff_not]; omega
    have s1 : decide (300 < e.size) = false := by simp only [decide_eq_true_eq, decide_eq_false_iff_not]; omega
    have t1 : decide (300 < (e.size : Int)) = false := by simp only [decide_eq_true_eq, decide_eq_false_iff_not]; omega
    have HZ := Lib.hid hz
    clear hz
    by_cases h4 : f < 0
    ·skip
     have hr := Lib.hid (show wrightC 4 true d.size e.size f = 2 by unfold wrightC; rw [if_neg (by omega), if_neg (by simp), if_neg (by omega), if_neg (by omega), if_pos (by omega)])
     have q0 : decide (f < 0) = true := by simp only [decide_eq_true_eq, decide_eq_false_iff_not]; omega
     clear h1 h2 h4
     go_enter Tryz.func34, Tryz.ntmps34
     go_wp2_with fail
     go_quiet (fail)
     go_wp2_with fail
     refine (idright_any a b _).mono ?_
     rintro r w1 ⟨rfl, hb1⟩
     rw [hid.out]
     obtain ⟨c0, c1, c2, c3, c4, c5⟩ := (hW.drewN nq).below hb1
     have hbl : Below w.heap.size w w1 := (below_drewN (below1 w _) nq).trans (hb1.mono (by simp))
     go_wp2
     go_ret
     exact ⟨by rw [hr.out]; rfl, hbl⟩
    ·by_cases h5 : 1000 < f
     ·skip
      have hr := Lib.hid (show wrightC 4 true d.size e.size f = 2 by unfold wrightC; rw [if_neg (by omega), if_neg (by simp), if_neg (by omega), if_neg (by omega), if_pos (by omega)])
      have q0 : decide (f < 0) = false := by simp only [decide_eq_true_eq, decide_eq_false_iff_not]; omega
      have q1 : decide (1000 < f) = true := by simp only [decide_eq_true_eq, decide_eq_false_iff_not]; omega
      clear h1 h2 h4 h5
      go_enter Tryz.func34, Tryz.ntmps34
      go_wp2_with fail
      go_quiet (fail)
      go_wp2_with fail
      refine (idright_any a b _).mono ?_
      rintro r w1 ⟨rfl, hb1⟩
      rw [hid.out]
      obtain ⟨c0, c1, c2, c3, c4, c5⟩ := (hW.drewN nq).below hb1
      have hbl : Below w.heap.size w w1 := (below_drewN (below1 w _) nq).trans (hb1.mono (by simp))
      go_wp2
      go_ret
      exact ⟨by rw [hr.out]; rfl, hbl⟩
     ·skip
      have hr := Lib.hid (show wrightC 4 true d.size e.size f = 0 by unfold wrightC; rw [if_neg (by omega), if_neg (by simp), if_neg (by omega), if_neg (by omega), if_neg (by omega)])
      have q0 : decide (f < 0) = false := by simp only [decide_eq_true_eq, decide_eq_false_iff_not]; omega
      have q1 : decide (1000 < f) = false := by simp only [decide_eq_true_eq, decide_eq_false_iff_not]; omega
      clear h1 h2 h4 h5
      go_enter Tryz.func34, Tryz.ntmps34
      go_wp2_with fail
      go_quiet (fail)
      go_wp2_with fail
      refine (idright_any a b _).mono ?_
      rintro r w1 ⟨rfl, hb1⟩
      rw [hid.out]
      obtain ⟨c0, c1, c2, c3, c4, c5⟩ := (hW.drewN nq).below hb1
      have hbl : Below w.heap.size w w1 := (below_drewN (below1 w _) nq).trans (hb1.mono (by simp))
      go_wp2
      go_ret
      exact ⟨by rw [hr.out]; rfl, hbl⟩
set_option maxHeartbeats 2000000 in
set_option maxRecDepth 100000 in
theorem wright0 (a b c f : Int) (d e : ByteArray) (w : World) (hc : c < 1 ∨ 4 < c) : Calls Tryz.prog 34 #[wrV a b (c) d e f] w fun r w' => r = .returned (errV (wright (a, b, c, d, e, f))) ∧ Below w.heap.size w w' := by
 rw [wright_is]
 have hW := WrAt.new w a b (c) d e f
 have hr := Lib.hid (show wrightC c (idRight (a, b)) d.size e.size f = 1 by unfold wrightC; rw [if_pos hc])
 have k1 : (c == 1) = false := by rw [beq_eq_false_iff_ne]; omega
 have k3 : (c == 3) = false := by rw [beq_eq_false_iff_ne]; omega
 have k4 : (c == 4) = false := by rw [beq_eq_false_iff_ne]; omega
 by_cases h : c < 1
 ·have q0 : decide (c < 1) = true := by simp only [decide_eq_true_eq, decide_eq_false_iff_not]; omega
  clear h hc
  go_enter Tryz.func34, Tryz.ntmps34
  go_wp2_with fail
  go_quiet (fail)
  go_wp2_with fail
  go_ret
  exact ⟨by rw [hr.out]; rfl, below_drewN (below1 w _) nq⟩
 ·have q0 : decide (c < 1) = false := by simp only [decide_eq_true_eq, decide_eq_false_iff_not]; omega
  have q1 : decide (4 < c) = true := by simp only [decide_eq_true_eq]; omega
  clear h hc
  go_enter Tryz.func34, Tryz.ntmps34
  go_wp2_with fail
  go_quiet (fail)
  go_wp2_with fail
  go_ret
  exact ⟨by rw [hr.out]; rfl, below_drewN (below1 w _) nq⟩
theorem wright_any (x : Wr) (w : World) : Calls Tryz.prog 34 #[wrV x.1 x.2.1 x.2.2.1 x.2.2.2.1 x.2.2.2.2.1 x.2.2.2.2.2] w fun r w' => r = .returned (errV (wright x)) ∧ Below w.heap.size w w' := by
 obtain ⟨a, b, c, d, e, f⟩ := x
 by_cases h : c < 1 ∨ 4 < c
 ·exact wright0 a b c f d e w h
 ·rcases (by omega : c = 1 ∨ c = 2 ∨ c = 3 ∨ c = 4) with rfl | rfl | rfl | rfl
  ·exact wright1 a b f d e w
  ·exact wright2 a b f d e w
  ·exact wright3 a b f d e w
  ·exact wright4 a b f d e w
end Go.Proofs.YtlpkpfpmcppciaaGreatDoor
end
