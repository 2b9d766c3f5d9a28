/- The law StoreDoes returns true and changes nothing. -/
import Derived.Test.YtlpkpfpmcppciaaGreatDoorZ5
import Derived.Test.YtlpkpfpmcppciaaGreatDoorZ7
import Derived.Test.YtlpkpfpmcppciaaGreatDoorZ8
import Derived.Deep.AppendLies
section
namespace Go.Proofs.YtlpkpfpmcppciaaGreatDoor
set_option linter.unusedSimpArgs false
set_option linter.unusedVariables false
open Go.RowKit As Go.Maps
theorem wrInfo : (Tryz.prog.info? 32).map (fun i => (i.zero, i.size, i.bytes)) = some (some (.agg #[.int .i64 0, .int .i64 0, .int .i64 0, .string ⟨#[]⟩, .string ⟨#[]⟩, .int .i64 0]), 6, 64) := by kernel_rfl
set_option maxHeartbeats 1000000 in
set_option maxRecDepth 100000 in
theorem same_any {w : World} {B B' : Nat} {v v' : Value} {o : List (ByteArray × Cel)} (h : OutR w B v o) (h' : OutR w B' v' o) : Calls Tryz.prog 12 #[v, v'] w fun e w' => e = .returned (.bool true) ∧ Below w.heap.size w w' := by
 obtain ⟨L, h1, h2, h3⟩ := h
 obtain ⟨L', h1', h2', h3'⟩ := h'
 have hs := seqf_any h2 h2' h3 h3' (h1.trans h1'.symm)
 clear h1 h2 h3 h1' h2' h3'
 go_enter Tryz.func12, Tryz.ntmps12
 go_wp2_with (go_at_call 37; refine hs.mono ?_; rintro e w' ⟨rfl, hb⟩)
 go_ret
 exact ⟨rfl, hb⟩
def good (l : List Wr) : List Wr := l.filter fun x => decide (wright x = 0)
theorem good_snoc (l : List Wr) (x : Wr) : good (l ++ [x]) = good l ++ (if wright x = 0 then [x] else []) := by
 unfold good
 rw [List.filter_append]
 congr 1
 by_cases h : wright x = 0 <;> simp [h]
theorem good_all {l : List Wr} (h : ∀ x ∈ l, wright x = 0) : good l = l := by
 unfold good
 rw [List.filter_eq_self]
 intro x hx
 exact decide_eq_true (h x hx)
theorem good_mem {l : List Wr} : ∀ x ∈ good l, wright x = 0 := fun x hx => of_decide_eq_true (List.mem_filter.1 hx).2
theorem good_len (l : List Wr) : (good l).length ≤ l.length := List.length_filter_le _ _
theorem take_mem {α : Type} {l : List α} {i p : Nat} {y : α} (hip : i < p) (hy : l[i]? = some y) : y ∈ l.take p := List.mem_of_getElem? (i := i) (by rw [List.getElem?_take_of_lt hip]; exact hy)
/-- The first of those that are wrong. -/
structure First (l : List Wr) (k : Nat) (f : Int) : Prop where
 ex : (f = -1 ∧ ∀ y ∈ l.take k, wright y = 0) ∨ ∃ (j : Nat) (x : Wr), f = (j : Int) ∧ j < k ∧ l[j]? = some x ∧ wright x ≠ 0 ∧ ∀ y ∈ l.take j, wright y = 0
theorem First.good {l : List Wr} {k : Nat} {f : Int} {x : Wr} (h : First l k f) (hx : l[k]? = some x) (hr : wright x = 0) : First l (k + 1) f := by
 refine ⟨?_⟩
 rcases h.ex with ⟨h1, h2⟩ | ⟨j, y, h1, h2, h3⟩
 ·refine .inl ⟨h1, fun y hy => ?_⟩
  rw [take_snoc hx] at hy
  rcases List.mem_append.1 hy with hy | hy
  ·exact h2 y hy
  ·rw [List.mem_singleton.1 hy]; exact hr
 ·exact .inr ⟨j, y, h1, by omega, h3⟩
theorem First.bad0 {l : List Wr} {k : Nat} {f : Int} {x : Wr} (h : First l k f) (hx : l[k]? = some x) (hr : wright x ≠ 0) (hf : f < 0) : First l (k + 1) (k : Int) := by
 refine ⟨?_⟩
 rcases h.ex with ⟨h1, h2⟩ | ⟨j, y, h1, h2, h3⟩
 ·exact .inr ⟨k, x, rfl, by omega, hx, hr, h2⟩
 ·omega
theorem First.bad1 {l : List Wr} {k : Nat} {f : Int} (h : First l k f) (hf : ¬ f < 0) : First l (k + 1) f := by
 refine ⟨?_⟩
 rcases h.ex with ⟨h1, h2⟩ | ⟨j, y, h1, h2, h3⟩
 ·omega
 ·exact .inr ⟨j, y, h1, by omega, h3⟩
/-- What stands beside the store over one write. -/
structure Step (w wA w4 : World) (B s m k gw : Nat) (fp : FP) (v3 : Value) (D : List Wr) (x : Wr) : Prop where
 ex : ∃ fp' : FP, SR w4 B s m (k + 1) fp' ∧ fp'.sto = doneSto fp.sto x ∧ (∀ q, v3.ownBlock = some q → ¬ SF s m fp' q)
 own : w4.ownsRow w.heap.size 32 6 v3 D.length (D.flatMap wrCells)
 wr : RC w4 gw (wrCells x)
 bel : Below w.heap.size w w4
theorem Step.of {w wA w2 w3 w4 : World} {B s m k gw : Nat} {fp : FP} {v3 : Value} {D : List Wr} {x : Wr} (hbA : Below w.heap.size w wA) (hoA : wA.ownsRow w.heap.size 32 6 v3 D.length (D.flatMap wrCells)) (hRA : SR wA B s m k fp) (hdis : ∀ q, v3.ownBlock = some q → ¬ SF s m fp q) (hWA : RC wA gw (wrCells x)) (hgw : ¬ SF s m fp gw) (hB : w.heap.size ≤ B)
  (hb2 : Below wA.heap.size wA w2) (hp3 : DoPost w2 w3 B s m k fp x) (hb4 : Below w3.heap.size w3 w4) : Step w wA w4 B s m k gw fp v3 D x := by
 obtain ⟨fp', h3, hst, hm⟩ := hp3
 have T2 : Turned (SF s m fp) wA w2 := .of_below hb2
 have T4 : Turned (SF s m fp) wA w4 := (T2.trans hm.t).trans (.of_below hb4)
 have hgl := cell_lt (hWA 0 _ rfl).1
 refine ⟨⟨fp', h3.below hb4, hst, fun q hq hS => ?_⟩, T4.own hoA hdis, hWA.turned T4 hgw, hbA.trans (T4.below (fun i hi => Nat.le_trans hB (hRA.within i hi).1) hbA.size)⟩
 rcases hm.g q hS with h | h
 ·exact hdis q hq h
 ·have := (hoA.lt q hq).2
  have := hb2.size
  omega
theorem Step.more {w wA w3 w4 : World} {B s m k gw : Nat} {fp : FP} {v3 : Value} {D : List Wr} {x : Wr} (h : Step w wA w3 B s m k gw fp v3 D x) (hb : Below w3.heap.size w3 w4) : Step w wA w4 B s m k gw fp v3 D x := by
 obtain ⟨fp', h1, h2, h3⟩ := h.ex
 exact ⟨⟨fp', h1.below hb, h2, h3⟩, (Turned.of_below (S := fun _ => False) hb).own h.own (fun _ _ q => q), h.wr.below hb, h.bel.trans (hb.mono h.bel.size)⟩
set_option maxHeartbeats 8000000 in
set_option maxRecDepth 100000 in
theorem walkStoreDoes (a : WrsArg) (w : World) (ha : Sl w w.heap.size 6 a.A a.n (a.l.flatMap wrCells) ∧ (∀ x ∈ a.l, wrFits x) ∧ a.n * 64 ≤ 140737488351232) (hg : Handle w) :
  Calls Tryz.prog 3 #[.slice a.A a.n a.c] w fun e w' => e = .returned (.bool true) ∧ Below w.heap.size w w' := by
 obtain ⟨A, n, c, l⟩ := a
 obtain ⟨hl, hf, hn0⟩ := ha
 simp only at hl hf hn0 ⊢
 obtain ⟨i0, hi, hz0, hz1, hz2⟩ := info_parts wrInfo
 have hn : n ≤ 2200000000000 := by omega
 have hN0 := Lib.hid hn0
 have hll := Lib.hid (slk_len wrCells 6 (by omega) (fun _ => rfl) hl)
 have HF := Lib.hid hf
 have hm63 : n ≤ maxLen := by unfold maxLen; omega
 clear hf hn0
 go_enter Tryz.func3, Tryz.ntmps3
 go_wp2_with fail
 refine (big_any none none A 0 0 n 0 0 c l w hl hm63).mono ?_
 rintro e w0 ⟨rfl, hb0⟩
 generalize bigB 0 0 n l = bb
 cases bb with
 | true =>
  go_wp2
  go_ret
  exact ⟨rfl, hb0⟩
 | false =>
  have hb0s := hb0.size
  go_wp2_with (first
   | (go_at_call 6; refine (snew_any _).mono ?_; rintro e w1 ⟨s, m, rfl, hs, hb1⟩))
  have hb01 := hb0.trans (hb1.mono hb0.size)
  go_loopw [3, 5, 6, 7, 8, 17] (fun v3 v5 _ _ _ i wr => ∃ (k : Nat) (fp : FP) (f : Int), k ≤ n ∧ i = .int .i64 k ∧ v5 = .int .i64 f ∧ Hid (First l k f) ∧ wr.ownsRow w.heap.size 32 6 v3 (good (l.take k)).length ((good (l.take k)).flatMap wrCells) ∧ SR wr w0.heap.size s m k fp ∧ Hid (fp.sto = stoOf (good (l.take k))) ∧ (∀ q, v3.ownBlock = some q → ¬ SF s m fp q) ∧ Below w.heap.size w wr) (fun _ _ _ _ _ i _ => n - (intOf i).toNat)
  case atStart => exact ⟨0, FP.nil, -1, by omega, rfl, rfl, Lib.hid ⟨.inl ⟨rfl, fun y hy => by simp at hy⟩⟩, World.ownsRow_nil _ _ _ _, hs, Lib.hid rfl, (fun q e => by cases e), hb01⟩
  case round =>
   obtain ⟨k, fp, f, hk, rfl, rfl, HFI, ho, hR, HST, hdis, hb⟩ := hrel
   clear hs hb1 hb01
   by_cases hlt : k < n
   ·obtain ⟨b, o, x, rfl, hbl, hx, hc⟩ := slk_at wrCells 6 (fun _ => rfl) hl hll.out hlt
    have HX := Lib.hid hx
    have HFX := Lib.hid (HF.out x (List.mem_of_getElem? hx))
    have hwr := fun W => rwright_any x W
    have hdo := fun W (h : SR W w0.heap.size s m k fp) => sdo_any h (show k < 4000000000000 by omega) x HFX.out
    obtain ⟨a1, a2, a3, a4, a5, a6⟩ := x
    unfold wrV at hwr hdo
    simp only at hwr hdo
    have c0 := (hb.cell (p := ⟨b, _, none⟩) hbl).trans (hc 0 _ rfl)
    have c1 := (hb.cell (p := ⟨b, _, none⟩) hbl).trans (hc 1 _ rfl)
    have c2 := (hb.cell (p := ⟨b, _, none⟩) hbl).trans (hc 2 _ rfl)
    have c3 := (hb.cell (p := ⟨b, _, none⟩) hbl).trans (hc 3 _ rfl)
    have c4 := (hb.cell (p := ⟨b, _, none⟩) hbl).trans (hc 4 _ rfl)
    have c5 := (hb.cell (p := ⟨b, _, none⟩) hbl).trans (hc 5 _ rfl)
    simp only [Nat.add_zero] at c0
    obtain ⟨hw63, hw64⟩ := w_suc hlt hn
    have bA := bel1 wr (.cells #[.int .i64 a1, .int .i64 a2, .int .i64 a3, .string a4, .string a5, .int .i64 a6] 32)
    have hWA : RC (wr.alloc (.cells #[.int .i64 a1, .int .i64 a2, .int .i64 a3, .string a4, .string a5, .int .i64 a6] 32)) wr.heap.size (wrCells (a1, a2, a3, a4, a5, a6)) := RC.new wr (wrCells (a1, a2, a3, a4, a5, a6)) _
    have hoA := ho.alloc (.cells #[.int .i64 a1, .int .i64 a2, .int .i64 a3, .string a4, .string a5, .int .i64 a6] 32)
    have hRA := hR.below bA
    have hbA := hb.trans (bA.mono hb.size)
    have hgA := hg.below hbA
    have HGW : Hid (¬ SF s m fp wr.heap.size) := Lib.hid (fun e => by have := (hR.within _ e).2; omega)
    have HDIS := Lib.hid hdis
    have HJ : Hid (k + 1 ≤ n) := Lib.hid hlt
    have HMS : Hid (n - (k + 1) < n - k) := Lib.hid (meas_nx hlt)
    have hgl := Lib.hid (good_len (l.take k))
    have HLE : Hid ((good (l.take k)).length + 1 ≤ maxLen ∧ ((good (l.take k)).length + 1) * 64 ≤ 140737488355328) := Lib.hid (by
     have h1 := hgl.out
     have h2 : (l.take k).length ≤ k := by rw [List.length_take]; omega
     have h3 := hN0.out
     unfold maxLen
     omega)
    obtain ⟨gw, hgw⟩ : ∃ g, g = wr.heap.size := ⟨_, rfl⟩
    clear hc hx bA ho hR hdis hb hbl hlt hk
    go_upto_region 9 with fail
    rw [← hgw] at hWA HGW ⊢
    clear hgw c0 c1 c2 c3 c4 c5
    generalize wr.alloc (.cells #[.int .i64 a1, .int .i64 a2, .int .i64 a3, .string a4, .string a5, .int .i64 a6] 32) = wA at *
    have k0 := (hWA 0 _ rfl).1
    have k1 := (hWA 1 _ rfl).1
    have k2 := (hWA 2 _ rfl).1
    have k3 := (hWA 3 _ rfl).1
    have k4 := (hWA 4 _ rfl).1
    have k5 := (hWA 5 _ rfl).1
    have HWA := Lib.hid hWA
    have HOA := Lib.hid hoA
    have HRA := Lib.hid hRA
    have HBA := Lib.hid hbA
    clear hWA hoA hRA hbA
    by_cases hr : wright (a1, a2, a3, a4, a5, a6) = 0
    ·have HR := Lib.hid hr
     rw [hr] at hwr hdo
     rw [errV_zero] at hdo
     clear hr
     go_upto_region 12 with (first
      | (go_at_call 7; refine (hwr _).mono ?_; rintro e w2 ⟨rfl, hb2⟩; have hd2 := hdo w2 (HRA.out.below hb2); have m0 := (hb2.cell (cell_lt k0)).trans k0; have m1 := (hb2.cell (cell_lt k1)).trans k1; have m2 := (hb2.cell (cell_lt k2)).trans k2; have m3 := (hb2.cell (cell_lt k3)).trans k3; have m4 := (hb2.cell (cell_lt k4)).trans k4; have m5 := (hb2.cell (cell_lt k5)).trans k5; clear k0 k1 k2 k3 k4 k5)
      | (go_at_call 9; refine hd2.mono ?_; rintro e w3 ⟨rfl, hp3⟩; have hS3 := Step.of HBA.out HOA.out HRA.out HDIS.out HWA.out HGW.out hb0s hb2 hp3 (.refl _ _); have hb3' := hS3.bel; have hg3 := hg.below hb3')
      | (go_at_call 8; refine (bare_any (.none : ErrIs _ .nilIface 0 (-1)) hg3 0).mono ?_; rintro e w4 ⟨rfl, hb4⟩))
     have hS4 := hS3.more hb4
     obtain ⟨fp', hR4, hst4, hdis4⟩ := hS4.ex
     have hb4' := hS4.bel
     have ho4 := hS4.own
     have q0 := (hS4.wr 0 _ rfl).1
     have q1 := (hS4.wr 1 _ rfl).1
     have q2 := (hS4.wr 2 _ rfl).1
     have q3 := (hS4.wr 3 _ rfl).1
     have q4 := (hS4.wr 4 _ rfl).1
     have q5 := (hS4.wr 5 _ rfl).1
     have HST4 : Hid (fp'.sto = stoOf (good (l.take (k + 1)))) := Lib.hid (by
      rw [hst4, take_snoc HX.out, good_snoc, if_pos HR.out, stoOf_snoc]
      unfold doneSto
      rw [if_pos HR.out, HST.out])
     have HFI2 : Hid (First l (k + 1) f) := Lib.hid (HFI.out.good HX.out HR.out)
     have HGD : Hid (good (l.take (k + 1)) = good (l.take k) ++ [(a1, a2, a3, a4, a5, a6)]) := Lib.hid (by rw [take_snoc HX.out, good_snoc, if_pos HR.out])
     have HDIS4 := Lib.hid hdis4
     have HR4 := Lib.hid hR4
     have hb4s := hb4'.size
     clear hS4 hS3 hb4 hb3' hp3 hb2 hd2 hwr hdo hst4 hdis4 hR4 m0 m1 m2 m3 m4 m5
     go_upto_region 16 with (first
      | (at_builtin; refine wpList_append_lies _ rfl (.tmp 32) (.tmp 34) 22 rfl w.heap.size 32 i0 (.agg #[.int .i64 0, .int .i64 0, .int .i64 0, .string ⟨#[]⟩, .string ⟨#[]⟩, .int .i64 0]) 6 64 Tryz.underlying22 hi hz0 hz1 hz2 rfl (by decide) u3 (good (l.take k)).length ((good (l.take k)).flatMap wrCells) rfl (ho4.alloc _) ⟨w4.heap.size, 0, none⟩ 1 1 [.int .i64 a1, .int .i64 a2, .int .i64 a3, .string a4, .string a5, .int .i64 a6] rfl rfl (cells_at w4 [.int .i64 a1, .int .i64 a2, .int .i64 a3, .string a4, .string a5, .int .i64 a6] _) (by intro u hu; simp at hu; rcases hu with rfl | rfl | rfl | rfl | rfl | rfl <;> rfl) (by decide) HLE.out.1 HLE.out.2 (by simp; omega) _ rfl ?_; intro g5 cap5 w5 hO5 hg5 hwh hlt5))
     have hb5 := grown_own (hb4'.alloc hb4s _) hg5 (by simp; omega) (ho4.alloc _)
     have hRA4 := HR4.out.below (bel1 w4 (.cells #[.int .i64 a1, .int .i64 a2, .int .i64 a3, .string a4, .string a5, .int .i64 a6] 32))
     have hT5 : Turned (fun i => u3.ownBlock = some i) _ w5 := ⟨hg5.os, hg5.tape, hg5.output, hg5.size, fun i hi hn => hg5.block i hi (fun e => hn e.symm)⟩
     have hR5 := hRA4.turned hT5 (fun i hi e => HDIS4.out i e hi)
     have hdis5 : ∀ q, (Value.slice (some ⟨g5, 0, none⟩) ((good (l.take k)).length + 1) cap5).ownBlock = some q → ¬ SF s m fp' q := fun q hq hS => by
      injection hq with hq
      simp only at hq
      subst hq
      rcases hwh with h | h
      ·exact HDIS4.out _ h hS
      ·have := (HR4.out.within _ hS).2
       simp at h
       omega
     have hO6 : w5.ownsRow w.heap.size 32 6 (.slice (some ⟨g5, 0, none⟩) ((good (l.take k)).length + 1) cap5) (good (l.take (k + 1))).length ((good (l.take (k + 1))).flatMap wrCells) := by
      rw [HGD.out, List.length_append, List.flatMap_append]
      exact hO5
     clear hwh hO5 hg5 hlt5 hRA4 hT5
     go_wp2
     go_roundw
     case rel => exact ⟨k + 1, fp', f, HJ.out, by go_num, rfl, HFI2, hO6, hR5, HST4, hdis5, hb5⟩
     case measure => exact HMS.out
    ·have HR := Lib.hid hr
     rw [errV_of hr] at hdo
     generalize hee : wright (a1, a2, a3, a4, a5, a6) = ee at *
     have HEE := Lib.hid hee
     have e0 : (ee == 0) = false := beq_eq_false_iff_ne.2 HR.out
     have HDE : Hid (decide (ee = ee ∧ (-1 : Int) = -1) = true) := Lib.hid (decide_eq_true ⟨rfl, rfl⟩)
     clear hr hee
     have hbr := fun (W : World) (h : Handle W) => (bare_any (.bare ee HR.out : ErrIs W (.iface 33 (.int .i64 ee)) ee (-1)) h ee)
     rw [HDE.out] at hbr
     go_upto_region 12 with (first
      | (go_at_call 7; refine (hwr _).mono ?_; rintro e w2 ⟨rfl, hb2⟩; have hd2 := hdo w2 (HRA.out.below hb2); have m0 := (hb2.cell (cell_lt k0)).trans k0; have m1 := (hb2.cell (cell_lt k1)).trans k1; have m2 := (hb2.cell (cell_lt k2)).trans k2; have m3 := (hb2.cell (cell_lt k3)).trans k3; have m4 := (hb2.cell (cell_lt k4)).trans k4; have m5 := (hb2.cell (cell_lt k5)).trans k5; clear k0 k1 k2 k3 k4 k5)
      | (go_at_call 9; refine hd2.mono ?_; rintro e w3 ⟨rfl, hp3⟩; have hS3 := Step.of HBA.out HOA.out HRA.out HDIS.out HWA.out HGW.out hb0s hb2 hp3 (.refl _ _); have hb3' := hS3.bel; have hg3 := hg.below hb3')
      | (go_at_call 8; refine (hbr _ hg3).mono ?_; rintro e w4 ⟨rfl, hb4⟩))
     have hS4 := hS3.more hb4
     obtain ⟨fp', hR4, hst4, hdis4⟩ := hS4.ex
     have hb4' := hS4.bel
     have ho4 := hS4.own
     have hrx : wright (a1, a2, a3, a4, a5, a6) ≠ 0 := by rw [HEE.out]; exact HR.out
     have HGD : Hid (good (l.take (k + 1)) = good (l.take k)) := Lib.hid (by rw [take_snoc HX.out, good_snoc, if_neg hrx, List.append_nil])
     have HST4 : Hid (fp'.sto = stoOf (good (l.take (k + 1)))) := Lib.hid (by
      rw [hst4, HGD.out]
      unfold doneSto
      rw [if_neg hrx, HST.out])
     rw [← HGD.out] at ho4
     have HRX := Lib.hid hrx
     clear hS4 hS3 hb4 hb3' hp3 hb2 hd2 hwr hdo hst4 hbr m0 m1 m2 m3 m4 m5 hrx
     by_cases hf0 : f < 0
     ·have d0 : decide (f < 0) = true := decide_eq_true hf0
      have HFI2 : Hid (First l (k + 1) (k : Int)) := Lib.hid (HFI.out.bad0 HX.out HRX.out hf0)
      clear hf0
      go_wp2
      go_roundw
      case rel => exact ⟨k + 1, fp', (k : Int), HJ.out, by go_num, rfl, HFI2, ho4, hR4, HST4, hdis4, hb4'⟩
      case measure => exact HMS.out
     ·have d0 : decide (f < 0) = false := decide_eq_false hf0
      have HFI2 : Hid (First l (k + 1) f) := Lib.hid (HFI.out.bad1 hf0)
      clear hf0
      go_wp2
      go_roundw
      case rel => exact ⟨k + 1, fp', f, HJ.out, by go_num, rfl, HFI2, ho4, hR4, HST4, hdis4, hb4'⟩
      case measure => exact HMS.out
   ·obtain rfl : k = n := by omega
    have htk : l.take k = l := List.take_of_length_le (by rw [hll.out]; exact Nat.le_refl _)
    rw [htk] at HST ho
    have HB := Lib.hid hb
    have hgb := hg.below hb
    have hlb := hl.below hb
    have HDIS := Lib.hid hdis
    have hof := fun W (hb' : Below w.heap.size w W) (hg' : Handle W) => sof_any (w := W) A k c l ((hl.below hb').more hb'.size) HF.out hn hg'
    clear hlt hk hdis hb hlb
    go_upto_region 18 with (first
     | (go_at_call 10; refine (hof _ HB.out hgb).mono ?_; rintro e w5 ⟨v, u, rfl, hO, hb5⟩))
    have hb55 := HB.out.trans (hb5.mono HB.out.size)
    have hR5 := hR.below hb5
    have ho5 := (Turned.of_below (S := fun _ => False) hb5).own ho (fun _ _ q => q)
    have hg5 := hg.below hb55
    rcases HFI.out.ex with ⟨rfl, hall⟩ | ⟨j, x, rfl, hjk, hx, hrx, hpre⟩
    ·rw [htk] at hall
     have HALL := Lib.hid hall
     rcases hO.ex with ⟨k', x', hx', hr', _⟩ | ⟨_, rfl, o, hOv, hOut⟩
     ·exact absurd (hall x' (List.mem_of_getElem? hx')) hr'
     have HIO := Lib.hid hOut.isOut
     have HSTO : Hid (fp.sto = stoOf l) := Lib.hid (by rw [HST.out, good_all hall])
     have hl5 := (hl.below hb55).more hb55.size
     clear hall hO hOut
     go_wp2_with (first
      | (go_at_call 14; refine (rcells_any A k c l hl5 HALL.out hn).mono ?_; rintro e w6 ⟨v2, o2, rfl, hO2, hI2, hb6⟩; obtain rfl : o2 = o := hI2.one HIO.out; have hv6 := hOv.below hb6; have hR6 := hR5.below hb6)
      | (go_at_call 12; refine (same_any hv6 hO2).mono ?_; rintro e w7 ⟨rfl, hb7⟩; have hR7 := hR6.below hb7; have hv7 := hv6.below hb7)
      | (go_at_call 13; refine (scells_any hR7 hn).mono ?_; rintro e w8 ⟨v3, o3, rfl, hO3, hOut3, hb8⟩; rw [HSTO.out] at hOut3; obtain rfl := hOut3.isOut.one HIO.out; have hv8 := hv7.below hb8)
      | (go_at_call 12; refine (same_any hO3 hv8).mono ?_; rintro e w9 ⟨rfl, hb9⟩))
     have h6 := hb55.trans (hb6.mono hb55.size)
     have h7 := h6.trans (hb7.mono h6.size)
     have h8 := h7.trans (hb8.mono h7.size)
     have h9 := h8.trans (hb9.mono h8.size)
     go_ret
     exact ⟨rfl, h9⟩
    ·obtain ⟨b, o, x', rfl, hbl, hx', hc⟩ := slk_at wrCells 6 (fun _ => rfl) hl hll.out hjk
     rw [hx] at hx'
     injection hx' with hx'
     subst hx'
     obtain ⟨k', x', hx', hr', hpre', rfl, hE⟩ := hO.ex.resolve_right (fun h => hrx (h.1 x (List.mem_of_getElem? hx)))
     have hkj : k' = j := by
      rcases Nat.lt_trichotomy k' j with h | h | h
      ·exact absurd (hpre x' (take_mem h hx')) hr'
      ·exact h
      ·exact absurd (hpre' x (take_mem h hx)) hrx
     subst hkj
     rw [hx] at hx'
     injection hx' with hx'
     subst hx'
     obtain ⟨A3, c3', rfl⟩ := own_form ho
     have hwr := fun W => rwright_any x W
     have HGI : Hid (∀ y ∈ good l, wright y = 0) := Lib.hid good_mem
     have hgl : (good l).length ≤ 2200000000000 := by have := good_len l; have := hll.out; omega
     have d0 : decide ((0 : Int) ≤ (k' : Int)) = true := decide_eq_true (by omega)
     obtain ⟨a1, a2, a3, a4, a5, a6⟩ := x
     unfold wrV at hwr
     simp only at hwr
     generalize wright (a1, a2, a3, a4, a5, a6) = ee at *
     have HDE : Hid (decide (ee = ee ∧ (k' : Int) = (k' : Int)) = true) := Lib.hid (decide_eq_true ⟨rfl, rfl⟩)
     have hpl := fun (W : World) (h : ErrIs W u ee (k' : Int)) (hg' : Handle W) => placed_any h hg' ee (k' : Int)
     rw [HDE.out] at hpl
     have c0 := (hb55.cell (p := ⟨b, _, none⟩) hbl).trans (hc 0 _ rfl)
     have c1 := (hb55.cell (p := ⟨b, _, none⟩) hbl).trans (hc 1 _ rfl)
     have c2 := (hb55.cell (p := ⟨b, _, none⟩) hbl).trans (hc 2 _ rfl)
     have c3 := (hb55.cell (p := ⟨b, _, none⟩) hbl).trans (hc 3 _ rfl)
     have c4 := (hb55.cell (p := ⟨b, _, none⟩) hbl).trans (hc 4 _ rfl)
     have c5 := (hb55.cell (p := ⟨b, _, none⟩) hbl).trans (hc 5 _ rfl)
     simp only [Nat.add_zero] at c0
     clear hc hx hpre hpre' hrx hr' hO
     go_wp2_with (first
      | (go_at_call 7; refine (hwr _).mono ?_; rintro e w6 ⟨rfl, hb6⟩; have h6 := hb55.trans (hb6.mono hb55.size); have hg6 := hg5.below hb6; have hE6 := hE.below hb6; have hR6 := hR5.below hb6; have ho6 := (Turned.of_below (S := fun _ => False) hb6).own ho5 (fun _ _ q => q))
      | (go_at_call 11; refine (hpl _ hE6 hg6).mono ?_; rintro e w7 ⟨rfl, hb7⟩; have h7 := h6.trans (hb7.mono h6.size); have hR7 := hR6.below hb7; have ho7 := (Turned.of_below (S := fun _ => False) hb7).own ho6 (fun _ _ q => q))
      | (go_at_call 13; refine (scells_any hR7 hn).mono ?_; rintro e w8 ⟨v3, o3, rfl, hO3, hOut3, hb8⟩; rw [HST.out] at hOut3; have h8 := h7.trans (hb8.mono h7.size); have ho8 := (Turned.of_below (S := fun _ => False) hb8).own ho7 (fun _ _ q => q))
      | (go_at_call 14; refine (rcells_any A3 (good l).length c3' (good l) (Sl.of_own ho8) HGI.out hgl).mono ?_; rintro e w9 ⟨v4, o4, rfl, hO4, hI4, hb9⟩; obtain rfl := hI4.one hOut3.isOut; have hv9 := hO3.below hb9; have h9 := h8.trans (hb9.mono h8.size))
      | (go_at_call 12; refine (same_any hv9 hO4).mono ?_; rintro e w10 ⟨rfl, hb10⟩; have h10 := h9.trans (hb10.mono h9.size)))
     go_ret
     exact ⟨rfl, h10⟩
end Go.Proofs.YtlpkpfpmcppciaaGreatDoor
end
