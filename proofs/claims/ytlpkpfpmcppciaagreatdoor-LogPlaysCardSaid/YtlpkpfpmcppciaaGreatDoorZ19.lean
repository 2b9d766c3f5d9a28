/- The reference's Since: what it answers. Printed by gen_rlogs.py out of rlogs.src.

The program's log and the reference's, side by side. -/
import Derived.Test.YtlpkpfpmcppciaaGreatDoorZ18
import Derived.Test.YtlpkpfpmcppciaaGreatDoorZ10
import Derived.Test.YtlpkpfpmcppciaaGreatDoorZ15
import Derived.Test.YtlpkpfpmcppciaaGreatDoorZ3
import Derived.Test.YtlpkpfpmcppciaaGreatDoorZ2
import Derived.Test.YtlpkpfpmcppciaaGreatDoorZ8
import Derived.Test.YtlpkpfpmcppciaaGreatDoorZ11
import Derived.Test.YtlpkpfpmcppciaaGreatDoorZ16
import Derived.Test.YtlpkpfpmcppciaaGreatDoorZ17
section
namespace Go.Proofs.YtlpkpfpmcppciaaGreatDoor
set_option linter.unusedSimpArgs false
set_option linter.unusedVariables false
open Go.RowKit As
theorem topT_take {f : List Ent} {all : List Wr} {j : Nat} {y : Wr} (h : all[j]? = some y) (r : Int) : topT f (all.take (j + 1)) r = if y.2.1 = r then max (topT f (all.take j) r) y.1 else topT f (all.take j) r := by rw [take_snoc h, topT_snoc]
/-- One entry appended. -/
theorem app_en1 {w : World} {B g : Nat} {v : Value} {L : List Ent} {x : Ent} (ho : w.ownsRow B 73 2 v L.length (entV L)) (hb : w.heap[g]? = some (.cells (entCells x).toArray 73 (0, 0))) (hn : L.length ≤ 1000000) (hB : B ≤ w.heap.size) (ty : TypeId) :
  ∃ v' w', (Builtin.append_ #[24, 24] ty #[v, .slice (some ⟨g, 0, none⟩) 1 1]).run Tryz.prog w = .ok v' w' ∧ w'.ownsRow B 73 2 v' (L ++ [x]).length (entV (L ++ [x])) ∧ w.grownBy w' v.ownBlock := by
 obtain ⟨i0, hi, hz0, hz1, hz2⟩ := info_parts entInfo
 obtain ⟨g', cap, w', h1, h2, h3, h4, _⟩ := run_append_lies (P := Tryz.prog) w 24 ty B 73 i0 _ 2 16 Tryz.underlying24 hi hz0 hz1 hz2 rfl (by decide) v L.length (entV L) ho ⟨g, 0, none⟩ 1 1 (entCells x) rfl (cells_block hb) (by intro u hu; simp only [entCells, List.mem_cons, List.not_mem_nil, or_false] at hu; rcases hu with rfl | rfl <;> rfl) (by decide) (by unfold maxLen; omega) (by omega) hB _ rfl
 exact ⟨_, w', h1, entV_snoc rfl h2, h3⟩
theorem sl_take {w : World} {B g n c m : Nat} {D : List Wr} (ho : w.ownsRow B 32 6 (.slice (some ⟨g, 0, none⟩) n c) n (D.flatMap wrCells)) (hD : D.length = n) (hm : m ≤ n) : Sl w w.heap.size 6 (some ⟨g, 0, none⟩) m ((D.take m).flatMap wrCells) := by
 refine ⟨by rw [wflat6, List.length_take]; omega, fun h0 => ⟨g, 0, rfl, (ho.lt g rfl).2, fun j u hj => ?_⟩⟩
 obtain ⟨i, q, x, e, hq, hx, hu⟩ := flat_at wrCells 6 (fun _ => rfl) (D.take m) j u hj
 subst e
 have him : i < m := by have := (List.getElem?_eq_some_iff.1 hx).1; rw [List.length_take] at this; omega
 rw [List.getElem?_take_of_lt him] at hx
 rw [Nat.zero_add]
 exact wr_cells_own ho hD hx q u hu
def rs3V (gr gt : Nat) (ve1 : Int) (g : Unit) : Nat → Value
 | 0 => .agg #[.slice none 0 0, .slice none 0 0, .slice none 0 0]
 | 1 => .pointer (some ⟨gt, 0, none⟩)
 | 2 => .int .i64 ve1
 | 4 => .int .i64 ve1
 | _ => undef
def rs10V (gw n c_ : Nat) (A : Option Addr) (f : List Ent) (x1 x2 : Int) (bv : Bool) (g : Unit) : Nat → Value
 | 0 => .pointer (some ⟨gw, 0, none⟩)
 | 1 => .pointer (some ⟨gw, 0, none⟩)
 | 2 => .int .i64 x1
 | 3 => .slice A n c_
 | 4 => .pointer (some ⟨gw, 0, none⟩)
 | 5 => .pointer (some ⟨gw, 1, none⟩)
 | 6 => .int .i64 x2
 | 7 => .int .i64 (vof f x2)
 | 8 => .bool bv
 | _ => undef
set_option maxHeartbeats 8000000 in
set_option maxRecDepth 100000 in
theorem rsince_any {w : World} {B : Nat} {c : LgC} {rep : Int} {V : List Ent} {L_ S_ : List Wr} (h : LogAt w B c rep V L_) (hs : SortOf L_ S_) (hV : (vright V).1 = 0) (hL : L_.length ≤ 300) (A : Option Addr) (n c_ : Nat) (f : List Ent) (hf : Ents w w.heap.size A n f) (hn : n ≤ maxLen) :
  Calls Tryz.prog 20 #[.pointer (some ⟨c.p, 0, none⟩), .slice A n c_] w (SincP w (lsince V S_ f) (fun e => .int .i64 e)) := by
 obtain ⟨p, hv, lv⟩ := c
 obtain ⟨AH, ch, e1, hch⟩ := own_form' h.h
 obtain ⟨AL, cl, e2, hcl⟩ := own_form' h.l
 simp only at e1 e2
 subst e1 e2
 have b0 := below1 w (.cells #[.slice none 0 0, .slice none 0 0, .slice none 0 0] 26)
 have hGR : RC (w.alloc (.cells #[.slice none 0 0, .slice none 0 0, .slice none 0 0] 26)) w.heap.size [.slice none 0 0, .slice none 0 0, .slice none 0 0] := RC.new w [.slice none 0 0, .slice none 0 0, .slice none 0 0] _
 have h0 := h.below b0
 obtain ⟨R, hR⟩ : ∃ R, lsince V S_ f = R := ⟨_, rfl⟩
 have HR := Lib.hid hR
 rw [hR]
 clear hR
 have HFA := Lib.hid hf
 have HLA0 := Lib.hid h
 have HM := Lib.hid (own_cap' h.h)
 have HYR := Lib.hid hV
 have HSO := Lib.hid hs
 have HS3 : Hid (S_.length ≤ 300) := Lib.hid (by rw [hs.len]; exact hL)
 have HL3 := Lib.hid hL
 have HNF := Lib.hid hn
 have HLN : Hid (f.length = n) := Lib.hid hf.len
 have HEF0 := Lib.hid (hf.grow b0)
 clear h hs hV hL hf hn hch hcl
 go_enter Tryz.func20, Tryz.ntmps20
 go_upto_region 1 with fail
 obtain ⟨gr, hgr⟩ : ∃ g, g = w.heap.size := ⟨_, rfl⟩
 have HGE : Hid (w.heap.size ≤ gr) := Lib.hid (by omega)
 rw [← hgr] at hGR ⊢
 clear hgr
 generalize w.alloc (.cells #[.slice none 0 0, .slice none 0 0, .slice none 0 0] 26) = W at *
 have HGR := Lib.hid hGR
 have HH0 := Lib.hid h0
 have HB0 := Lib.hid b0
 obtain ⟨ve, hve⟩ : ∃ ve, vright f = ve := ⟨_, rfl⟩
 have hvr := rvright_any W n c_ A f HEF0.out HNF.out
 rw [hve] at hvr
 unfold faultV at hvr
 have HVE := Lib.hid hve
 obtain ⟨ve1, ve2⟩ := ve
 simp only at hvr
 clear hGR h0 b0 hve
 go_wp2_with fail
 refine hvr.mono ?_
 rintro e wa ⟨rfl, hba⟩
 go_wp2_with fail
 have hGT : RC (wa.alloc (.cells #[.int .i64 ve1, .int .i64 ve2] 44)) wa.heap.size [.int .i64 ve1, .int .i64 ve2] := RC.new wa [.int .i64 ve1, .int .i64 ve2] 44
 have hbt := below1 wa (.cells #[.int .i64 ve1, .int .i64 ve2] 44)
 have HGN : Hid (wa.heap.size ≠ gr) := Lib.hid (fun e => by have h1 : gr < W.heap.size := cell_lt (HGR.out 0 _ rfl).1; have := hba.size; omega)
 refine (is_any (ve1, ve2) _).mono ?_
 rintro e w1 ⟨rfl, hb1⟩
 obtain ⟨gt, hgt⟩ : ∃ g, g = wa.heap.size := ⟨_, rfl⟩
 have hGT1 := hGT.below hb1
 have hba1 := (hba.trans (hbt.mono hba.size)).trans (hb1.mono (Nat.le_trans hba.size hbt.size))
 have h1 := HH0.out.below hba1
 have hGR1 := HGR.out.below hba1
 have HB1 := Lib.hid (HB0.out.trans (hba1.mono HB0.out.size))
 have HEF1 := Lib.hid (HEF0.out.grow hba1)
 rw [← hgt] at hGT1 HGN ⊢
 clear hvr hba hGT hbt hb1 hba1 HH0 HB0 HGR hgt HEF0
 simp only
 by_cases hz : ve1 = 0
 ·have e1 : (ve1 == 0) = true := by simpa using hz
  rw [e1]
  clear e1
  have HZ := Lib.hid hz
  have HN16 : Hid (n ≤ 1000000) := Lib.hid (by have := vright_ok_len (l := f) (by rw [HVE.out]; exact hz); have := HLN.out; omega)
  have HGR1 := Lib.hid hGR1
  have HH1 := Lib.hid h1
  have k1 := (h1.rc 1 _ rfl).1
  simp only at k1
  have hcov := rcovers_any w1 V.length ch n c_ AH A V f (ents_own h1.h HYR.out) HEF1.out HM.out HNF.out
  clear h1 hz hGT1 hGR1
  cases hcv : vcovers V f with
  | false =>
   rw [hcv] at hcov
   have HRe : Hid (R = (([], [], []), 13)) := Lib.hid (by rw [← HR.out]; unfold lsince; rw [HVE.out, if_neg (fun q => q HZ.out), if_pos hcv])
   clear hcv
   go_upto_region 5 with (first | (go_at_call 50; refine hcov.mono ?_; rintro e w2 ⟨rfl, hb2⟩))
   have hGR2 := HGR1.out.below hb2
   have HB2 := Lib.hid (HB1.out.trans (hb2.mono HB1.out.size))
   have HGR2 := Lib.hid hGR2
   have z0 := (hGR2 0 _ rfl).1
   have z1 := (hGR2 1 _ rfl).1
   have z2 := (hGR2 2 _ rfl).1
   have f0 := (hGR2 0 _ rfl).2
   have f1 := (hGR2 1 _ rfl).2
   have f2 := (hGR2 2 _ rfl).2
   clear hGR2 hcov hb2 k1
   go_wp2
   have hz := ((HGR2.out.set 0 (Value.slice none 0 0) (by simp)).set 1 (Value.slice none 0 0) (by simp)).set 2 (Value.slice none 0 0) (by simp)
   have q0 := (hz 0 _ rfl).1
   have q1 := (hz 1 _ rfl).1
   have q2 := (hz 2 _ rfl).1
   have hbf := ((HB2.out.setCell (p := ⟨gr, 0, none⟩) HGE.out (Value.slice none 0 0)).setCell (p := ⟨gr, 1, none⟩) HGE.out (Value.slice none 0 0)).setCell (p := ⟨gr, 2, none⟩) HGE.out (Value.slice none 0 0)
   refine bodyPost_ret (v := .tuple #[.agg #[.slice none 0 0, .slice none 0 0, .slice none 0 0], .int .i64 13]) (by simp [results, Tryz.results20, go_sem, q0, q1, q2]) rfl ⟨noBat, by rw [HRe.out]; rfl, noBat_is _, by rw [HRe.out]; rfl, by rw [HRe.out]; rfl, by rw [HRe.out]; rfl, hbf⟩
  | true =>
   rw [hcv] at hcov
   have HCV := Lib.hid hcv
   clear hcv
   have hwr := rwrites_any HH1.out.rc HH1.out.l (by have := HL3.out; omega)
   go_upto_region 6 with (first | (go_at_call 50; refine hcov.mono ?_; rintro e w2 ⟨rfl, hb2⟩))
   have h2 := HH1.out.below hb2
   have HB2 := Lib.hid (HB1.out.trans (hb2.mono HB1.out.size))
   have HGR2 := Lib.hid (HGR1.out.below hb2)
   have HEF := Lib.hid (HEF1.out.grow hb2)
   have HH2 := Lib.hid h2
   clear k1 hwr
   have hwr := rwrites_any h2.rc h2.l (by have := HL3.out; omega)
   simp only at hwr
   clear h2 hcov hb2 HH1 HB1 HGR1 HEF1
   go_wp2_with (first | (go_at_call 27; refine hwr.mono ?_; rintro e w3 ⟨vm, M, rfl, hMp, hMs, hom, hb3⟩; obtain rfl : M = S_ := HSO.out.one hMp hMs; obtain ⟨AM, cM, rfl⟩ := own_form hom))
   have HOM := Lib.hid hom
   have HB23 := Lib.hid hb3
   have HB3 := Lib.hid (HB2.out.trans (hb3.mono HB2.out.size))
   have HH3 := Lib.hid (HH2.out.below hb3)
   have HGR3 := Lib.hid (HGR2.out.below hb3)
   have HEF3 := Lib.hid (HEF.out.grow hb3)
   clear hom hb3 hMp hMs hwr HGR2 HEF HH2
   go_loopw [7, 9, 34] (fun v7 _ v34 wr => ∃ k : Nat, k ≤ M.length ∧ v34 = .int .i64 (k : Int) ∧ wr.ownsRow w3.heap.size 32 6 v7 (after f (M.take k)).length ((after f (M.take k)).flatMap wrCells) ∧ Below w3.heap.size w3 wr) (fun _ _ i _ => M.length - (intOf i).toNat)
   case atStart => exact ⟨0, Nat.zero_le _, rfl, World.ownsRow_nil _ _ _ _, Below.refl _ _⟩
   case round =>
    obtain ⟨k, hk, rfl, hoD, hb⟩ := hrel
    obtain ⟨A7, c7, rfl⟩ := own_form hoD
    by_cases hlt : k < M.length
    ·obtain ⟨⟨x1, x2, x3, x4, x5, x6⟩, hx⟩ : ∃ y, M[k]? = some y := ⟨_, List.getElem?_eq_getElem hlt⟩
     obtain ⟨gl, rfl⟩ := own_some_of HOM.out (by omega)
     have hom := (Turned.of_below (S := fun _ => False) hb).own HOM.out (fun _ _ q => q)
     have cx := wr_cells_own hom rfl hx
     have r0 : wr.cell? ⟨gl, k * 6, none⟩ = some (.int .i64 x1) := cx 0 _ rfl
     have r1 := cx 1 _ rfl
     have r2 := cx 2 _ rfl
     have r3 := cx 3 _ rfl
     have r4 := cx 4 _ rfl
     have r5 := cx 5 _ rfl
     have HX := Lib.hid hx
     have bA := below1 wr (.cells #[.int .i64 x1, .int .i64 x2, .int .i64 x3, .string x4, .string x5, .int .i64 x6] 32)
     have hGW : RC (wr.alloc (.cells #[.int .i64 x1, .int .i64 x2, .int .i64 x3, .string x4, .string x5, .int .i64 x6] 32)) wr.heap.size (wrCells (x1, x2, x3, x4, x5, x6)) := RC.new wr (wrCells (x1, x2, x3, x4, x5, x6)) _
     have hoA := hoD.alloc (.cells #[.int .i64 x1, .int .i64 x2, .int .i64 x3, .string x4, .string x5, .int .i64 x6] 32)
     have hbA := hb.trans (bA.mono hb.size)
     obtain ⟨gw, hgw⟩ : ∃ g, g = wr.heap.size := ⟨_, rfl⟩
     have W1 := Lib.hid (w_one (a := k) (by have := HS3.out; omega))
     have HM1 : Hid (M.length - (k + 1) < M.length - k) := Lib.hid (by omega)
     have HK1 : Hid (k + 1 ≤ M.length) := Lib.hid hlt
     have HD3 : Hid ((after f (M.take k)).length ≤ 300) := Lib.hid (by have h1 := after_take_len f M k; have := HS3.out; omega)
     rw [← hgw] at hGW
     clear cx hx hlt hk hoD bA hom hb
     go_upto_region 10 with fail
     rw [← hgw]
     clear hgw r0 r1 r2 r3 r4 r5
     generalize wr.alloc (.cells #[.int .i64 x1, .int .i64 x2, .int .i64 x3, .string x4, .string x5, .int .i64 x6] 32) = WA at *
     have g0 := (hGW 0 _ rfl).1
     have g1 := (hGW 1 _ rfl).1
     have HEX : Hid (Ents WA WA.heap.size A n f) := Lib.hid (HEF3.out.grow hbA)
     obtain ⟨bv, hdv⟩ : ∃ bv, decide (vof f x2 < x1) = bv := ⟨_, rfl⟩
     have HDV := Lib.hid hdv
     have HGW := Lib.hid hGW
     have HOA := Lib.hid hoA
     have HBA := Lib.hid hbA
     clear hGW hoA hbA
     refine Flow.wp_region_go (by kernel_rfl) (by kernel_rfl) (by kernel_rfl) 100 rfl (by kernel_rfl) (rs10V gw n c_ A f x1 x2 bv) (fun _ _ wz => Below WA.heap.size WA wz) (fun _ _ => False) (()) ((Below.refl _ _).drew) ⟨?_, ?_, ?_, ?_, ?_, ?_, ?_, ?_, ?_, trivial⟩ ?_ ?_
     ·intro gz L wz K ρ hc0 hf0 hF hO hU hcl hi hd hC hK
      have e9 : ρ (.tmp 9) = .pointer (some ⟨gw, 0, none⟩) := hO 9 (by kernel_rfl)
      simp [go_sem, Flow.ylP_value, Flow.ylP_skip, Flow.ylP_enter, Flow.ylP_panic, hc0, hf0, e9]
      exact hK gz wz hC (fun _ _ => rfl)
     ·intro gz L wz K ρ hc0 hf0 hF hO hU hcl hi hd hC hK
      have d0 : L 0 = true := hd ⟨0, .data⟩ (by simp) rfl
      have e38 : ρ (.tmp 38) = .pointer (some ⟨gw, 0, none⟩) := hF 38 0 (by kernel_rfl) d0
      simp [go_sem, Flow.ylP_value, Flow.ylP_skip, Flow.ylP_enter, Flow.ylP_panic, hc0, hf0, e38]
      exact hK gz wz hC (fun _ _ => rfl)
     ·intro gz L wz K ρ hc0 hf0 hF hO hU hcl hi hd hC hK
      have d1 : L 1 = true := hd ⟨1, .data⟩ (by simp) rfl
      have e39 : ρ (.tmp 39) = .pointer (some ⟨gw, 0, none⟩) := hF 39 1 (by kernel_rfl) d1
      have cc := (hC.cell (p := ⟨gw, 0, none⟩) (cell_lt g0)).trans g0
      simp [go_sem, Flow.ylP_value, Flow.ylP_skip, Flow.ylP_enter, Flow.ylP_panic, hc0, hf0, e39, cc]
      exact hK gz wz hC (fun _ _ => rfl)
     ·intro gz L wz K ρ hc0 hf0 hF hO hU hcl hi hd hC hK
      have e1 : ρ (.tmp 1) = .slice A n c_ := hO 1 (by kernel_rfl)
      simp [go_sem, Flow.ylP_value, Flow.ylP_skip, Flow.ylP_enter, Flow.ylP_panic, hc0, hf0, e1]
      exact hK gz wz hC (fun _ _ => rfl)
     ·intro gz L wz K ρ hc0 hf0 hF hO hU hcl hi hd hC hK
      have e9 : ρ (.tmp 9) = .pointer (some ⟨gw, 0, none⟩) := hO 9 (by kernel_rfl)
      simp [go_sem, Flow.ylP_value, Flow.ylP_skip, Flow.ylP_enter, Flow.ylP_panic, hc0, hf0, e9]
      exact hK gz wz hC (fun _ _ => rfl)
     ·intro gz L wz K ρ hc0 hf0 hF hO hU hcl hi hd hC hK
      have d4 : L 4 = true := hd ⟨4, .data⟩ (by simp) rfl
      have e42 : ρ (.tmp 42) = .pointer (some ⟨gw, 0, none⟩) := hF 42 4 (by kernel_rfl) d4
      simp [go_sem, Flow.ylP_value, Flow.ylP_skip, Flow.ylP_enter, Flow.ylP_panic, hc0, hf0, e42]
      exact hK gz wz hC (fun _ _ => rfl)
     ·intro gz L wz K ρ hc0 hf0 hF hO hU hcl hi hd hC hK
      have d5 : L 5 = true := hd ⟨5, .data⟩ (by simp) rfl
      have e43 : ρ (.tmp 43) = .pointer (some ⟨gw, 1, none⟩) := hF 43 5 (by kernel_rfl) d5
      have cc := (hC.cell (p := ⟨gw, 1, none⟩) (cell_lt g1)).trans g1
      simp [go_sem, Flow.ylP_value, Flow.ylP_skip, Flow.ylP_enter, Flow.ylP_panic, hc0, hf0, e43, cc]
      exact hK gz wz hC (fun _ _ => rfl)
     ·intro gz L wz K ρ hc0 hf0 hF hO hU hcl hi hd hC hK
      have d3 : L 3 = true := hd ⟨3, .data⟩ (by simp) rfl
      have e41 : ρ (.tmp 41) = .slice A n c_ := hF 41 3 (by kernel_rfl) d3
      have d6 : L 6 = true := hd ⟨6, .data⟩ (by simp) rfl
      have e44 : ρ (.tmp 44) = .int .i64 x2 := hF 44 6 (by kernel_rfl) d6
      simp [go_sem, Flow.ylP_value, Flow.ylP_skip, Flow.ylP_enter, Flow.ylP_panic, hc0, hf0, e41, e44]
      refine (rof_any wz n c_ A f x2 (HEX.out.grow hC) HNF.out).mono ?_
      rintro r wn ⟨rfl, hww⟩
      have hbn : Below wz.heap.size wz wn := by rw [← hww]; exact .refl _ _
      exact ⟨_, rfl, hK gz wn (hC.trans (hbn.mono hC.size)) (by intro j hj; unfold rs10V; split <;> first | rfl | (rw [hi] at hj; cases hj) | (have hz := hcl _ 7 (by kernel_rfl) hj; rw [hi] at hz; cases hz))⟩
     ·intro gz L wz K ρ hc0 hf0 hF hO hU hcl hi hd hC hK
      have d2 : L 2 = true := hd ⟨2, .data⟩ (by simp) rfl
      have e40 : ρ (.tmp 40) = .int .i64 x1 := hF 40 2 (by kernel_rfl) d2
      have d7 : L 7 = true := hd ⟨7, .data⟩ (by simp) rfl
      have e45 : ρ (.tmp 45) = .int .i64 (vof f x2) := hF 45 7 (by kernel_rfl) d7
      simp [go_sem, Flow.ylP_value, Flow.ylP_skip, Flow.ylP_enter, Flow.ylP_panic, hc0, hf0, e40, e45, hdv]
      exact hK gz wz hC (fun _ _ => rfl)
     ·intro gz L ch wz h; exact h.elim
     ·intro gz L wz hL hC
      have HC10 := Lib.hid hC
      clear hC hL
      simp only [Flow.putAll, rs10V]
      try simp [Act.put]
      have hoD := (Turned.of_below (S := fun _ => False) HC10.out).own HOA.out (fun _ _ q => q)
      have hGW1 := HGW.out.below HC10.out
      have hb1 := HBA.out.trans (HC10.out.mono HBA.out.size)
      obtain ⟨wv, hwv⟩ : ∃ wv, wv = wz := ⟨_, rfl⟩
      rw [← hwv] at hoD hGW1 hb1 ⊢
      clear g0 g1 hdv HOA HGW HC10 HEX hwv HBA
      cases bv with
      | false =>
       have HNX : Hid (after f (M.take (k + 1)) = after f (M.take k)) := Lib.hid (by rw [after_take HX.out, if_neg (of_decide_eq_false HDV.out), List.append_nil])
       obtain ⟨m1, m2⟩ := W1.out
       have HO1 := Lib.hid hoD
       clear hoD hGW1
       go_wp2
       go_roundw
       case rel => exact ⟨k + 1, HK1.out, by go_num, by rw [HNX.out]; exact HO1.out, hb1⟩
       case measure => simpa [intOf] using HM1.out
      | true =>
       have HNX : Hid (after f (M.take (k + 1)) = after f (M.take k) ++ [(x1, x2, x3, x4, x5, x6)]) := Lib.hid (by rw [after_take HX.out, if_pos (of_decide_eq_true HDV.out)])
       have g0 := (hGW1 0 _ rfl).1
       have g1 := (hGW1 1 _ rfl).1
       have g2 := (hGW1 2 _ rfl).1
       have g3 := (hGW1 3 _ rfl).1
       have g4 := (hGW1 4 _ rfl).1
       have g5 := (hGW1 5 _ rfl).1
       have hbO := hb1.alloc hb1.size (.cells #[.int .i64 x1, .int .i64 x2, .int .i64 x3, .string x4, .string x5, .int .i64 x6] 32)
       obtain ⟨v', w7, hrun, hov, hgn, hwh⟩ := app_wr1 (x := (x1, x2, x3, x4, x5, x6)) (hoD.alloc (.cells #[.int .i64 x1, .int .i64 x2, .int .i64 x3, .string x4, .string x5, .int .i64 x6] 32)) (heap_alloc_new wv (.cells #[.int .i64 x1, .int .i64 x2, .int .i64 x3, .string x4, .string x5, .int .i64 x6] 32)) (by have := HD3.out; omega) (by have := hb1.size; simp; omega) 22
       have hb7 := grown_own hbO hgn hbO.size (hoD.alloc (.cells #[.int .i64 x1, .int .i64 x2, .int .i64 x3, .string x4, .string x5, .int .i64 x6] 32))
       rw [← HNX.out] at hov
       have HO7 := Lib.hid (And.intro hov hb7)
       obtain ⟨m1, m2⟩ := W1.out
       clear hoD hGW1 hbO hov hgn hwh hb7 hb1
       go_upto_region 12 with (at_builtin; refine Lib.wpList_append_run _ rfl _ _ _ _ rfl _ _ rfl rfl _ _ hrun ?_)
       clear g0 g1 g2 g3 g4 g5 hrun
       go_wp2
       go_roundw
       case rel => exact ⟨k + 1, HK1.out, by go_num, HO7.out.1, HO7.out.2⟩
       case measure => simpa [intOf] using HM1.out
    ·obtain rfl : k = M.length := by omega
     rw [List.take_length] at hoD ⊢
     obtain ⟨D, hD⟩ : ∃ D, D = after f M := ⟨_, rfl⟩
     have HDD := Lib.hid hD
     have HD3 : Hid (D.length ≤ 300) := Lib.hid (by rw [hD]; have := after_take_len f M M.length; rw [List.take_length] at this; have := HS3.out; omega)
     rw [← hD] at hoD ⊢
     clear hlt hk hD
     have HBr := Lib.hid hb
     have hHr := HH3.out.below hb
     have HGRr := Lib.hid (HGR3.out.below hb)
     have HHr := Lib.hid hHr
     have HB4 := Lib.hid (HB3.out.trans (hb.mono HB3.out.size))
     have HEr := Lib.hid (HEF3.out.grow hb)
     have HOD := Lib.hid hoD
     clear hb
     by_cases h60 : D.length ≤ 60
     ·have d60 : decide ((D.length : Int) ≤ (60 : Int)) = true := decide_eq_true (by omega)
      have HRe : Hid (R = ((f, V, D), 0)) := Lib.hid (by rw [← HR.out]; unfold lsince; rw [HVE.out, if_neg (fun q => q HZ.out), if_neg (by rw [HCV.out]; decide), if_pos (by rw [← HDD.out]; exact h60), ← HDD.out])
      have k1 := (hHr.rc 1 _ rfl).1
      simp only at k1
      have hGRz := HGRr.out
      have z0 := (hGRz 0 _ rfl).1
      have z1 := (hGRz 1 _ rfl).1
      have z2 := (hGRz 2 _ rfl).1
      have f0 := (hGRz 0 _ rfl).2
      have f1 := (hGRz 1 _ rfl).2
      have f2 := (hGRz 2 _ rfl).2
      clear h60 hHr hoD hGRz
      go_wp2
      have HGL : Hid (gr < w3.heap.size) := Lib.hid (cell_lt (HGR3.out 0 _ rfl).1)
      have hz := ((HGRr.out.set 0 (Value.slice A n c_) (by simp)).set 1 (Value.slice AH V.length ch) (by simp)).set 2 (Value.slice A7 D.length c7) (by simp)
      have q0 := (hz 0 _ rfl).1
      have q1 := (hz 1 _ rfl).1
      have q2 := (hz 2 _ rfl).1
      have hbf := ((HB4.out.setCell (p := ⟨gr, 0, none⟩) HGE.out (Value.slice A n c_)).setCell (p := ⟨gr, 1, none⟩) HGE.out (Value.slice AH V.length ch)).setCell (p := ⟨gr, 2, none⟩) HGE.out (Value.slice A7 D.length c7)
      have hT : Turned (fun i => i = gr) wr (((wr.setCell ⟨gr, 0, none⟩ (Value.slice A n c_)).setCell ⟨gr, 1, none⟩ (Value.slice AH V.length ch)).setCell ⟨gr, 2, none⟩ (Value.slice A7 D.length c7)) := Turned.trans (S := fun i => i = gr) (.set _ _ _ rfl) (Turned.trans (S := fun i => i = gr) (.set _ _ _ rfl) (.set _ _ _ rfl))
      refine bodyPost_ret (v := .tuple #[.agg #[.slice A n c_, .slice AH V.length ch, .slice A7 D.length c7], .int .i64 0]) (by simp [results, Tryz.results20, go_sem, q0, q1, q2]) rfl ⟨⟨A, n, c_, AH, V.length, ch, A7, D.length, c7, f, V, D⟩, by rw [HRe.out]; rfl, ?_, by rw [HRe.out], by rw [HRe.out], by rw [HRe.out], hbf⟩
      exact ⟨(HFA.out.grow hbf).1, Sl.of_own (HLA0.out.below hbf).h, Sl.of_own (hT.own HOD.out (fun j hj e => by have h1 := (HOD.out.lt j hj).1; have h2 := HGL.out; rw [show j = gr from e] at h1; omega)), HNF.out, own_cap' (HLA0.out.below hbf).h, own_cap' HOD.out⟩
     ·have d60 : decide ((D.length : Int) ≤ (60 : Int)) = false := decide_eq_false (by omega)
      have HD60 : Hid (60 < D.length) := Lib.hid (by omega)
      obtain ⟨gd, rfl⟩ := own_some_of hoD (by omega)
      have hc7 := (own_lel hoD).1
      have rh := fun W => run_headw W gd D.length c7 60 60 rfl (by omega)
      obtain ⟨D6, hD6⟩ : ∃ D6, D6 = D.take 60 := ⟨_, rfl⟩
      have HD6 := Lib.hid hD6
      have HL6 : Hid (D6.length = 60) := Lib.hid (by rw [hD6, List.length_take]; omega)
      have HRe : Hid (R = ((f, sinceHave f D6, D6), 0)) := Lib.hid (by rw [← HR.out]; unfold lsince; rw [HVE.out, if_neg (fun q => q HZ.out), if_neg (by rw [HCV.out]; decide), if_neg (by rw [← HDD.out]; exact h60), ← HDD.out, hD6])
      obtain ⟨w5, hw5⟩ : ∃ w5, w5 = wr := ⟨_, rfl⟩
      rw [← hw5] at HOD HBr HGRr HHr HB4 HEr ⊢
      clear h60 hHr hoD hD6 hw5 hc7
      go_wp2
      clear rh d60
      go_loopw [10, 12, 14, 64, 72] (fun v10 _ _ v64 _ wr => ∃ r : Nat, r ≤ 201 ∧ v64 = .int .i64 (r : Int) ∧ wr.ownsRow w5.heap.size 73 2 v10 (canon (topT f D6) 0 r).length (entV (canon (topT f D6) 0 r)) ∧ Below w5.heap.size w5 wr) (fun _ _ _ i _ _ => 201 - (intOf i).toNat)
      case atStart => exact ⟨0, Nat.zero_le _, rfl, World.ownsRow_nil _ _ _ _, Below.refl _ _⟩
      case round =>
       obtain ⟨r, hr, rfl, hoC, hb⟩ := hrel
       obtain ⟨AC, cC, rfl⟩ := own_form hoC
       by_cases hlt : r < 201
       ·have HBb := Lib.hid hb
        have HOC := Lib.hid hoC
        have W1 := Lib.hid (w_one (a := r) (by omega))
        have HM1 : Hid (201 - (r + 1) < 201 - r) := Lib.hid (by omega)
        have HK1 : Hid (r + 1 ≤ 201) := Lib.hid hlt
        have HCL : Hid ((canon (topT f D6) 0 r).length ≤ 201) := Lib.hid (by have := canon_len (topT f D6) 0 r; omega)
        have hvo := fun W (h : Below wr.heap.size wr W) => rof_any W n c_ A f (r : Int) (HEr.out.grow (hb.trans (h.mono hb.size))) HNF.out
        have hv0 := rof_any wr n c_ A f (r : Int) (HEr.out.grow hb) HNF.out
        have dl : decide ((r : Int) < (201 : Int)) = true := decide_eq_true (by omega)
        clear hb hoC hvo
        go_wp2_with (first | (go_at_call 61; refine hv0.mono ?_; rintro e w6 ⟨rfl, rfl⟩))
        clear hv0 dl hlt hr
        go_loopw [12, 72] (fun v12 v72 wx => ∃ j : Nat, j ≤ 60 ∧ v72 = .int .i64 (j : Int) ∧ v12 = .int .i64 (topT f (D6.take j) (r : Int)) ∧ Below wr.heap.size wr wx) (fun _ i _ => 60 - (intOf i).toNat)
        case atStart => exact ⟨0, Nat.zero_le _, rfl, rfl, Below.refl _ _⟩
        case round =>
         obtain ⟨j, hj, rfl, rfl, hb⟩ := hrel
         by_cases hlt : j < 60
         ·obtain ⟨⟨y1, y2, y3, y4, y5, y6⟩, hy⟩ : ∃ y, D6[j]? = some y := ⟨_, List.getElem?_eq_getElem (by rw [HL6.out]; exact hlt)⟩
          have hyD : D[j]? = some (y1, y2, y3, y4, y5, y6) := by rw [HD6.out, List.getElem?_take_of_lt hlt] at hy; exact hy
          have hod := (Turned.of_below (S := fun _ => False) hb).own ((Turned.of_below (S := fun _ => False) HBb.out).own HOD.out (fun _ _ q => q)) (fun _ _ q => q)
          have cy := wr_cells_own hod rfl hyD
          have r0 : wr.cell? ⟨gd, j * 6, none⟩ = some (.int .i64 y1) := cy 0 _ rfl
          have r1 := cy 1 _ rfl
          have r2 := cy 2 _ rfl
          have r3 := cy 3 _ rfl
          have r4 := cy 4 _ rfl
          have r5 := cy 5 _ rfl
          have HTS := Lib.hid (topT_take (f := f) hy (r : Int))
          have bA := below1 wr (.cells #[.int .i64 y1, .int .i64 y2, .int .i64 y3, .string y4, .string y5, .int .i64 y6] 32)
          have hGX : RC (wr.alloc (.cells #[.int .i64 y1, .int .i64 y2, .int .i64 y3, .string y4, .string y5, .int .i64 y6] 32)) wr.heap.size (wrCells (y1, y2, y3, y4, y5, y6)) := RC.new wr (wrCells (y1, y2, y3, y4, y5, y6)) _
          have hbA := hb.trans (bA.mono hb.size)
          obtain ⟨gx, hgx⟩ : ∃ g, g = wr.heap.size := ⟨_, rfl⟩
          have W2 := Lib.hid (w_one (a := j) (by omega))
          have HM2 : Hid (60 - (j + 1) < 60 - j) := Lib.hid (by omega)
          have HK2 : Hid (j + 1 ≤ 60) := Lib.hid hlt
          obtain ⟨t0, ht0⟩ : ∃ t0, t0 = topT f (D6.take j) (r : Int) := ⟨_, rfl⟩
          rw [← ht0] at HTS ⊢
          rw [← hgx] at hGX
          have dl2 : decide ((j : Int) < (60 : Int)) = true := decide_eq_true (by omega)
          clear cy hy hyD hod bA hb ht0
          go_upto_region 24 with fail
          clear dl2 hlt hj
          rw [← hgx]
          clear hgx r0 r1 r2 r3 r4 r5
          generalize wr.alloc (.cells #[.int .i64 y1, .int .i64 y2, .int .i64 y3, .string y4, .string y5, .int .i64 y6] 32) = WB at *
          have g0 := (hGX 0 _ rfl).1
          have g1 := (hGX 1 _ rfl).1
          have HBA := Lib.hid hbA
          obtain ⟨m1, m2⟩ := W2.out
          clear hGX hbA
          by_cases hyr : y2 = (r : Int)
          ·have e1 : (y2 == (r : Int)) = true := by rw [hyr]; exact beq_self_eq_true _
           have HT2 : Hid (topT f (D6.take (j + 1)) (r : Int) = max t0 y1) := Lib.hid (by rw [HTS.out]; simp only; rw [if_pos hyr])
           clear hyr
           go_wp2
           go_roundw
           case rel => exact ⟨j + 1, HK2.out, by go_num, by rw [HT2.out], HBA.out⟩
           case measure => simpa [intOf] using HM2.out
          ·have e1 : (y2 == (r : Int)) = false := beq_eq_false_iff_ne.2 hyr
           have HT2 : Hid (topT f (D6.take (j + 1)) (r : Int) = t0) := Lib.hid (by rw [HTS.out]; simp only; rw [if_neg hyr])
           clear hyr
           go_wp2
           go_roundw
           case rel => exact ⟨j + 1, HK2.out, by go_num, by rw [HT2.out], HBA.out⟩
           case measure => simpa [intOf] using HM2.out
         ·obtain rfl : j = 60 := by omega
          have htk : D6.take 60 = D6 := List.take_of_length_le (by rw [HL6.out]; exact Nat.le_refl _)
          rw [htk]
          obtain ⟨T, hT⟩ : ∃ T, topT f D6 (r : Int) = T := ⟨_, rfl⟩
          have HTT := Lib.hid hT
          rw [hT]
          have hoc := (Turned.of_below (S := fun _ => False) hb).own HOC.out (fun _ _ q => q)
          have hbb := HBb.out.trans (hb.mono HBb.out.size)
          clear hlt hj htk hT hb
          obtain ⟨m1, m2⟩ := W1.out
          by_cases hpos : 0 < T
          ·have d1 : decide (0 < T) = true := decide_eq_true hpos
           have HCN : Hid (canon (topT f D6) 0 (r + 1) = canon (topT f D6) 0 r ++ [((r : Int), T)]) := Lib.hid (canon_yes HTT.out hpos)
           have hbO := hbb.alloc hbb.size (.cells #[.int .i64 (r : Int), .int .i64 T] 73)
           obtain ⟨v', w8, hrun, hov, hgn⟩ := app_en1 (x := ((r : Int), T)) (hoc.alloc (.cells #[.int .i64 (r : Int), .int .i64 T] 73)) (heap_alloc_new wr (.cells #[.int .i64 (r : Int), .int .i64 T] 73)) (by have := HCL.out; omega) (by have := hbb.size; simp; omega) 24
           have hb8 := grown_own hbO hgn hbO.size (hoc.alloc (.cells #[.int .i64 (r : Int), .int .i64 T] 73))
           rw [← HCN.out] at hov
           have HO8 := Lib.hid (And.intro hov hb8)
           clear hpos hbO hov hgn hb8 hoc hbb
           go_upto_region 29 with (at_builtin; refine Lib.wpList_append_run _ rfl _ _ _ _ rfl _ _ rfl rfl _ _ hrun ?_)
           clear hrun d1
           go_wp2
           go_roundw
           case rel => exact ⟨r + 1, HK1.out, by go_num, HO8.out.1, HO8.out.2⟩
           case measure => simpa [intOf] using HM1.out
          ·have d1 : decide (0 < T) = false := decide_eq_false hpos
           have HCN : Hid (canon (topT f D6) 0 (r + 1) = canon (topT f D6) 0 r) := Lib.hid (canon_no HTT.out hpos)
           rw [← HCN.out] at hoc
           have HO8 := Lib.hid (And.intro hoc hbb)
           have HCLn : Hid ((canon (topT f D6) 0 r).length = (canon (topT f D6) 0 (r + 1)).length) := Lib.hid (by rw [HCN.out])
           clear hpos hoc hbb
           go_wp2
           go_roundw
           case rel => exact ⟨r + 1, HK1.out, by go_num, by rw [HCN.out]; have h := HO8.out.1; rw [HCN.out] at h; exact h, HO8.out.2⟩
           case measure => simpa [intOf] using HM1.out
       ·obtain rfl : r = 201 := by omega
        have hs : canon (topT f D6) 0 201 = sinceHave f D6 := rfl
        rw [hs] at hoC ⊢
        obtain ⟨H, hH⟩ : ∃ H, H = sinceHave f D6 := ⟨_, rfl⟩
        rw [← hH] at hoC HRe ⊢
        have hGRz := HGRr.out.below hb
        have z0 := (hGRz 0 _ rfl).1
        have z1 := (hGRz 1 _ rfl).1
        have z2 := (hGRz 2 _ rfl).1
        have f0 := (hGRz 0 _ rfl).2
        have f1 := (hGRz 1 _ rfl).2
        have f2 := (hGRz 2 _ rfl).2
        have HGRz := Lib.hid hGRz
        have HBz := Lib.hid (HB4.out.trans (hb.mono HB4.out.size))
        have HOz := Lib.hid ((Turned.of_below (S := fun _ => False) hb).own HOD.out (fun _ _ q => q))
        have HOC := Lib.hid hoC
        have HGL : Hid (gr < w3.heap.size ∧ gr < w5.heap.size) := Lib.hid ⟨cell_lt (HGR3.out 0 _ rfl).1, cell_lt (HGRr.out 0 _ rfl).1⟩
        clear hlt hr hs hoC hb hH hGRz
        go_wp2
        have hz := ((HGRz.out.set 0 (Value.slice A n c_) (by simp)).set 1 (Value.slice AC H.length cC) (by simp)).set 2 (Value.slice (some ⟨gd, 0, none⟩) 60 c7) (by simp)
        have q0 := (hz 0 _ rfl).1
        have q1 := (hz 1 _ rfl).1
        have q2 := (hz 2 _ rfl).1
        have hbf := ((HBz.out.setCell (p := ⟨gr, 0, none⟩) HGE.out (Value.slice A n c_)).setCell (p := ⟨gr, 1, none⟩) HGE.out (Value.slice AC H.length cC)).setCell (p := ⟨gr, 2, none⟩) HGE.out (Value.slice (some ⟨gd, 0, none⟩) 60 c7)
        have hT : Turned (fun i => i = gr) wr (((wr.setCell ⟨gr, 0, none⟩ (Value.slice A n c_)).setCell ⟨gr, 1, none⟩ (Value.slice AC H.length cC)).setCell ⟨gr, 2, none⟩ (Value.slice (some ⟨gd, 0, none⟩) 60 c7)) := Turned.trans (S := fun i => i = gr) (.set _ _ _ rfl) (Turned.trans (S := fun i => i = gr) (.set _ _ _ rfl) (.set _ _ _ rfl))
        refine bodyPost_ret (v := .tuple #[.agg #[.slice A n c_, .slice AC H.length cC, .slice (some ⟨gd, 0, none⟩) 60 c7], .int .i64 0]) (by simp [results, Tryz.results20, go_sem, q0, q1, q2]) rfl ⟨⟨A, n, c_, AC, H.length, cC, some ⟨gd, 0, none⟩, 60, c7, f, H, D6⟩, by rw [HRe.out]; rfl, ?_, by rw [HRe.out], by rw [HRe.out], by rw [HRe.out], hbf⟩
        exact ⟨(HFA.out.grow hbf).1, Sl.of_own (hT.own HOC.out (fun j hj e => by have h1 := (HOC.out.lt j hj).1; have h2 := HGL.out.2; rw [show j = gr from e] at h1; omega)), by rw [HD6.out]; exact sl_take (hT.own HOz.out (fun j hj e => by have h1 := (HOz.out.lt j hj).1; have h2 := HGL.out.1; rw [show j = gr from e] at h1; omega)) rfl (by show 60 ≤ D.length; have := HD60.out; omega), HNF.out, own_cap' HOC.out, by unfold maxLen; simp only; omega⟩
 ·have e1 : (ve1 == 0) = false := beq_eq_false_iff_ne.2 hz
  rw [e1]
  clear e1
  have HRe : Hid (R = (([], [], []), ve1)) := Lib.hid (by rw [← HR.out]; unfold lsince; rw [HVE.out, if_pos hz])
  clear hz h1
  go_upto_region 3 with fail
  refine Flow.wp_region_go (by kernel_rfl) (by kernel_rfl) (by kernel_rfl) 100 rfl (by kernel_rfl) (rs3V gr gt ve1) (fun _ L wz => RC wz gt [.int .i64 ve1, .int .i64 ve2] ∧ RC wz gr [.slice none 0 0, .slice none 0 0, .slice none 0 0] ∧ Below w.heap.size w wz) (fun _ _ => False) (()) (⟨hGT1.below (Below.refl _ _).drew, hGR1.below (Below.refl _ _).drew, HB1.out.trans (Below.refl _ _).drew⟩) ⟨?_, ?_, ?_, ?_, ?_, trivial⟩ ?_ ?_
  ·intro gz L wz K ρ hc0 hf0 hF hO hU hcl hi hd hC hK
   simp [go_sem, Flow.ylP_value, Flow.ylP_skip, Flow.ylP_enter, Flow.ylP_panic, hc0, hf0]
   exact hK gz wz hC (fun _ _ => rfl)
  ·intro gz L wz K ρ hc0 hf0 hF hO hU hcl hi hd hC hK
   have e6 : ρ (.tmp 6) = .pointer (some ⟨gt, 0, none⟩) := hO 6 (by kernel_rfl)
   simp [go_sem, Flow.ylP_value, Flow.ylP_skip, Flow.ylP_enter, Flow.ylP_panic, hc0, hf0, e6]
   exact hK gz wz hC (fun _ _ => rfl)
  ·intro gz L wz K ρ hc0 hf0 hF hO hU hcl hi hd hC hK
   have d1 : L 1 = true := hd ⟨1, .data⟩ (by simp) rfl
   have e21 : ρ (.tmp 21) = .pointer (some ⟨gt, 0, none⟩) := hF 21 1 (by kernel_rfl) d1
   have q0 := (hC.1 0 _ rfl).1
   simp [go_sem, Flow.ylP_value, Flow.ylP_skip, Flow.ylP_enter, Flow.ylP_panic, hc0, hf0, e21, q0]
   exact hK gz wz hC (fun _ _ => rfl)
  ·intro gz L wz K ρ hc0 hf0 hF hO hU hcl hi hd hC hK
   have e4 : ρ (.tmp 4) = .pointer (some ⟨gr, 0, none⟩) := hO 4 (by kernel_rfl)
   have d0 : L 0 = true := hd ⟨0, .data⟩ (by simp) rfl
   have e20 : ρ (.tmp 20) = .agg #[.slice none 0 0, .slice none 0 0, .slice none 0 0] := hF 20 0 (by kernel_rfl) d0
   have hk := hC.2.1
   have q0 := (hk 0 _ rfl).1
   have q1 := (hk 1 _ rfl).1
   have q2 := (hk 2 _ rfl).1
   have f0 := (hk 0 _ rfl).2
   have f1 := (hk 1 _ rfl).2
   have f2 := (hk 2 _ rfl).2
   simp [go_sem, Flow.ylP_value, Flow.ylP_skip, Flow.ylP_enter, Flow.ylP_panic, hc0, hf0, e4, e20, q0, q1, q2, f0, f1, f2]
   have hT : Turned (fun i => i = gr) wz (((wz.setCell ⟨gr, 0, none⟩ (.slice none 0 0)).setCell ⟨gr, 1, none⟩ (.slice none 0 0)).setCell ⟨gr, 2, none⟩ (.slice none 0 0)) := Turned.trans (S := fun i => i = gr) (.set _ _ _ rfl) (Turned.trans (S := fun i => i = gr) (.set _ _ _ rfl) (.set _ _ _ rfl))
   exact hK gz _ ⟨hC.1.turned hT (fun e => HGN.out e), ((hk.set 0 _ (by simp)).set 1 _ (by simp)).set 2 _ (by simp), ((hC.2.2.setCell (p := ⟨gr, 0, none⟩) HGE.out _).setCell (p := ⟨gr, 1, none⟩) HGE.out _).setCell (p := ⟨gr, 2, none⟩) HGE.out _⟩ (fun _ _ => rfl)
  ·intro gz L wz K ρ hc0 hf0 hF hO hU hcl hi hd hC hK
   have d2 : L 2 = true := hd ⟨2, .data⟩ (by simp) rfl
   have e22 : ρ (.tmp 22) = .int .i64 ve1 := hF 22 2 (by kernel_rfl) d2
   simp [go_sem, Flow.ylP_value, Flow.ylP_skip, Flow.ylP_enter, Flow.ylP_panic, hc0, hf0, e22]
   exact hK gz wz hC (fun _ _ => rfl)
  ·intro gz L ch wz h; exact h.elim
  ·intro gz L wz hL hC
   have HC3 := Lib.hid hC
   clear hC hL
   simp only [Flow.putAll, rs3V]
   try simp [Act.put]
   have hz := HC3.out.2.1
   have q0 := (hz 0 _ rfl).1
   have q1 := (hz 1 _ rfl).1
   have q2 := (hz 2 _ rfl).1
   go_wp2
   refine bodyPost_ret (v := .tuple #[.agg #[.slice none 0 0, .slice none 0 0, .slice none 0 0], .int .i64 ve1]) (by simp [results, Tryz.results20, go_sem, q0, q1, q2]) rfl ⟨noBat, by rw [HRe.out]; rfl, noBat_is _, by rw [HRe.out]; rfl, by rw [HRe.out]; rfl, by rw [HRe.out]; rfl, HC3.out.2.2⟩
end Go.Proofs.YtlpkpfpmcppciaaGreatDoor
end

section
namespace Go.Proofs.YtlpkpfpmcppciaaGreatDoor
set_option linter.unusedSimpArgs false
set_option linter.unusedVariables false
open Go.RowKit As
/-- The program's log at p tells Vp and S, the reference's at r tells Vr and L; the blocks of G are not theirs. -/
structure LB (w : World) (B p r : Nat) (rep : Int) (Vp : List Ent) (S : List Wr) (Vr : List Ent) (L : List Wr) (G : Nat → Prop) : Prop where
 ex : ∃ cp cr : LgC, cp.p = p ∧ cr.p = r ∧ LogAt w B cp rep Vp S ∧ LogAt w B cr rep Vr L ∧ Apart cp.foot cr.foot ∧ (∀ i, G i → ¬ cp.foot i ∧ ¬ cr.foot i ∧ i < w.heap.size) ∧ B ≤ w.heap.size
section
variable {w w' : World} {B p r : Nat} {rep : Int} {Vp Vr : List Ent} {S L : List Wr} {G : Nat → Prop}
theorem LB.below (h : LB w B p r rep Vp S Vr L G) (hb : Below w.heap.size w w') : LB w' B p r rep Vp S Vr L G := by
 obtain ⟨cp, cr, e1, e2, h1, h2, h3, h4, h5⟩ := h.ex
 exact ⟨cp, cr, e1, e2, h1.below hb, h2.below hb, h3, fun i hi => ⟨(h4 i hi).1, (h4 i hi).2.1, Nat.lt_of_lt_of_le (h4 i hi).2.2 hb.size⟩, Nat.le_trans h5 hb.size⟩
theorem LB.size (h : LB w B p r rep Vp S Vr L G) : B ≤ w.heap.size := by
 obtain ⟨cp, cr, e1, e2, h1, h2, h3, h4, h5⟩ := h.ex
 exact h5
theorem LB.less (h : LB w B p r rep Vp S Vr L G) {G' : Nat → Prop} (hg : ∀ i, G' i → G i) : LB w B p r rep Vp S Vr L G' := by
 obtain ⟨cp, cr, e1, e2, h1, h2, h3, h4, h5⟩ := h.ex
 exact ⟨cp, cr, e1, e2, h1, h2, h3, fun i hi => h4 i (hg i hi), h5⟩
theorem LB.guest (h : LB w B p r rep Vp S Vr L G) (hb : Below w.heap.size w w') {g : Nat} (g1 : w.heap.size ≤ g) (g2 : g < w'.heap.size) : LB w' B p r rep Vp S Vr L (fun i => G i ∨ i = g) := by
 obtain ⟨cp, cr, e1, e2, h1, h2, h3, h4, h5⟩ := (h.below hb).ex
 obtain ⟨dp, dr, d1, d2, k1, k2, k3, k4, k5⟩ := h.ex
 refine ⟨dp, dr, d1, d2, k1.below hb, k2.below hb, k3, fun i hi => ?_, h5⟩
 rcases hi with hi | rfl
 ·exact ⟨(k4 i hi).1, (k4 i hi).2.1, Nat.lt_of_lt_of_le (k4 i hi).2.2 hb.size⟩
 ·exact ⟨fun e => by have := (k1.within i e).2; omega, fun e => by have := (k2.within i e).2; omega, g2⟩
theorem LB.pmove {cp cp' cr : LgC} {Vp' : List Ent} {S' : List Wr} (e1 : cp.p = p) (e2 : cr.p = r) (h1 : LogAt w B cp rep Vp S) (h2 : LogAt w B cr rep Vr L) (h3 : Apart cp.foot cr.foot) (h4 : ∀ i, G i → ¬ cp.foot i ∧ ¬ cr.foot i ∧ i < w.heap.size) (h5 : B ≤ w.heap.size) (e3 : cp'.p = cp.p) (hl : LogAt w' B cp' rep Vp' S') (hm : Moves cp.foot cp'.foot w w') :
  LB w' B p r rep Vp' S' Vr L G ∧ Below B w w' ∧ Turned (fun i => ¬ G i) w w' := by
 refine ⟨⟨cp', cr, e3.trans e1, e2, hl, h2.turned hm.t (fun i hi hf => h3 i hf hi), h3.moved hm (fun i hi => (h2.within i hi).2), fun i hi => ⟨fun q => ?_, (h4 i hi).2.1, Nat.lt_of_lt_of_le (h4 i hi).2.2 hm.size⟩, Nat.le_trans h5 hm.size⟩, hm.below h1.within h5, hm.t.mono fun i hf hg => (h4 i hg).1 hf⟩
 rcases hm.g i q with u | u
 ·exact (h4 i hi).1 u
 ·have := (h4 i hi).2.2; omega
theorem LB.rmove {cp cr cr' : LgC} {Vr' : List Ent} {L' : List Wr} (e1 : cp.p = p) (e2 : cr.p = r) (h1 : LogAt w B cp rep Vp S) (h2 : LogAt w B cr rep Vr L) (h3 : Apart cp.foot cr.foot) (h4 : ∀ i, G i → ¬ cp.foot i ∧ ¬ cr.foot i ∧ i < w.heap.size) (h5 : B ≤ w.heap.size) (e3 : cr'.p = cr.p) (hl : LogAt w' B cr' rep Vr' L') (hm : Moves cr.foot cr'.foot w w') :
  LB w' B p r rep Vp S Vr' L' G ∧ Below B w w' ∧ Turned (fun i => ¬ G i) w w' := by
 refine ⟨⟨cp, cr', e1, e3.trans e2, h1.turned hm.t (fun i hi hf => h3 i hi hf), hl, (h3.symm.moved hm (fun i hi => (h1.within i hi).2)).symm, fun i hi => ⟨(h4 i hi).1, fun q => ?_, Nat.lt_of_lt_of_le (h4 i hi).2.2 hm.size⟩, Nat.le_trans h5 hm.size⟩, hm.below h2.within h5, hm.t.mono fun i hf hg => (h4 i hg).2.1 hf⟩
 rcases hm.g i q with u | u
 ·exact (h4 i hi).2.1 u
 ·have := (h4 i hi).2.2; omega
end
section
variable {w : World} {B p r : Nat} {rep : Int} {Vp Vr : List Ent} {S L : List Wr} {G : Nat → Prop}
theorem lb_plocal (h : LB w B p r rep Vp S Vr L G) (hV : (vright Vp).1 = 0) (hr : 0 ≤ rep ∧ rep ≤ 200) (hS : S.length ≤ 300) (x : Wr) (hg : Handle w) :
  Calls Tryz.prog 17 #[.pointer (some ⟨p, 0, none⟩), wrV x.1 x.2.1 x.2.2.1 x.2.2.2.1 x.2.2.2.2.1 x.2.2.2.2.2] w fun e w' => e = .returned (.tuple #[.agg #[.int .i64 (lloc rep Vp S x).2.1.1, .int .i64 (lloc rep Vp S x).2.1.2], errV (lloc rep Vp S x).2.2]) ∧ LB w' B p r rep (lloc rep Vp S x).1.1 (lloc rep Vp S x).1.2 Vr L G ∧ Below B w w' ∧ Turned (fun i => ¬ G i) w w' := by
 obtain ⟨cp, cr, rfl, e2, h1, h2, h3, h4, h5⟩ := h.ex
 refine (plocal_any h1 hV hr hS x hg).mono ?_
 rintro e w' ⟨c', e3, rfl, hl, hm⟩
 exact ⟨rfl, LB.pmove rfl e2 h1 h2 h3 h4 h5 e3 hl hm⟩
theorem lb_rlocal (h : LB w B p r rep Vp S Vr L G) (hV : (vright Vr).1 = 0) (hr : 0 ≤ rep ∧ rep ≤ 200) (hL : L.length ≤ 300) (x : Wr) (hg : Handle w) :
  Calls Tryz.prog 16 #[.pointer (some ⟨r, 0, none⟩), wrV x.1 x.2.1 x.2.2.1 x.2.2.2.1 x.2.2.2.2.1 x.2.2.2.2.2] w fun e w' => e = .returned (.tuple #[.agg #[.int .i64 (lloc rep Vr L x).2.1.1, .int .i64 (lloc rep Vr L x).2.1.2], .int .i64 (lloc rep Vr L x).2.2]) ∧ LB w' B p r rep Vp S (lloc rep Vr L x).1.1 (lloc rep Vr L x).1.2 G ∧ Below B w w' ∧ Turned (fun i => ¬ G i) w w' := by
 obtain ⟨cp, cr, e1, rfl, h1, h2, h3, h4, h5⟩ := h.ex
 refine (rlocal_any h2 hV hr hL x hg).mono ?_
 rintro e w' ⟨c', e3, rfl, hl, hm⟩
 exact ⟨rfl, LB.rmove e1 rfl h1 h2 h3 h4 h5 e3 hl hm⟩
/-- What Accept leaves on the program's side. -/
structure PAcc (w : World) (B p r : Nat) (rep : Int) (R : Lg × Nat × Int × Int) (Vr : List Ent) (L : List Wr) (G : Nat → Prop) (v : Value) (w' : World) : Prop where
 ex : ∃ S', LB w' B p r rep R.1.1 S' Vr L G ∧ SortOf R.1.2 S'
 er : ErrIs w' v R.2.2.1 R.2.2.2
 b : Below B w w'
 t : Turned (fun i => ¬ G i) w w'
theorem lb_paccept {L0 : List Wr} (h : LB w B p r rep Vp S Vr L G) (hs : SortOf L0 S) (hF : LFit Vp L0) (x : BatArg) (hb : Bat w x) (hf : BatFits x) (hroom : x.n' ≤ x.c') (hg : Handle w) :
  Calls Tryz.prog 19 #[.pointer (some ⟨p, 0, none⟩), x.v] w fun e w' => ∃ v, e = .returned (.tuple #[.int .i64 ((lacc Vp L0 x.f x.h x.l).2.1 : Int), v]) ∧ PAcc w B p r rep (lacc Vp L0 x.f x.h x.l) Vr L G v w' := by
 obtain ⟨cp, cr, rfl, e2, h1, h2, h3, h4, h5⟩ := h.ex
 refine (paccept_any h1 hs hF x hb hf.f hf.h hroom hg).mono ?_
 rintro e w' ⟨c', v, S', e3, rfl, he, hs', hl, hm⟩
 obtain ⟨q1, q2, q3⟩ := LB.pmove rfl e2 h1 h2 h3 h4 h5 e3 hl hm
 exact ⟨v, rfl, ⟨S', q1, hs'⟩, he, q2, q3⟩
theorem lb_raccept (h : LB w B p r rep Vp S Vr L G) (hF : LFit Vr L) (x : BatArg) (hb : Bat w x) (hf : BatFits x) :
  Calls Tryz.prog 18 #[.pointer (some ⟨r, 0, none⟩), x.v] w fun e w' => e = .returned (.tuple #[.int .i64 ((lacc Vr L x.f x.h x.l).2.1 : Int), .agg #[.int .i64 (lacc Vr L x.f x.h x.l).2.2.1, .int .i64 (lacc Vr L x.f x.h x.l).2.2.2]]) ∧ LB w' B p r rep Vp S (lacc Vr L x.f x.h x.l).1.1 (lacc Vr L x.f x.h x.l).1.2 G ∧ Below B w w' ∧ Turned (fun i => ¬ G i) w w' := by
 obtain ⟨cp, cr, e1, rfl, h1, h2, h3, h4, h5⟩ := h.ex
 refine (raccept_any h2 hF x hb hf.f hf.h).mono ?_
 rintro e w' ⟨c', e3, rfl, hl, hm⟩
 exact ⟨rfl, LB.rmove e1 rfl h1 h2 h3 h4 h5 e3 hl hm⟩
theorem lb_psince {L0 : List Wr} (h : LB w B p r rep Vp S Vr L G) (hs : SortOf L0 S) (hF : LFit Vp L0) (A : Option Addr) (n c_ : Nat) (f : List Ent) (hf : Ents w w.heap.size A n f) (hn : n ≤ maxLen) (hg : Handle w) :
  Calls Tryz.prog 21 #[.pointer (some ⟨p, 0, none⟩), .slice A n c_] w (SincP w (lsince Vp S f) errV) := by
 obtain ⟨cp, cr, rfl, e2, h1, h2, h3, h4, h5⟩ := h.ex
 exact psince_any h1 hF.vr (fun x hx => hF.wr x (hs.perm.mem_iff.1 hx)) (fun x hx => hF.cov x (hs.perm.mem_iff.1 hx)) (by rw [hs.len]; exact hF.len) A n c_ f hf hn hg
theorem lb_rsince (h : LB w B p r rep Vp S Vr L G) (hs : SortOf L S) (hF : LFit Vr L) (A : Option Addr) (n c_ : Nat) (f : List Ent) (hf : Ents w w.heap.size A n f) (hn : n ≤ maxLen) :
  Calls Tryz.prog 20 #[.pointer (some ⟨r, 0, none⟩), .slice A n c_] w (SincP w (lsince Vr S f) (fun e => .int .i64 e)) := by
 obtain ⟨cp, cr, e1, rfl, h1, h2, h3, h4, h5⟩ := h.ex
 exact rsince_any h2 hs hF.vr hF.len A n c_ f hf hn
theorem lb_phave (h : LB w B p r rep Vp S Vr L G) (hV : Vp.length ≤ 1000000) :
  Calls Tryz.prog 24 #[.pointer (some ⟨p, 0, none⟩)] w fun e w' => ∃ v', e = .returned v' ∧ w'.ownsRow w.heap.size 73 2 v' Vp.length (entV Vp) ∧ Below w.heap.size w w' := by
 obtain ⟨cp, cr, rfl, e2, h1, h2, h3, h4, h5⟩ := h.ex
 exact phave_any h1 hV
theorem LB.rhave (h : LB w B p r rep Vp S Vr L G) : ∃ A c, w.cell? ⟨r, 1, none⟩ = some (.slice A Vr.length c) ∧ w.ownsRow B 73 2 (.slice A Vr.length c) Vr.length (entV Vr) := by
 obtain ⟨cp, cr, e1, rfl, h1, h2, h3, h4, h5⟩ := h.ex
 obtain ⟨A, c, e⟩ := own_form h2.h
 have k := (h2.rc 1 _ rfl).1
 have ho := h2.h
 rw [e] at k ho
 exact ⟨A, c, k, ho⟩
theorem lb_pwrites (h : LB w B p r rep Vp S Vr L G) (hS : S.length ≤ 1000000) :
  Calls Tryz.prog 26 #[.pointer (some ⟨p, 0, none⟩)] w fun e w' => ∃ v', e = .returned v' ∧ w'.ownsRow w.heap.size 32 6 v' S.length (S.flatMap wrCells) ∧ Below w.heap.size w w' := by
 obtain ⟨cp, cr, rfl, e2, h1, h2, h3, h4, h5⟩ := h.ex
 exact pwrites_any h1 hS
theorem lb_rwrites (h : LB w B p r rep Vp S Vr L G) (hs : SortOf L S) (hL : L.length ≤ 1000) :
  Calls Tryz.prog 27 #[.pointer (some ⟨r, 0, none⟩)] w fun e w' => ∃ v', e = .returned v' ∧ w'.ownsRow w.heap.size 32 6 v' S.length (S.flatMap wrCells) ∧ Below w.heap.size w w' := by
 obtain ⟨cp, cr, e1, rfl, h1, h2, h3, h4, h5⟩ := h.ex
 refine (rwrites_any h2.rc h2.l hL).mono ?_
 rintro e w' ⟨v, M, rfl, hp, hm, ho, hb⟩
 obtain rfl := hs.one hp hm
 exact ⟨v, rfl, ho, hb⟩
theorem lb_pcells (h : LB w B p r rep Vp S Vr L G) (hS : S.length ≤ 1000000) (hr : ∀ x ∈ S, wright x = 0) (hg : Handle w) :
  Calls Tryz.prog 28 #[.pointer (some ⟨p, 0, none⟩)] w fun e w' => ∃ v' o, e = .returned v' ∧ OutR w' w.heap.size v' o ∧ IsOut S o ∧ Below w.heap.size w w' := by
 obtain ⟨cp, cr, rfl, e2, h1, h2, h3, h4, h5⟩ := h.ex
 exact pcells_any h1 hS hr hg
end
/-- What Local leaves of the sorted writes is what it leaves, sorted. -/
theorem lloc_pair {rep : Int} {V : List Ent} {L S : List Wr} (hs : SortOf L S) (hF : LFit V L) (x : Wr) :
  (lloc rep V S x).2 = (lloc rep V L x).2 ∧ (lloc rep V S x).1.1 = (lloc rep V L x).1.1 ∧ LFit (lloc rep V L x).1.1 (lloc rep V L x).1.2 ∧ SortOf (lloc rep V L x).1.2 (lloc rep V S x).1.2 := by
 unfold lloc
 rw [hs.len]
 by_cases h0 : 1099511627776 ≤ lastT V
 ·rw [if_pos h0, if_pos h0]; exact ⟨rfl, rfl, hF, hs⟩
 rw [if_neg h0, if_neg h0]
 by_cases h1 : wright (ownW rep (lastT V + 1) x) ≠ 0
 ·rw [if_pos h1, if_pos h1]; exact ⟨rfl, rfl, hF, hs⟩
 rw [if_neg h1, if_neg h1]
 by_cases h2 : 300 ≤ L.length
 ·rw [if_pos h2, if_pos h2]; exact ⟨rfl, rfl, hF, hs⟩
 rw [if_neg h2, if_neg h2]
 by_cases h3 : (vjoin V [(rep, lastT V + 1)]).2 ≠ 0
 ·rw [if_pos h3, if_pos h3]; exact ⟨rfl, rfl, hF, hs⟩
 rw [if_neg h3, if_neg h3]
 obtain ⟨q1, q2⟩ := hF.loc1 (x := x) hs h0 (by simpa using h1) h2 (by simpa using h3)
 exact ⟨rfl, rfl, q1, q2⟩
theorem lacc_fit {V : List Ent} {L : List Wr} {f h : List Ent} {l : List Wr} (hF : LFit V L) : LFit (lacc V L f h l).1.1 (lacc V L f h l).1.2 := by
 unfold lacc
 by_cases h0 : (bright f h l).1 ≠ 0
 ·rw [if_pos h0]; exact hF
 rw [if_neg h0]
 by_cases h1 : vcovers V f = false
 ·rw [if_pos h1]; exact hF
 rw [if_neg h1]
 by_cases h2 : (vjoin V h).2 ≠ 0
 ·rw [if_pos h2]; exact hF
 rw [if_neg h2]
 cases clashAt L l 0 with
 | some k => exact hF
 | none =>
  simp only
  by_cases h3 : 300 < L.length + (fresh L l).length
  ·rw [if_pos h3]; exact hF
  ·rw [if_neg h3]; exact hF.accept (by simpa using h0) (by simpa using h2) h3
end Go.Proofs.YtlpkpfpmcppciaaGreatDoor
end
