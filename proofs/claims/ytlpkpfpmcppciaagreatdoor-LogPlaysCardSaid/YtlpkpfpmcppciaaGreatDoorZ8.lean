/- Local of a log: what it leaves and answers. Printed by gen_logl.py out of logl.src. -/
import Derived.Test.YtlpkpfpmcppciaaGreatDoorZ6
import Derived.Test.YtlpkpfpmcppciaaGreatDoorZ5
import Derived.Test.YtlpkpfpmcppciaaGreatDoorZ7
section
namespace Go.Proofs.YtlpkpfpmcppciaaGreatDoor
set_option linter.unusedSimpArgs false
set_option linter.unusedVariables false
open Go.RowKit As
def llV (p ch cl : Nat) (AH : Option Addr) (t rep : Int) (V : List Ent) (gz : Nat × Value) : Nat → Value
 | 0 => .pointer (some ⟨p, 0, none⟩)
 | 1 => .pointer (some ⟨p, 0, none⟩)
 | 2 => .pointer (some ⟨p, 1, none⟩)
 | 3 => .slice AH V.length ch
 | 4 => .pointer (some ⟨p, 0, none⟩)
 | 5 => .pointer (some ⟨p, 0, none⟩)
 | 6 => .pointer (some ⟨p, 0, none⟩)
 | 7 => .int .i64 rep
 | 8 => .int .i64 t
 | 9 => .int .i64 (t + 1)
 | 10 => .agg #[.int .i64 rep, .int .i64 (t + 1)]
 | 11 => .slice (some ⟨gz.1, 0, none⟩) 1 1
 | 12 => .tuple #[gz.2, errV (vjoin V [(rep, t + 1)]).2]
 | 13 => .tuple #[gz.2, errV (vjoin V [(rep, t + 1)]).2]
 | 14 => gz.2
 | 15 => errV (vjoin V [(rep, t + 1)]).2
 | 16 => gz.2
 | 17 => errV (vjoin V [(rep, t + 1)]).2
 | _ => undef
def llW (p gx cl : Nat) (AL : Option Addr) (t rep a3 a6 : Int) (a4 a5 : ByteArray) (L_ : List Wr) (gz : Nat × Option Addr × Nat) : Nat → Value
 | 0 => .pointer (some ⟨p, 0, none⟩)
 | 1 => .pointer (some ⟨p, 0, none⟩)
 | 2 => .pointer (some ⟨p, 0, none⟩)
 | 3 => .pointer (some ⟨p, 2, none⟩)
 | 4 => .slice AL L_.length cl
 | 5 => .agg #[.int .i64 (t + 1), .int .i64 rep, .int .i64 a3, .string a4, .string a5, .int .i64 a6]
 | 6 => .slice (some ⟨gz.1, 0, none⟩) 1 1
 | 7 => .slice gz.2.1 (L_.length + 1) gz.2.2
 | 8 => .pointer (some ⟨p, 0, none⟩)
 | 9 => .pointer (some ⟨p, 2, none⟩)
 | _ => undef
theorem w_t {t : Int} (h0 : 0 ≤ t) (h : t < 1099511627776) : IntKind.i64.wrap (t + 1) = t + 1 ∧ wrap64 (t + 1) = t + 1 := ⟨IntWalk.i64_in _ (by omega), IntWalk.wrap64_in _ (by omega)⟩
set_option maxHeartbeats 4000000 in
set_option maxRecDepth 100000 in
theorem plocal_any {w : World} {B : Nat} {c : LgC} {rep : Int} {V : List Ent} {L_ : List Wr} (h : LogAt w B c rep V L_) (hV : (vright V).1 = 0) (hr : 0 ≤ rep ∧ rep ≤ 200) (hL : L_.length ≤ 300) (x : Wr) (hg : Handle w) :
  Calls Tryz.prog 17 #[.pointer (some ⟨c.p, 0, none⟩), wrV x.1 x.2.1 x.2.2.1 x.2.2.2.1 x.2.2.2.2.1 x.2.2.2.2.2] w fun e w' => ∃ c' : LgC, c'.p = c.p ∧ e = .returned (.tuple #[.agg #[.int .i64 (lloc rep V L_ x).2.1.1, .int .i64 (lloc rep V L_ x).2.1.2], errV (lloc rep V L_ x).2.2]) ∧ LogAt w' B c' rep (lloc rep V L_ x).1.1 (lloc rep V L_ x).1.2 ∧ Moves c.foot c'.foot w w' := by
 obtain ⟨p, hv, lv⟩ := c
 obtain ⟨a1, a2, a3, a4, a5, a6⟩ := x
 obtain ⟨AH, ch, e1, hch⟩ := own_form' h.h
 obtain ⟨AL, cl, e2, hcl⟩ := own_form' h.l
 simp only at e1 e2
 subst e1 e2
 obtain ⟨R, hR⟩ : ∃ R, lloc rep V L_ (a1, a2, a3, a4, a5, a6) = R := ⟨_, rfl⟩
 have HR := Lib.hid hR
 rw [hR]
 clear hR
 have b0 := below2 w (.cells #[.int .i64 a1, .int .i64 a2, .int .i64 a3, .string a4, .string a5, .int .i64 a6] 32) (.cells #[.int .i64 0, .int .i64 0] 30)
 have h0 := h.below b0
 have hGX : RC ((w.alloc (.cells #[.int .i64 a1, .int .i64 a2, .int .i64 a3, .string a4, .string a5, .int .i64 a6] 32)).alloc (.cells #[.int .i64 0, .int .i64 0] 30)) w.heap.size (wrCells (a1, a2, a3, a4, a5, a6)) := (RC.new w (wrCells (a1, a2, a3, a4, a5, a6)) 32).below (below1 _ (.cells #[.int .i64 0, .int .i64 0] 30))
 have hGR : RC ((w.alloc (.cells #[.int .i64 a1, .int .i64 a2, .int .i64 a3, .string a4, .string a5, .int .i64 a6] 32)).alloc (.cells #[.int .i64 0, .int .i64 0] 30)) (w.alloc (.cells #[.int .i64 a1, .int .i64 a2, .int .i64 a3, .string a4, .string a5, .int .i64 a6] 32)).heap.size [.int .i64 0, .int .i64 0] := RC.new (w.alloc (.cells #[.int .i64 a1, .int .i64 a2, .int .i64 a3, .string a4, .string a5, .int .i64 a6] 32)) [.int .i64 0, .int .i64 0] 30
 rw [show (w.alloc (.cells #[.int .i64 a1, .int .i64 a2, .int .i64 a3, .string a4, .string a5, .int .i64 a6] 32)).heap.size = w.heap.size + 1 by simp] at hGR
 have HW := Lib.hid (And.intro h.within (And.intro h.hl (And.intro h.nh h.nl)))
 have HM := Lib.hid (own_cap' h.h)
 have HCH := Lib.hid hch
 have HYR := Lib.hid hV
 have HN : Hid (L_.length ≤ 1000000) := Lib.hid (by omega)
 have HRP := Lib.hid hr
 have HL3 := Lib.hid hL
 have HG := Lib.hid hg
 have HLT := Lib.hid (lastT_right hV)
 have HLN := Lib.hid (lastT_nonneg V)
 unfold wrV
 simp only
 clear h hV hr hL hg hch hcl
 go_enter Tryz.func17, Tryz.ntmps17
 go_upto_region 1 with fail
 obtain ⟨gr, hgr⟩ : ∃ g, g = w.heap.size + 1 := ⟨_, rfl⟩
 obtain ⟨gx, hgx⟩ : ∃ g, g = w.heap.size := ⟨_, rfl⟩
 rw [← hgr] at hGR
 rw [← hgx] at hGX
 have HGE : Hid (w.heap.size ≤ gx ∧ w.heap.size ≤ gr ∧ gx ≠ gr) := Lib.hid (by omega)
 try simp only [World.alloc_size]
 rw [← hgr, ← hgx]
 clear hgr hgx
 generalize (w.alloc (.cells #[.int .i64 a1, .int .i64 a2, .int .i64 a3, .string a4, .string a5, .int .i64 a6] 32)).alloc (.cells #[.int .i64 0, .int .i64 0] 30) = W at *
 have hEH := ents_own h0.h HYR.out
 have k1 : W.cell? ⟨p, 1, none⟩ = some (.slice AH V.length ch) := (h0.rc 1 _ rfl).1
 have H0 := Lib.hid h0
 have HB0 := Lib.hid b0
 have HGX := Lib.hid hGX
 have HGR := Lib.hid hGR
 clear h0 b0 hGX hGR
 go_wp2
 clear k1
 go_loopw [6, 8, 17] (fun v6 _ v17 wr => ∃ k : Nat, k ≤ V.length ∧ v17 = .int .i64 (k : Int) ∧ v6 = .int .i64 (lastT (V.take k)) ∧ Below W.heap.size W wr) (fun _ _ i _ => V.length - (intOf i).toNat)
 case atStart => exact ⟨0, Nat.zero_le _, rfl, rfl, Below.refl _ _⟩
 case round =>
  obtain ⟨k, hk, rfl, rfl, hb⟩ := hrel
  by_cases hlt : k < V.length
  ·obtain ⟨b, o, r, t', rfl, hbl, hx, hf, hc0, hc1⟩ := hEH.at_ hlt
   have c0 := (hb.cell (p := ⟨b, o + k * 2, none⟩) (by simp; omega)).trans hc0
   have c1 := (hb.cell (p := ⟨b, o + k * 2 + 1, none⟩) (by simp; omega)).trans hc1
   have HLS : Hid (max (lastT (V.take k)) t' = lastT (V.take (k + 1))) := Lib.hid (by rw [lastT_take hx])
   have hbs := hb.size
   have W1 := Lib.hid (w_one (a := k) (by have := vright_ok_len HYR.out; omega))
   have HM1 : Hid (V.length - (k + 1) < V.length - k) := Lib.hid (by omega)
   have HK1 : Hid (k + 1 ≤ V.length) := Lib.hid hlt
   clear hc0 hc1 hx hf hbl hlt hk hEH
   obtain ⟨t0, ht0⟩ : ∃ t0, t0 = lastT (V.take k) := ⟨_, rfl⟩
   rw [← ht0] at HLS ⊢
   clear ht0
   obtain ⟨g1, g2⟩ := W1.out
   go_wp2
   go_roundw
   case rel => exact ⟨k + 1, HK1.out, by go_num, by rw [← HLS.out], hb.alloc hbs _⟩
   case measure => simpa [intOf] using HM1.out
  ·obtain rfl : k = V.length := by omega
   have htk : V.take V.length = V := List.take_length
   rw [htk]
   have h1 := H0.out.below hb
   have hGX1 := HGX.out.below hb
   have hGR1 := HGR.out.below hb
   have HB1 := Lib.hid (HB0.out.trans (hb.mono HB0.out.size))
   clear hb hk hlt htk hEH H0 HGX HGR HB0
   obtain ⟨t, ht⟩ : ∃ t, t = lastT V := ⟨_, rfl⟩
   rw [← ht] at HLT HLN ⊢
   have HT := Lib.hid ht
   clear ht
   have z0 := (hGR1 0 _ rfl).1
   have z1 := (hGR1 1 _ rfl).1
   have f0 := (hGR1 0 _ rfl).2
   have f1 := (hGR1 1 _ rfl).2
   by_cases hT : 1099511627776 ≤ t
   ·have hTe : t = 1099511627776 := by have := HLT.out; omega
    have HRe : Hid (R = ((V, L_), (0, 0), 4)) := Lib.hid (by rw [← HR.out]; unfold lloc; rw [← HT.out, if_pos hT])
    have HF := Lib.hid (And.intro h1 hGR1)
    subst hTe
    clear hT h1 hGX1 hGR1 HLT
    go_wp2
    have hz := HF.out.2.two (.int .i64 0) (.int .i64 0)
    have q0 := (hz 0 _ rfl).1
    have q1 := (hz 1 _ rfl).1
    have hla := HF.out.1.two (g := gr) (fun i hi => by have := (HW.out.1 i hi).2; have := HGE.out.2.1; omega) (.int .i64 0) (.int .i64 0)
    have hbf := below_set2 (.int .i64 0) (.int .i64 0) HB1.out HGE.out.2.1
    refine bodyPost_ret (v := .tuple #[.agg #[.int .i64 0, .int .i64 0], errV 4]) (by simp [results, Tryz.results17, go_sem, q0, q1, errV]) rfl ⟨⟨p, .slice AH V.length ch, .slice AL L_.length cl⟩, rfl, by rw [HRe.out], by rw [HRe.out]; exact hla, .of_below hbf⟩
   ·have tE : (t == 1099511627776) = false := beq_eq_false_iff_ne.2 (by omega)
    have tG : decide (1099511627776 ≤ t) = false := decide_eq_false hT
    have HTT := Lib.hid hT
    have x0 := (hGX1 0 _ rfl).1
    have x1 := (hGX1 1 _ rfl).1
    have y0 := (hGX1 0 _ rfl).2
    have y1 := (hGX1 1 _ rfl).2
    have p0 := (h1.rc 0 _ rfl).1
    have WT := Lib.hid (w_t (t := t) HLN.out (by omega))
    have HGX1 := Lib.hid hGX1
    have HGR1 := Lib.hid hGR1
    have H1 := Lib.hid h1
    clear hT h1 hGX1 hGR1 z0 z1 f0 f1
    obtain ⟨hw1, hw2⟩ := WT.out
    go_upto_region 10 with fail
    have hGX2 : RC ((wr.setCell ⟨gx, 0, none⟩ (.int .i64 (t + 1))).setCell ⟨gx, 1, none⟩ (.int .i64 rep)) gx (wrCells (t + 1, rep, a3, a4, a5, a6)) := HGX1.out.two6 _ _
    have hGR2 := HGR1.out.setAt2 (fun e => HGE.out.2.2 e.symm) (.int .i64 (t + 1)) (.int .i64 rep)
    have h2 := H1.out.two (g := gx) (fun i hi => by have := (HW.out.1 i hi).2; have := HGE.out.1; omega) (.int .i64 (t + 1)) (.int .i64 rep)
    have hB2 := below_set2 (.int .i64 (t + 1)) (.int .i64 rep) HB1.out HGE.out.1
    clear x0 x1 y0 y1 p0 tE tG hw1 hw2
    generalize (wr.setCell ⟨gx, 0, none⟩ (.int .i64 (t + 1))).setCell ⟨gx, 1, none⟩ (.int .i64 rep) = W2 at *
    have x0 := (hGX2 0 _ rfl).1
    have x1 := (hGX2 1 _ rfl).1
    have x2 := (hGX2 2 _ rfl).1
    have x3 := (hGX2 3 _ rfl).1
    have x4 := (hGX2 4 _ rfl).1
    have x5 := (hGX2 5 _ rfl).1
    obtain ⟨ee, hee⟩ : ∃ ee, wright (t + 1, rep, a3, a4, a5, a6) = ee := ⟨_, rfl⟩
    have HEE := Lib.hid hee
    have hwr := wright_any (t + 1, rep, a3, a4, a5, a6) W2
    rw [hee] at hwr
    simp only at hwr
    unfold wrV at hwr
    have HGX2 := Lib.hid hGX2
    have HGR2 := Lib.hid hGR2
    have H2 := Lib.hid h2
    have HB2 := Lib.hid hB2
    clear hee hGX2 hGR2 h2 hB2 HGX1 HGR1 H1 HB1
    by_cases hE0 : ee = 0
    ·subst hE0
     rw [errV_zero] at hwr
     go_upto_region 11 with (first | (go_at_call 34; refine hwr.mono ?_; rintro e w5 ⟨rfl, hb5⟩))
     have h5 := H2.out.below hb5
     have hGX5 := HGX2.out.below hb5
     have hGR5 := HGR2.out.below hb5
     have HB5 := Lib.hid (HB2.out.trans (hb5.mono HB2.out.size))
     clear x0 x1 x2 x3 x4 x5 hwr hb5 H2 HGX2 HGR2 HB2
     have k0 := (h5.rc 0 _ rfl).1
     have k1 := (h5.rc 1 _ rfl).1
     have k2 := (h5.rc 2 _ rfl).1
     have z0 := (hGR5 0 _ rfl).1
     have z1 := (hGR5 1 _ rfl).1
     have f0 := (hGR5 0 _ rfl).2
     have f1 := (hGR5 1 _ rfl).2
     have HF := Lib.hid (And.intro h5 hGR5)
     have HGX5 := Lib.hid hGX5
     clear h5 hGX5 hGR5
     by_cases hfull : 300 ≤ L_.length
     ·have d3 : decide ((300 : Int) ≤ (L_.length : Int)) = true := decide_eq_true (by omega)
      have HRe : Hid (R = ((V, L_), (0, 0), 12)) := Lib.hid (by rw [← HR.out]; unfold lloc; rw [← HT.out, if_neg (show ¬ 1099511627776 ≤ t by have := HTT.out; omega)]; unfold ownW; rw [if_neg (fun q => q HEE.out), if_pos hfull])
      clear hfull k0 k1
      go_wp2
      have hz := HF.out.2.two (.int .i64 0) (.int .i64 0)
      have q0 := (hz 0 _ rfl).1
      have q1 := (hz 1 _ rfl).1
      have hla := HF.out.1.two (g := gr) (fun i hi => by have := (HW.out.1 i hi).2; have := HGE.out.2.1; omega) (.int .i64 0) (.int .i64 0)
      have hbf := below_set2 (.int .i64 0) (.int .i64 0) HB5.out HGE.out.2.1
      refine bodyPost_ret (v := .tuple #[.agg #[.int .i64 0, .int .i64 0], errV 12]) (by simp [results, Tryz.results17, go_sem, q0, q1, errV]) rfl ⟨⟨p, .slice AH V.length ch, .slice AL L_.length cl⟩, rfl, by rw [HRe.out], by rw [HRe.out]; exact hla, .of_below hbf⟩
     ·have d3 : decide ((300 : Int) ≤ (L_.length : Int)) = false := decide_eq_false (by omega)
      have HFU := Lib.hid hfull
      have HG5 := Lib.hid (HG.out.below HB5.out)
      have HO5 := Lib.hid HF.out.1.h
      have HEF : Hid (entFits (rep, t + 1)) := Lib.hid (by have := HRP.out; have := HLN.out; have := HTT.out; unfold entFits; simp only; omega)
      clear hfull
      go_upto_region 15 with fail
      clear d3 k2 z0 z1 f0 f1
      obtain ⟨hw1, hw2⟩ := WT.out
      refine Flow.wp_region_go (by kernel_rfl) (by kernel_rfl) (by kernel_rfl) 88 rfl (by kernel_rfl) (llV p ch cl AH t rep V) (fun gz L wz => Below w5.heap.size w5 wz ∧ (L 11 = true → wz.cell? ⟨gz.1, 0, none⟩ = some (.int .i64 rep) ∧ wz.cell? ⟨gz.1, 1, none⟩ = some (.int .i64 (t + 1))) ∧ (L 12 = true → wz.ownsRow w5.heap.size 73 2 gz.2 (vjoin V [(rep, t + 1)]).1.length (entV (vjoin V [(rep, t + 1)]).1))) (fun _ _ => False) ((0, .slice none 0 0)) (⟨(Below.refl _ _).drew, (fun q => by cases q), (fun q => by cases q)⟩) ⟨?_, ?_, ?_, ?_, ?_, ?_, ?_, ?_, ?_, ?_, ?_, ?_, ?_, ?_, ?_, ?_, ?_, ?_, trivial⟩ ?_ ?_
      ·intro gz L wz K ρ hc0 hf0 hF hO hU hcl hi hd hC hK
       have e0 : ρ (.tmp 0) = .pointer (some ⟨p, 0, none⟩) := hO 0 (by kernel_rfl)
       simp [go_sem, Flow.ylP_value, Flow.ylP_skip, Flow.ylP_enter, Flow.ylP_panic, hc0, hf0, e0]
       exact hK gz wz hC (fun _ _ => rfl)
      ·intro gz L wz K ρ hc0 hf0 hF hO hU hcl hi hd hC hK
       have d0 : L 0 = true := hd ⟨0, .data⟩ (by simp) rfl
       have e53 : ρ (.tmp 53) = .pointer (some ⟨p, 0, none⟩) := hF 53 0 (by kernel_rfl) d0
       simp [go_sem, Flow.ylP_value, Flow.ylP_skip, Flow.ylP_enter, Flow.ylP_panic, hc0, hf0, e53]
       exact hK gz wz hC (fun _ _ => rfl)
      ·intro gz L wz K ρ hc0 hf0 hF hO hU hcl hi hd hC hK
       have d1 : L 1 = true := hd ⟨1, .data⟩ (by simp) rfl
       have e54 : ρ (.tmp 54) = .pointer (some ⟨p, 0, none⟩) := hF 54 1 (by kernel_rfl) d1
       simp [go_sem, Flow.ylP_value, Flow.ylP_skip, Flow.ylP_enter, Flow.ylP_panic, hc0, hf0, e54]
       exact hK gz wz hC (fun _ _ => rfl)
      ·intro gz L wz K ρ hc0 hf0 hF hO hU hcl hi hd hC hK
       have d2 : L 2 = true := hd ⟨2, .data⟩ (by simp) rfl
       have e55 : ρ (.tmp 55) = .pointer (some ⟨p, 1, none⟩) := hF 55 2 (by kernel_rfl) d2
       have cc := (hC.1.cell (p := ⟨p, 1, none⟩) (cell_lt k1)).trans k1
       simp [go_sem, Flow.ylP_value, Flow.ylP_skip, Flow.ylP_enter, Flow.ylP_panic, hc0, hf0, e55, cc]
       exact hK gz wz hC (fun _ _ => rfl)
      ·intro gz L wz K ρ hc0 hf0 hF hO hU hcl hi hd hC hK
       have e0 : ρ (.tmp 0) = .pointer (some ⟨p, 0, none⟩) := hO 0 (by kernel_rfl)
       simp [go_sem, Flow.ylP_value, Flow.ylP_skip, Flow.ylP_enter, Flow.ylP_panic, hc0, hf0, e0]
       exact hK gz wz hC (fun _ _ => rfl)
      ·intro gz L wz K ρ hc0 hf0 hF hO hU hcl hi hd hC hK
       have d4 : L 4 = true := hd ⟨4, .data⟩ (by simp) rfl
       have e57 : ρ (.tmp 57) = .pointer (some ⟨p, 0, none⟩) := hF 57 4 (by kernel_rfl) d4
       simp [go_sem, Flow.ylP_value, Flow.ylP_skip, Flow.ylP_enter, Flow.ylP_panic, hc0, hf0, e57]
       exact hK gz wz hC (fun _ _ => rfl)
      ·intro gz L wz K ρ hc0 hf0 hF hO hU hcl hi hd hC hK
       have d5 : L 5 = true := hd ⟨5, .data⟩ (by simp) rfl
       have e58 : ρ (.tmp 58) = .pointer (some ⟨p, 0, none⟩) := hF 58 5 (by kernel_rfl) d5
       simp [go_sem, Flow.ylP_value, Flow.ylP_skip, Flow.ylP_enter, Flow.ylP_panic, hc0, hf0, e58]
       exact hK gz wz hC (fun _ _ => rfl)
      ·intro gz L wz K ρ hc0 hf0 hF hO hU hcl hi hd hC hK
       have d6 : L 6 = true := hd ⟨6, .data⟩ (by simp) rfl
       have e59 : ρ (.tmp 59) = .pointer (some ⟨p, 0, none⟩) := hF 59 6 (by kernel_rfl) d6
       have cc := (hC.1.cell (p := ⟨p, 0, none⟩) (cell_lt k0)).trans k0
       simp [go_sem, Flow.ylP_value, Flow.ylP_skip, Flow.ylP_enter, Flow.ylP_panic, hc0, hf0, e59, cc]
       exact hK gz wz hC (fun _ _ => rfl)
      ·intro gz L wz K ρ hc0 hf0 hF hO hU hcl hi hd hC hK
       have e6 : ρ (.tmp 6) = .int .i64 t := hO 6 (by kernel_rfl)
       simp [go_sem, Flow.ylP_value, Flow.ylP_skip, Flow.ylP_enter, Flow.ylP_panic, hc0, hf0, e6]
       exact hK gz wz hC (fun _ _ => rfl)
      ·intro gz L wz K ρ hc0 hf0 hF hO hU hcl hi hd hC hK
       have d8 : L 8 = true := hd ⟨8, .data⟩ (by simp) rfl
       have e61 : ρ (.tmp 61) = .int .i64 t := hF 61 8 (by kernel_rfl) d8
       simp [go_sem, Flow.ylP_value, Flow.ylP_skip, Flow.ylP_enter, Flow.ylP_panic, hc0, hf0, e61, hw1, hw2]
       exact hK gz wz hC (fun _ _ => rfl)
      ·intro gz L wz K ρ hc0 hf0 hF hO hU hcl hi hd hC hK
       have d7 : L 7 = true := hd ⟨7, .data⟩ (by simp) rfl
       have e60 : ρ (.tmp 60) = .int .i64 rep := hF 60 7 (by kernel_rfl) d7
       have d9 : L 9 = true := hd ⟨9, .data⟩ (by simp) rfl
       have e62 : ρ (.tmp 62) = .int .i64 (t + 1) := hF 62 9 (by kernel_rfl) d9
       simp [go_sem, Flow.ylP_value, Flow.ylP_skip, Flow.ylP_enter, Flow.ylP_panic, hc0, hf0, e60, e62]
       exact hK gz wz hC (fun _ _ => rfl)
      ·intro gz L wz K ρ hc0 hf0 hF hO hU hcl hi hd hC hK
       have d10 : L 10 = true := hd ⟨10, .data⟩ (by simp) rfl
       have e63 : ρ (.tmp 63) = .agg #[.int .i64 rep, .int .i64 (t + 1)] := hF 63 10 (by kernel_rfl) d10
       simp [go_sem, Flow.ylP_value, Flow.ylP_skip, Flow.ylP_enter, Flow.ylP_panic, hc0, hf0, e63]
       have h12 : L 12 = false := by cases h : L 12 with | false => rfl | true => (have := hcl 12 11 (by kernel_rfl) h; rw [hi] at this; cases this)
       refine hK (wz.heap.size, gz.2) _ ⟨hC.1.alloc hC.1.size _, fun _ => ⟨by rw [World.cell?_alloc_new]; rfl, by rw [World.cell?_alloc_new]; rfl⟩, fun q => absurd (show L 12 = true from q) (by rw [h12]; decide)⟩ (by intro j hj; unfold llV; split <;> first | rfl | (rw [hi] at hj; cases hj) | (have hz := hcl _ 11 (by kernel_rfl) hj; rw [hi] at hz; cases hz))
      ·intro gz L wz K ρ hc0 hf0 hF hO hU hcl hi hd hC hK
       have d3 : L 3 = true := hd ⟨3, .data⟩ (by simp) rfl
       have e56 : ρ (.tmp 56) = .slice AH V.length ch := hF 56 3 (by kernel_rfl) d3
       have d11 : L 11 = true := hd ⟨11, .data⟩ (by simp) rfl
       have e64 : ρ (.tmp 64) = .slice (some ⟨gz.1, 0, none⟩) 1 1 := hF 64 11 (by kernel_rfl) d11
       simp [go_sem, Flow.ylP_value, Flow.ylP_skip, Flow.ylP_enter, Flow.ylP_panic, hc0, hf0, e56, e64]
       have c1 := hC.2.1 d11
       refine (vjoin_any wz V.length ch 1 1 AH (some ⟨gz.1, 0, none⟩) V [(rep, t + 1)] (ents_own ((Turned.of_below (S := fun _ => False) hC.1).own HO5.out (fun _ _ q => q)) HYR.out) (ents_one c1.1 c1.2 HEF.out) HM.out (by unfold maxLen; omega) HCH.out (Nat.le_refl _) (HG5.out.below hC.1)).mono ?_
       rintro r wn ⟨v, rfl, hov, hbn⟩
       refine ⟨_, rfl, hK (gz.1, v) wn ⟨hC.1.trans (hbn.mono hC.1.size), fun _ => ⟨(hbn.cell (p := ⟨gz.1, 0, none⟩) (cell_lt c1.1)).trans c1.1, (hbn.cell (p := ⟨gz.1, 1, none⟩) (cell_lt c1.2)).trans c1.2⟩, fun _ => own_less hov hC.1.size⟩ (by intro j hj; unfold llV; split <;> first | rfl | (rw [hi] at hj; cases hj) | (have hz := hcl _ 12 (by kernel_rfl) hj; rw [hi] at hz; cases hz))⟩
      ·intro gz L wz K ρ hc0 hf0 hF hO hU hcl hi hd hC hK
       have d12 : L 12 = true := hd ⟨12, .data⟩ (by simp) rfl
       have e65 : ρ (.tmp 65) = .tuple #[gz.2, errV (vjoin V [(rep, t + 1)]).2] := hF 65 12 (by kernel_rfl) d12
       simp [go_sem, Flow.ylP_value, Flow.ylP_skip, Flow.ylP_enter, Flow.ylP_panic, hc0, hf0, e65]
       exact hK gz wz hC (fun _ _ => rfl)
      ·intro gz L wz K ρ hc0 hf0 hF hO hU hcl hi hd hC hK
       have d13 : L 13 = true := hd ⟨13, .data⟩ (by simp) rfl
       have e52 : ρ (.tmp 52) = .tuple #[gz.2, errV (vjoin V [(rep, t + 1)]).2] := hF 52 13 (by kernel_rfl) d13
       simp [go_sem, Flow.ylP_value, Flow.ylP_skip, Flow.ylP_enter, Flow.ylP_panic, hc0, hf0, e52]
       exact hK gz wz hC (fun _ _ => rfl)
      ·intro gz L wz K ρ hc0 hf0 hF hO hU hcl hi hd hC hK
       have d13 : L 13 = true := hd ⟨13, .data⟩ (by simp) rfl
       have e52 : ρ (.tmp 52) = .tuple #[gz.2, errV (vjoin V [(rep, t + 1)]).2] := hF 52 13 (by kernel_rfl) d13
       simp [go_sem, Flow.ylP_value, Flow.ylP_skip, Flow.ylP_enter, Flow.ylP_panic, hc0, hf0, e52]
       exact hK gz wz hC (fun _ _ => rfl)
      ·intro gz L wz K ρ hc0 hf0 hF hO hU hcl hi hd hC hK
       have d14 : L 14 = true := hd ⟨14, .data⟩ (by simp) rfl
       have e66 : ρ (.tmp 66) = gz.2 := hF 66 14 (by kernel_rfl) d14
       simp [go_sem, Flow.ylP_value, Flow.ylP_skip, Flow.ylP_enter, Flow.ylP_panic, hc0, hf0, e66]
       exact hK gz wz hC (fun _ _ => rfl)
      ·intro gz L wz K ρ hc0 hf0 hF hO hU hcl hi hd hC hK
       have d15 : L 15 = true := hd ⟨15, .data⟩ (by simp) rfl
       have e67 : ρ (.tmp 67) = errV (vjoin V [(rep, t + 1)]).2 := hF 67 15 (by kernel_rfl) d15
       simp [go_sem, Flow.ylP_value, Flow.ylP_skip, Flow.ylP_enter, Flow.ylP_panic, hc0, hf0, e67]
       exact hK gz wz hC (fun _ _ => rfl)
      ·intro gz L ch wz h; exact h.elim
      ·intro gz L6 w6 hL6 hC
       have HC6 := Lib.hid (And.intro hC.1 (hC.2.2 (hL6 12 (by decide))))
       clear hC hL6 k0 k1 hw1 hw2
       obtain ⟨gzb, vv⟩ := gz
       simp only at HC6
       obtain ⟨AV, cv, rfl⟩ := own_form HC6.out.2
       have HGX6 := Lib.hid (HGX5.out.below HC6.out.1)
       have HF6 := Lib.hid (And.intro (HF.out.1.below HC6.out.1) (HF.out.2.below HC6.out.1))
       have HB6 := Lib.hid (HB5.out.trans (HC6.out.1.mono HB5.out.size))
       have HVO := Lib.hid HC6.out.2
       have HS56 : Hid (w5.heap.size ≤ w6.heap.size ∧ w.heap.size ≤ w5.heap.size) := Lib.hid ⟨HC6.out.1.size, HB5.out.size⟩
       have HPG : Hid (p < w.heap.size ∧ B ≤ p) := Lib.hid ⟨(HW.out.1 p (.inl rfl)).2, (HW.out.1 p (.inl rfl)).1⟩
       obtain ⟨J, hJ⟩ : ∃ J, vjoin V [(rep, t + 1)] = J := ⟨_, rfl⟩
       have HJ := Lib.hid hJ
       rw [hJ] at HVO
       simp only [Flow.putAll, llV]
       simp [Act.put]
       rw [hJ]
       clear hJ HC6 HGX5 HB5 HO5 HG5
       obtain ⟨JV, je⟩ := J
       simp only at HVO ⊢
       by_cases hje : je = 0
       ·subst hje
        rw [errV_zero]
        have k1 := (HF6.out.1.rc 1 _ rfl).1
        have fk1 := (HF6.out.1.rc 1 _ rfl).2
        go_upto_region 19 with fail
        clear k1 fk1
        have hvp : (Value.slice AV JV.length cv).ownBlock ≠ some p := fun e => by have := (HVO.out.lt p e).1; have := HS56.out; have := HPG.out; omega
        have hRC8 : RC (w6.setCell ⟨p, 1, none⟩ (Value.slice AV JV.length cv)) p [.int .i64 rep, (Value.slice AV JV.length cv), .slice AL L_.length cl] := HF6.out.1.rc.set 1 (Value.slice AV JV.length cv) (by simp)
        have hGX8 := HGX6.out.setAt (g := p) (o := 1) (fun e => by have := HGE.out.1; have := HPG.out; omega) (Value.slice AV JV.length cv)
        have hGR8 := HF6.out.2.setAt (g := p) (o := 1) (fun e => by have := HGE.out.2.1; have := HPG.out; omega) (Value.slice AV JV.length cv)
        have hLO8 := (Turned.set (S := fun i => i = p) w6 1 (Value.slice AV JV.length cv) rfl).own HF6.out.1.l (fun j hj e => by rw [show j = p from e] at hj; exact HW.out.2.2.2 hj)
        have hVO8 := own_less ((Turned.set (S := fun i => i = p) w6 1 (Value.slice AV JV.length cv) rfl).own HVO.out (fun j hj e => by rw [show j = p from e] at hj; exact hvp hj)) (show B ≤ w5.heap.size by have := HS56.out; have := HPG.out; omega)
        have hT8 : Turned (fun i => i = p) w6 (w6.setCell ⟨p, 1, none⟩ (Value.slice AV JV.length cv)) := .set _ _ _ rfl
        generalize w6.setCell ⟨p, 1, none⟩ (Value.slice AV JV.length cv) = W8 at *
        have HGS : Hid (p < W8.heap.size ∧ gx < W8.heap.size) := Lib.hid ⟨cell_lt (hRC8 0 _ rfl).1, cell_lt (hGX8 0 _ rfl).1⟩
        have HBB : Hid (B ≤ W8.heap.size) := Lib.hid (by have := HGS.out; have := HPG.out; omega)
        have HGP : Hid (¬ gx = p) := Lib.hid (fun e => by have := HGE.out.1; have := HPG.out; omega)
        have HGL : Hid ((Value.slice AL L_.length cl).ownBlock ≠ some gx) := Lib.hid (fun e => by have := (HW.out.1 gx (.inr (.inr e))).2; have := HGE.out.1; omega)
        have HPL : Hid ((Value.slice AL L_.length cl).ownBlock ≠ some p) := Lib.hid HW.out.2.2.2
        have HX8 := Lib.hid (And.intro hGR8 (And.intro hVO8 hT8))
        clear hGR8 hT8
        clear hVO8
        refine Flow.wp_region_go (by kernel_rfl) (by kernel_rfl) (by kernel_rfl) 88 rfl (by kernel_rfl) (llW p gx cl AL t rep a3 a6 a4 a5 L_) (fun gz L wz => RC wz p [.int .i64 rep, (.slice AV JV.length cv), cond (L 10) (Value.slice gz.2.1 (L_.length + 1) gz.2.2) (.slice AL L_.length cl)] ∧ RC wz gx (wrCells (t + 1, rep, a3, a4, a5, a6)) ∧ (L 6 = true → L 7 = false → wz.heap[gz.1]? = some (.cells (wrCells (t + 1, rep, a3, a4, a5, a6)).toArray 32 (0, 0))) ∧ (L 7 = false → wz.ownsRow B 32 6 (.slice AL L_.length cl) L_.length (L_.flatMap wrCells)) ∧ (L 7 = true → wz.ownsRow B 32 6 (Value.slice gz.2.1 (L_.length + 1) gz.2.2) (L_.length + 1) ((L_ ++ [(t + 1, rep, a3, a4, a5, a6)]).flatMap wrCells) ∧ ∀ j, (Value.slice gz.2.1 (L_.length + 1) gz.2.2).ownBlock = some j → (Value.slice AL L_.length cl).ownBlock = some j ∨ W8.heap.size ≤ j) ∧ Turned (fun j => j = p ∨ (Value.slice AL L_.length cl).ownBlock = some j) W8 wz) (fun _ _ => False) ((0, none, 0)) (⟨hRC8.below (Below.refl _ _).drew, hGX8.below (Below.refl _ _).drew, (fun q => by cases q), fun _ => hLO8.drew, (fun q => by cases q), .of_below (Below.refl _ _).drew⟩) ⟨?_, ?_, ?_, ?_, ?_, ?_, ?_, ?_, ?_, ?_, ?_, trivial⟩ ?_ ?_
        ·intro gz L wz K ρ hc0 hf0 hF hO hU hcl hi hd hC hK
         have e0 : ρ (.tmp 0) = .pointer (some ⟨p, 0, none⟩) := hO 0 (by kernel_rfl)
         simp [go_sem, Flow.ylP_value, Flow.ylP_skip, Flow.ylP_enter, Flow.ylP_panic, hc0, hf0, e0]
         exact hK gz wz hC (fun _ _ => rfl)
        ·intro gz L wz K ρ hc0 hf0 hF hO hU hcl hi hd hC hK
         have e0 : ρ (.tmp 0) = .pointer (some ⟨p, 0, none⟩) := hO 0 (by kernel_rfl)
         simp [go_sem, Flow.ylP_value, Flow.ylP_skip, Flow.ylP_enter, Flow.ylP_panic, hc0, hf0, e0]
         exact hK gz wz hC (fun _ _ => rfl)
        ·intro gz L wz K ρ hc0 hf0 hF hO hU hcl hi hd hC hK
         have d1 : L 1 = true := hd ⟨1, .data⟩ (by simp) rfl
         have e77 : ρ (.tmp 77) = .pointer (some ⟨p, 0, none⟩) := hF 77 1 (by kernel_rfl) d1
         simp [go_sem, Flow.ylP_value, Flow.ylP_skip, Flow.ylP_enter, Flow.ylP_panic, hc0, hf0, e77]
         exact hK gz wz hC (fun _ _ => rfl)
        ·intro gz L wz K ρ hc0 hf0 hF hO hU hcl hi hd hC hK
         have d2 : L 2 = true := hd ⟨2, .data⟩ (by simp) rfl
         have e78 : ρ (.tmp 78) = .pointer (some ⟨p, 0, none⟩) := hF 78 2 (by kernel_rfl) d2
         simp [go_sem, Flow.ylP_value, Flow.ylP_skip, Flow.ylP_enter, Flow.ylP_panic, hc0, hf0, e78]
         exact hK gz wz hC (fun _ _ => rfl)
        ·intro gz L wz K ρ hc0 hf0 hF hO hU hcl hi hd hC hK
         have d3 : L 3 = true := hd ⟨3, .data⟩ (by simp) rfl
         have e79 : ρ (.tmp 79) = .pointer (some ⟨p, 2, none⟩) := hF 79 3 (by kernel_rfl) d3
         have h10 : L 10 = false := by cases h : L 10 with | false => rfl | true => (have := hcl 10 4 (by kernel_rfl) h; rw [hi] at this; cases this)
         have cc := (hC.1 2 _ rfl).1
         rw [h10] at cc
         simp only [cond_false] at cc
         simp [go_sem, Flow.ylP_value, Flow.ylP_skip, Flow.ylP_enter, Flow.ylP_panic, hc0, hf0, e79, cc]
         exact hK gz wz hC (fun _ _ => rfl)
        ·intro gz L wz K ρ hc0 hf0 hF hO hU hcl hi hd hC hK
         have e3 : ρ (.tmp 3) = .pointer (some ⟨gx, 0, none⟩) := hO 3 (by kernel_rfl)
         have q0 := (hC.2.1 0 _ rfl).1
         have q1 := (hC.2.1 1 _ rfl).1
         have q2 := (hC.2.1 2 _ rfl).1
         have q3 := (hC.2.1 3 _ rfl).1
         have q4 := (hC.2.1 4 _ rfl).1
         have q5 := (hC.2.1 5 _ rfl).1
         simp [go_sem, Flow.ylP_value, Flow.ylP_skip, Flow.ylP_enter, Flow.ylP_panic, hc0, hf0, e3, q0, q1, q2, q3, q4, q5]
         exact hK gz wz hC (fun _ _ => rfl)
        ·intro gz L wz K ρ hc0 hf0 hF hO hU hcl hi hd hC hK
         have d5 : L 5 = true := hd ⟨5, .data⟩ (by simp) rfl
         have e81 : ρ (.tmp 81) = .agg #[.int .i64 (t + 1), .int .i64 rep, .int .i64 a3, .string a4, .string a5, .int .i64 a6] := hF 81 5 (by kernel_rfl) d5
         simp [go_sem, Flow.ylP_value, Flow.ylP_skip, Flow.ylP_enter, Flow.ylP_panic, hc0, hf0, e81]
         have h7 : L 7 = false := by cases h : L 7 with | false => rfl | true => (have := hcl 7 6 (by kernel_rfl) h; rw [hi] at this; cases this)
         have hbn := below1 wz (.cells #[.int .i64 (t + 1), .int .i64 rep, .int .i64 a3, .string a4, .string a5, .int .i64 a6] 32)
         refine hK (wz.heap.size, gz.2) _ ⟨hC.1.below hbn, hC.2.1.below hbn, fun _ _ => heap_alloc_new wz _, fun q => (hC.2.2.2.1 q).alloc _, fun q => absurd (show L 7 = true from q) (by rw [h7]; decide), hC.2.2.2.2.2.trans (.of_below hbn)⟩ (by intro j hj; unfold llW; split <;> first | rfl | (rw [hi] at hj; cases hj) | (have hz := hcl _ 6 (by kernel_rfl) hj; rw [hi] at hz; cases hz))
        ·intro gz L wz K ρ hc0 hf0 hF hO hU hcl hi hd hC hK
         have d4 : L 4 = true := hd ⟨4, .data⟩ (by simp) rfl
         have e80 : ρ (.tmp 80) = .slice AL L_.length cl := hF 80 4 (by kernel_rfl) d4
         have d6 : L 6 = true := hd ⟨6, .data⟩ (by simp) rfl
         have e82 : ρ (.tmp 82) = .slice (some ⟨gz.1, 0, none⟩) 1 1 := hF 82 6 (by kernel_rfl) d6
         have hblk := hC.2.2.1 d6 hi
         have hrow := hC.2.2.2.1 hi
         have h10 : L 10 = false := by cases h : L 10 with | false => rfl | true => (have := hcl 10 7 (by kernel_rfl) h; rw [hi] at this; cases this)
         obtain ⟨v', wn, hrun, hov, hgn, hwh⟩ := app_wr1 (x := (t + 1, rep, a3, a4, a5, a6)) hrow hblk HN.out (Nat.le_trans HBB.out hC.2.2.2.2.2.size) 22
         have ht : Turned (fun j => (Value.slice AL L_.length cl).ownBlock = some j) wz wn := ⟨hgn.os, hgn.tape, hgn.output, hgn.size, fun i hi hn => hgn.block i hi (fun e => hn e.symm)⟩
         unfold execOp
         simp only [resolve, invoke, builtin, Sem.run_bind, Sem.run_pure, Result.andThen_ok, List.map_toArray, List.map_cons, List.map_nil, e80, e82, hrun]
         rw [show (L_ ++ [(t + 1, rep, a3, a4, a5, a6)]).length = L_.length + 1 by simp] at hov
         obtain ⟨A9, c9, rfl⟩ := own_form hov
         refine hK (gz.1, A9, c9) wn ⟨?_, hC.2.1.turned ht (fun e => HGL.out e), fun _ q => (by simp at q), fun q => (by simp at q), fun _ => ⟨hov, fun j hj => (hwh j hj).imp id (fun e => Nat.le_trans hC.2.2.2.2.2.size e)⟩, hC.2.2.2.2.2.trans (ht.mono fun j hj => .inr hj)⟩ (by intro j hj; unfold llW; split <;> first | rfl | (rw [hi] at hj; cases hj) | (have hz := hcl _ 7 (by kernel_rfl) hj; rw [hi] at hz; cases hz))
         show RC wn p [.int .i64 rep, (.slice AV JV.length cv), cond (L 10) (.slice A9 (L_.length + 1) c9) (.slice AL L_.length cl)]
         have hp := hC.1.turned ht (fun e => HPL.out e)
         rw [h10] at hp ⊢
         exact hp
        ·intro gz L wz K ρ hc0 hf0 hF hO hU hcl hi hd hC hK
         have d0 : L 0 = true := hd ⟨0, .data⟩ (by simp) rfl
         have e76 : ρ (.tmp 76) = .pointer (some ⟨p, 0, none⟩) := hF 76 0 (by kernel_rfl) d0
         simp [go_sem, Flow.ylP_value, Flow.ylP_skip, Flow.ylP_enter, Flow.ylP_panic, hc0, hf0, e76]
         exact hK gz wz hC (fun _ _ => rfl)
        ·intro gz L wz K ρ hc0 hf0 hF hO hU hcl hi hd hC hK
         have d8 : L 8 = true := hd ⟨8, .data⟩ (by simp) rfl
         have e84 : ρ (.tmp 84) = .pointer (some ⟨p, 0, none⟩) := hF 84 8 (by kernel_rfl) d8
         simp [go_sem, Flow.ylP_value, Flow.ylP_skip, Flow.ylP_enter, Flow.ylP_panic, hc0, hf0, e84]
         exact hK gz wz hC (fun _ _ => rfl)
        ·intro gz L wz K ρ hc0 hf0 hF hO hU hcl hi hd hC hK
         have d9 : L 9 = true := hd ⟨9, .data⟩ (by simp) rfl
         have e85 : ρ (.tmp 85) = .pointer (some ⟨p, 2, none⟩) := hF 85 9 (by kernel_rfl) d9
         have d7 : L 7 = true := hd ⟨7, .data⟩ (by simp) rfl
         have e83 : ρ (.tmp 83) = .slice gz.2.1 (L_.length + 1) gz.2.2 := hF 83 7 (by kernel_rfl) d7
         have fc := (hC.1 2 _ rfl).2
         have cc := (hC.1 2 _ rfl).1
         rw [hi] at hC cc
         simp only [cond_false] at cc
         simp [go_sem, Flow.ylP_value, Flow.ylP_skip, Flow.ylP_enter, Flow.ylP_panic, hc0, hf0, e85, e83, fc, cc]
         obtain ⟨o1, o2⟩ := hC.2.2.2.2.1 d7
         refine hK gz _ ⟨hC.1.set 2 (Value.slice gz.2.1 (L_.length + 1) gz.2.2) (by simp), hC.2.1.turned (F := fun j => j = p) (.set _ _ _ rfl) HGP.out, fun _ q => absurd (show L 7 = false from q) (by rw [d7]; decide), fun q => absurd (show L 7 = false from q) (by rw [d7]; decide), fun _ => ⟨(Turned.set (S := fun j => j = p) _ 2 _ rfl).own o1 (fun j hj e => by rw [show j = p from e] at hj; rcases o2 _ hj with q | q; exact HPL.out q; have := HGS.out.1; omega), o2⟩, hC.2.2.2.2.2.trans (.set _ _ _ (.inl rfl))⟩ (fun _ _ => rfl)
        ·intro gz L ch wz h; exact h.elim
        ·intro gz L wz hL hC
         rw [hL 10 (by decide)] at hC
         have HC9 := Lib.hid hC
         clear hC
         simp only [Flow.putAll, llW]
         try simp [Act.put]
         have hGR9 := HX8.out.1.turned HC9.out.2.2.2.2.2 (fun e => by rcases e with e | e; have := HGE.out.2.1; have := HPG.out; omega; have := (HW.out.1 gr (.inr (.inr e))).2; have := HGE.out.2.1; omega)
         have hGX9 := HC9.out.2.1
         have x0 := (hGX9 0 _ rfl).1
         have x1 := (hGX9 1 _ rfl).1
         have z0 := (hGR9 0 _ rfl).1
         have z1 := (hGR9 1 _ rfl).1
         have f0 := (hGR9 0 _ rfl).2
         have f1 := (hGR9 1 _ rfl).2
         have HRe : Hid (R = ((JV, L_ ++ [(t + 1, rep, a3, a4, a5, a6)]), (t + 1, rep), 0)) := Lib.hid (by rw [← HR.out]; unfold lloc; rw [← HT.out, if_neg (show ¬ 1099511627776 ≤ t by have := HTT.out; omega)]; unfold ownW; rw [if_neg (fun q => q HEE.out), if_neg (show ¬ 300 ≤ L_.length by have := HFU.out; omega), HJ.out, if_neg (fun q => q rfl)])
         have HGR9 := Lib.hid hGR9
         clear hGR9 hGX9
         go_wp2
         have hz := HGR9.out.two (.int .i64 (t + 1)) (.int .i64 rep)
         have q0 := (hz 0 _ rfl).1
         have q1 := (hz 1 _ rfl).1
         have hown := HC9.out.2.2.2.2.1 (hL 7 (by decide))
         have hlvn : (Value.slice gz.2.1 (L_.length + 1) gz.2.2).ownBlock ≠ some p := fun e => by rcases hown.2 p e with q | q; exact HPL.out q; have := HGS.out.1; omega
         have hlvr : ∀ i, (Value.slice gz.2.1 (L_.length + 1) gz.2.2).ownBlock = some i → i ≠ gr := fun i hi e => by subst e; have := HGE.out.2.1; rcases hown.2 i hi with q | q; have := (HW.out.1 i (.inr (.inr q))).2; omega; have : i < W8.heap.size := cell_lt (HX8.out.1 0 _ rfl).1; omega
         have hT9 : Turned (fun j => j = p ∨ (Value.slice AL L_.length cl).ownBlock = some j) w6 wz := (HX8.out.2.2.mono (fun i hi => .inl hi)).trans HC9.out.2.2.2.2.2
         have hvo9 := HC9.out.2.2.2.2.2.own HX8.out.2.1 (fun j hj q => by rcases q with q | q; rw [q] at hj; exact hvp hj; rcases own_ne HX8.out.2.1 hLO8 (by decide) with e | e; rw [e] at hj; cases hj; exact e (hj.trans q.symm))
         have hla : LogAt wz B ⟨p, (Value.slice AV JV.length cv), (Value.slice gz.2.1 (L_.length + 1) gz.2.2)⟩ rep JV (L_ ++ [(t + 1, rep, a3, a4, a5, a6)]) := ⟨HC9.out.1, HPG.out.2, hvo9, by rw [List.length_append]; exact hown.1, hvp, hlvn⟩
         have hla2 := hla.two (g := gr) (fun i hi => by
          have hvr : ∀ i, (Value.slice AV JV.length cv).ownBlock = some i → i ≠ gr := fun i hi e => by subst e; have := (HVO.out.lt i hi).1; have : i < w5.heap.size := cell_lt (HF.out.2 0 _ rfl).1; omega
          rcases hi with rfl | hi | hi
          ·have := HGE.out.2.1; have := HPG.out; omega
          ·exact hvr i hi
          ·exact hlvr i hi) (.int .i64 (t + 1)) (.int .i64 rep)
         have hM : Turned (LgC.foot ⟨p, .slice AH V.length ch, .slice AL L_.length cl⟩) w ((wz.setCell ⟨gr, 0, none⟩ (.int .i64 (t + 1))).setCell ⟨gr, 1, none⟩ (.int .i64 rep)) :=
          (((Turned.of_below HB6.out).trans (hT9.mono (fun i hi => hi.imp id .inr))).then (S' := fun i => i = gr) (.set _ _ _ rfl) (fun i hi => .inr (by rw [show i = gr from hi]; exact HGE.out.2.1))).then (S' := fun i => i = gr) (.set _ _ _ rfl) (fun i hi => .inr (by rw [show i = gr from hi]; exact HGE.out.2.1))
         refine bodyPost_ret (v := .tuple #[.agg #[.int .i64 (t + 1), .int .i64 rep], .nilIface]) (by simp [results, Tryz.results17, go_sem, q0, q1, errV]) rfl ⟨⟨p, (Value.slice AV JV.length cv), (Value.slice gz.2.1 (L_.length + 1) gz.2.2)⟩, rfl, by rw [HRe.out]; rfl, by rw [HRe.out]; exact hla2, hM, fun i hi => ?_⟩
         rcases hi with rfl | hi | hi
         ·exact .inl (.inl rfl)
         ·exact .inr (Nat.le_trans HS56.out.2 (HVO.out.lt i hi).1)
         ·rcases hown.2 i hi with q | q
          ·exact .inl (.inr (.inr q))
          ·refine .inr ?_; have := HB6.out.size; have := HX8.out.2.2.size; omega
       ·have HJE := Lib.hid hje
        rw [errV_of hje]
        have HRe : Hid (R = ((V, L_), (0, 0), je)) := Lib.hid (by rw [← HR.out]; unfold lloc; rw [← HT.out, if_neg (show ¬ 1099511627776 ≤ t by have := HTT.out; omega)]; unfold ownW; rw [if_neg (fun q => q HEE.out), if_neg (show ¬ 300 ≤ L_.length by have := HFU.out; omega), HJ.out, if_pos hje])
        have z0 := (HF6.out.2 0 _ rfl).1
        have z1 := (HF6.out.2 1 _ rfl).1
        have f0 := (HF6.out.2 0 _ rfl).2
        have f1 := (HF6.out.2 1 _ rfl).2
        clear hje
        go_wp2
        have hz := HF6.out.2.two (.int .i64 0) (.int .i64 0)
        have q0 := (hz 0 _ rfl).1
        have q1 := (hz 1 _ rfl).1
        have hla := HF6.out.1.two (g := gr) (fun i hi => by have := (HW.out.1 i hi).2; have := HGE.out.2.1; omega) (.int .i64 0) (.int .i64 0)
        have hbf := below_set2 (.int .i64 0) (.int .i64 0) HB6.out HGE.out.2.1
        refine bodyPost_ret (v := .tuple #[.agg #[.int .i64 0, .int .i64 0], errV je]) (by simp [results, Tryz.results17, go_sem, q0, q1, errV, HJE.out]) rfl ⟨⟨p, .slice AH V.length ch, .slice AL L_.length cl⟩, rfl, by rw [HRe.out], by rw [HRe.out]; exact hla, .of_below hbf⟩
    ·have HE0 := Lib.hid hE0
     rw [errV_of hE0] at hwr
     have HRe : Hid (R = ((V, L_), (0, 0), ee)) := Lib.hid (by rw [← HR.out]; unfold lloc; rw [← HT.out, if_neg (show ¬ 1099511627776 ≤ t by have := HTT.out; omega)]; unfold ownW; rw [if_pos (by rw [HEE.out]; exact hE0), HEE.out])
     clear hE0
     go_upto_region 11 with (first | (go_at_call 34; refine hwr.mono ?_; rintro e w5 ⟨rfl, hb5⟩))
     have h5 := H2.out.below hb5
     have hGR5 := HGR2.out.below hb5
     have HB5 := Lib.hid (HB2.out.trans (hb5.mono HB2.out.size))
     clear x0 x1 x2 x3 x4 x5 hwr hb5 H2 HGX2 HGR2 HB2
     have z0 := (hGR5 0 _ rfl).1
     have z1 := (hGR5 1 _ rfl).1
     have f0 := (hGR5 0 _ rfl).2
     have f1 := (hGR5 1 _ rfl).2
     have HF := Lib.hid (And.intro h5 hGR5)
     clear h5 hGR5
     go_wp2
     have hz := HF.out.2.two (.int .i64 0) (.int .i64 0)
     have q0 := (hz 0 _ rfl).1
     have q1 := (hz 1 _ rfl).1
     have hla := HF.out.1.two (g := gr) (fun i hi => by have := (HW.out.1 i hi).2; have := HGE.out.2.1; omega) (.int .i64 0) (.int .i64 0)
     have hbf := below_set2 (.int .i64 0) (.int .i64 0) HB5.out HGE.out.2.1
     refine bodyPost_ret (v := .tuple #[.agg #[.int .i64 0, .int .i64 0], errV ee]) (by simp [results, Tryz.results17, go_sem, q0, q1, errV, HE0.out]) rfl ⟨⟨p, .slice AH V.length ch, .slice AL L_.length cl⟩, rfl, by rw [HRe.out], by rw [HRe.out]; exact hla, .of_below hbf⟩
end Go.Proofs.YtlpkpfpmcppciaaGreatDoor
end
