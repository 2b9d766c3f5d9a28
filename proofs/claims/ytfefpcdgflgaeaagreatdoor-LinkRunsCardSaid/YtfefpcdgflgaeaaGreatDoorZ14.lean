/- The reference's receiver: Take. Printed by gen_rrecvk.py out of rrecvk.src.

The reference's receiver: Crash. Printed by gen_rrecvc.py out of rrecvc.src. -/
import Derived.Test.YtfefpcdgflgaeaaGreatDoorZ13
import Derived.Test.YtfefpcdgflgaeaaGreatDoorZ10
section
namespace Go.Proofs.YtfefpcdgflgaeaaGreatDoor
set_option linter.unusedSimpArgs false
set_option linter.unusedVariables false
open Go.RowKit As Go.Maps
theorem RR.recelled {w w' : World} {E : Nat} {Z : RLoc} {s : Rst} {nm tot sv sf mks : Nat} (h : RR w E Z s) (hR : RC w' Z.r (refVs Z.D nm tot Z.B sv sf mks)) (ht : Turned (fun i => i = Z.r) w w') (hf : RFit E ⟨s.S, s.X, nm, tot, s.came, sv, sf, mks⟩) : RR w' E Z ⟨s.S, s.X, nm, tot, s.came, sv, sf, mks⟩ :=
 ⟨hR, h.disk.stays ht (Ne.symm h.rD) (Ne.symm h.r1) (Ne.symm h.r2), ht.bm h.came (Ne.symm h.rB), h.rD, h.r1, h.r2, h.rB, h.BD, h.B1, h.B2, fun i hi => Nat.lt_of_lt_of_le (h.low i hi) ht.size, hf, h.c1, h.c2, h.cb⟩
theorem RR.came_put {w w' : World} {E : Nat} {Z : RLoc} {s : Rst} {f f' : CF} {b b' : Nat} (h : RR w E { Z with b := b } { s with came := f }) (ht : Turned (fun i => i = Z.B) w w') (hb : BM w' Z.B b' f') (hc : b' ≤ 5000 * E) (hf : RFit E { s with came := f' }) : RR w' E { Z with b := b' } { s with came := f' } :=
 ⟨h.cells.turned ht h.rB, h.disk.stays ht (Ne.symm h.BD) (Ne.symm h.B1) (Ne.symm h.B2), hb, h.rD, h.r1, h.r2, h.rB, h.BD, h.B1, h.B2, fun i hi => Nat.lt_of_lt_of_le (h.low i hi) ht.size, hf, h.c1, h.c2, hc⟩
theorem RR.wider {w : World} {E : Nat} {Z : RLoc} {s : Rst} {b : Nat} (h : RR w E { Z with b := b } s) (hc : b + 1 ≤ 5000 * E) : RR w E { Z with b := b + 1 } s :=
 ⟨h.cells, h.disk, h.came.mono (Nat.le_succ _), h.rD, h.r1, h.r2, h.rB, h.BD, h.B1, h.B2, h.low, h.fit, h.c1, h.c2, hc⟩
theorem BytesAt.turned2 {w w' : World} {g : Nat} {l : List UInt8} {F : Nat → Prop} (h : BytesAt w g l) (ht : Turned F w w') (hn : ¬ F g) : BytesAt w' g l := fun i hi =>
 ⟨ht.cell (h i hi).1 hn, (ht.frozen (a := ⟨g, i, none⟩) (cell_lt (h i hi).1) hn).trans (h i hi).2⟩
theorem named_open {s : Rst} {nm T : Nat} (h0 : s.tot = 0) : s.named nm T = ⟨s.S, s.X, nm, T, s.came, s.sv, s.sf, s.mks⟩ := by unfold Rst.named; rw [if_pos h0]
def rkV (Z : RLoc) (gc nm T : Nat) (g : Unit) : Nat → Value
 | 0 => .pointer (some ⟨Z.r, 0, none⟩)
 | 1 => .pointer (some ⟨Z.r, 0, none⟩)
 | 2 => .pointer (some ⟨gc, 0, none⟩)
 | 3 => .int .u32 (nm : Int)
 | 4 => .pointer (some ⟨gc, 1, none⟩)
 | 5 => .int .i64 (T : Int)
 | 6 => .pointer (some ⟨Z.r, 0, none⟩)
 | 7 => .pointer (some ⟨Z.r, 1, none⟩)
 | 9 => .pointer (some ⟨Z.r, 0, none⟩)
 | 10 => .pointer (some ⟨Z.r, 2, none⟩)
 | _ => undef
def rlV (Z Z1 : RLoc) (gc a k : Nat) (f : CF) (g : Unit) : Nat → Value
 | 0 => .pointer (some ⟨Z.r, 0, none⟩)
 | 1 => .pointer (some ⟨Z.r, 0, none⟩)
 | 2 => .pointer (some ⟨Z.r, 3, none⟩)
 | 3 => .map (some Z1.B)
 | 4 => .pointer (some ⟨gc, 2, none⟩)
 | 5 => .int .i64 (a : Int)
 | 6 => .int .i64 (k : Int)
 | 7 => .int .i64 ((a + k : Nat) : Int)
 | 8 => .tuple #[.int .u8 (((f (a + k)).getD 0).toNat : Int), .bool (f (a + k)).isSome]
 | 9 => .tuple #[.int .u8 (((f (a + k)).getD 0).toNat : Int), .bool (f (a + k)).isSome]
 | 10 => .int .u8 (((f (a + k)).getD 0).toNat : Int)
 | 11 => .bool (f (a + k)).isSome
 | 12 => .int .u8 (((f (a + k)).getD 0).toNat : Int)
 | 13 => .bool (f (a + k)).isSome
 | _ => undef
def roV (Z Z1 : RLoc) (gc a k : Nat) (x : UInt8) (g : Unit) : Nat → Value
 | 0 => .pointer (some ⟨Z.r, 0, none⟩)
 | 1 => .pointer (some ⟨Z.r, 0, none⟩)
 | 2 => .pointer (some ⟨Z.r, 3, none⟩)
 | 3 => .map (some Z1.B)
 | 4 => .pointer (some ⟨gc, 2, none⟩)
 | 5 => .int .i64 (a : Int)
 | 6 => .int .i64 (k : Int)
 | 7 => .int .i64 ((a + k : Nat) : Int)
 | 8 => .int .u8 (x.toNat : Int)
 | _ => undef
set_option maxHeartbeats 4000000 in
set_option maxRecDepth 100000 in
theorem rtake_any {w : World} {E : Nat} {Z : RLoc} {s : Rst} (t : ByteArray) (h : RR w E Z s) (ht : t.size ≤ 1000000) (hE : E + 1 ≤ 1000000) :
  Calls Tryz.prog 10 #[.pointer (some ⟨Z.r, 0, none⟩), .string t] w fun e w' => e = .returned (.int .i64 (s.takeE t)) ∧ RGoes w (E + 1) Z (s.take t) w' := by
 have HCB0 := Lib.hid h.cb
 have h' := h.more (K' := E + 1) (by omega) hE
 clear h
 have h := h'
 clear h'
 go_enter Tryz.func10, Tryz.ntmps10
 go_wp2_with fail
 refine (rcread_any t _ ht).mono ?_
 rintro r w1 ⟨rfl, hb1⟩
 have h1 := h.below hb1
 by_cases he : (unchunk t).2 = 0
 ·obtain ⟨nm, T, a, d, hu, hnm, hT1, hT2, had, hd⟩ := unchunk_says he
  rw [hu]
  have hC0 := Ck.new w1 (nm : Int) (T : Int) (a : Int) d
  have b2 := below1 w1 (ckO (nm : Int) (T : Int) (a : Int) d)
  have h20 := h1.below b2
  have hb20 := hb1.trans (b2.mono hb1.size)
  have HU := Lib.hid hu
  have hgl := h1.low
  clear he hu h1 h
  unfold ckVal
  simp only
  go_upto_region 4 with (fail)
  obtain ⟨gc, hgc⟩ : ∃ g, g = w1.heap.size := ⟨_, rfl⟩
  rw [← hgc] at hC0 hgl ⊢
  generalize w1.alloc (ckO (nm : Int) (T : Int) (a : Int) d) = w2 at *
  have c2 := h20.cell 2 rfl
  have HG := Lib.hid (show Z.r ≠ gc by have := hgl Z.r (.inl rfl); omega)
  have HGF := Lib.hid (show ∀ i, Z.foot i → i < gc from hgl)
  have HG2 := Lib.hid (cell_lt hC0.c0)
  have h2 := h20
  have hCk := hC0
  have hb2 := hb20
  have HB1 := Lib.hid hb1.size
  clear h20 hC0 hb20 hgc hgl b2 hb1
  go_upto_if 23 with (fail)
  go_cut [5] (fun v wx => v = .pointer (some ⟨gc, 0, none⟩) ∧ Ck wx gc nm T a d ∧ ∃ Z1 : RLoc, Z1 = Z ∧ RR wx (E + 1) Z1 (s.named nm T) ∧ (∀ i, Z1.foot i → i ≠ gc) ∧ Moves Z.foot Z1.foot w wx)
  case first =>
   by_cases h0 : s.tot = 0
   ·have t0 : ((s.tot : Int) == 0) = true := by rw [h0]; rfl
    have HNZ := Lib.hid (named_open (nm := nm) (T := T) h0)
    have HFN := Lib.hid (h2.fit.nameds hnm hT2)
    clear h0
    go_wp2
    refine Flow.wp_region_go (by kernel_rfl) (by kernel_rfl) (by kernel_rfl) 83 rfl (by kernel_rfl) (rkV Z gc nm T) (fun _ L wz => RC wz Z.r (refVs Z.D (cond (L 8) nm s.nm) (cond (L 11) T s.tot) Z.B s.sv s.sf s.mks) ∧ Ck wz gc nm T a d ∧ Turned (fun i => i = Z.r) w2 wz) (fun _ _ => False) (()) (⟨h2.cells.below (Below.refl _ _).drew, hCk.drew, .of_below (Below.refl _ _).drew⟩) ⟨?_, ?_, ?_, ?_, ?_, ?_, ?_, ?_, ?_, ?_, ?_, ?_, trivial⟩ ?_ ?_
    ·intro g L wz K ρ hc0 hf0 hF hO hU hcl hi hd hC hK
     have e0 : ρ (.tmp 0) = .pointer (some ⟨Z.r, 0, none⟩) := hO 0 (by kernel_rfl)
     simp [go_sem, Flow.ylP_value, Flow.ylP_skip, Flow.ylP_enter, Flow.ylP_panic, hc0, hf0, e0]
     exact hK g wz hC (fun _ _ => rfl)
    ·intro g L wz K ρ hc0 hf0 hF hO hU hcl hi hd hC hK
     have e0 : ρ (.tmp 0) = .pointer (some ⟨Z.r, 0, none⟩) := hO 0 (by kernel_rfl)
     simp [go_sem, Flow.ylP_value, Flow.ylP_skip, Flow.ylP_enter, Flow.ylP_panic, hc0, hf0, e0]
     exact hK g wz hC (fun _ _ => rfl)
    ·intro g L wz K ρ hc0 hf0 hF hO hU hcl hi hd hC hK
     have e5 : ρ (.tmp 5) = .pointer (some ⟨gc, 0, none⟩) := hO 5 (by kernel_rfl)
     simp [go_sem, Flow.ylP_value, Flow.ylP_skip, Flow.ylP_enter, Flow.ylP_panic, hc0, hf0, e5]
     exact hK g wz hC (fun _ _ => rfl)
    ·intro g L wz K ρ hc0 hf0 hF hO hU hcl hi hd hC hK
     have d2 : L 2 = true := hd ⟨2, .data⟩ (by simp) rfl
     have e26 : ρ (.tmp 26) = .pointer (some ⟨gc, 0, none⟩) := hF 26 2 (by kernel_rfl) d2
     have cc := hC.2.1.c0
     simp [go_sem, Flow.ylP_value, Flow.ylP_skip, Flow.ylP_enter, Flow.ylP_panic, hc0, hf0, e26, cc]
     exact hK g wz hC (fun _ _ => rfl)
    ·intro g L wz K ρ hc0 hf0 hF hO hU hcl hi hd hC hK
     have e5 : ρ (.tmp 5) = .pointer (some ⟨gc, 0, none⟩) := hO 5 (by kernel_rfl)
     simp [go_sem, Flow.ylP_value, Flow.ylP_skip, Flow.ylP_enter, Flow.ylP_panic, hc0, hf0, e5]
     exact hK g wz hC (fun _ _ => rfl)
    ·intro g L wz K ρ hc0 hf0 hF hO hU hcl hi hd hC hK
     have d4 : L 4 = true := hd ⟨4, .data⟩ (by simp) rfl
     have e28 : ρ (.tmp 28) = .pointer (some ⟨gc, 1, none⟩) := hF 28 4 (by kernel_rfl) d4
     have cc := hC.2.1.c1
     simp [go_sem, Flow.ylP_value, Flow.ylP_skip, Flow.ylP_enter, Flow.ylP_panic, hc0, hf0, e28, cc]
     exact hK g wz hC (fun _ _ => rfl)
    ·intro g L wz K ρ hc0 hf0 hF hO hU hcl hi hd hC hK
     have d0 : L 0 = true := hd ⟨0, .data⟩ (by simp) rfl
     have e24 : ρ (.tmp 24) = .pointer (some ⟨Z.r, 0, none⟩) := hF 24 0 (by kernel_rfl) d0
     simp [go_sem, Flow.ylP_value, Flow.ylP_skip, Flow.ylP_enter, Flow.ylP_panic, hc0, hf0, e24]
     exact hK g wz hC (fun _ _ => rfl)
    ·intro g L wz K ρ hc0 hf0 hF hO hU hcl hi hd hC hK
     have d6 : L 6 = true := hd ⟨6, .data⟩ (by simp) rfl
     have e30 : ρ (.tmp 30) = .pointer (some ⟨Z.r, 0, none⟩) := hF 30 6 (by kernel_rfl) d6
     simp [go_sem, Flow.ylP_value, Flow.ylP_skip, Flow.ylP_enter, Flow.ylP_panic, hc0, hf0, e30]
     exact hK g wz hC (fun _ _ => rfl)
    ·intro g L wz K ρ hc0 hf0 hF hO hU hcl hi hd hC hK
     have d7 : L 7 = true := hd ⟨7, .data⟩ (by simp) rfl
     have e31 : ρ (.tmp 31) = .pointer (some ⟨Z.r, 1, none⟩) := hF 31 7 (by kernel_rfl) d7
     have d3 : L 3 = true := hd ⟨3, .data⟩ (by simp) rfl
     have e27 : ρ (.tmp 27) = .int .u32 (nm : Int) := hF 27 3 (by kernel_rfl) d3
     have fc := (hC.1 1 _ rfl).2
     have cc := (hC.1 1 _ rfl).1
     simp [go_sem, Flow.ylP_value, Flow.ylP_skip, Flow.ylP_enter, Flow.ylP_panic, hc0, hf0, e31, e27, fc, cc]
     exact hK () _ ⟨hC.1.set 1 (.int .u32 (nm : Int)) (by simp [refVs]), hC.2.1.other HG.out _, hC.2.2.trans (.set _ 1 _ rfl)⟩ (fun _ _ => rfl)
    ·intro g L wz K ρ hc0 hf0 hF hO hU hcl hi hd hC hK
     have d1 : L 1 = true := hd ⟨1, .data⟩ (by simp) rfl
     have e25 : ρ (.tmp 25) = .pointer (some ⟨Z.r, 0, none⟩) := hF 25 1 (by kernel_rfl) d1
     simp [go_sem, Flow.ylP_value, Flow.ylP_skip, Flow.ylP_enter, Flow.ylP_panic, hc0, hf0, e25]
     exact hK g wz hC (fun _ _ => rfl)
    ·intro g L wz K ρ hc0 hf0 hF hO hU hcl hi hd hC hK
     have d9 : L 9 = true := hd ⟨9, .data⟩ (by simp) rfl
     have e32 : ρ (.tmp 32) = .pointer (some ⟨Z.r, 0, none⟩) := hF 32 9 (by kernel_rfl) d9
     simp [go_sem, Flow.ylP_value, Flow.ylP_skip, Flow.ylP_enter, Flow.ylP_panic, hc0, hf0, e32]
     exact hK g wz hC (fun _ _ => rfl)
    ·intro g L wz K ρ hc0 hf0 hF hO hU hcl hi hd hC hK
     have d10 : L 10 = true := hd ⟨10, .data⟩ (by simp) rfl
     have e33 : ρ (.tmp 33) = .pointer (some ⟨Z.r, 2, none⟩) := hF 33 10 (by kernel_rfl) d10
     have d5 : L 5 = true := hd ⟨5, .data⟩ (by simp) rfl
     have e29 : ρ (.tmp 29) = .int .i64 (T : Int) := hF 29 5 (by kernel_rfl) d5
     have fc := (hC.1 2 _ rfl).2
     have cc := (hC.1 2 _ rfl).1
     simp [go_sem, Flow.ylP_value, Flow.ylP_skip, Flow.ylP_enter, Flow.ylP_panic, hc0, hf0, e33, e29, fc, cc]
     exact hK () _ ⟨hC.1.set 2 (.int .i64 (T : Int)) (by simp [refVs]), hC.2.1.other HG.out _, hC.2.2.trans (.set _ 2 _ rfl)⟩ (fun _ _ => rfl)
    ·intro g L ch wz h; exact h.elim
    ·intro g L wz hL hC
     rw [hL 8 (by decide), hL 11 (by decide)] at hC
     simp only [Flow.putAll, rkV]
     simp [Act.put]
     obtain ⟨hRC, hCk3, ht3⟩ := hC
     simp only [cond_true] at hRC
     have h3 := h2.recelled hRC ht3 (by rw [← HNZ.out]; exact HFN.out)
     rw [← HNZ.out] at h3
     have hm3 : Moves Z.foot Z.foot w wz := (Moves.of_below hb2).trans (.of_turned ht3 fun i hi => .inl hi)
     clear hRC ht3 hCk c2
     go_wp2
     go_meet
     exact ⟨rfl, hCk3, Z, rfl, h3, fun i hi => Nat.ne_of_lt (HGF.out i hi), hm3⟩
   ·have t0 : ((s.tot : Int) == 0) = false := beq_eq_false_iff_ne.2 (by omega)
    have hn : s.named nm T = s := by unfold Rst.named; rw [if_neg h0]
    have HN := Lib.hid hn
    clear hn h0
    go_wp2
    go_meet
    exact ⟨rfl, hCk, Z, rfl, by rw [HN.out]; exact h2, fun i hi => Nat.ne_of_lt (HGF.out i hi), .of_below hb2⟩
  case rest =>
   obtain ⟨rfl, hCk1, Z1, hZr, h5, hgc, hm5⟩ := hcut
   have HGF5 := Lib.hid hgc
   clear h2 hCk hb2 c2 hgc
   generalize hww : wc = w5 at *
   clear hww
   have HZR := Lib.hid (show Z1.r = Z.r by rw [hZr])
   have HCB := Lib.hid (show Z1.b ≤ 5000 * E by rw [hZr]; exact HCB0.out)
   have hZr := HZR.out
   by_cases hg : s.tot = 0 ∨ nm = s.nm ∧ T = s.tot
   ·have hs1 : (s.named nm T).nm = nm ∧ (s.named nm T).tot = T := by
     unfold Rst.named
     split
     ·exact ⟨rfl, rfl⟩
     ·rename_i h0
      rcases hg with q | ⟨q1, q2⟩
      ·exact absurd q h0
      ·exact ⟨q1.symm, q2.symm⟩
    have e1 := Lib.hid (takeE_good HU.out hg)
    have e2 := Lib.hid (take_good HU.out e1.out)
    obtain ⟨s1, hs⟩ : ∃ s1, s1 = s.named nm T := ⟨_, rfl⟩
    rw [← hs] at h5 hs1
    have hsc : s1.came = s.came := by rw [hs]; exact named_came s nm T
    have HS := Lib.hid hs
    have HSC := Lib.hid hsc
    obtain ⟨hn1, hn2⟩ := hs1
    have c1 := h5.cell 1 rfl
    have c2 := h5.cell 2 rfl
    rw [hZr, hn1] at c1
    rw [hZr, hn2] at c2
    have cc0 := hCk1.c0
    have cc1 := hCk1.c1
    have h6F := Lib.hid h5.fit
    have HN2 := Lib.hid hn2
    clear hg hs hsc hn1 hn2 hZr
    go_wp2
    go_quiet (fail)
    have h6 := h5.drewN nq
    have hCk6 := hCk1.turned (F := fun _ => False) (.of_below (below_drewN (Below.refl _ w5) nq)) id
    have hm6 : Moves Z.foot Z1.foot w (w5.drewN nq) := hm5.trans (.of_below (below_drewN (Below.refl _ w5) nq))
    clear h5 hCk1 hm5 c1 c2 cc0 cc1
    generalize w5.drewN nq = w6 at *
    have cc3 := hCk6.c3
    obtain ⟨Cc, W, hcv, hBt, hbel⟩ := bytes_of (P := Tryz.prog) w6 9 69 5 d Tryz.underlying9 Tryz.underlying69 Tryz.underlying5
    have h7 := h6.below hbel
    have hCk7 := hCk6.below hbel
    have hm7 := hm6.trans (.of_below hbel)
    obtain ⟨gb, hgb⟩ : ∃ gb, gb = w6.heap.size := ⟨_, rfl⟩
    have HGB0 : Hid (∀ i, Z1.foot i → i ≠ gb) := Lib.hid fun i hi => by have := h6.low i hi; omega
    rw [← hgb] at hcv hBt
    clear h6 hCk6 hm6 hgb hbel
    go_wp2
    clear hcv cc3
    go_loopw [7, 54] (fun _ kv wr => ∃ k : Nat, k ≤ d.size ∧ kv = .int .i64 (k : Int) ∧ RR wr (E + 1) { Z1 with b := Z1.b + k } { s1 with came := Rst.fill s1.came a d.data.toList k } ∧ BytesAt wr gb d.data.toList ∧ Turned (fun i => i = Z1.B) W wr) (fun _ kv _ => d.size - (intOf kv).toNat)
    case atStart => exact ⟨0, Nat.zero_le _, rfl, h7, hBt, .refl _ _⟩
    case round =>
     clear hBt h7
     obtain ⟨k, hk, rfl, hP, hB, hT⟩ := hrel
     obtain ⟨f, hf⟩ : ∃ f, f = Rst.fill s1.came a d.data.toList k := ⟨_, rfl⟩
     rw [← hf] at hP
     by_cases hlt : k < d.size
     ·have t0 : decide ((k : Int) < (d.size : Int)) = true := decide_eq_true (by omega)
      have t0' : decide (k < d.size) = true := decide_eq_true hlt
      have hdl : d.data.toList.length = d.size := by simp
      have cK := (hB k (by omega)).1
      obtain ⟨x, hx⟩ : ∃ x, x = d.data.toList.getD k 0 := ⟨_, rfl⟩
      rw [← hx] at cK
      have HX6 : Hid (a + k ≤ 1000000) := Lib.hid (by omega)
      have c3 := hP.cell 3 rfl
      simp only [HZR.out] at c3
      have HBM := Lib.hid hP.came
      have HRB : Hid (¬ Z.r = Z1.B) := Lib.hid (by rw [← HZR.out]; exact hP.rB)
      have HGB : Hid (¬ gc = Z1.B) := Lib.hid fun q => HGF5.out Z1.B (.inr (.inr (.inr (.inr rfl)))) q.symm
      have HGX : Hid (¬ gb = Z1.B) := Lib.hid fun q => HGB0.out Z1.B (.inr (.inr (.inr (.inr rfl)))) q.symm
      have hCkr := hCk7.turned hT HGB.out
      have cc2 := hCkr.c2
      have W1 := Lib.hid (w_in ((a : Int) + (k : Int)) (a + k) (by omega) (by omega))
      have W2 := Lib.hid (w_in ((k : Int) + 1) (k + 1) (by omega) (by omega))
      have hkd0 : (0 : Int) ≤ (k : Int) := by omega
      have hkd1 : (k : Int) < (d.size : Int) := by omega
      have hkd : k < d.size := hlt
      have HBN : Hid (Z1.b + k < maxLen) := Lib.hid (by have := HCB.out; unfold maxLen; omega)
      have HCB9 : Hid (Z1.b + (k + 1) ≤ 5000 * (E + 1)) := Lib.hid (by have := HCB.out; omega)
      have HFX : Hid (RFit (E + 1) s1 ∧ a + d.size ≤ s1.tot) := Lib.hid ⟨h6F.out, by rw [HN2.out]; exact had⟩
      have HAK : Hid (a + (k + 1) ≤ s1.tot) := Lib.hid (by have := HFX.out.2; omega)
      have HM := Lib.hid (show d.size - ((k : Int) + 1).toNat < d.size - k by omega)
      have HF := Lib.hid hf
      have HXX := Lib.hid hx
      clear hf hx hdl
      obtain ⟨wak1, wak2⟩ := W1.out
      obtain ⟨wk1, wk2⟩ := W2.out
      clear W1 W2
      go_wp2
      refine Flow.wp_region_go (by kernel_rfl) (by kernel_rfl) (by kernel_rfl) 83 rfl (by kernel_rfl) (rlV Z Z1 gc a k f) (fun _ L wz => Turned (fun _ => False) wr wz) (fun _ _ => False) (()) (.of_below (Below.refl _ _).drew) ⟨?_, ?_, ?_, ?_, ?_, ?_, ?_, ?_, ?_, ?_, ?_, ?_, ?_, ?_, trivial⟩ ?_ ?_
      ·intro g L wz K ρ hc0 hf0 hF hO hU hcl hi hd hC hK
       have e0 : ρ (.tmp 0) = .pointer (some ⟨Z.r, 0, none⟩) := hO 0 (by kernel_rfl)
       simp [go_sem, Flow.ylP_value, Flow.ylP_skip, Flow.ylP_enter, Flow.ylP_panic, hc0, hf0, e0]
       exact hK g wz hC (fun _ _ => rfl)
      ·intro g L wz K ρ hc0 hf0 hF hO hU hcl hi hd hC hK
       have d0 : L 0 = true := hd ⟨0, .data⟩ (by simp) rfl
       have e60 : ρ (.tmp 60) = .pointer (some ⟨Z.r, 0, none⟩) := hF 60 0 (by kernel_rfl) d0
       simp [go_sem, Flow.ylP_value, Flow.ylP_skip, Flow.ylP_enter, Flow.ylP_panic, hc0, hf0, e60]
       exact hK g wz hC (fun _ _ => rfl)
      ·intro g L wz K ρ hc0 hf0 hF hO hU hcl hi hd hC hK
       have d1 : L 1 = true := hd ⟨1, .data⟩ (by simp) rfl
       have e61 : ρ (.tmp 61) = .pointer (some ⟨Z.r, 0, none⟩) := hF 61 1 (by kernel_rfl) d1
       simp [go_sem, Flow.ylP_value, Flow.ylP_skip, Flow.ylP_enter, Flow.ylP_panic, hc0, hf0, e61]
       exact hK g wz hC (fun _ _ => rfl)
      ·intro g L wz K ρ hc0 hf0 hF hO hU hcl hi hd hC hK
       have d2 : L 2 = true := hd ⟨2, .data⟩ (by simp) rfl
       have e62 : ρ (.tmp 62) = .pointer (some ⟨Z.r, 3, none⟩) := hF 62 2 (by kernel_rfl) d2
       have cc := hC.cell c3 id
       simp [go_sem, Flow.ylP_value, Flow.ylP_skip, Flow.ylP_enter, Flow.ylP_panic, hc0, hf0, e62, cc]
       exact hK g wz hC (fun _ _ => rfl)
      ·intro g L wz K ρ hc0 hf0 hF hO hU hcl hi hd hC hK
       have e5 : ρ (.tmp 5) = .pointer (some ⟨gc, 0, none⟩) := hO 5 (by kernel_rfl)
       simp [go_sem, Flow.ylP_value, Flow.ylP_skip, Flow.ylP_enter, Flow.ylP_panic, hc0, hf0, e5]
       exact hK g wz hC (fun _ _ => rfl)
      ·intro g L wz K ρ hc0 hf0 hF hO hU hcl hi hd hC hK
       have d4 : L 4 = true := hd ⟨4, .data⟩ (by simp) rfl
       have e64 : ρ (.tmp 64) = .pointer (some ⟨gc, 2, none⟩) := hF 64 4 (by kernel_rfl) d4
       have cc := hC.cell cc2 id
       simp [go_sem, Flow.ylP_value, Flow.ylP_skip, Flow.ylP_enter, Flow.ylP_panic, hc0, hf0, e64, cc]
       exact hK g wz hC (fun _ _ => rfl)
      ·intro g L wz K ρ hc0 hf0 hF hO hU hcl hi hd hC hK
       have e7 : ρ (.tmp 7) = .int .i64 (k : Int) := hO 7 (by kernel_rfl)
       simp [go_sem, Flow.ylP_value, Flow.ylP_skip, Flow.ylP_enter, Flow.ylP_panic, hc0, hf0, e7]
       exact hK g wz hC (fun _ _ => rfl)
      ·intro g L wz K ρ hc0 hf0 hF hO hU hcl hi hd hC hK
       have d5 : L 5 = true := hd ⟨5, .data⟩ (by simp) rfl
       have e65 : ρ (.tmp 65) = .int .i64 (a : Int) := hF 65 5 (by kernel_rfl) d5
       have d6 : L 6 = true := hd ⟨6, .data⟩ (by simp) rfl
       have e66 : ρ (.tmp 66) = .int .i64 (k : Int) := hF 66 6 (by kernel_rfl) d6
       simp [go_sem, Flow.ylP_value, Flow.ylP_skip, Flow.ylP_enter, Flow.ylP_panic, hc0, hf0, e65, e66, wak1, wak2]
       exact hK g wz hC (fun _ _ => rfl)
      ·intro g L wz K ρ hc0 hf0 hF hO hU hcl hi hd hC hK
       have d3 : L 3 = true := hd ⟨3, .data⟩ (by simp) rfl
       have e63 : ρ (.tmp 63) = .map (some Z1.B) := hF 63 3 (by kernel_rfl) d3
       have d7 : L 7 = true := hd ⟨7, .data⟩ (by simp) rfl
       have e67 : ρ (.tmp 67) = .int .i64 ((a + k : Nat) : Int) := hF 67 7 (by kernel_rfl) d7
       have hl := (hC.bm HBM.out id).look_ok (a + k) HX6.out
       unfold execOp
       simp only [resolve, Sem.run_bind, Sem.run_pure, Result.andThen_ok, e63, e67, hl]
       exact hK g wz hC (fun _ _ => rfl)
      ·intro g L wz K ρ hc0 hf0 hF hO hU hcl hi hd hC hK
       have d8 : L 8 = true := hd ⟨8, .data⟩ (by simp) rfl
       have e68 : ρ (.tmp 68) = .tuple #[.int .u8 (((f (a + k)).getD 0).toNat : Int), .bool (f (a + k)).isSome] := hF 68 8 (by kernel_rfl) d8
       simp [go_sem, Flow.ylP_value, Flow.ylP_skip, Flow.ylP_enter, Flow.ylP_panic, hc0, hf0, e68]
       exact hK g wz hC (fun _ _ => rfl)
      ·intro g L wz K ρ hc0 hf0 hF hO hU hcl hi hd hC hK
       have d9 : L 9 = true := hd ⟨9, .data⟩ (by simp) rfl
       have e59 : ρ (.tmp 59) = .tuple #[.int .u8 (((f (a + k)).getD 0).toNat : Int), .bool (f (a + k)).isSome] := hF 59 9 (by kernel_rfl) d9
       simp [go_sem, Flow.ylP_value, Flow.ylP_skip, Flow.ylP_enter, Flow.ylP_panic, hc0, hf0, e59]
       exact hK g wz hC (fun _ _ => rfl)
      ·intro g L wz K ρ hc0 hf0 hF hO hU hcl hi hd hC hK
       have d9 : L 9 = true := hd ⟨9, .data⟩ (by simp) rfl
       have e59 : ρ (.tmp 59) = .tuple #[.int .u8 (((f (a + k)).getD 0).toNat : Int), .bool (f (a + k)).isSome] := hF 59 9 (by kernel_rfl) d9
       simp [go_sem, Flow.ylP_value, Flow.ylP_skip, Flow.ylP_enter, Flow.ylP_panic, hc0, hf0, e59]
       exact hK g wz hC (fun _ _ => rfl)
      ·intro g L wz K ρ hc0 hf0 hF hO hU hcl hi hd hC hK
       have d10 : L 10 = true := hd ⟨10, .data⟩ (by simp) rfl
       have e69 : ρ (.tmp 69) = .int .u8 (((f (a + k)).getD 0).toNat : Int) := hF 69 10 (by kernel_rfl) d10
       simp [go_sem, Flow.ylP_value, Flow.ylP_skip, Flow.ylP_enter, Flow.ylP_panic, hc0, hf0, e69]
       exact hK g wz hC (fun _ _ => rfl)
      ·intro g L wz K ρ hc0 hf0 hF hO hU hcl hi hd hC hK
       have d11 : L 11 = true := hd ⟨11, .data⟩ (by simp) rfl
       have e70 : ρ (.tmp 70) = .bool (f (a + k)).isSome := hF 70 11 (by kernel_rfl) d11
       simp [go_sem, Flow.ylP_value, Flow.ylP_skip, Flow.ylP_enter, Flow.ylP_panic, hc0, hf0, e70]
       exact hK g wz hC (fun _ _ => rfl)
      ·intro g L ch wz h; exact h.elim
      ·intro g L wz hL hC
       simp only [Flow.putAll, rlV]
       simp [Act.put]
       have hP9 := hP.stays hC (fun _ _ => id)
       have hB9 := hB.turned2 hC id
       have hT9 := hT.trans (hC.mono fun _ q => q.elim)
       have c3 := hC.cell c3 id
       have cc2 := hC.cell cc2 id
       clear hP hB hT hC hCkr cK
       generalize wz = w9 at *
       have hBM9 := hP9.came
       cases hx : (f (a + k)).isSome with
       | true =>
        have hnx := Lib.hid (fill_yes (c := s1.came) (a := a) (d := d.data.toList) (k := k) (by rw [← HF.out]; exact hx))
        clear hx
        go_wp2
        go_roundw
        case rel => exact ⟨k + 1, hkd, by go_num, by rw [hnx.out, ← HF.out]; exact RR.wider (Z := Z1) (b := Z1.b + k) hP9 HCB9.out, hB9, hT9⟩
        case measure => simpa [intOf] using HM.out
       | false =>
        have hnx0 := fill_no (c := s1.came) (a := a) (d := d.data.toList) (k := k) (by rw [← HF.out]; exact hx)
        rw [← HF.out, ← HXX.out] at hnx0
        have hnx := Lib.hid hnx0
        have HFN9 : Hid (RFit (E + 1) { s1 with came := bup f (a + k) x }) := Lib.hid (by rw [← hnx0]; exact HFX.out.1.fills HAK.out)
        have HCB := HCB9
        clear hx hnx0
        go_wp2
        refine Flow.wp_region_go (by kernel_rfl) (by kernel_rfl) (by kernel_rfl) 83 rfl (by kernel_rfl) (roV Z Z1 gc a k x) (fun _ L wz => BM wz Z1.B (cond (L 9) (Z1.b + k + 1) (Z1.b + k)) (cond (L 9) (bup f (a + k) x) f) ∧ Turned (fun i => i = Z1.B) w9 wz) (fun _ _ => False) (()) (⟨(Turned.of_below (S := fun _ => False) (Below.refl _ _).drew).bm hBM9 id, .of_below (Below.refl _ _).drew⟩) ⟨?_, ?_, ?_, ?_, ?_, ?_, ?_, ?_, ?_, ?_, trivial⟩ ?_ ?_
        ·intro g L wz K ρ hc0 hf0 hF hO hU hcl hi hd hC hK
         have e0 : ρ (.tmp 0) = .pointer (some ⟨Z.r, 0, none⟩) := hO 0 (by kernel_rfl)
         simp [go_sem, Flow.ylP_value, Flow.ylP_skip, Flow.ylP_enter, Flow.ylP_panic, hc0, hf0, e0]
         exact hK g wz hC (fun _ _ => rfl)
        ·intro g L wz K ρ hc0 hf0 hF hO hU hcl hi hd hC hK
         have d0 : L 0 = true := hd ⟨0, .data⟩ (by simp) rfl
         have e73 : ρ (.tmp 73) = .pointer (some ⟨Z.r, 0, none⟩) := hF 73 0 (by kernel_rfl) d0
         simp [go_sem, Flow.ylP_value, Flow.ylP_skip, Flow.ylP_enter, Flow.ylP_panic, hc0, hf0, e73]
         exact hK g wz hC (fun _ _ => rfl)
        ·intro g L wz K ρ hc0 hf0 hF hO hU hcl hi hd hC hK
         have d1 : L 1 = true := hd ⟨1, .data⟩ (by simp) rfl
         have e74 : ρ (.tmp 74) = .pointer (some ⟨Z.r, 0, none⟩) := hF 74 1 (by kernel_rfl) d1
         simp [go_sem, Flow.ylP_value, Flow.ylP_skip, Flow.ylP_enter, Flow.ylP_panic, hc0, hf0, e74]
         exact hK g wz hC (fun _ _ => rfl)
        ·intro g L wz K ρ hc0 hf0 hF hO hU hcl hi hd hC hK
         have d2 : L 2 = true := hd ⟨2, .data⟩ (by simp) rfl
         have e75 : ρ (.tmp 75) = .pointer (some ⟨Z.r, 3, none⟩) := hF 75 2 (by kernel_rfl) d2
         have cc := hC.2.cell c3 HRB.out
         simp [go_sem, Flow.ylP_value, Flow.ylP_skip, Flow.ylP_enter, Flow.ylP_panic, hc0, hf0, e75, cc]
         exact hK g wz hC (fun _ _ => rfl)
        ·intro g L wz K ρ hc0 hf0 hF hO hU hcl hi hd hC hK
         have e5 : ρ (.tmp 5) = .pointer (some ⟨gc, 0, none⟩) := hO 5 (by kernel_rfl)
         simp [go_sem, Flow.ylP_value, Flow.ylP_skip, Flow.ylP_enter, Flow.ylP_panic, hc0, hf0, e5]
         exact hK g wz hC (fun _ _ => rfl)
        ·intro g L wz K ρ hc0 hf0 hF hO hU hcl hi hd hC hK
         have d4 : L 4 = true := hd ⟨4, .data⟩ (by simp) rfl
         have e77 : ρ (.tmp 77) = .pointer (some ⟨gc, 2, none⟩) := hF 77 4 (by kernel_rfl) d4
         have cc := hC.2.cell cc2 HGB.out
         simp [go_sem, Flow.ylP_value, Flow.ylP_skip, Flow.ylP_enter, Flow.ylP_panic, hc0, hf0, e77, cc]
         exact hK g wz hC (fun _ _ => rfl)
        ·intro g L wz K ρ hc0 hf0 hF hO hU hcl hi hd hC hK
         have e7 : ρ (.tmp 7) = .int .i64 (k : Int) := hO 7 (by kernel_rfl)
         simp [go_sem, Flow.ylP_value, Flow.ylP_skip, Flow.ylP_enter, Flow.ylP_panic, hc0, hf0, e7]
         exact hK g wz hC (fun _ _ => rfl)
        ·intro g L wz K ρ hc0 hf0 hF hO hU hcl hi hd hC hK
         have d5 : L 5 = true := hd ⟨5, .data⟩ (by simp) rfl
         have e78 : ρ (.tmp 78) = .int .i64 (a : Int) := hF 78 5 (by kernel_rfl) d5
         have d6 : L 6 = true := hd ⟨6, .data⟩ (by simp) rfl
         have e79 : ρ (.tmp 79) = .int .i64 (k : Int) := hF 79 6 (by kernel_rfl) d6
         simp [go_sem, Flow.ylP_value, Flow.ylP_skip, Flow.ylP_enter, Flow.ylP_panic, hc0, hf0, e78, e79, wak1, wak2]
         exact hK g wz hC (fun _ _ => rfl)
        ·intro g L wz K ρ hc0 hf0 hF hO hU hcl hi hd hC hK
         have e8 : ρ (.tmp 8) = .int .u8 (x.toNat : Int) := hO 8 (by kernel_rfl)
         simp [go_sem, Flow.ylP_value, Flow.ylP_skip, Flow.ylP_enter, Flow.ylP_panic, hc0, hf0, e8]
         exact hK g wz hC (fun _ _ => rfl)
        ·intro g L wz K ρ hc0 hf0 hF hO hU hcl hi hd hC hK
         have d3 : L 3 = true := hd ⟨3, .data⟩ (by simp) rfl
         have e76 : ρ (.tmp 76) = .map (some Z1.B) := hF 76 3 (by kernel_rfl) d3
         have d7 : L 7 = true := hd ⟨7, .data⟩ (by simp) rfl
         have e80 : ρ (.tmp 80) = .int .i64 ((a + k : Nat) : Int) := hF 80 7 (by kernel_rfl) d7
         have d8 : L 8 = true := hd ⟨8, .data⟩ (by simp) rfl
         have e81 : ρ (.tmp 81) = .int .u8 (x.toNat : Int) := hF 81 8 (by kernel_rfl) d8
         rw [hi] at hC
         obtain ⟨w8, hrun, hbm, hg8⟩ := hC.1.put (a + k) HX6.out HBN.out x
         unfold execOp
         simp only [resolve, Sem.run_bind, Sem.run_pure, Result.andThen_ok, e76, e80, e81, hrun]
         refine hK g w8 ?_ (fun _ _ => rfl)
         exact ⟨hbm, hC.2.trans (.of_grown hg8 rfl)⟩
        ·intro g L ch wz h; exact h.elim
        ·intro g L wz hL hC
         rw [hL 9 (by decide)] at hC
         simp only [Flow.putAll, roV]
         simp [Act.put]
         obtain ⟨p1, p2⟩ := hC
         have hP10 := hP9.came_put p2 p1 HCB.out HFN9.out
         rw [← hnx.out] at hP10
         have hT10 := hT9.trans p2
         have hB10 := hB9.turned2 p2 HGX.out
         clear hP9 p1 p2 hT9 hB9 c3 cc2 wak1 wak2 hBM9
         go_wp2
         go_roundw
         case rel => exact ⟨k + 1, hkd, by go_num, hP10, hB10, hT10⟩
         case measure => simpa [intOf] using HM.out
     ·obtain rfl : k = d.size := by omega
      have t0 : decide ((d.size : Int) < (d.size : Int)) = false := decide_eq_false (by omega)
      have t0' : decide (d.size < d.size) = false := decide_eq_false hlt
      have HF := Lib.hid hf
      clear hlt hf
      go_wp2
      go_ret
      rw [e1.out, e2.out]
      refine ⟨rfl, { Z1 with b := Z1.b + d.size }, HZR.out, ?_, hm7.trans (.of_turned hT fun i hi => .inr (.inr (.inr (.inr hi))))⟩
      rw [← HS.out, ← HSC.out, ← HF.out]
      exact hP
   ·have h0 : s.tot ≠ 0 := fun q => hg (.inl q)
    have hbd : ¬ (nm = s.nm ∧ T = s.tot) := fun q => hg (.inr q)
    have e1 := Lib.hid (takeE_name HU.out h0 hbd)
    have e2 := Lib.hid (take_bad (s := s) (t := t) (by rw [e1.out]; decide))
    have hs : s.named nm T = s := by unfold Rst.named; rw [if_neg h0]
    rw [hs] at h5
    have c1 := h5.cell 1 rfl
    have c2 := h5.cell 2 rfl
    rw [hZr] at c1 c2
    have cc0 := hCk1.c0
    have cc1 := hCk1.c1
    by_cases hn : nm = s.nm
    ·have t2 : ((s.tot : Int) != (T : Int)) = true := bne_iff_ne.2 (fun q => hbd ⟨hn, (Int.ofNat.inj q).symm⟩)
     rw [← hn] at c1
     clear hg hs hn hbd h0 hZr
     go_wp2
     go_quiet (fail)
     go_wp2
     go_ret
     rw [e1.out, e2.out]
     exact ⟨rfl, Z1, HZR.out, h5.drewN nq, hm5.trans (.of_below (below_drewN (Below.refl _ w5) nq))⟩
    ·have t1 : ((s.nm : Int) != (nm : Int)) = true := bne_iff_ne.2 (fun q => hn (Int.ofNat.inj q).symm)
     clear hg hs hn hbd h0 hZr
     go_wp2
     go_quiet (fail)
     go_wp2
     go_ret
     rw [e1.out, e2.out]
     exact ⟨rfl, Z1, HZR.out, h5.drewN nq, hm5.trans (.of_below (below_drewN (Below.refl _ w5) nq))⟩
 ·have e1 := Lib.hid (takeE_bad (s := s) he)
  have e2 := Lib.hid (take_bad (s := s) (by rw [e1.out]; exact he))
  obtain ⟨x, e, hx⟩ : ∃ x e, unchunk t = (x, e) := ⟨_, _, rfl⟩
  rw [hx] at e1 he ⊢
  simp only at e1 he ⊢
  obtain ⟨m, tt, aa, d⟩ := x
  have b2 := below1 w1 (ckO m tt aa d)
  have h2 := h1.below b2
  have hb2 := hb1.trans (b2.mono hb1.size)
  have te : (e != 0) = true := bne_iff_ne.2 he
  clear he hx h1 h hb1 b2
  unfold ckVal
  simp only
  go_wp2
  go_ret
  rw [e1.out, e2.out]
  exact ⟨rfl, Z, rfl, h2, .of_below hb2⟩
end Go.Proofs.YtfefpcdgflgaeaaGreatDoor
end

section
namespace Go.Proofs.YtfefpcdgflgaeaaGreatDoor
set_option linter.unusedSimpArgs false
set_option linter.unusedVariables false
open Go.RowKit As Go.Maps
theorem rread_safe {w : World} {d M1 M2 n1 n2 : Nat} {S : DF} (h : RD w d M1 M2 140 n1 n2 S (fun _ => none)) {i : Nat} (hi : i < 140) :
  Calls Tryz.prog 49 #[.pointer (some ⟨d, 0, none⟩), .int .i64 (i : Int)] w fun e w' => e = .returned (.tuple #[.string (safeAt S i), .int .i64 0]) ∧ Below w.heap.size w w' :=
 (rread_any h (i : Int)).mono fun _ _ ⟨a, b⟩ => ⟨by rw [a, (dread_safe (S := S) hi).1, (dread_safe (S := S) hi).2], b⟩
/-- All sectors behind the first two, so many. -/
def allL (S : DF) (k : Nat) : List UInt8 := (List.range (32 * k)).map (Rst.sect S)
theorem allL_len (S : DF) (k : Nat) : (allL S k).length = 32 * k := by simp [allL]
theorem allL_at (S : DF) {k i : Nat} (h : i < 32 * k) : (allL S k)[i]? = some (Rst.sect S i) := by unfold allL; rw [List.getElem?_map, List.getElem?_range h]; rfl
theorem allL_next (S : DF) (k : Nat) (hs : (safeAt S (2 + k)).size = 32) : allL S k ++ (safeAt S (2 + k)).data.toList = allL S (k + 1) := by
 have hl : (safeAt S (2 + k)).data.toList.length = 32 := by simpa using hs
 apply List.ext_getElem?
 intro i
 by_cases h1 : i < 32 * k
 ·rw [List.getElem?_append_left (by rw [allL_len]; exact h1), allL_at S h1, allL_at S (by omega)]
 ·rw [List.getElem?_append_right (by rw [allL_len]; omega), allL_len]
  by_cases h2 : i < 32 * (k + 1)
  ·rw [allL_at S h2]
   unfold Rst.sect
   rw [show i / 32 = k by omega, show i % 32 = i - 32 * k by omega, List.getD_eq_getElem?_getD, List.getElem?_eq_getElem (by omega)]
   rfl
  ·rw [List.getElem?_eq_none (by omega), List.getElem?_eq_none (by rw [allL_len]; omega)]
theorem all_next (S : DF) (k : Nat) (hs : (safeAt S (2 + k)).size = 32) : strOf (allL S k) ++ safeAt S (2 + k) = strOf (allL S (k + 1)) := by
 rw [← allL_next S k hs, strOf_add]
theorem all_at (S : DF) {k i : Nat} (h : i < 32 * k) (hi : i < (strOf (allL S k)).size) : (strOf (allL S k))[i]'hi = Rst.sect S i := by
 have h1 := Crc.byte_at (strOf (allL S k)) i hi
 rw [← h1]
 show ((allL S k).toArray.toList).getD i 0 = _
 rw [List.getD_eq_getElem?_getD]
 simp only [List.toList_toArray]
 rw [allL_at S h]
 rfl
theorem geq_yes {q p : Nat} (h : q < p + 1) : decide (q ≤ p) = true := decide_eq_true (by omega)
theorem geq_no {q p : Nat} (h : ¬ q < p + 1) : decide (q ≤ p) = false := decide_eq_false (by omega)
def rzV (Z : RLoc) (B i : Nat) (z : ByteArray) (hiz : i < z.size) (g : Unit) : Nat → Value
 | 0 => .pointer (some ⟨Z.r, 0, none⟩)
 | 1 => .pointer (some ⟨Z.r, 0, none⟩)
 | 2 => .pointer (some ⟨Z.r, 3, none⟩)
 | 3 => .map (some B)
 | 4 => .int .i64 (i : Int)
 | 5 => .string z
 | 6 => .int .i64 (i : Int)
 | 7 => .int .u8 ((z[i]'hiz).toNat : Int)
 | _ => undef
set_option maxHeartbeats 8000000 in
set_option maxRecDepth 100000 in
theorem rcrashr_any {w : World} {E : Nat} {Z : RLoc} {s : Rst} {mask : Nat} (h : RR w E Z s) (hm : mask < 18446744073709551616) (hE : E + 1 ≤ 1000000) :
  Calls Tryz.prog 18 #[.pointer (some ⟨Z.r, 0, none⟩), .int .u64 (mask : Int)] w fun e w' => e = .returned (.int .i64 ((s.crash mask).sf : Int)) ∧ RGoes w (E + 1) Z (s.crash mask) w' := by
 have hmm := @run_makeMap Tryz.prog
 have c0 := h.cell 0 rfl
 go_enter Tryz.func18, Tryz.ntmps18
 go_wp2_with fail
 refine (rcrash_any (mask := mask) h.disk hm (by have := h.c1; have := h.fit.k; unfold maxLen; omega)).mono ?_
 rintro e w1 ⟨M, rfl, hd1, hM1, ht1⟩
 have hRC := h.cells.turned ht1 h.off.1
 have HI := Lib.hid (And.intro h.rD (And.intro h.r1 (And.intro h.c1 (show Z.r ≠ M from Nat.ne_of_lt (Nat.lt_of_lt_of_le (h.low Z.r (.inl rfl)) hM1)))))
 have hmv1 : Moves Z.foot ({ Z with n1 := Z.n1 + 140, n2 := 0, M2 := M } : RLoc).foot w w1 := disked_moves ht1 (.inr hM1)
 have HL : Hid (Z.r < w1.heap.size ∧ Z.D < w1.heap.size ∧ Z.M1 < w1.heap.size ∧ M < w1.heap.size) := Lib.hid ⟨Nat.lt_of_lt_of_le (h.low Z.r (.inl rfl)) ht1.size, Nat.lt_of_lt_of_le (h.low Z.D (.inr (.inl rfl))) ht1.size, Nat.lt_of_lt_of_le (h.low Z.M1 (.inr (.inr (.inl rfl)))) ht1.size, hd1.i2.lt⟩
 have HFE := Lib.hid ((h.fit.crash mask).mono (Nat.le_succ E) hE)
 have HRS := Lib.hid (And.intro h.fit.k (h.fit.rcrash mask))
 have HCR := Lib.hid (show s.crash mask = Rst.of (crashed 140 mask s.S s.X) (pks (crashed 140 mask s.S s.X) 2) from rfl)
 have HFD := Lib.hid (h.fit.d.crash (mask := mask))
 generalize crashed 140 mask s.S s.X = S at *
 obtain ⟨B, hB⟩ : ∃ B, B = w1.heap.size := ⟨_, rfl⟩
 have bm := below1 w1 (.map #[] 0)
 have hBM0 := BM.made w1
 rw [← hB] at hBM0
 have hR0 := hRC.below bm
 have hD0 := hd1.below bm
 have HBN0 : Hid (Z.r ≠ B ∧ Z.D ≠ B ∧ Z.M1 ≠ B ∧ M ≠ B) := Lib.hid (by have := HL.out; omega)
 have c00 := (hRC 0 _ rfl).1
 clear hd1
 have c0 := (hR0 0 _ rfl).1
 have c1 := (hR0 1 _ rfl).1
 have c2 := (hR0 2 _ rfl).1
 have c3 := (hR0 3 _ rfl).1
 have c4 := (hR0 4 _ rfl).1
 have c5 := (hR0 5 _ rfl).1
 have c6 := (hR0 6 _ rfl).1
 have f0 := (hR0 0 _ rfl).2
 have f1 := (hR0 1 _ rfl).2
 have f2 := (hR0 2 _ rfl).2
 have f3 := (hR0 3 _ rfl).2
 have f4 := (hR0 4 _ rfl).2
 have f5 := (hR0 5 _ rfl).2
 have f6 := (hR0 6 _ rfl).2
 have HRC := Lib.hid hRC
 clear hRC
 have HB := Lib.hid hB
 go_upto_region 3 with (fail)
 rw [← HB.out]
 have hR2 := (((((((hR0.set 0 (.pointer (some ⟨Z.D, 0, none⟩)) (by simp [refVs])).set 1 (.int .u32 0) (by simp [refVs])).set 2 (.int .i64 0) (by simp [refVs])).set 3 (.map (some B)) (by simp [refVs])).set 4 (.int .i64 0) (by simp [refVs])).set 5 (.int .i64 0) (by simp [refVs])).set 6 (.int .i64 0) (by simp [refVs]))
 have ht2 : Turned (fun i => i = Z.r) (w1.alloc (.map #[] 0)) ((((((((w1.alloc (.map #[] 0)).setCell ⟨Z.r, 0, none⟩ (.pointer (some ⟨Z.D, 0, none⟩))).setCell ⟨Z.r, 1, none⟩ (.int .u32 0)).setCell ⟨Z.r, 2, none⟩ (.int .i64 0)).setCell ⟨Z.r, 3, none⟩ (.map (some B))).setCell ⟨Z.r, 4, none⟩ (.int .i64 0)).setCell ⟨Z.r, 5, none⟩ (.int .i64 0)).setCell ⟨Z.r, 6, none⟩ (.int .i64 0)) :=
  ((((((set_r _ Z.r 0 _).trans (set_r _ Z.r 1 _)).trans (set_r _ Z.r 2 _)).trans (set_r _ Z.r 3 _)).trans (set_r _ Z.r 4 _)).trans (set_r _ Z.r 5 _)).trans (set_r _ Z.r 6 _)
 clear c00 c0 c1 c2 c3 c4 c5 c6 f0 f1 f2 f3 f4 f5 f6 HRC hR0
 generalize ((((((((w1.alloc (.map #[] 0)).setCell ⟨Z.r, 0, none⟩ (.pointer (some ⟨Z.D, 0, none⟩))).setCell ⟨Z.r, 1, none⟩ (.int .u32 0)).setCell ⟨Z.r, 2, none⟩ (.int .i64 0)).setCell ⟨Z.r, 3, none⟩ (.map (some B))).setCell ⟨Z.r, 4, none⟩ (.int .i64 0)).setCell ⟨Z.r, 5, none⟩ (.int .i64 0)).setCell ⟨Z.r, 6, none⟩ (.int .i64 0)) = w2 at *
 have hD2 := hD0.stays ht2 (Ne.symm HI.out.1) (Ne.symm HI.out.2.1) (Ne.symm HI.out.2.2.2)
 have hBM2 := ht2.bm hBM0 (Ne.symm HBN0.out.1)
 have hm2 : Moves Z.foot ({ Z with n1 := Z.n1 + 140, n2 := 0, M2 := M, B := B } : RLoc).foot w w2 := hmv1.trans ⟨(Turned.of_below bm).trans (ht2.mono fun i hi => .inl hi), fun i hi => by
  rcases hi with q | q | q | q | q
  ·exact .inl (.inl q)
  ·exact .inl (.inr (.inl q))
  ·exact .inl (.inr (.inr (.inl q)))
  ·exact .inl (.inr (.inr (.inr (.inl q))))
  ·exact .inr (by rw [q]; exact Nat.le_of_eq HB.out.symm)⟩
 have HL2 : Hid (Z.r < w2.heap.size ∧ Z.D < w2.heap.size ∧ Z.M1 < w2.heap.size ∧ M < w2.heap.size ∧ B < w2.heap.size) := Lib.hid ⟨Nat.lt_of_lt_of_le HL.out.1 (Nat.le_trans bm.size ht2.size), Nat.lt_of_lt_of_le HL.out.2.1 (Nat.le_trans bm.size ht2.size), Nat.lt_of_lt_of_le HL.out.2.2.1 (Nat.le_trans bm.size ht2.size), Nat.lt_of_lt_of_le HL.out.2.2.2 (Nat.le_trans bm.size ht2.size), hBM2.lt⟩
 have HDR := Lib.hid (And.intro (Ne.symm HI.out.1) (And.intro (Ne.symm HI.out.2.1) (Ne.symm HI.out.2.2.2)))
 have HD2 := Lib.hid hD2
 have HM2 := Lib.hid (And.intro hm2 hBM2)
 have hR2' : RC w2 Z.r (refVs Z.D 0 0 B 0 0 0) := hR2
 clear hR2 hD2 hBM2 hm2 ht1 ht2 h HL hmv1 bm hBM0 hD0 hB hM1 hmm
 go_wp2
 go_loopw [32] (fun kv wr => ∃ k : Nat, k ≤ 2 ∧ kv = .int .i64 (k : Int) ∧ RC wr Z.r (refVs Z.D (pks S k).2.1 (pks S k).2.2.1 B 0 (pks S k).2.2.2 (pks S k).1) ∧ Turned (fun i => i = Z.r) w2 wr) (fun kv _ => 2 - (intOf kv).toNat)
 case atStart => exact ⟨0, Nat.zero_le _, rfl, hR2', .refl _ _⟩
 case round =>
  clear hR2'
  obtain ⟨k, hk, rfl, hR, hT⟩ := hrel
  by_cases hlt : k < 2
  ·have t0 : decide ((k : Int) < 2) = true := decide_eq_true (by omega)
   have hs := safe_ok HRS.out.2 k hlt
   obtain ⟨q, hq⟩ : ∃ q, q = pks S k := ⟨_, rfl⟩
   have HQ := Lib.hid hq
   rw [← hq] at hR
   have W2 := Lib.hid (w_in ((k : Int) + 1) (k + 1) (by omega) (by omega))
   have HM : Hid (2 - ((k : Int) + 1).toNat < 2 - k) := Lib.hid (by omega)
   have hk140 : k < 140 := by omega
   have hD := HD2.out.stays hT HDR.out.1 HDR.out.2.1 HDR.out.2.2
   have c0 := (hR 0 _ rfl).1
   clear hq
   go_wp2_with fail
   refine (rread_safe hD hk140).mono ?_
   rintro r w3 ⟨rfl, hb3⟩
   go_wp2_with fail
   refine (rrecord_any (safeAt S k) w3 HRS.out.1 hs).mono ?_
   rintro r w4 ⟨rfl, hb4⟩
   have hb34 := hb3.trans (hb4.mono hb3.size)
   have hR4 := hR.below hb34
   have hT4 : Turned (fun i => i = Z.r) w2 w4 := hT.trans (.of_below hb34)
   have hsmall := fun p => rec_small (K := E) (p := p) HRS.out.1 hs
   clear hR hD hT hb3 hb4 hb34 hs c0
   cases hrec : recOf (safeAt S k) with
   | none =>
    have HN := Lib.hid (pks_none hrec)
    clear hrec hsmall
    simp only [recT]
    obtain ⟨wk1, wk2⟩ := W2.out
    go_wp2
    go_roundw
    case rel => exact ⟨k + 1, hlt, by go_num, by rw [HN.out, ← HQ.out]; exact hR4, hT4⟩
    case measure => simpa [intOf] using HM.out
   | some p =>
    have hp := hsmall p hrec
    have W3 := Lib.hid (w_in ((p.1 : Int) + 1) (p.1 + 1) (by omega) (by have := HRS.out.1; omega))
    simp only [recT]
    have c6 := (hR4 6 _ rfl).1
    by_cases hl : q.1 < p.1 + 1
    ·have HN := Lib.hid (pks_more (S := S) hrec (by rw [← HQ.out]; exact hl))
     have t1 := geq_yes hl
     have c1 := (hR4 1 _ rfl).1
     have c2 := (hR4 2 _ rfl).1
     have c5 := (hR4 5 _ rfl).1
     have f1 := (hR4 1 _ rfl).2
     have f2 := (hR4 2 _ rfl).2
     have f5 := (hR4 5 _ rfl).2
     have f6 := (hR4 6 _ rfl).2
     have hR5 := (((hR4.set 6 (.int .i64 ((p.1 : Int) + 1)) (by simp [refVs])).set 1 (.int .u32 (p.2.1 : Int)) (by simp [refVs])).set 2 (.int .i64 (p.2.2.1 : Int)) (by simp [refVs])).set 5 (.int .i64 (p.2.2.2 : Int)) (by simp [refVs])
     have ht5 : Turned (fun i => i = Z.r) w4 ((((w4.setCell ⟨Z.r, 6, none⟩ (.int .i64 ((p.1 : Int) + 1))).setCell ⟨Z.r, 1, none⟩ (.int .u32 (p.2.1 : Int))).setCell ⟨Z.r, 2, none⟩ (.int .i64 (p.2.2.1 : Int))).setCell ⟨Z.r, 5, none⟩ (.int .i64 (p.2.2.2 : Int))) := (((set_r w4 Z.r 6 _).trans (set_r _ Z.r 1 _)).trans (set_r _ Z.r 2 _)).trans (set_r _ Z.r 5 _)
     have HH := Lib.hid (And.intro hR5 ht5)
     clear hrec hsmall hl hp hR5 ht5
     obtain ⟨wk1, wk2⟩ := W2.out
     obtain ⟨wp1, wp2⟩ := W3.out
     go_wp2
     go_roundw
     case rel => exact ⟨k + 1, hlt, by go_num, by rw [HN.out]; exact HH.out.1, hT4.trans HH.out.2⟩
     case measure => simpa [intOf] using HM.out
    ·have HN := Lib.hid (pks_less (S := S) hrec (by rw [← HQ.out]; exact hl))
     have t1 := geq_no hl
     clear hrec hsmall hl hp
     obtain ⟨wk1, wk2⟩ := W2.out
     obtain ⟨wp1, wp2⟩ := W3.out
     go_wp2
     go_roundw
     case rel => exact ⟨k + 1, hlt, by go_num, by rw [HN.out, ← HQ.out]; exact hR4, hT4⟩
     case measure => simpa [intOf] using HM.out
  ·obtain rfl : k = 2 := by omega
   have t0 : decide ((2 : Int) < 2) = false := decide_eq_false (by omega)
   obtain ⟨q, hq⟩ : ∃ q, q = pks S 2 := ⟨_, rfl⟩
   have hcr : s.crash mask = Rst.of S q := by rw [HCR.out, ← hq]
   have hfe := HFE.out
   rw [hcr] at hfe
   rw [← hq] at hR
   have hf2 := pks_fit HRS.out.1 HRS.out.2 2 (Nat.le_refl _)
   rw [← hq] at hf2
   clear hq
   obtain ⟨mk, nm, T, F⟩ := q
   have HCR3 : Hid (s.crash mask = ⟨S, fun _ => none, nm, T, Rst.back S F, F, F, mk⟩) := Lib.hid hcr
   have HFE3 : Hid (RFit (E + 1) ⟨S, fun _ => none, nm, T, Rst.back S F, F, F, mk⟩) := Lib.hid hfe
   have hT4 : T ≤ 4096 := hf2.tot
   have hFT : F ≤ T := hf2.sf
   clear hcr hfe hf2 HCR HFE
   simp only at hR
   have c4 := (hR 4 _ rfl).1
   have c5 := (hR 5 _ rfl).1
   have f4 := (hR 4 _ rfl).2
   go_upto_region 12 with (fail)
   have hR4 := hR.set 4 (.int .i64 (F : Int)) (by simp [refVs])
   have hT4' := hT.trans (set_r wr Z.r 4 (.int .i64 (F : Int)))
   have hD4 := HD2.out.stays hT4' HDR.out.1 HDR.out.2.1 HDR.out.2.2
   have hBM4 := hT4'.bm HM2.out.2 (Ne.symm HBN0.out.1)
   have hm4 := HM2.out.1.trans (Moves.of_turned hT4' (fun i hi => (Or.inl hi : ({ Z with n1 := Z.n1 + 140, n2 := 0, M2 := M, B := B } : RLoc).foot i)))
   have HL4 : Hid (Z.r < (wr.setCell ⟨Z.r, 4, none⟩ (.int .i64 (F : Int))).heap.size ∧ Z.D < (wr.setCell ⟨Z.r, 4, none⟩ (.int .i64 (F : Int))).heap.size ∧ Z.M1 < (wr.setCell ⟨Z.r, 4, none⟩ (.int .i64 (F : Int))).heap.size ∧ M < (wr.setCell ⟨Z.r, 4, none⟩ (.int .i64 (F : Int))).heap.size ∧ B < (wr.setCell ⟨Z.r, 4, none⟩ (.int .i64 (F : Int))).heap.size) := Lib.hid (by have := HL2.out; have := hT4'.size; omega)
   have hR4' : RC (wr.setCell ⟨Z.r, 4, none⟩ (.int .i64 (F : Int))) Z.r (refVs Z.D nm T B F F mk) := hR4
   clear hR hT c4 c5 f4 hT4' HL2 hR4
   generalize wr.setCell ⟨Z.r, 4, none⟩ (.int .i64 (F : Int)) = w4 at *
   have HR4 := Lib.hid hR4'
   have HM4 := Lib.hid hm4
   have HD4 := Lib.hid hD4
   have HBM4 := Lib.hid hBM4
   clear hR4' hm4 hD4 hBM4
   go_wp2
   have he0 : (⟨#[]⟩ : ByteArray) = strOf (allL S 0) := rfl
   rw [he0]
   have HE0 := Lib.hid he0
   clear he0
   go_loopw [13, 86] (fun zv kv wx => ∃ k : Nat, k ≤ 138 ∧ kv = .int .i64 (k : Int) ∧ zv = .string (strOf (allL S k)) ∧ Below w4.heap.size w4 wx) (fun _ kv _ => 138 - (intOf kv).toNat)
   case atStart => exact ⟨0, Nat.zero_le _, rfl, rfl, Below.refl _ _⟩
   case round =>
    obtain ⟨k, hk, rfl, rfl, hb⟩ := hrel
    by_cases hlt : k < 138
    ·have t0 : decide ((k : Int) < 138) = true := decide_eq_true (by omega)
     obtain ⟨z, hz⟩ : ∃ z, z = strOf (allL S k) := ⟨_, rfl⟩
     have hzs : z.size = 32 * k := by rw [hz, strOf_len, allL_len]
     have hss : (safeAt S (2 + k)).size = 32 := HFD.out.safe _
     have hnx := all_next S k hss
     rw [← hz] at hnx ⊢
     obtain ⟨y, hy⟩ : ∃ y, y = safeAt S (2 + k) := ⟨_, rfl⟩
     rw [← hy] at hnx hss
     have hcat : ¬ 9223372036854775807 < z.size + y.size := by omega
     have W1 := Lib.hid (w_in ((k : Int) + 2) (2 + k) (by omega) (by omega))
     have W2 := Lib.hid (w_in ((k : Int) + 1) (k + 1) (by omega) (by omega))
     have HM : Hid (138 - ((k : Int) + 1).toNat < 138 - k) := Lib.hid (by omega)
     have hk140 : 2 + k < 140 := by omega
     have hD := HD4.out.below hb
     have c0 := (HR4.out.below hb 0 _ rfl).1
     have HNX := Lib.hid hnx
     have HY := Lib.hid hy
     clear hz hzs hss hnx hy
     obtain ⟨wa1, wa2⟩ := W1.out
     clear W1
     go_wp2_with fail
     refine (rread_safe hD hk140).mono ?_
     rintro r w5 ⟨rfl, hb5⟩
     rw [← HY.out]
     have hb6 := hb.trans (hb5.mono hb.size)
     clear wa1 wa2 hb hb5 hD c0
     obtain ⟨wk1, wk2⟩ := W2.out
     clear W2
     go_wp2
     go_roundw
     case rel =>
      repeat apply Exists.intro
      exact ⟨⟨k + 1, hlt, by go_num, by rw [HNX.out], hb6⟩, rfl⟩
     case measure => simpa [intOf] using HM.out
    ·obtain rfl : k = 138 := by omega
     have t0 : decide ((138 : Int) < 138) = false := decide_eq_false (by omega)
     have hR6 := HR4.out.below hb
     have hD6 := HD4.out.below hb
     have hBM6 := (Turned.of_below (S := fun _ => False) hb).bm HBM4.out id
     have hm6 := HM4.out.trans (.of_below hb)
     have HL6 : Hid (Z.r < wr.heap.size ∧ Z.D < wr.heap.size ∧ Z.M1 < wr.heap.size ∧ M < wr.heap.size ∧ B < wr.heap.size) := Lib.hid (by have := HL4.out; have := hb.size; omega)
     have c5 := (hR6 5 _ rfl).1
     have hzz : ∀ i, i < F → (hi : i < (strOf (allL S 138)).size) → (strOf (allL S 138))[i]'hi = Rst.sect S i := fun i hi h => all_at S (by omega) h
     have hzs : (strOf (allL S 138)).size = 4416 := by rw [strOf_len, allL_len]
     generalize strOf (allL S 138) = z at *
     have HZZ := Lib.hid hzz
     have HZS := Lib.hid hzs
     have HR6 := Lib.hid hR6
     have HD6 := Lib.hid hD6
     have HM6 := Lib.hid hm6
     rw [← back_zero S] at hBM6
     obtain ⟨w6, hw6⟩ : ∃ w6, w6 = wr := ⟨_, rfl⟩
     rw [← hw6] at hBM6 HR6 HD6 HM6 HL6 c5 ⊢
     clear hw6 hzz hzs hR6 hD6 hm6 hb hlt
     go_wp2
     go_loopw [107] (fun kv wr => ∃ i : Nat, i ≤ F ∧ kv = .int .i64 (i : Int) ∧ BM wr B i (Rst.back S i) ∧ Turned (fun j => j = B) w6 wr) (fun kv _ => F - (intOf kv).toNat)
     case atStart => exact ⟨0, Nat.zero_le _, rfl, hBM6, .refl _ _⟩
     case round =>
      clear hBM6
      obtain ⟨i, hi, rfl, hBM, hT⟩ := hrel
      by_cases hlt : i < F
      ·have t0 : decide ((i : Int) < (F : Int)) = true := decide_eq_true (by omega)
       have t0' : decide (i < F) = true := decide_eq_true hlt
       have hiz : i < z.size := by have := HZS.out; omega
       have ix0 : (0 : Int) ≤ (i : Int) := by omega
       have ix1 : (i : Int) < (z.size : Int) := by omega
       have HI6 : Hid (i ≤ 1000000) := Lib.hid (by omega)
       have HBN : Hid (i < maxLen) := Lib.hid (by unfold maxLen; omega)
       have HNX : Hid (bup (Rst.back S i) i (z[i]'hiz) = Rst.back S (i + 1)) := Lib.hid (by rw [HZZ.out i hlt hiz]; exact back_next S i)
       have HRB : Hid (¬ Z.r = B) := Lib.hid HBN0.out.1
       have c3 := (HR6.out.turned hT HRB.out 3 _ rfl).1
       have W2 := Lib.hid (w_in ((i : Int) + 1) (i + 1) (by omega) (by omega))
       have HM : Hid (F - ((i : Int) + 1).toNat < F - i) := Lib.hid (by omega)
       go_wp2
       refine Flow.wp_region_go (by kernel_rfl) (by kernel_rfl) (by kernel_rfl) 123 rfl (by kernel_rfl) (rzV Z B i z hiz) (fun _ L wz => BM wz B (cond (L 8) (i + 1) i) (cond (L 8) (bup (Rst.back S i) i (z[i]'hiz)) (Rst.back S i)) ∧ Turned (fun j => j = B) wr wz) (fun _ _ => False) (()) (⟨(Turned.of_below (S := fun _ => False) (Below.refl _ _).drew).bm hBM id, .of_below (Below.refl _ _).drew⟩) ⟨?_, ?_, ?_, ?_, ?_, ?_, ?_, ?_, ?_, trivial⟩ ?_ ?_
       ·intro g L wz K ρ hc0 hf0 hF hO hU hcl hi hd hC hK
        have e0 : ρ (.tmp 0) = .pointer (some ⟨Z.r, 0, none⟩) := hO 0 (by kernel_rfl)
        simp [go_sem, Flow.ylP_value, Flow.ylP_skip, Flow.ylP_enter, Flow.ylP_panic, hc0, hf0, e0]
        exact hK g wz hC (fun _ _ => rfl)
       ·intro g L wz K ρ hc0 hf0 hF hO hU hcl hi hd hC hK
        have d0 : L 0 = true := hd ⟨0, .data⟩ (by simp) rfl
        have e110 : ρ (.tmp 110) = .pointer (some ⟨Z.r, 0, none⟩) := hF 110 0 (by kernel_rfl) d0
        simp [go_sem, Flow.ylP_value, Flow.ylP_skip, Flow.ylP_enter, Flow.ylP_panic, hc0, hf0, e110]
        exact hK g wz hC (fun _ _ => rfl)
       ·intro g L wz K ρ hc0 hf0 hF hO hU hcl hi hd hC hK
        have d1 : L 1 = true := hd ⟨1, .data⟩ (by simp) rfl
        have e111 : ρ (.tmp 111) = .pointer (some ⟨Z.r, 0, none⟩) := hF 111 1 (by kernel_rfl) d1
        simp [go_sem, Flow.ylP_value, Flow.ylP_skip, Flow.ylP_enter, Flow.ylP_panic, hc0, hf0, e111]
        exact hK g wz hC (fun _ _ => rfl)
       ·intro g L wz K ρ hc0 hf0 hF hO hU hcl hi hd hC hK
        have d2 : L 2 = true := hd ⟨2, .data⟩ (by simp) rfl
        have e112 : ρ (.tmp 112) = .pointer (some ⟨Z.r, 3, none⟩) := hF 112 2 (by kernel_rfl) d2
        have cc := hC.2.cell c3 HRB.out
        simp [go_sem, Flow.ylP_value, Flow.ylP_skip, Flow.ylP_enter, Flow.ylP_panic, hc0, hf0, e112, cc]
        exact hK g wz hC (fun _ _ => rfl)
       ·intro g L wz K ρ hc0 hf0 hF hO hU hcl hi hd hC hK
        have e17 : ρ (.tmp 17) = .int .i64 (i : Int) := hO 17 (by kernel_rfl)
        simp [go_sem, Flow.ylP_value, Flow.ylP_skip, Flow.ylP_enter, Flow.ylP_panic, hc0, hf0, e17]
        exact hK g wz hC (fun _ _ => rfl)
       ·intro g L wz K ρ hc0 hf0 hF hO hU hcl hi hd hC hK
        have e13 : ρ (.tmp 13) = .string z := hO 13 (by kernel_rfl)
        simp [go_sem, Flow.ylP_value, Flow.ylP_skip, Flow.ylP_enter, Flow.ylP_panic, hc0, hf0, e13]
        exact hK g wz hC (fun _ _ => rfl)
       ·intro g L wz K ρ hc0 hf0 hF hO hU hcl hi hd hC hK
        have e17 : ρ (.tmp 17) = .int .i64 (i : Int) := hO 17 (by kernel_rfl)
        simp [go_sem, Flow.ylP_value, Flow.ylP_skip, Flow.ylP_enter, Flow.ylP_panic, hc0, hf0, e17]
        exact hK g wz hC (fun _ _ => rfl)
       ·intro g L wz K ρ hc0 hf0 hF hO hU hcl hi hd hC hK
        have d5 : L 5 = true := hd ⟨5, .data⟩ (by simp) rfl
        have e115 : ρ (.tmp 115) = .string z := hF 115 5 (by kernel_rfl) d5
        have d6 : L 6 = true := hd ⟨6, .data⟩ (by simp) rfl
        have e116 : ρ (.tmp 116) = .int .i64 (i : Int) := hF 116 6 (by kernel_rfl) d6
        simp [go_sem, Flow.ylP_value, Flow.ylP_skip, Flow.ylP_enter, Flow.ylP_panic, hc0, hf0, e115, e116, hiz, ix0, ix1]
        exact hK g wz hC (fun _ _ => rfl)
       ·intro g L wz K ρ hc0 hf0 hF hO hU hcl hi hd hC hK
        have d3 : L 3 = true := hd ⟨3, .data⟩ (by simp) rfl
        have e113 : ρ (.tmp 113) = .map (some B) := hF 113 3 (by kernel_rfl) d3
        have d4 : L 4 = true := hd ⟨4, .data⟩ (by simp) rfl
        have e114 : ρ (.tmp 114) = .int .i64 (i : Int) := hF 114 4 (by kernel_rfl) d4
        have d7 : L 7 = true := hd ⟨7, .data⟩ (by simp) rfl
        have e117 : ρ (.tmp 117) = .int .u8 ((z[i]'hiz).toNat : Int) := hF 117 7 (by kernel_rfl) d7
        rw [hi] at hC
        obtain ⟨w8, hrun, hbm, hg8⟩ := hC.1.put i HI6.out HBN.out (z[i]'hiz)
        unfold execOp
        simp only [resolve, Sem.run_bind, Sem.run_pure, Result.andThen_ok, e113, e114, e117, hrun]
        refine hK g w8 ?_ (fun _ _ => rfl)
        exact ⟨hbm, hC.2.trans (.of_grown hg8 rfl)⟩
       ·intro g L ch wz h; exact h.elim
       ·intro g L wz hL hC
        rw [hL 8 (by decide)] at hC
        simp only [Flow.putAll, rzV]
        simp [Act.put]
        obtain ⟨p1, p2⟩ := hC
        simp only [cond_true] at p1
        rw [HNX.out] at p1
        have hT9 := hT.trans p2
        clear hT hBM p2 c3 ix0 ix1
        obtain ⟨wk1, wk2⟩ := W2.out
        clear W2
        go_wp2
        go_roundw
        case rel =>
         repeat apply Exists.intro
         exact ⟨⟨i + 1, hlt, by go_num, p1, hT9⟩, rfl⟩
        case measure => simpa [intOf] using HM.out
      ·obtain rfl : i = F := by omega
       have t0 : decide ((i : Int) < (i : Int)) = false := decide_eq_false (by omega)
       have t0' : decide (i < i) = false := decide_eq_false hlt
       have c5 := (HR6.out.turned hT HBN0.out.1 5 _ rfl).1
       have hDf := HD6.out.stays hT HBN0.out.2.1 HBN0.out.2.2.1 HBN0.out.2.2.2
       have hP : RR wr (E + 1) ({ Z with n1 := Z.n1 + 140, n2 := 0, M2 := M, B := B, b := i } : RLoc) ⟨S, fun _ => none, nm, T, Rst.back S i, i, i, mk⟩ :=
        ⟨HR6.out.turned hT HBN0.out.1, hDf, hBM, HI.out.1, HI.out.2.1, HI.out.2.2.2, HBN0.out.1, Ne.symm HBN0.out.2.1, Ne.symm HBN0.out.2.2.1, Ne.symm HBN0.out.2.2.2, fun j hj => by
         have := HL6.out
         have := hT.size
         rcases hj with q | q | q | q | q <;> simp only at q <;> omega, HFE3.out, by have := HI.out.2.2.1; simp only; omega, Nat.zero_le _, by simp only; omega⟩
       have hmf := HM6.out.trans (Moves.of_turned hT (fun j hj => (Or.inr (Or.inr (Or.inr (Or.inr hj))) : ({ Z with n1 := Z.n1 + 140, n2 := 0, M2 := M, B := B } : RLoc).foot j)))
       have HP := Lib.hid (And.intro hP hmf)
       clear hP hmf hDf hBM hT hlt
       go_wp2
       go_ret
       rw [HCR3.out]
       exact ⟨rfl, ({ Z with n1 := Z.n1 + 140, n2 := 0, M2 := M, B := B, b := i } : RLoc), rfl, HP.out.1, HP.out.2⟩
end Go.Proofs.YtfefpcdgflgaeaaGreatDoor
end
