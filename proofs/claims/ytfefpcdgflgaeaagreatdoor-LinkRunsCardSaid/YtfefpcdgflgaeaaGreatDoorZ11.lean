/- The program's receiver: Crash, New. Printed by gen_recvc.py out of recvc.src.

The reference's disk: a new one, Write, Read. Printed by gen_rdisk.py.

The reference's disk: a new one, Write. -/
import Derived.Test.YtfefpcdgflgaeaaGreatDoorZ9
import Derived.Test.YtfefpcdgflgaeaaGreatDoorZ4b
section
namespace Go.Proofs.YtfefpcdgflgaeaaGreatDoor
set_option linter.unusedSimpArgs false
set_option linter.unusedVariables false
open Go.RowKit As Go.Maps
/-- What is taken over from the first k sectors. -/
def pks (S : DF) : Nat → Nat × Nat × Nat × Nat
 | 0 => (0, 0, 0, 0)
 | k + 1 => pick (pks S k) (recOf (safeAt S k))
theorem pks_none {S : DF} {k : Nat} (h : recOf (safeAt S k) = none) : pks S (k + 1) = pks S k := by show pick _ _ = _; rw [h]; rfl
theorem pks_more {S : DF} {k : Nat} {p : Nat × Nat × Nat × Nat} (h : recOf (safeAt S k) = some p) (hl : (pks S k).1 < p.1 + 1) : pks S (k + 1) = (p.1 + 1, p.2.1, p.2.2.1, p.2.2.2) := by show pick _ _ = _; rw [h]; unfold pick; simp only; rw [if_pos hl]
theorem pks_less {S : DF} {k : Nat} {p : Nat × Nat × Nat × Nat} (h : recOf (safeAt S k) = some p) (hl : ¬ (pks S k).1 < p.1 + 1) : pks S (k + 1) = pks S k := by show pick _ _ = _; rw [h]; unfold pick; simp only; rw [if_neg hl]
theorem pks_fit {K : Nat} {S : DF} (hK : K ≤ 1000000) (h : ∀ i s, i < 2 → S i = some s → RecOk K s) : ∀ k, k ≤ 2 → QFit K (pks S k) := by
 intro k
 induction k with
 | zero => intro _; exact QFit.zero K
 | succ k ih => intro hk; exact (ih (by omega)).pick hK (safe_ok h k (by omega))
theorem rec_small {K : Nat} {s : ByteArray} {p : Nat × Nat × Nat × Nat} (hK : K ≤ 1000000) (h : s = zeros 32 ∨ RecOk K s) (hp : recOf s = some p) : p.1 < K := by
 rcases h with rfl | ⟨m, nm, t, f, h1, h2, h3, h4, h5, rfl⟩
 ·rw [recOf_zeros] at hp; cases hp
 ·rw [recOf_rec (by omega) h2 h4 (by omega)] at hp
  injection hp with hp
  rw [← hp]
  exact h1
theorem set_r (w : World) (r i : Nat) (v : Value) : Turned (fun j => j = r) w (w.setCell ⟨r, i, none⟩ v) := .set w i v rfl
theorem back_zero (S : DF) : Rst.back S 0 = fun _ => none := rfl
theorem back_next (S : DF) (k : Nat) : bup (Rst.back S k) k (Rst.sect S k) = Rst.back S (k + 1) := by
 funext i
 unfold bup Rst.back
 by_cases e : i = k
 ·subst e
  rw [if_pos rfl, if_pos (by omega)]
 ·rw [if_neg e]
  by_cases h : i < k
  ·rw [if_pos h, if_pos (by omega)]
  ·rw [if_neg h, if_neg (by omega)]
theorem dread_safe {S : DF} {i : Nat} (hi : i < 140) : drText 140 S (fun _ => none) (i : Int) = safeAt S i ∧ drErr 140 (i : Int) = 0 := by
 have h : ¬ ((i : Int) < 0 ∨ ((140 : Nat) : Int) ≤ (i : Int)) := by omega
 unfold drText drErr nowAt
 rw [if_neg h, if_neg h]
 exact ⟨by simp, rfl⟩
theorem PR.rowed {w0 w w' : World} {E : Nat} {Z : PLoc} {A C T : Nat} {S X : DF} {nm sv sf mks : Nat} {f : CF} (hi : Z.r ≠ Z.d ∧ Z.r ≠ Z.R ∧ Z.r ≠ Z.M ∧ Z.n ≤ 200 * E) (hR : RC w Z.r (recVs Z.d nm T (.slice (some ⟨A, 0, none⟩) T T) (.slice (some ⟨C, 0, none⟩) T T) sv sf mks)) (hM : MadeB w0 w Z.r A C T true true) (hD : PD w0 Z.d Z.R Z.M 140 Z.c Z.n S X) (hl : Z.d < w0.heap.size ∧ Z.R < w0.heap.size ∧ Z.M < w0.heap.size)
  (ht : Turned (fun i => i = A ∨ i = C) w w') (hb : ByteRow w' A T f) (ho : BoolRow w' C T f) (hf : RFit E ⟨S, X, nm, T, f, sv, sf, mks⟩) : PR w' E (Z.rowed A C T) ⟨S, X, nm, T, f, sv, sf, mks⟩ := by
 obtain ⟨h1, h2, h3, h4⟩ := hi
 obtain ⟨l1, l2, l3⟩ := hl
 obtain ⟨a1, a2, a3⟩ := hM.a rfl
 obtain ⟨c1, c2, c3⟩ := hM.c rfl
 have hne := hM.ne rfl rfl
 have hlt := hM.lt
 have hs := hM.t.size
 have hs2 := ht.size
 refine ⟨hR.turned ht (by omega), (hD.stays hM.t (Ne.symm h1) (Ne.symm h2) (Ne.symm h3)).stays ht (by omega) (by omega) (by omega), fun _ => ⟨rfl, rfl, Nat.le_refl _, Nat.le_refl _, hb, ho, hne, ?_, ?_, ?_, ?_, ?_, ?_, ?_, ?_⟩, h1, h2, h3, fun i hi => ?_, hf, h4⟩
 all_goals try (show _ ≠ _; simp only [PLoc.rowed]; omega)
 rcases hi with q | q | q | q | q | q <;> simp only [PLoc.rowed] at q <;> omega
def nilS : Value := .slice none 0 0
def pcV (Z : PLoc) (T : Nat) (g : Nat × Nat) : Nat → Value
 | 0 => .pointer (some ⟨Z.r, 0, none⟩)
 | 1 => .pointer (some ⟨Z.r, 0, none⟩)
 | 2 => .pointer (some ⟨Z.r, 0, none⟩)
 | 3 => .pointer (some ⟨Z.r, 0, none⟩)
 | 4 => .pointer (some ⟨Z.r, 2, none⟩)
 | 5 => .int .i64 (T : Int)
 | 6 => .slice (some ⟨g.1, 0, none⟩) T T
 | 7 => .pointer (some ⟨Z.r, 0, none⟩)
 | 8 => .pointer (some ⟨Z.r, 0, none⟩)
 | 9 => .pointer (some ⟨Z.r, 2, none⟩)
 | 10 => .int .i64 (T : Int)
 | 11 => .slice (some ⟨g.2, 0, none⟩) T T
 | 12 => .pointer (some ⟨Z.r, 0, none⟩)
 | 13 => .pointer (some ⟨Z.r, 3, none⟩)
 | 15 => .pointer (some ⟨Z.r, 0, none⟩)
 | 16 => .pointer (some ⟨Z.r, 4, none⟩)
 | _ => undef
def pdV (Z : PLoc) (A C i j T : Nat) (z : ByteArray) (hjz : j < z.size) (g : Unit) : Nat → Value
 | 0 => .pointer (some ⟨Z.r, 0, none⟩)
 | 1 => .pointer (some ⟨Z.r, 0, none⟩)
 | 2 => .pointer (some ⟨Z.r, 3, none⟩)
 | 3 => .slice (some ⟨A, 0, none⟩) T T
 | 4 => .int .i64 (i : Int)
 | 5 => .pointer (some ⟨Z.r, 0, none⟩)
 | 6 => .pointer (some ⟨Z.r, 0, none⟩)
 | 7 => .pointer (some ⟨Z.r, 4, none⟩)
 | 8 => .slice (some ⟨C, 0, none⟩) T T
 | 9 => .int .i64 (i : Int)
 | 10 => .string z
 | 11 => .int .i64 (i : Int)
 | 12 => .int .i64 (j : Int)
 | 13 => .int .u8 ((z[j]'hjz).toNat : Int)
 | 14 => .pointer (some ⟨A, i, none⟩)
 | 16 => .pointer (some ⟨C, i, none⟩)
 | _ => undef
set_option maxHeartbeats 8000000 in
set_option maxRecDepth 100000 in
theorem pcrash_any {w : World} {E : Nat} {Z : PLoc} {s : Rst} {mask : Nat} (h : PR w E Z s) (hm : mask < 18446744073709551616) :
  Calls Tryz.prog 17 #[.pointer (some ⟨Z.r, 0, none⟩), .int .u64 (mask : Int)] w fun e w' => e = .returned (.int .i64 ((s.crash mask).sf : Int)) ∧ PGoes w E Z (s.crash mask) w' := by
 have c0 := h.cell 0 rfl
 go_enter Tryz.func17, Tryz.ntmps17
 go_wp2_with fail
 refine (dcrash_any (mask := mask) h.disk hm).mono ?_
 rintro e w1 ⟨rfl, hd1, ht1⟩
 have hRC := h.cells.turned ht1 h.off.1
 have HI := Lib.hid (And.intro h.rd (And.intro h.rR (And.intro h.rM h.cnt)))
 have HL := Lib.hid (show Z.d < w1.heap.size ∧ Z.R < w1.heap.size ∧ Z.M < w1.heap.size ∧ Z.r < w1.heap.size from ⟨Nat.lt_of_lt_of_le (h.low Z.d (.inr (.inl rfl))) ht1.size, Nat.lt_of_lt_of_le (h.low Z.R (.inr (.inr (.inl rfl)))) ht1.size, Nat.lt_of_lt_of_le (h.low Z.M (.inr (.inr (.inr (.inl rfl))))) ht1.size, Nat.lt_of_lt_of_le (h.low Z.r (.inl rfl)) ht1.size⟩)
 have hm1 : Moves Z.foot Z.foot w w1 := .of_turned ht1 fun i => foot_R
 have HFE := Lib.hid (h.fit.crash mask)
 have HRS := Lib.hid (And.intro h.fit.k (h.fit.rcrash mask))
 have HCR := Lib.hid (show s.crash mask = Rst.of (crashed 140 mask s.S s.X) (pks (crashed 140 mask s.S s.X) 2) from rfl)
 have HFD := Lib.hid (h.fit.d.crash (mask := mask))
 generalize crashed 140 mask s.S s.X = S at *
 have c0 := (hRC 0 _ rfl).1
 have c1 := (hRC 1 _ rfl).1
 have c2 := (hRC 2 _ rfl).1
 have c3 := (hRC 3 _ rfl).1
 have c4 := (hRC 4 _ rfl).1
 have c5 := (hRC 5 _ rfl).1
 have c6 := (hRC 6 _ rfl).1
 have c7 := (hRC 7 _ rfl).1
 have f0 := (hRC 0 _ rfl).2
 have f1 := (hRC 1 _ rfl).2
 have f2 := (hRC 2 _ rfl).2
 have f3 := (hRC 3 _ rfl).2
 have f4 := (hRC 4 _ rfl).2
 have f5 := (hRC 5 _ rfl).2
 have f6 := (hRC 6 _ rfl).2
 have f7 := (hRC 7 _ rfl).2
 go_upto_region 4 with (fail)
 have hR2 : RC ((((((((w1.setCell ⟨Z.r, 0, none⟩ (.pointer (some ⟨Z.d, 0, none⟩))).setCell ⟨Z.r, 1, none⟩ (.int .u32 0)).setCell ⟨Z.r, 2, none⟩ (.int .i64 0)).setCell ⟨Z.r, 3, none⟩ (.slice none 0 0)).setCell ⟨Z.r, 4, none⟩ (.slice none 0 0)).setCell ⟨Z.r, 5, none⟩ (.int .i64 0)).setCell ⟨Z.r, 6, none⟩ (.int .i64 0)).setCell ⟨Z.r, 7, none⟩ (.int .i64 0)) Z.r (recVs Z.d 0 0 nilS nilS 0 0 0) :=
  (((((((hRC.set 0 (.pointer (some ⟨Z.d, 0, none⟩)) (by simp [recVs])).set 1 (.int .u32 0) (by simp [recVs])).set 2 (.int .i64 0) (by simp [recVs])).set 3 (.slice none 0 0) (by simp [recVs])).set 4 (.slice none 0 0) (by simp [recVs])).set 5 (.int .i64 0) (by simp [recVs])).set 6 (.int .i64 0) (by simp [recVs])).set 7 (.int .i64 0) (by simp [recVs])
 have ht2 : Turned (fun i => i = Z.r) w1 ((((((((w1.setCell ⟨Z.r, 0, none⟩ (.pointer (some ⟨Z.d, 0, none⟩))).setCell ⟨Z.r, 1, none⟩ (.int .u32 0)).setCell ⟨Z.r, 2, none⟩ (.int .i64 0)).setCell ⟨Z.r, 3, none⟩ (.slice none 0 0)).setCell ⟨Z.r, 4, none⟩ (.slice none 0 0)).setCell ⟨Z.r, 5, none⟩ (.int .i64 0)).setCell ⟨Z.r, 6, none⟩ (.int .i64 0)).setCell ⟨Z.r, 7, none⟩ (.int .i64 0)) :=
  (((((((set_r w1 Z.r 0 _).trans (set_r _ Z.r 1 _)).trans (set_r _ Z.r 2 _)).trans (set_r _ Z.r 3 _)).trans (set_r _ Z.r 4 _)).trans (set_r _ Z.r 5 _)).trans (set_r _ Z.r 6 _)).trans (set_r _ Z.r 7 _)
 clear c0 c1 c2 c3 c4 c5 c6 c7 f0 f1 f2 f3 f4 f5 f6 f7
 generalize (((((((w1.setCell ⟨Z.r, 0, none⟩ (.pointer (some ⟨Z.d, 0, none⟩))).setCell ⟨Z.r, 1, none⟩ (.int .u32 0)).setCell ⟨Z.r, 2, none⟩ (.int .i64 0)).setCell ⟨Z.r, 3, none⟩ (.slice none 0 0)).setCell ⟨Z.r, 4, none⟩ (.slice none 0 0)).setCell ⟨Z.r, 5, none⟩ (.int .i64 0)).setCell ⟨Z.r, 6, none⟩ (.int .i64 0)).setCell ⟨Z.r, 7, none⟩ (.int .i64 0) = w2 at *
 have hD2 := hd1.stays ht2 (Ne.symm HI.out.1) (Ne.symm HI.out.2.1) (Ne.symm HI.out.2.2.1)
 have hm2 : Moves Z.foot Z.foot w w2 := hm1.trans (.of_turned ht2 fun i hi => .inl hi)
 have HL2 : Hid (Z.d < w2.heap.size ∧ Z.R < w2.heap.size ∧ Z.M < w2.heap.size ∧ Z.r < w2.heap.size) := Lib.hid (by have := HL.out; have := ht2.size; omega)
 clear hRC hd1 hm1 ht1 ht2 h HL
 go_wp2
 go_loopw [31] (fun kv wr => ∃ k : Nat, k ≤ 2 ∧ kv = .int .i64 (k : Int) ∧ RC wr Z.r (recVs Z.d (pks S k).2.1 (pks S k).2.2.1 nilS nilS 0 (pks S k).2.2.2 (pks S k).1) ∧ PD wr Z.d Z.R Z.M 140 Z.c Z.n S (fun _ => none) ∧ Turned (fun i => i = Z.r) w2 wr) (fun kv _ => 2 - (intOf kv).toNat)
 case atStart => exact ⟨0, Nat.zero_le _, rfl, hR2, hD2, .refl _ _⟩
 case round =>
  clear hR2 hD2
  obtain ⟨k, hk, rfl, hR, hD, hT⟩ := hrel
  by_cases hlt : k < 2
  ·have t0 : decide ((k : Int) < 2) = true := decide_eq_true (by omega)
   have hs := safe_ok HRS.out.2 k hlt
   obtain ⟨q, hq⟩ : ∃ q, q = pks S k := ⟨_, rfl⟩
   have HQ := Lib.hid hq
   rw [← hq] at hR
   have HDS := Lib.hid (dread_safe (S := S) (i := k) (by omega))
   have W2 := Lib.hid (w_in ((k : Int) + 1) (k + 1) (by omega) (by omega))
   have HM : Hid (2 - ((k : Int) + 1).toNat < 2 - k) := Lib.hid (by omega)
   have HDr := Lib.hid (And.intro (Ne.symm HI.out.1) (And.intro (Ne.symm HI.out.2.1) (Ne.symm HI.out.2.2.1)))
   clear hq
   go_wp2_with fail
   refine (dread_any hD (k : Int)).mono ?_
   rintro r w3 ⟨rfl, hb3⟩
   rw [HDS.out.1, HDS.out.2, errV_zero]
   go_wp2_with fail
   refine (precord_any (safeAt S k) w3 HRS.out.1 hs).mono ?_
   rintro r w4 ⟨rfl, hb4⟩
   have hb34 := hb3.trans (hb4.mono hb3.size)
   have hR4 := hR.below hb34
   have hD4 := hD.below hb34
   have hT4 : Turned (fun i => i = Z.r) w2 w4 := hT.trans (.of_below hb34)
   have hsmall := fun p => rec_small (K := E) (p := p) HRS.out.1 hs
   clear hR hD hT hb3 hb4 hb34 hs
   cases hrec : recOf (safeAt S k) with
   | none =>
    have HN := Lib.hid (pks_none hrec)
    clear hrec hsmall
    simp only [recT]
    obtain ⟨wk1, wk2⟩ := W2.out
    go_wp2
    go_roundw
    case rel => exact ⟨k + 1, hlt, by go_num, by rw [HN.out, ← HQ.out]; exact hR4, hD4, hT4⟩
    case measure => simpa [intOf] using HM.out
   | some p =>
    have hp := hsmall p hrec
    have W3 := Lib.hid (w_in ((p.1 : Int) + 1) (p.1 + 1) (by omega) (by have := HRS.out.1; omega))
    simp only [recT]
    have c7 := (hR4 7 _ rfl).1
    by_cases hl : q.1 < p.1 + 1
    ·have HN := Lib.hid (pks_more (S := S) hrec (by rw [← HQ.out]; exact hl))
     have t1 : decide ((q.1 : Int) < (p.1 : Int) + 1) = true := decide_eq_true (by omega)
     have t1' : decide (q.1 < p.1 + 1) = true := decide_eq_true hl
     have c1 := (hR4 1 _ rfl).1
     have c2 := (hR4 2 _ rfl).1
     have c6 := (hR4 6 _ rfl).1
     have f1 := (hR4 1 _ rfl).2
     have f2 := (hR4 2 _ rfl).2
     have f6 := (hR4 6 _ rfl).2
     have f7 := (hR4 7 _ rfl).2
     have hR5 := (((hR4.set 7 (.int .i64 ((p.1 : Int) + 1)) (by simp [recVs])).set 1 (.int .u32 (p.2.1 : Int)) (by simp [recVs])).set 2 (.int .i64 (p.2.2.1 : Int)) (by simp [recVs])).set 6 (.int .i64 (p.2.2.2 : Int)) (by simp [recVs])
     have ht5 : Turned (fun i => i = Z.r) w4 ((((w4.setCell ⟨Z.r, 7, none⟩ (.int .i64 ((p.1 : Int) + 1))).setCell ⟨Z.r, 1, none⟩ (.int .u32 (p.2.1 : Int))).setCell ⟨Z.r, 2, none⟩ (.int .i64 (p.2.2.1 : Int))).setCell ⟨Z.r, 6, none⟩ (.int .i64 (p.2.2.2 : Int))) := (((set_r w4 Z.r 7 _).trans (set_r _ Z.r 1 _)).trans (set_r _ Z.r 2 _)).trans (set_r _ Z.r 6 _)
     have HH := Lib.hid (And.intro hR5 ht5)
     clear hrec hsmall hl hp hR5 ht5
     obtain ⟨wk1, wk2⟩ := W2.out
     obtain ⟨wp1, wp2⟩ := W3.out
     go_wp2
     go_roundw
     case rel => exact ⟨k + 1, hlt, by go_num, by rw [HN.out]; exact HH.out.1, hD4.stays HH.out.2 HDr.out.1 HDr.out.2.1 HDr.out.2.2, hT4.trans HH.out.2⟩
     case measure => simpa [intOf] using HM.out
    ·have HN := Lib.hid (pks_less (S := S) hrec (by rw [← HQ.out]; exact hl))
     have t1 : decide ((q.1 : Int) < (p.1 : Int) + 1) = false := decide_eq_false (by omega)
     have t1' : decide (q.1 < p.1 + 1) = false := decide_eq_false hl
     clear hrec hsmall hl hp
     obtain ⟨wk1, wk2⟩ := W2.out
     obtain ⟨wp1, wp2⟩ := W3.out
     go_wp2
     go_roundw
     case rel => exact ⟨k + 1, hlt, by go_num, by rw [HN.out, ← HQ.out]; exact hR4, hD4, hT4⟩
     case measure => simpa [intOf] using HM.out
  ·obtain rfl : k = 2 := by omega
   have t0 : decide ((2 : Int) < 2) = false := decide_eq_false (by omega)
   have hfin := hm2.trans (.of_turned hT fun i hi => .inl hi)
   have HF2 := Lib.hid (pks_fit HRS.out.1 HRS.out.2 2 (Nat.le_refl _))
   have hlow : Z.d < wr.heap.size ∧ Z.R < wr.heap.size ∧ Z.M < wr.heap.size ∧ Z.r < wr.heap.size := by have := HL2.out; have := hT.size; omega
   obtain ⟨q, hq⟩ : ∃ q, q = pks S 2 := ⟨_, rfl⟩
   have hcr : s.crash mask = Rst.of S q := by rw [HCR.out, ← hq]
   have hfe := HFE.out
   rw [hcr] at hfe
   rw [← hq] at hR
   have hf2 := HF2.out
   rw [← hq] at hf2
   clear hq HF2
   obtain ⟨mk, nm, T, F⟩ := q
   have HCR3 : Hid (s.crash mask = ⟨S, fun _ => none, nm, T, Rst.back S F, F, F, mk⟩) := Lib.hid hcr
   have HFE3 : Hid (RFit E ⟨S, fun _ => none, nm, T, Rst.back S F, F, F, mk⟩) := Lib.hid hfe
   have hT4 : T ≤ 4096 := hf2.tot
   have hFT : F ≤ T := hf2.sf
   clear hcr hfe hf2 HCR HFE
   simp only at hR
   have c5 := (hR 5 _ rfl).1
   have c6 := (hR 6 _ rfl).1
   have f5 := (hR 5 _ rfl).2
   go_upto_region 13 with (fail)
   have hR4 := hR.set 5 (.int .i64 (F : Int)) (by simp [recVs])
   have hT4' := hT.trans (set_r wr Z.r 5 (.int .i64 (F : Int)))
   have hD4 := hD.stays (set_r wr Z.r 5 (.int .i64 (F : Int))) (Ne.symm HI.out.1) (Ne.symm HI.out.2.1) (Ne.symm HI.out.2.2.1)
   have hm4 := hfin.trans (.of_turned (set_r wr Z.r 5 (.int .i64 (F : Int))) fun i hi => .inl hi)
   have HL4 : Hid (Z.d < (wr.setCell ⟨Z.r, 5, none⟩ (.int .i64 (F : Int))).heap.size ∧ Z.R < (wr.setCell ⟨Z.r, 5, none⟩ (.int .i64 (F : Int))).heap.size ∧ Z.M < (wr.setCell ⟨Z.r, 5, none⟩ (.int .i64 (F : Int))).heap.size ∧ Z.r < (wr.setCell ⟨Z.r, 5, none⟩ (.int .i64 (F : Int))).heap.size) := Lib.hid (by simpa using hlow)
   clear hR hD hT hfin hlow c5 c6 f5 hT4' HL2 hm2
   generalize wr.setCell ⟨Z.r, 5, none⟩ (.int .i64 (F : Int)) = w4 at *
   have HRL : Hid (Z.r < w4.heap.size) := Lib.hid HL4.out.2.2.2
   have HM4 := Lib.hid (And.intro hD4 hm4)
   clear hD4 hm4
   refine Flow.wp_region_go (by kernel_rfl) (by kernel_rfl) (by kernel_rfl) 135 rfl (by kernel_rfl) (pcV Z T) (fun gz L wz => RC wz Z.r (recVs Z.d nm T (cond (L 14) (.slice (some ⟨gz.1, 0, none⟩) T T) nilS) (cond (L 17) (.slice (some ⟨gz.2, 0, none⟩) T T) nilS) F F mk) ∧ MadeB w4 wz Z.r gz.1 gz.2 T (L 6) (L 11)) (fun _ _ => False) ((0, 0)) (⟨hR4.below (Below.refl _ _).drew, .start (Below.refl _ _).drew HRL.out⟩) ⟨?_, ?_, ?_, ?_, ?_, ?_, ?_, ?_, ?_, ?_, ?_, ?_, ?_, ?_, ?_, ?_, ?_, ?_, trivial⟩ ?_ ?_
   ·intro gz L wz K ρ hc0 hf0 hF hO hU hcl hi hd hC hK
    have e0 : ρ (.tmp 0) = .pointer (some ⟨Z.r, 0, none⟩) := hO 0 (by kernel_rfl)
    simp [go_sem, Flow.ylP_value, Flow.ylP_skip, Flow.ylP_enter, Flow.ylP_panic, hc0, hf0, e0]
    exact hK gz wz hC (fun _ _ => rfl)
   ·intro gz L wz K ρ hc0 hf0 hF hO hU hcl hi hd hC hK
    have e0 : ρ (.tmp 0) = .pointer (some ⟨Z.r, 0, none⟩) := hO 0 (by kernel_rfl)
    simp [go_sem, Flow.ylP_value, Flow.ylP_skip, Flow.ylP_enter, Flow.ylP_panic, hc0, hf0, e0]
    exact hK gz wz hC (fun _ _ => rfl)
   ·intro gz L wz K ρ hc0 hf0 hF hO hU hcl hi hd hC hK
    have e0 : ρ (.tmp 0) = .pointer (some ⟨Z.r, 0, none⟩) := hO 0 (by kernel_rfl)
    simp [go_sem, Flow.ylP_value, Flow.ylP_skip, Flow.ylP_enter, Flow.ylP_panic, hc0, hf0, e0]
    exact hK gz wz hC (fun _ _ => rfl)
   ·intro gz L wz K ρ hc0 hf0 hF hO hU hcl hi hd hC hK
    have d2 : L 2 = true := hd ⟨2, .data⟩ (by simp) rfl
    have e85 : ρ (.tmp 85) = .pointer (some ⟨Z.r, 0, none⟩) := hF 85 2 (by kernel_rfl) d2
    simp [go_sem, Flow.ylP_value, Flow.ylP_skip, Flow.ylP_enter, Flow.ylP_panic, hc0, hf0, e85]
    exact hK gz wz hC (fun _ _ => rfl)
   ·intro gz L wz K ρ hc0 hf0 hF hO hU hcl hi hd hC hK
    have d3 : L 3 = true := hd ⟨3, .data⟩ (by simp) rfl
    have e86 : ρ (.tmp 86) = .pointer (some ⟨Z.r, 0, none⟩) := hF 86 3 (by kernel_rfl) d3
    simp [go_sem, Flow.ylP_value, Flow.ylP_skip, Flow.ylP_enter, Flow.ylP_panic, hc0, hf0, e86]
    exact hK gz wz hC (fun _ _ => rfl)
   ·intro gz L wz K ρ hc0 hf0 hF hO hU hcl hi hd hC hK
    have d4 : L 4 = true := hd ⟨4, .data⟩ (by simp) rfl
    have e87 : ρ (.tmp 87) = .pointer (some ⟨Z.r, 2, none⟩) := hF 87 4 (by kernel_rfl) d4
    have cc := (hC.1 2 _ rfl).1
    simp [go_sem, Flow.ylP_value, Flow.ylP_skip, Flow.ylP_enter, Flow.ylP_panic, hc0, hf0, e87, cc]
    exact hK gz wz hC (fun _ _ => rfl)
   ·intro gz L wz K ρ hc0 hf0 hF hO hU hcl hi hd hC hK
    have d5 : L 5 = true := hd ⟨5, .data⟩ (by simp) rfl
    have e88 : ρ (.tmp 88) = .int .i64 (T : Int) := hF 88 5 (by kernel_rfl) d5
    have h9 : L 14 = false := by cases h : L 14 with | false => rfl | true => (have := hcl 14 6 (by kernel_rfl) h; rw [hi] at this; cases this)
    have hmk := run_make_row' (P := Tryz.prog) 69 5 (.int .u8 0) 1 Tryz.underlying69 dwInfo rfl .i64 .i64 T (by omega) (by omega) wz
    unfold execOp
    simp only [resolve, Sem.run_bind, Sem.run_pure, Result.andThen_ok, e88, hmk]
    refine hK (wz.heap.size, gz.2) _ ?_ (by intro j hj; unfold pcV; split <;> first | rfl | (rw [hi] at hj; cases hj) | (have hz := hcl _ 6 (by kernel_rfl) hj; rw [hi] at hz; cases hz))
    have b9 := below1 wz (.cells (madeCells #[.int .u8 0] T) 5)
    have hR := hC.1.below b9
    rw [h9] at hR
    exact ⟨by simpa [h9] using hR, hC.2.mkA _⟩
   ·intro gz L wz K ρ hc0 hf0 hF hO hU hcl hi hd hC hK
    have e0 : ρ (.tmp 0) = .pointer (some ⟨Z.r, 0, none⟩) := hO 0 (by kernel_rfl)
    simp [go_sem, Flow.ylP_value, Flow.ylP_skip, Flow.ylP_enter, Flow.ylP_panic, hc0, hf0, e0]
    exact hK gz wz hC (fun _ _ => rfl)
   ·intro gz L wz K ρ hc0 hf0 hF hO hU hcl hi hd hC hK
    have d7 : L 7 = true := hd ⟨7, .data⟩ (by simp) rfl
    have e90 : ρ (.tmp 90) = .pointer (some ⟨Z.r, 0, none⟩) := hF 90 7 (by kernel_rfl) d7
    simp [go_sem, Flow.ylP_value, Flow.ylP_skip, Flow.ylP_enter, Flow.ylP_panic, hc0, hf0, e90]
    exact hK gz wz hC (fun _ _ => rfl)
   ·intro gz L wz K ρ hc0 hf0 hF hO hU hcl hi hd hC hK
    have d8 : L 8 = true := hd ⟨8, .data⟩ (by simp) rfl
    have e91 : ρ (.tmp 91) = .pointer (some ⟨Z.r, 0, none⟩) := hF 91 8 (by kernel_rfl) d8
    simp [go_sem, Flow.ylP_value, Flow.ylP_skip, Flow.ylP_enter, Flow.ylP_panic, hc0, hf0, e91]
    exact hK gz wz hC (fun _ _ => rfl)
   ·intro gz L wz K ρ hc0 hf0 hF hO hU hcl hi hd hC hK
    have d9 : L 9 = true := hd ⟨9, .data⟩ (by simp) rfl
    have e92 : ρ (.tmp 92) = .pointer (some ⟨Z.r, 2, none⟩) := hF 92 9 (by kernel_rfl) d9
    have cc := (hC.1 2 _ rfl).1
    simp [go_sem, Flow.ylP_value, Flow.ylP_skip, Flow.ylP_enter, Flow.ylP_panic, hc0, hf0, e92, cc]
    exact hK gz wz hC (fun _ _ => rfl)
   ·intro gz L wz K ρ hc0 hf0 hF hO hU hcl hi hd hC hK
    have d10 : L 10 = true := hd ⟨10, .data⟩ (by simp) rfl
    have e93 : ρ (.tmp 93) = .int .i64 (T : Int) := hF 93 10 (by kernel_rfl) d10
    have h9 : L 17 = false := by cases h : L 17 with | false => rfl | true => (have := hcl 17 11 (by kernel_rfl) h; rw [hi] at this; cases this)
    have hmk := run_make_row' (P := Tryz.prog) 70 4 (.bool false) 1 Tryz.underlying70 boInfo rfl .i64 .i64 T (by omega) (by omega) wz
    unfold execOp
    simp only [resolve, Sem.run_bind, Sem.run_pure, Result.andThen_ok, e93, hmk]
    refine hK (gz.1, wz.heap.size) _ ?_ (by intro j hj; unfold pcV; split <;> first | rfl | (rw [hi] at hj; cases hj) | (have hz := hcl _ 11 (by kernel_rfl) hj; rw [hi] at hz; cases hz))
    have b9 := below1 wz (.cells (madeCells #[.bool false] T) 4)
    have hR := hC.1.below b9
    rw [h9] at hR
    exact ⟨by simpa [h9] using hR, hC.2.mkC _⟩
   ·intro gz L wz K ρ hc0 hf0 hF hO hU hcl hi hd hC hK
    have d0 : L 0 = true := hd ⟨0, .data⟩ (by simp) rfl
    have e83 : ρ (.tmp 83) = .pointer (some ⟨Z.r, 0, none⟩) := hF 83 0 (by kernel_rfl) d0
    simp [go_sem, Flow.ylP_value, Flow.ylP_skip, Flow.ylP_enter, Flow.ylP_panic, hc0, hf0, e83]
    exact hK gz wz hC (fun _ _ => rfl)
   ·intro gz L wz K ρ hc0 hf0 hF hO hU hcl hi hd hC hK
    have d12 : L 12 = true := hd ⟨12, .data⟩ (by simp) rfl
    have e95 : ρ (.tmp 95) = .pointer (some ⟨Z.r, 0, none⟩) := hF 95 12 (by kernel_rfl) d12
    simp [go_sem, Flow.ylP_value, Flow.ylP_skip, Flow.ylP_enter, Flow.ylP_panic, hc0, hf0, e95]
    exact hK gz wz hC (fun _ _ => rfl)
   ·intro gz L wz K ρ hc0 hf0 hF hO hU hcl hi hd hC hK
    have d13 : L 13 = true := hd ⟨13, .data⟩ (by simp) rfl
    have e96 : ρ (.tmp 96) = .pointer (some ⟨Z.r, 3, none⟩) := hF 96 13 (by kernel_rfl) d13
    have d6 : L 6 = true := hd ⟨6, .data⟩ (by simp) rfl
    have e89 : ρ (.tmp 89) = .slice (some ⟨gz.1, 0, none⟩) T T := hF 89 6 (by kernel_rfl) d6
    have fc := (hC.1 3 _ rfl).2
    have cc := (hC.1 3 _ rfl).1
    simp [go_sem, Flow.ylP_value, Flow.ylP_skip, Flow.ylP_enter, Flow.ylP_panic, hc0, hf0, e96, e89, fc, cc]
    exact hK gz _ ⟨hC.1.set 3 (.slice (some ⟨gz.1, 0, none⟩) T T) (by simp [recVs]), hC.2.set 3 _⟩ (fun _ _ => rfl)
   ·intro gz L wz K ρ hc0 hf0 hF hO hU hcl hi hd hC hK
    have d1 : L 1 = true := hd ⟨1, .data⟩ (by simp) rfl
    have e84 : ρ (.tmp 84) = .pointer (some ⟨Z.r, 0, none⟩) := hF 84 1 (by kernel_rfl) d1
    simp [go_sem, Flow.ylP_value, Flow.ylP_skip, Flow.ylP_enter, Flow.ylP_panic, hc0, hf0, e84]
    exact hK gz wz hC (fun _ _ => rfl)
   ·intro gz L wz K ρ hc0 hf0 hF hO hU hcl hi hd hC hK
    have d15 : L 15 = true := hd ⟨15, .data⟩ (by simp) rfl
    have e97 : ρ (.tmp 97) = .pointer (some ⟨Z.r, 0, none⟩) := hF 97 15 (by kernel_rfl) d15
    simp [go_sem, Flow.ylP_value, Flow.ylP_skip, Flow.ylP_enter, Flow.ylP_panic, hc0, hf0, e97]
    exact hK gz wz hC (fun _ _ => rfl)
   ·intro gz L wz K ρ hc0 hf0 hF hO hU hcl hi hd hC hK
    have d16 : L 16 = true := hd ⟨16, .data⟩ (by simp) rfl
    have e98 : ρ (.tmp 98) = .pointer (some ⟨Z.r, 4, none⟩) := hF 98 16 (by kernel_rfl) d16
    have d11 : L 11 = true := hd ⟨11, .data⟩ (by simp) rfl
    have e94 : ρ (.tmp 94) = .slice (some ⟨gz.2, 0, none⟩) T T := hF 94 11 (by kernel_rfl) d11
    have fc := (hC.1 4 _ rfl).2
    have cc := (hC.1 4 _ rfl).1
    simp [go_sem, Flow.ylP_value, Flow.ylP_skip, Flow.ylP_enter, Flow.ylP_panic, hc0, hf0, e98, e94, fc, cc]
    exact hK gz _ ⟨hC.1.set 4 (.slice (some ⟨gz.2, 0, none⟩) T T) (by simp [recVs]), hC.2.set 4 _⟩ (fun _ _ => rfl)
   ·intro gz L ch wz h; exact h.elim
   ·intro gz L wz hL hC
    rw [hL 14 (by decide), hL 17 (by decide), hL 6 (by decide), hL 11 (by decide)] at hC
    simp only [Flow.putAll, pcV]
    simp [Act.put]
    obtain ⟨hR5, hM5⟩ := hC
    obtain ⟨A, C⟩ := gz
    simp only at hR5 hM5 ⊢
    have hc9 := hM5.a rfl
    have hk9 := hM5.c rfl
    have hn9 := hM5.ne rfl rfl
    have hby := hc9.2.2
    have hbo := hk9.2.2
    rw [← back_zero S] at hby hbo
    have HM5 := Lib.hid hM5
    have HR5 := Lib.hid hR5
    have HAC : Hid (A ≠ C) := Lib.hid hn9
    have hra : Z.r ≠ A := by have := HRL.out; omega
    have hrc : Z.r ≠ C := by have := HRL.out; omega
    have HR : Hid (¬ (Z.r = A ∨ Z.r = C)) := Lib.hid (by rintro (q | q); exact hra q; exact hrc q)
    have hda : ¬ (Z.d = A ∨ Z.d = C) := by have := HL4.out; omega
    have hRa : ¬ (Z.R = A ∨ Z.R = C) := by have := HL4.out; omega
    have hMa : ¬ (Z.M = A ∨ Z.M = C) := by have := HL4.out; omega
    have HD5 := Lib.hid (And.intro (HM4.out.1.stays hM5.t (Ne.symm HI.out.1) (Ne.symm HI.out.2.1) (Ne.symm HI.out.2.2.1)) (And.intro hda (And.intro hRa hMa)))
    have c6 := (hR5 6 _ rfl).1
    clear hM5 hc9 hk9 hn9 hra hrc hda hRa hMa hR4
    generalize hww : wz = w5 at *
    clear hww
    go_wp2
    go_loopw [103] (fun kv wr => ∃ i : Nat, i ≤ F ∧ kv = .int .i64 (i : Int) ∧ ByteRow wr A T (Rst.back S i) ∧ BoolRow wr C T (Rst.back S i) ∧ Turned (fun k => k = A ∨ k = C) w5 wr) (fun kv _ => F - (intOf kv).toNat)
    case atStart => exact ⟨0, Nat.zero_le _, rfl, hby, hbo, .refl _ _⟩
    case round =>
     clear hby hbo
     obtain ⟨i, hi, rfl, hby, hbo, hT⟩ := hrel
     by_cases hlt : i < F
     ·have t0 : decide ((i : Int) < (F : Int)) = true := decide_eq_true (by omega)
      have t0' : decide (i < F) = true := decide_eq_true hlt
      obtain ⟨u, hu⟩ : ∃ u, u = 2 + i / 32 := ⟨_, rfl⟩
      obtain ⟨v, hv⟩ : ∃ v, v = i / 32 := ⟨_, rfl⟩
      obtain ⟨j, hj⟩ : ∃ j, j = i % 32 := ⟨_, rfl⟩
      have hq1 : (i : Int) / 32 = (v : Int) := by omega
      have hj1 : (i : Int) % 32 = (j : Int) := by omega
      have hj2 : Int.tmod (i : Int) 32 = (j : Int) := by rw [Int.tmod_eq_emod_of_nonneg (by omega)]; exact hj1
      obtain ⟨z, hz⟩ : ∃ z, z = safeAt S u := ⟨_, rfl⟩
      have hz32 : z.size = 32 := by rw [hz]; exact HFD.out.safe u
      have hjz : j < z.size := by omega
      have hjz0 : (0 : Int) ≤ (j : Int) := by omega
      have hjz1 : (j : Int) < (z.size : Int) := by omega
      have ix0 : (0 : Int) ≤ (i : Int) := by omega
      have ix1 : (i : Int) < (T : Int) := by omega
      have ix2 : i < T := by omega
      have HX : Hid (i < T) := Lib.hid ix2
      have hgd := Crc.byte_at z j hjz
      have HNX : Hid (bup (Rst.back S i) i (z[j]'hjz) = Rst.back S (i + 1)) := Lib.hid (by
       rw [← back_next]
       congr 1
       unfold Rst.sect
       rw [← hu, ← hz, ← hj]
       exact hgd.symm)
      have HDS := Lib.hid (dread_safe (S := S) (i := u) (by omega))
      have W1 := Lib.hid (w_in (2 + (v : Int)) u (by omega) (by omega))
      have W0 := Lib.hid (w_in (v : Int) v rfl (by omega))
      have W2 := Lib.hid (w_in ((i : Int) + 1) (i + 1) (by omega) (by omega))
      have W3 := Lib.hid (w_in (j : Int) j rfl (by omega))
      have HM : Hid (F - ((i : Int) + 1).toNat < F - i) := Lib.hid (by omega)
      have HZ := Lib.hid hz
      have HJ := Lib.hid (And.intro hj1 hj2)
      have HIX := Lib.hid (And.intro ix0 (And.intro ix1 (And.intro hjz0 hjz1)))
      have hDr := HD5.out.1.stays hT HD5.out.2.1 HD5.out.2.2.1 HD5.out.2.2.2
      clear hu hv hj hz hz32 hgd hj1 hj2 ix0 ix1 hjz0 hjz1
      obtain ⟨wu1, wu2⟩ := W1.out
      obtain ⟨wv1, wv2⟩ := W0.out
      obtain ⟨wk1, wk2⟩ := W2.out
      clear W0 W1 W2
      go_wp2_with fail
      refine (dread_any hDr (u : Int)).mono ?_
      rintro r w9 ⟨rfl, hb9⟩
      rw [HDS.out.1, HDS.out.2, errV_zero, ← HZ.out]
      have hT9 : Turned (fun k => k = A ∨ k = C) w5 w9 := hT.trans (.of_below hb9)
      have hby9 := hby.turned (F := fun _ => False) (.of_below hb9) id
      have hbo9 := hbo.turned (F := fun _ => False) (.of_below hb9) id
      have c3 := (HR5.out.turned hT9 HR.out 3 _ rfl).1
      have c4 := (HR5.out.turned hT9 HR.out 4 _ rfl).1
      clear hDr hby hbo hT hb9 wu1 wu2 wv1 wv2 hq1
      obtain ⟨ix0, ix1, hjz0, hjz1⟩ := HIX.out
      obtain ⟨hj1, hj2⟩ := HJ.out
      have hj3 := W3.out.1
      clear W3 HIX HJ
      go_wp2_with fail
      refine Flow.wp_region_go (by kernel_rfl) (by kernel_rfl) (by kernel_rfl) 135 rfl (by kernel_rfl) (pdV Z A C i j T z hjz) (fun _ L wz => ByteRow wz A T (cond (L 15) (bup (Rst.back S i) i (z[j]'hjz)) (Rst.back S i)) ∧ BoolRow wz C T (cond (L 17) (bup (Rst.back S i) i (z[j]'hjz)) (Rst.back S i)) ∧ Turned (fun k => k = A ∨ k = C) w9 wz) (fun _ _ => False) (()) (⟨hby9.turned (F := fun _ => False) (.of_below (Below.refl _ _).drew) id, hbo9.turned (F := fun _ => False) (.of_below (Below.refl _ _).drew) id, .of_below (Below.refl _ _).drew⟩) ⟨?_, ?_, ?_, ?_, ?_, ?_, ?_, ?_, ?_, ?_, ?_, ?_, ?_, ?_, ?_, ?_, ?_, ?_, trivial⟩ ?_ ?_
      ·intro g L wz K ρ hc0 hf0 hF hO hU hcl hi hd hC hK
       have e0 : ρ (.tmp 0) = .pointer (some ⟨Z.r, 0, none⟩) := hO 0 (by kernel_rfl)
       simp [go_sem, Flow.ylP_value, Flow.ylP_skip, Flow.ylP_enter, Flow.ylP_panic, hc0, hf0, e0]
       exact hK g wz hC (fun _ _ => rfl)
      ·intro g L wz K ρ hc0 hf0 hF hO hU hcl hi hd hC hK
       have d0 : L 0 = true := hd ⟨0, .data⟩ (by simp) rfl
       have e114 : ρ (.tmp 114) = .pointer (some ⟨Z.r, 0, none⟩) := hF 114 0 (by kernel_rfl) d0
       simp [go_sem, Flow.ylP_value, Flow.ylP_skip, Flow.ylP_enter, Flow.ylP_panic, hc0, hf0, e114]
       exact hK g wz hC (fun _ _ => rfl)
      ·intro g L wz K ρ hc0 hf0 hF hO hU hcl hi hd hC hK
       have d1 : L 1 = true := hd ⟨1, .data⟩ (by simp) rfl
       have e115 : ρ (.tmp 115) = .pointer (some ⟨Z.r, 0, none⟩) := hF 115 1 (by kernel_rfl) d1
       simp [go_sem, Flow.ylP_value, Flow.ylP_skip, Flow.ylP_enter, Flow.ylP_panic, hc0, hf0, e115]
       exact hK g wz hC (fun _ _ => rfl)
      ·intro g L wz K ρ hc0 hf0 hF hO hU hcl hi hd hC hK
       have d2 : L 2 = true := hd ⟨2, .data⟩ (by simp) rfl
       have e116 : ρ (.tmp 116) = .pointer (some ⟨Z.r, 3, none⟩) := hF 116 2 (by kernel_rfl) d2
       have cc := hC.2.2.cell c3 HR.out
       simp [go_sem, Flow.ylP_value, Flow.ylP_skip, Flow.ylP_enter, Flow.ylP_panic, hc0, hf0, e116, cc]
       exact hK g wz hC (fun _ _ => rfl)
      ·intro g L wz K ρ hc0 hf0 hF hO hU hcl hi hd hC hK
       have e14 : ρ (.tmp 14) = .int .i64 (i : Int) := hO 14 (by kernel_rfl)
       simp [go_sem, Flow.ylP_value, Flow.ylP_skip, Flow.ylP_enter, Flow.ylP_panic, hc0, hf0, e14]
       exact hK g wz hC (fun _ _ => rfl)
      ·intro g L wz K ρ hc0 hf0 hF hO hU hcl hi hd hC hK
       have e0 : ρ (.tmp 0) = .pointer (some ⟨Z.r, 0, none⟩) := hO 0 (by kernel_rfl)
       simp [go_sem, Flow.ylP_value, Flow.ylP_skip, Flow.ylP_enter, Flow.ylP_panic, hc0, hf0, e0]
       exact hK g wz hC (fun _ _ => rfl)
      ·intro g L wz K ρ hc0 hf0 hF hO hU hcl hi hd hC hK
       have d5 : L 5 = true := hd ⟨5, .data⟩ (by simp) rfl
       have e119 : ρ (.tmp 119) = .pointer (some ⟨Z.r, 0, none⟩) := hF 119 5 (by kernel_rfl) d5
       simp [go_sem, Flow.ylP_value, Flow.ylP_skip, Flow.ylP_enter, Flow.ylP_panic, hc0, hf0, e119]
       exact hK g wz hC (fun _ _ => rfl)
      ·intro g L wz K ρ hc0 hf0 hF hO hU hcl hi hd hC hK
       have d6 : L 6 = true := hd ⟨6, .data⟩ (by simp) rfl
       have e120 : ρ (.tmp 120) = .pointer (some ⟨Z.r, 0, none⟩) := hF 120 6 (by kernel_rfl) d6
       simp [go_sem, Flow.ylP_value, Flow.ylP_skip, Flow.ylP_enter, Flow.ylP_panic, hc0, hf0, e120]
       exact hK g wz hC (fun _ _ => rfl)
      ·intro g L wz K ρ hc0 hf0 hF hO hU hcl hi hd hC hK
       have d7 : L 7 = true := hd ⟨7, .data⟩ (by simp) rfl
       have e121 : ρ (.tmp 121) = .pointer (some ⟨Z.r, 4, none⟩) := hF 121 7 (by kernel_rfl) d7
       have cc := hC.2.2.cell c4 HR.out
       simp [go_sem, Flow.ylP_value, Flow.ylP_skip, Flow.ylP_enter, Flow.ylP_panic, hc0, hf0, e121, cc]
       exact hK g wz hC (fun _ _ => rfl)
      ·intro g L wz K ρ hc0 hf0 hF hO hU hcl hi hd hC hK
       have e14 : ρ (.tmp 14) = .int .i64 (i : Int) := hO 14 (by kernel_rfl)
       simp [go_sem, Flow.ylP_value, Flow.ylP_skip, Flow.ylP_enter, Flow.ylP_panic, hc0, hf0, e14]
       exact hK g wz hC (fun _ _ => rfl)
      ·intro g L wz K ρ hc0 hf0 hF hO hU hcl hi hd hC hK
       have e15 : ρ (.tmp 15) = .string z := hO 15 (by kernel_rfl)
       simp [go_sem, Flow.ylP_value, Flow.ylP_skip, Flow.ylP_enter, Flow.ylP_panic, hc0, hf0, e15]
       exact hK g wz hC (fun _ _ => rfl)
      ·intro g L wz K ρ hc0 hf0 hF hO hU hcl hi hd hC hK
       have e14 : ρ (.tmp 14) = .int .i64 (i : Int) := hO 14 (by kernel_rfl)
       simp [go_sem, Flow.ylP_value, Flow.ylP_skip, Flow.ylP_enter, Flow.ylP_panic, hc0, hf0, e14]
       exact hK g wz hC (fun _ _ => rfl)
      ·intro g L wz K ρ hc0 hf0 hF hO hU hcl hi hd hC hK
       have d11 : L 11 = true := hd ⟨11, .data⟩ (by simp) rfl
       have e125 : ρ (.tmp 125) = .int .i64 (i : Int) := hF 125 11 (by kernel_rfl) d11
       simp [go_sem, Flow.ylP_value, Flow.ylP_skip, Flow.ylP_enter, Flow.ylP_panic, hc0, hf0, e125, hj1, hj2, hj3]
       exact hK g wz hC (fun _ _ => rfl)
      ·intro g L wz K ρ hc0 hf0 hF hO hU hcl hi hd hC hK
       have d10 : L 10 = true := hd ⟨10, .data⟩ (by simp) rfl
       have e124 : ρ (.tmp 124) = .string z := hF 124 10 (by kernel_rfl) d10
       have d12 : L 12 = true := hd ⟨12, .data⟩ (by simp) rfl
       have e126 : ρ (.tmp 126) = .int .i64 (j : Int) := hF 126 12 (by kernel_rfl) d12
       simp [go_sem, Flow.ylP_value, Flow.ylP_skip, Flow.ylP_enter, Flow.ylP_panic, hc0, hf0, e124, e126, hjz, hjz0, hjz1]
       exact hK g wz hC (fun _ _ => rfl)
      ·intro g L wz K ρ hc0 hf0 hF hO hU hcl hi hd hC hK
       have d3 : L 3 = true := hd ⟨3, .data⟩ (by simp) rfl
       have e117 : ρ (.tmp 117) = .slice (some ⟨A, 0, none⟩) T T := hF 117 3 (by kernel_rfl) d3
       have d4 : L 4 = true := hd ⟨4, .data⟩ (by simp) rfl
       have e118 : ρ (.tmp 118) = .int .i64 (i : Int) := hF 118 4 (by kernel_rfl) d4
       simp [go_sem, Flow.ylP_value, Flow.ylP_skip, Flow.ylP_enter, Flow.ylP_panic, hc0, hf0, e117, e118, ix0, ix1, ix2]
       exact hK g wz hC (fun _ _ => rfl)
      ·intro g L wz K ρ hc0 hf0 hF hO hU hcl hi hd hC hK
       have d14 : L 14 = true := hd ⟨14, .data⟩ (by simp) rfl
       have e128 : ρ (.tmp 128) = .pointer (some ⟨A, i, none⟩) := hF 128 14 (by kernel_rfl) d14
       have d13 : L 13 = true := hd ⟨13, .data⟩ (by simp) rfl
       have e127 : ρ (.tmp 127) = .int .u8 ((z[j]'hjz).toNat : Int) := hF 127 13 (by kernel_rfl) d13
       have fc := (hC.1 i HX.out).2
       have cc := (hC.1 i HX.out).1
       simp [go_sem, Flow.ylP_value, Flow.ylP_skip, Flow.ylP_enter, Flow.ylP_panic, hc0, hf0, e128, e127, fc, cc]
       rw [hi] at hC
       exact hK () _ ⟨hC.1.set HX.out (z[j]'hjz), hC.2.1.turned (F := fun k => k = A) (.set _ _ _ rfl) (Ne.symm HAC.out), hC.2.2.trans (.set _ _ _ (.inl rfl))⟩ (fun _ _ => rfl)
      ·intro g L wz K ρ hc0 hf0 hF hO hU hcl hi hd hC hK
       have d8 : L 8 = true := hd ⟨8, .data⟩ (by simp) rfl
       have e122 : ρ (.tmp 122) = .slice (some ⟨C, 0, none⟩) T T := hF 122 8 (by kernel_rfl) d8
       have d9 : L 9 = true := hd ⟨9, .data⟩ (by simp) rfl
       have e123 : ρ (.tmp 123) = .int .i64 (i : Int) := hF 123 9 (by kernel_rfl) d9
       simp [go_sem, Flow.ylP_value, Flow.ylP_skip, Flow.ylP_enter, Flow.ylP_panic, hc0, hf0, e122, e123, ix0, ix1, ix2]
       exact hK g wz hC (fun _ _ => rfl)
      ·intro g L wz K ρ hc0 hf0 hF hO hU hcl hi hd hC hK
       have d16 : L 16 = true := hd ⟨16, .data⟩ (by simp) rfl
       have e129 : ρ (.tmp 129) = .pointer (some ⟨C, i, none⟩) := hF 129 16 (by kernel_rfl) d16
       have fc := (hC.2.1 i HX.out).2
       have cc := (hC.2.1 i HX.out).1
       simp [go_sem, Flow.ylP_value, Flow.ylP_skip, Flow.ylP_enter, Flow.ylP_panic, hc0, hf0, e129, fc, cc]
       rw [hi] at hC
       exact hK () _ ⟨hC.1.turned (F := fun k => k = C) (.set _ _ _ rfl) HAC.out, hC.2.1.set HX.out (z[j]'hjz), hC.2.2.trans (.set _ _ _ (.inr rfl))⟩ (fun _ _ => rfl)
      ·intro g L ch wz h; exact h.elim
      ·intro g L wz hL hC
       rw [hL 15 (by decide), hL 17 (by decide)] at hC
       simp only [Flow.putAll, pdV]
       simp [Act.put]
       obtain ⟨p1, p2, p3⟩ := hC
       rw [HNX.out] at p1 p2
       have hT10 := hT9.trans p3
       clear p3 hT9 c3 c4 hj1 hj2 hj3 ix0 ix1 ix2 hby9 hbo9
       go_wp2
       go_roundw
       case rel => exact ⟨i + 1, hlt, by go_num, p1, p2, hT10⟩
       case measure => simpa [intOf] using HM.out
     ·obtain rfl : i = F := by omega
      have t0 : decide ((i : Int) < (i : Int)) = false := decide_eq_false (by omega)
      have t0' : decide (i < i) = false := decide_eq_false hlt
      have c6 := (HR5.out.turned hT HR.out 6 _ rfl).1
      clear hlt
      have hP := PR.rowed (f := Rst.back S i) ⟨HI.out.1, HI.out.2.1, HI.out.2.2.1, HI.out.2.2.2⟩ HR5.out HM5.out HM4.out.1 ⟨HL4.out.1, HL4.out.2.1, HL4.out.2.2.1⟩ hT hby hbo HFE3.out
      have hmm := HM4.out.2.trans (rowed_moves HM5.out)
      have hT2 : Turned (Z.rowed A C T).foot w5 wr := hT.mono fun k hk => by
       rcases hk with q | q
       ·exact .inr (.inr (.inr (.inr (.inl q))))
       ·exact .inr (.inr (.inr (.inr (.inr q))))
      have HP := Lib.hid (And.intro hP (hmm.trans (.of_turned hT2 fun k hk => hk)))
      clear hP hmm hT2 hby hbo hT
      go_wp2
      go_ret
      rw [HCR3.out]
      exact ⟨rfl, Z.rowed A C T, rfl, HP.out.1, HP.out.2⟩
theorem pnew_any (w : World) :
  Calls Tryz.prog 6 #[] w fun e w' => ∃ Z : PLoc, e = .returned (.pointer (some ⟨Z.r, 0, none⟩)) ∧ PR w' 0 Z Rst.new ∧ (∀ i, Z.foot i → w.heap.size ≤ i) ∧ Below w.heap.size w w' := by
 go_enter Tryz.func6, Tryz.ntmps6
 go_wp2_with fail
 refine (dnew_any 140 (by omega) w).mono ?_
 rintro r w1 ⟨d, R, M, rfl, hP, hlo, hb1⟩
 have hlt : d < w1.heap.size ∧ R < w1.heap.size ∧ M < w1.heap.size := ⟨cell_lt hP.c0, row_lt hP.row, hP.im.lt⟩
 have hs := hb1.size
 go_wp2
 have b2 := below1 w1 (.cells #[.pointer (some ⟨d, 0, none⟩), .int .u32 0, .int .i64 0, .slice none 0 0, .slice none 0 0, .int .i64 0, .int .i64 0, .int .i64 0] 72)
 have hR : RC (w1.alloc (.cells #[.pointer (some ⟨d, 0, none⟩), .int .u32 0, .int .i64 0, .slice none 0 0, .slice none 0 0, .int .i64 0, .int .i64 0, .int .i64 0] 72)) w1.heap.size (recVs d 0 0 nilS nilS 0 0 0) := RC.new w1 (recVs d 0 0 nilS nilS 0 0 0) 72
 go_ret
 refine ⟨⟨w1.heap.size, d, R, M, 140, 0, w1.heap.size, 0, w1.heap.size, 0, nilS, nilS⟩, rfl, ⟨hR, hP.below b2, fun q => absurd q (Nat.lt_irrefl _), ?_, ?_, ?_, fun i hi => ?_, RFit.new (by omega), by simp only; omega⟩, fun i hi => ?_, hb1.trans (b2.mono hb1.size)⟩
 ·simp only; omega
 ·simp only; omega
 ·simp only; omega
 ·rcases hi with q | q | q | q | q | q <;> simp only at q <;> simp <;> omega
 ·rcases hi with q | q | q | q | q | q <;> simp only at q <;> omega
end Go.Proofs.YtfefpcdgflgaeaaGreatDoor
end

section
namespace Go.Proofs.YtfefpcdgflgaeaaGreatDoor
set_option linter.unusedSimpArgs false
set_option linter.unusedVariables false
open Go.RowKit As Go.Maps
/-- The reference's disk lies in block d: its maps in M1 (what lasts), M2. -/
structure RD (w : World) (d M1 M2 N n1 n2 : Nat) (S X : DF) : Prop where
 c0 : w.cell? ⟨d, 0, none⟩ = some (.int .i64 (N : Int))
 c1 : w.cell? ⟨d, 1, none⟩ = some (.map (some M1))
 c2 : w.cell? ⟨d, 2, none⟩ = some (.map (some M2))
 f2 : w.frozen? ⟨d, 2, none⟩ = false
 i1 : IM w M1 n1 S
 i2 : IM w M2 n2 X
 fit : DFit N S X
 d1 : d ≠ M1
 d2 : d ≠ M2
 m12 : M1 ≠ M2
def RFoot (d M1 M2 : Nat) : Nat → Prop := fun i => i = d ∨ i = M1 ∨ i = M2
structure TwoM (w : World) (g A B : Nat) : Prop where
 c0 : w.cell? ⟨g, 0, none⟩ = some (.map (some A))
 c1 : w.cell? ⟨g, 1, none⟩ = some (.map (some B))
section
variable {w w' : World} {d M1 M2 N n1 n2 : Nat} {S X : DF} {F : Nat → Prop}
theorem RD.stays (h : RD w d M1 M2 N n1 n2 S X) (ht : Turned F w w') (hd : ¬ F d) (h1 : ¬ F M1) (h2 : ¬ F M2) : RD w' d M1 M2 N n1 n2 S X :=
 ⟨ht.cell h.c0 hd, ht.cell h.c1 hd, ht.cell h.c2 hd, (ht.frozen (a := ⟨d, 2, none⟩) (cell_lt h.c2) hd).trans h.f2, ht.im h.i1 h1, ht.im h.i2 h2, h.fit, h.d1, h.d2, h.m12⟩
theorem RD.below (h : RD w d M1 M2 N n1 n2 S X) (hb : Below w.heap.size w w') : RD w' d M1 M2 N n1 n2 S X := h.stays (F := fun _ => False) (.of_below hb) id id id
end
theorem rin_any (n a b : Int) (w : World) : Calls Tryz.prog 69 #[.int .i64 n, .int .i64 a, .int .i64 b] w fun e w' => e = .returned (.bool (decide (a ≤ n) && decide (n ≤ b))) ∧ w = w' := by
 by_cases h1 : a ≤ n
 ·have d1 : decide (a ≤ n) = true := decide_eq_true h1
  by_cases h2 : n ≤ b
  ·have d2 : decide (n ≤ b) = true := decide_eq_true h2
   rw [d1, d2]
   go_enter Tryz.func69, Tryz.ntmps69
   go_wp2
   go_ret
   exact ⟨rfl, rfl⟩
  ·have d2 : decide (n ≤ b) = false := decide_eq_false h2
   rw [d1, d2]
   go_enter Tryz.func69, Tryz.ntmps69
   go_wp2
   go_ret
   exact ⟨rfl, rfl⟩
 ·have d1 : decide (a ≤ n) = false := decide_eq_false h1
  rw [d1]
  go_enter Tryz.func69, Tryz.ntmps69
  go_wp2
  go_ret
  exact ⟨rfl, rfl⟩
theorem rin_no {N : Nat} {at_ : Int} (h : at_ < 0 ∨ (N : Int) ≤ at_) : (decide (0 ≤ at_) && decide (at_ ≤ (N : Int) - 1)) = false := by
 rcases h with h | h
 ·rw [decide_eq_false (by omega)]; rfl
 ·rw [decide_eq_false (p := at_ ≤ (N : Int) - 1) (by omega), Bool.and_false]
theorem rin_yes {N : Nat} {at_ : Int} (h : ¬ (at_ < 0 ∨ (N : Int) ≤ at_)) : (decide (0 ≤ at_) && decide (at_ ≤ (N : Int) - 1)) = true := by
 rw [decide_eq_true (by omega), decide_eq_true (by omega)]; rfl
def rrV (d M1 M2 : Nat) (g : Nat) : Nat → Value
 | 0 => .pointer (some ⟨d, 0, none⟩)
 | 1 => .pointer (some ⟨d, 0, none⟩)
 | 2 => .pointer (some ⟨d, 2, none⟩)
 | 3 => .map (some M2)
 | 4 => .pointer (some ⟨d, 0, none⟩)
 | 5 => .pointer (some ⟨d, 0, none⟩)
 | 6 => .pointer (some ⟨d, 1, none⟩)
 | 7 => .map (some M1)
 | 8 => .slice (some ⟨g, 0, none⟩) 2 2
 | 9 => .int .i64 2
 | 10 => .int .i64 0
 | _ => undef
set_option maxHeartbeats 1000000 in
set_option maxRecDepth 100000 in
theorem rread_any {w : World} {d M1 M2 N n1 n2 : Nat} {S X : DF} (h : RD w d M1 M2 N n1 n2 S X) (at_ : Int) :
  Calls Tryz.prog 49 #[.pointer (some ⟨d, 0, none⟩), .int .i64 at_] w fun e w' => e = .returned (.tuple #[.string (drText N S X at_), .int .i64 (drErr N at_)]) ∧ Below w.heap.size w w' := by
 have c0 := h.c0
 have h140 := h.fit.n
 have wN : IntKind.i64.wrap ((N : Int) - 1) = (N : Int) - 1 := IntWalk.i64_in _ (by omega)
 go_enter Tryz.func49, Tryz.ntmps49
 go_wp2_with fail
 refine (rin_any at_ 0 ((N : Int) - 1) w).mono ?_
 rintro r w1 ⟨rfl, rfl⟩
 by_cases hr : at_ < 0 ∨ (N : Int) ≤ at_
 ·rw [rin_no hr]
  have e1 := Lib.hid (show drText N S X at_ = ⟨#[]⟩ by unfold drText; rw [if_pos hr])
  have e2 := Lib.hid (show drErr N at_ = 2 by unfold drErr; rw [if_pos hr])
  clear hr
  go_wp2
  go_ret2
  rw [e1.out, e2.out]
  exact ⟨rfl, Below.refl _ _⟩
 ·rw [rin_yes hr]
  obtain ⟨k, rfl⟩ := Int.eq_ofNat_of_zero_le (show 0 ≤ at_ by omega)
  have hno : ¬ ((k : Int) < 0 ∨ (N : Int) ≤ (k : Int)) := hr
  have hk6 : k ≤ 1000000 := by omega
  have e2 := Lib.hid (show drErr N k = 0 by unfold drErr; rw [if_neg hno])
  have hb1 : Below w.heap.size w w := Below.refl _ _
  have h1 := h
  clear hr h140 wN c0
  go_wp2
  refine Flow.wp_region_go (by kernel_rfl) (by kernel_rfl) (by kernel_rfl) 42 rfl (by kernel_rfl) (rrV d M1 M2) (fun g L wz => RD wz d M1 M2 N n1 n2 S X ∧ (L 8 = true → TwoM wz g M2 M1) ∧ Below w.heap.size w wz) (fun _ _ => False) (0) (⟨h1.below (Below.refl _ _).drew, (fun h => by cases h), (Below.refl _ _).drew⟩) ⟨?_, ?_, ?_, ?_, ?_, ?_, ?_, ?_, ?_, ?_, ?_, trivial⟩ ?_ ?_
  ·intro g L wz K ρ hc0 hf0 hF hO hU hcl hi hd hC hK
   have e0 : ρ (.tmp 0) = .pointer (some ⟨d, 0, none⟩) := hO 0 (by kernel_rfl)
   simp [go_sem, Flow.ylP_value, Flow.ylP_skip, Flow.ylP_enter, Flow.ylP_panic, hc0, hf0, e0]
   exact hK g wz hC (fun _ _ => rfl)
  ·intro g L wz K ρ hc0 hf0 hF hO hU hcl hi hd hC hK
   have d0 : L 0 = true := hd ⟨0, .data⟩ (by simp) rfl
   have e18 : ρ (.tmp 18) = .pointer (some ⟨d, 0, none⟩) := hF 18 0 (by kernel_rfl) d0
   simp [go_sem, Flow.ylP_value, Flow.ylP_skip, Flow.ylP_enter, Flow.ylP_panic, hc0, hf0, e18]
   exact hK g wz hC (fun _ _ => rfl)
  ·intro g L wz K ρ hc0 hf0 hF hO hU hcl hi hd hC hK
   have d1 : L 1 = true := hd ⟨1, .data⟩ (by simp) rfl
   have e19 : ρ (.tmp 19) = .pointer (some ⟨d, 0, none⟩) := hF 19 1 (by kernel_rfl) d1
   simp [go_sem, Flow.ylP_value, Flow.ylP_skip, Flow.ylP_enter, Flow.ylP_panic, hc0, hf0, e19]
   exact hK g wz hC (fun _ _ => rfl)
  ·intro g L wz K ρ hc0 hf0 hF hO hU hcl hi hd hC hK
   have d2 : L 2 = true := hd ⟨2, .data⟩ (by simp) rfl
   have e20 : ρ (.tmp 20) = .pointer (some ⟨d, 2, none⟩) := hF 20 2 (by kernel_rfl) d2
   have cc := hC.1.c2
   simp [go_sem, Flow.ylP_value, Flow.ylP_skip, Flow.ylP_enter, Flow.ylP_panic, hc0, hf0, e20, cc]
   exact hK g wz hC (fun _ _ => rfl)
  ·intro g L wz K ρ hc0 hf0 hF hO hU hcl hi hd hC hK
   have e0 : ρ (.tmp 0) = .pointer (some ⟨d, 0, none⟩) := hO 0 (by kernel_rfl)
   simp [go_sem, Flow.ylP_value, Flow.ylP_skip, Flow.ylP_enter, Flow.ylP_panic, hc0, hf0, e0]
   exact hK g wz hC (fun _ _ => rfl)
  ·intro g L wz K ρ hc0 hf0 hF hO hU hcl hi hd hC hK
   have d4 : L 4 = true := hd ⟨4, .data⟩ (by simp) rfl
   have e22 : ρ (.tmp 22) = .pointer (some ⟨d, 0, none⟩) := hF 22 4 (by kernel_rfl) d4
   simp [go_sem, Flow.ylP_value, Flow.ylP_skip, Flow.ylP_enter, Flow.ylP_panic, hc0, hf0, e22]
   exact hK g wz hC (fun _ _ => rfl)
  ·intro g L wz K ρ hc0 hf0 hF hO hU hcl hi hd hC hK
   have d5 : L 5 = true := hd ⟨5, .data⟩ (by simp) rfl
   have e23 : ρ (.tmp 23) = .pointer (some ⟨d, 0, none⟩) := hF 23 5 (by kernel_rfl) d5
   simp [go_sem, Flow.ylP_value, Flow.ylP_skip, Flow.ylP_enter, Flow.ylP_panic, hc0, hf0, e23]
   exact hK g wz hC (fun _ _ => rfl)
  ·intro g L wz K ρ hc0 hf0 hF hO hU hcl hi hd hC hK
   have d6 : L 6 = true := hd ⟨6, .data⟩ (by simp) rfl
   have e24 : ρ (.tmp 24) = .pointer (some ⟨d, 1, none⟩) := hF 24 6 (by kernel_rfl) d6
   have cc := hC.1.c1
   simp [go_sem, Flow.ylP_value, Flow.ylP_skip, Flow.ylP_enter, Flow.ylP_panic, hc0, hf0, e24, cc]
   exact hK g wz hC (fun _ _ => rfl)
  ·intro g L wz K ρ hc0 hf0 hF hO hU hcl hi hd hC hK
   have d3 : L 3 = true := hd ⟨3, .data⟩ (by simp) rfl
   have e21 : ρ (.tmp 21) = .map (some M2) := hF 21 3 (by kernel_rfl) d3
   have d7 : L 7 = true := hd ⟨7, .data⟩ (by simp) rfl
   have e25 : ρ (.tmp 25) = .map (some M1) := hF 25 7 (by kernel_rfl) d7
   simp [go_sem, Flow.ylP_value, Flow.ylP_skip, Flow.ylP_enter, Flow.ylP_panic, hc0, hf0, e21, e25]
   refine hK wz.heap.size _ ?_ (by intro j hj; unfold rrV; split <;> first | rfl | (rw [hi] at hj; cases hj) | (have hz := hcl _ 8 (by kernel_rfl) hj; rw [hi] at hz; cases hz))
   exact ⟨hC.1.below (below1 _ _), fun _ => ⟨by rw [World.cell?_alloc_new]; rfl, by rw [World.cell?_alloc_new]; rfl⟩, hC.2.2.trans ((below1 _ _).mono hC.2.2.size)⟩
  ·intro g L wz K ρ hc0 hf0 hF hO hU hcl hi hd hC hK
   have d8 : L 8 = true := hd ⟨8, .data⟩ (by simp) rfl
   have e26 : ρ (.tmp 26) = .slice (some ⟨g, 0, none⟩) 2 2 := hF 26 8 (by kernel_rfl) d8
   simp [go_sem, Flow.ylP_value, Flow.ylP_skip, Flow.ylP_enter, Flow.ylP_panic, hc0, hf0, e26]
   exact hK g wz hC (fun _ _ => rfl)
  ·intro g L wz K ρ hc0 hf0 hF hO hU hcl hi hd hC hK
   simp [go_sem, Flow.ylP_value, Flow.ylP_skip, Flow.ylP_enter, Flow.ylP_panic, hc0, hf0]
   exact hK g wz hC (fun _ _ => rfl)
  ·intro g L ch wz h; exact h.elim
  ·intro g L wz hL hC
   have hT := hC.2.1 (hL 8 (by decide))
   have hR := hC.1
   have hB := hC.2.2
   clear hC hL
   simp only [Flow.putAll, rrV]
   simp [Act.put]
   go_wp2
   go_loopw [7, 8, 9, 28] (fun _ _ _ iv wr => (iv = .int .i64 0 ∧ wr = wz) ∨ (iv = .int .i64 1 ∧ wr = wz ∧ X k = none) ∨ (iv = .int .i64 2 ∧ wr = wz ∧ X k = none ∧ S k = none)) (fun _ _ _ iv _ => 2 - (intOf iv).toNat)
   case atStart => exact .inl ⟨rfl, rfl⟩
   case round =>
    obtain ⟨t0, t1⟩ := hT
    rcases hrel with ⟨rfl, rfl⟩ | ⟨rfl, rfl, hx⟩ | ⟨rfl, rfl, hx, hs⟩
    ·have hl := hR.i2.look_ok k hk6
     cases hx : X k with
     | none =>
      rw [hx] at hl
      simp only [Option.getD_none, Option.isSome_none] at hl
      go_wp2
      go_roundw
      case rel => first | exact .inr (.inl ⟨rfl, rfl, hx⟩) | exact .inr (.inl ⟨rfl, trivial, trivial⟩) | simp [hx]
      case measure => simp [intOf]
     | some t =>
      rw [hx] at hl
      simp only [Option.getD_some, Option.isSome_some] at hl
      have e1 := Lib.hid (show drText N S X k = t by unfold drText nowAt; rw [if_neg hno]; simp [hx])
      go_wp2
      go_ret2
      rw [e1.out, e2.out]
      exact ⟨rfl, hb1.trans (hB.mono hb1.size)⟩
    ·have hl := hR.i1.look_ok k hk6
     cases hs : S k with
     | none =>
      rw [hs] at hl
      simp only [Option.getD_none, Option.isSome_none] at hl
      go_wp2
      go_roundw
      case rel => first | exact .inr (.inr ⟨rfl, rfl, hx, hs⟩) | simp [hx, hs]
      case measure => simp [intOf]
     | some t =>
      rw [hs] at hl
      simp only [Option.getD_some, Option.isSome_some] at hl
      have e1 := Lib.hid (show drText N S X k = t by unfold drText nowAt safeAt; rw [if_neg hno]; simp [hx, hs])
      go_wp2
      go_ret2
      rw [e1.out, e2.out]
      exact ⟨rfl, hb1.trans (hB.mono hb1.size)⟩
    ·have e1 := Lib.hid (show drText N S X k = zeros 32 by unfold drText nowAt safeAt; rw [if_neg hno]; simp [hx, hs])
     go_wp2_with fail
     refine (Tryz.strings_Repeat ⟨#[0]⟩ 32 _ (by omega) (by show 1 * 32 ≤ _; omega)).mono ?_
     rintro r w5 ⟨rfl, hb5⟩
     go_wp2
     go_ret2
     rw [e1.out, e2.out]
     exact ⟨rfl, (hb1.trans (hB.mono hb1.size)).trans (hb5.mono (Nat.le_trans hb1.size hB.size))⟩
end Go.Proofs.YtfefpcdgflgaeaaGreatDoor
end

section
namespace Go.Proofs.YtfefpcdgflgaeaaGreatDoor
set_option linter.unusedSimpArgs false
set_option linter.unusedVariables false
open Go.RowKit As Go.Maps
set_option maxHeartbeats 1000000 in
set_option maxRecDepth 100000 in
theorem rnew_any (N : Nat) (h : N ≤ 140) (w : World) :
  Calls Tryz.prog 32 #[.int .i64 (N : Int)] w fun e w' => ∃ d M1 M2, e = .returned (.pointer (some ⟨d, 0, none⟩)) ∧ RD w' d M1 M2 N 0 0 (fun _ => none) (fun _ => none) ∧ (w.heap.size ≤ d ∧ w.heap.size ≤ M1 ∧ w.heap.size ≤ M2) ∧ Below w.heap.size w w' := by
 have hmm := @run_makeMap Tryz.prog
 have b1 : Below w.heap.size w (w.alloc (.map #[] 0)) := below1 w (.map #[] 0)
 have b2 := below1 (w.alloc (.map #[] 0)) (.map #[] 0)
 have b3 := below1 ((w.alloc (.map #[] 0)).alloc (.map #[] 0)) (.cells #[.int .i64 (N : Int), .map (some w.heap.size), .map (some (w.heap.size + 1))] 111)
 have i1 := IM.made w
 have i2 := IM.made (w.alloc (.map #[] 0))
 rw [World.size_alloc] at i2
 have hP : RD (((w.alloc (.map #[] 0)).alloc (.map #[] 0)).alloc (.cells #[.int .i64 (N : Int), .map (some w.heap.size), .map (some (w.heap.size + 1))] 111)) (w.heap.size + 2) w.heap.size (w.heap.size + 1) N 0 0 (fun _ => none) (fun _ => none) := by
  have e : w.heap.size + 2 = ((w.alloc (.map #[] 0)).alloc (.map #[] 0)).heap.size := by simp
  refine ⟨?_, ?_, ?_, by rw [e]; generalize (w.alloc (.map #[] 0)).alloc (.map #[] 0) = W; simp, ((Turned.of_below (S := fun _ => False) b3).im ((Turned.of_below (S := fun _ => False) b2).im i1 id) id), (Turned.of_below (S := fun _ => False) b3).im i2 id, .new h, by omega, by omega, by omega⟩ <;> (rw [e, World.cell?_alloc_new]; rfl)
 have b4 := (b1.trans (b2.mono b1.size)).trans (b3.mono (Nat.le_trans b1.size b2.size))
 clear i1 i2 b1 b2 b3
 go_enter Tryz.func32, Tryz.ntmps32
 go_wp2
 go_ret
 first
  | exact ⟨w.heap.size + 2, rfl, w.heap.size, w.heap.size + 1, hP, ⟨by omega, by omega, by omega⟩, b4⟩
  | exact ⟨w.heap.size + 2, rfl, w.heap.size, w.heap.size + 1, hP, by omega, by omega, by omega, b4⟩
def strLen : Value → Nat
 | .string s => s.size
 | _ => 0
theorem cat_zero (s : ByteArray) : s ++ zeros 0 = s := by
 apply str_of
 simp [zeros]
theorem cat_next (s : ByteArray) (k : Nat) : (s ++ zeros k) ++ (⟨#[0]⟩ : ByteArray) = s ++ zeros (k + 1) := by
 apply str_of
 simp [zeros, List.replicate_succ']
theorem RD.wrote {w w' : World} {d M1 M2 N n1 n2 k : Nat} {S X : DF} {s : ByteArray} (h : RD w d M1 M2 N n1 n2 S X) (hg : w.grownBy w' (some M2)) (hi : IM w' M2 (n2 + 1) (upd X k (padz s))) (hk : k < N) (hs : s.size ≤ 32) : RD w' d M1 M2 N n1 (n2 + 1) S (upd X k (padz s)) :=
 have ht : Turned (fun i => i = M2) w w' := .of_grown hg rfl
 ⟨ht.cell h.c0 h.d2, ht.cell h.c1 h.d2, ht.cell h.c2 h.d2, (ht.frozen (a := ⟨d, 2, none⟩) (cell_lt h.c2) h.d2).trans h.f2, ht.im h.i1 h.m12, hi, h.fit.write hk hs, h.d1, h.d2, h.m12⟩
set_option maxHeartbeats 1000000 in
set_option maxRecDepth 100000 in
theorem rwrite_any {w : World} {d M1 M2 N n1 n2 : Nat} {S X : DF} (h : RD w d M1 M2 N n1 n2 S X) (at_ : Int) (s : ByteArray) (hs : s.size ≤ 1000000) (hn9 : n2 < maxLen) :
  Calls Tryz.prog 37 #[.pointer (some ⟨d, 0, none⟩), .int .i64 at_, .string s] w fun e w' => e = .returned (.int .i64 (dwErr N at_ s)) ∧ RD w' d M1 M2 N n1 (n2 + 1) S (dwX N X at_ s) ∧ Turned (RFoot d M1 M2) w w' := by
 have c0 := h.c0
 have h140 := h.fit.n
 have hno : dwErr N at_ s ≠ 0 → RD w d M1 M2 N n1 (n2 + 1) S (dwX N X at_ s) := fun he => by
  unfold dwX
  rw [if_neg he]
  exact ⟨h.c0, h.c1, h.c2, h.f2, h.i1, h.i2.mono (Nat.le_succ n2), h.fit, h.d1, h.d2, h.m12⟩
 have wN : IntKind.i64.wrap ((N : Int) - 1) = (N : Int) - 1 := IntWalk.i64_in _ (by omega)
 go_enter Tryz.func37, Tryz.ntmps37
 go_wp2_with fail
 refine (rin_any at_ 0 ((N : Int) - 1) w).mono ?_
 rintro r w1 ⟨rfl, rfl⟩
 by_cases hr : at_ < 0 ∨ (N : Int) ≤ at_
 ·rw [rin_no hr]
  have e1 := Lib.hid (show dwErr N at_ s = 2 by unfold dwErr; rw [if_pos hr])
  have e2 := Lib.hid (hno (by rw [e1.out]; decide))
  clear hr hno
  go_wp2
  go_ret
  rw [e1.out]
  exact ⟨rfl, e2.out, .refl _ _⟩
 ·rw [rin_yes hr]
  obtain ⟨k, rfl⟩ := Int.eq_ofNat_of_zero_le (show 0 ≤ at_ by omega)
  have hkN : k < N := by omega
  by_cases h32 : 32 < s.size
  ·have d2 : decide ((32 : Int) < (s.size : Int)) = true := decide_eq_true (by omega)
   have e1 := Lib.hid (show dwErr N k s = 4 by unfold dwErr; rw [if_neg hr, if_pos h32])
   have e2 := Lib.hid (hno (by rw [e1.out]; decide))
   clear hr hno
   go_wp2
   go_ret
   rw [e1.out]
   exact ⟨rfl, e2.out, .refl _ _⟩
  ·have d2 : decide ((32 : Int) < (s.size : Int)) = false := decide_eq_false (by omega)
   have e1 := Lib.hid (show dwErr N k s = 0 by unfold dwErr; rw [if_neg hr, if_neg h32])
   have e2 := Lib.hid (show dwX N X k s = upd X k (padz s) by unfold dwX; rw [if_pos e1.out]; rfl)
   have hs32 : s.size ≤ 32 := by omega
   have hk6 : k ≤ 1000000 := by omega
   have HS := Lib.hid hs32
   obtain ⟨w9, hrun, him, hg9⟩ := h.i2.put k hk6 hn9 (s := padz s) (by rw [padz_size hs32]; unfold maxLen; omega)
   have hP9 := h.wrote hg9 him hkN hs32
   have c2 := h.c2
   clear hr hno h32 wN him
   go_wp2
   go_loop [2] (fun sv => ∃ T : ByteArray, sv = .string T ∧ Hid (∃ j, j ≤ 32 - s.size ∧ T = s ++ zeros j ∧ T.size = s.size + j)) (fun sv => 32 - (strLen sv))
   case atStart => exact ⟨s, rfl, Lib.hid ⟨0, Nat.zero_le _, (cat_zero s).symm, rfl⟩⟩
   case round =>
    obtain ⟨T, rfl, HT⟩ := hrel
    by_cases hlt : T.size < 32
    ·have t0 : decide ((T.size : Int) < 32) = true := decide_eq_true (by omega)
     have t1 : decide (T.size < 32) = true := decide_eq_true hlt
     have hcat : ¬ 9223372036854775807 < T.size + (⟨#[0]⟩ : ByteArray).size := by show ¬ _ < T.size + 1; omega
     obtain ⟨U, hU⟩ : ∃ U, U = T ++ (⟨#[0]⟩ : ByteArray) := ⟨_, rfl⟩
     have HU := Lib.hid (show U.size = T.size + 1 by rw [hU, ByteArray.size_append]; rfl)
     have HU2 := Lib.hid hU
     have HLT := Lib.hid hlt
     clear hlt hU
     go_wp2
     rw [← HU2.out]
     refine ⟨⟨U, rfl, ?_⟩, ?_⟩
     ·obtain ⟨j, h1, h2, h3⟩ := HT.out
      have := HLT.out
      exact Lib.hid ⟨j + 1, by omega, by rw [HU2.out, h2, cat_next], by rw [HU.out, h3]; omega⟩
     ·show 32 - U.size < 32 - T.size
      have := HU.out
      have := HLT.out
      omega
    ·obtain ⟨j, h1, h2, h3⟩ := HT.out
     have hpad : T = padz s := by rw [h2, show j = 32 - s.size by omega]; rfl
     subst hpad
     have t0 : decide (((padz s).size : Int) < 32) = false := decide_eq_false (by omega)
     have t1 : decide ((padz s).size < 32) = false := decide_eq_false hlt
     clear h1 h2 h3 hlt HT
     go_wp2
     go_ret
     rw [e1.out, e2.out]
     exact ⟨rfl, hP9, .of_grown hg9 (.inr (.inr rfl))⟩
end Go.Proofs.YtfefpcdgflgaeaaGreatDoor
end
