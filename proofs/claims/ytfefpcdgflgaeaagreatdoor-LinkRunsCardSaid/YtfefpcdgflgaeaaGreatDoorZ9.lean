/- The program's receiver: Take. Printed by gen_recvk.py out of recvk.src.

The program's record. -/
import Derived.Test.YtfefpcdgflgaeaaGreatDoorZ7
import Derived.Test.YtfefpcdgflgaeaaGreatDoorZ8
import Derived.Deep.DeepCutAuto
import Derived.Deep.Cut
import Derived.Deep.CutBlock
import Derived.Deep.OwnRows
import Derived.Test.YtfefpcdgflgaeaaGreatDoorZ6
import Derived.Deep.QuietTactic
import Derived.BigQuiet
section
namespace Go.Proofs.YtfefpcdgflgaeaaGreatDoor
set_option linter.unusedSimpArgs false
set_option linter.unusedVariables false
open Go.RowKit As Go.Maps
theorem boInfo : (Tryz.prog.info? 4).map (fun i => (i.zero, i.size, i.bytes)) = some (some (.bool false), 1, 1) := by kernel_rfl
theorem Ck.turned {w w' : World} {B : Nat} {m t a : Int} {d : ByteArray} {F : Nat → Prop} (h : Ck w B m t a d) (ht : Turned F w w') (hn : ¬ F B) : Ck w' B m t a d :=
 ⟨ht.cell h.c0 hn, ht.cell h.c1 hn, ht.cell h.c2 hn, ht.cell h.c3 hn, (ht.frozen (cell_lt h.c0) hn).trans h.f0, (ht.frozen (cell_lt h.c1) hn).trans h.f1, (ht.frozen (cell_lt h.c2) hn).trans h.f2, (ht.frozen (cell_lt h.c3) hn).trans h.f3⟩
theorem byteRow_new (w : World) (n : Nat) (t : TypeId) : ByteRow (w.alloc (.cells (madeCells #[.int .u8 0] n) t)) w.heap.size n (fun _ => none) := by
 intro i hi
 refine ⟨?_, by simp⟩
 rw [World.cell?_alloc_new]
 simp [madeCells, hi, Nat.mod_one]
theorem boolRow_new (w : World) (n : Nat) (t : TypeId) : BoolRow (w.alloc (.cells (madeCells #[.bool false] n) t)) w.heap.size n (fun _ => none) := by
 intro i hi
 refine ⟨?_, by simp⟩
 rw [World.cell?_alloc_new]
 simp [madeCells, hi, Nat.mod_one]
/-- Two rows are made, beside what is written into block r. -/
structure MadeB (w0 w : World) (r A C n : Nat) (lA lC : Bool) : Prop where
 t : Turned (fun i => i = r) w0 w
 a : lA = true → w0.heap.size ≤ A ∧ A < w.heap.size ∧ ByteRow w A n (fun _ => none)
 c : lC = true → w0.heap.size ≤ C ∧ C < w.heap.size ∧ BoolRow w C n (fun _ => none)
 ne : lA = true → lC = true → A ≠ C
 lt : r < w0.heap.size
section
variable {w0 w : World} {r A C n : Nat} {lA lC : Bool}
theorem MadeB.start (h : Below w0.heap.size w0 w) (hr : r < w0.heap.size) : MadeB w0 w r A C n false false := ⟨.of_below h, fun h => (by cases h), fun h => (by cases h), fun h => (by cases h), hr⟩
theorem MadeB.mkA (h : MadeB w0 w r A C n lA lC) (t : TypeId) : MadeB w0 (w.alloc (.cells (madeCells #[.int .u8 0] n) t)) r w.heap.size C n true lC := by
 have b := below1 w (.cells (madeCells #[.int .u8 0] n) t)
 refine ⟨h.t.trans (.of_below b), fun _ => ⟨h.t.size, by simp, byteRow_new w n t⟩, fun q => ?_, fun _ q => ?_, h.lt⟩
 ·obtain ⟨c1, c2, c3⟩ := h.c q
  exact ⟨c1, by simp; omega, c3.turned (F := fun _ => False) (.of_below b) id⟩
 ·have := (h.c q).2.1
  omega
theorem MadeB.mkC (h : MadeB w0 w r A C n lA lC) (t : TypeId) : MadeB w0 (w.alloc (.cells (madeCells #[.bool false] n) t)) r A w.heap.size n lA true := by
 have b := below1 w (.cells (madeCells #[.bool false] n) t)
 refine ⟨h.t.trans (.of_below b), fun q => ?_, fun _ => ⟨h.t.size, by simp, boolRow_new w n t⟩, fun q _ => ?_, h.lt⟩
 ·obtain ⟨c1, c2, c3⟩ := h.a q
  exact ⟨c1, by simp; omega, c3.turned (F := fun _ => False) (.of_below b) id⟩
 ·have := (h.a q).2.1
  omega
theorem MadeB.set (h : MadeB w0 w r A C n lA lC) (i : Nat) (v : Value) : MadeB w0 (w.setCell ⟨r, i, none⟩ v) r A C n lA lC := by
 have ht : Turned (fun j => j = r) w (w.setCell ⟨r, i, none⟩ v) := .set w i _ rfl
 refine ⟨h.t.trans ht, fun q => ?_, fun q => ?_, h.ne, h.lt⟩
 ·obtain ⟨c1, c2, c3⟩ := h.a q
  exact ⟨c1, by simpa using c2, c3.turned ht (by have := h.lt; omega)⟩
 ·obtain ⟨c1, c2, c3⟩ := h.c q
  exact ⟨c1, by simpa using c2, c3.turned ht (by have := h.lt; omega)⟩
end
/-- The place of a receiver whose rows are new. -/
def PLoc.rowed (Z : PLoc) (A C T : Nat) : PLoc := { Z with A := A, a := T, C := C, k := T, dv := .slice (some ⟨A, 0, none⟩) T T, cv := .slice (some ⟨C, 0, none⟩) T T }
theorem PR.rowed_new {w0 w : World} {E : Nat} {Z : PLoc} {A C T : Nat} {S X : DF} {nm sv sf mks : Nat} (hi : Z.r ≠ Z.d ∧ Z.r ≠ Z.R ∧ Z.r ≠ Z.M ∧ Z.n ≤ 200 * E) (hR : RC w Z.r (recVs Z.d nm T (.slice (some ⟨A, 0, none⟩) T T) (.slice (some ⟨C, 0, none⟩) T T) sv sf mks)) (hM : MadeB w0 w Z.r A C T true true) (hD : PD w0 Z.d Z.R Z.M 140 Z.c Z.n S X) (hl : Z.d < w0.heap.size ∧ Z.R < w0.heap.size ∧ Z.M < w0.heap.size)
  (hf : RFit E ⟨S, X, nm, T, fun _ => none, sv, sf, mks⟩) : PR w E (Z.rowed A C T) ⟨S, X, nm, T, fun _ => none, sv, sf, mks⟩ := by
 obtain ⟨h1, h2, h3, h4⟩ := hi
 obtain ⟨l1, l2, l3⟩ := hl
 obtain ⟨a1, a2, a3⟩ := hM.a rfl
 obtain ⟨c1, c2, c3⟩ := hM.c rfl
 have hne := hM.ne rfl rfl
 have hlt := hM.lt
 have hs := hM.t.size
 refine ⟨hR, hD.stays hM.t (Ne.symm h1) (Ne.symm h2) (Ne.symm h3), fun _ => ⟨rfl, rfl, Nat.le_refl _, Nat.le_refl _, a3, c3, hne, ?_, ?_, ?_, ?_, ?_, ?_, ?_, ?_⟩, h1, h2, h3, fun i hi => ?_, hf, h4⟩
 all_goals try (show _ ≠ _; simp only [PLoc.rowed]; omega)
 rcases hi with q | q | q | q | q | q <;> simp only [PLoc.rowed] at q <;> omega
theorem rowed_ne {w0 : World} {Z : PLoc} {A C T gc : Nat} (h1 : ∀ i, Z.foot i → i < gc) (h2 : gc < w0.heap.size) (ha : w0.heap.size ≤ A) (hc : w0.heap.size ≤ C) {i : Nat} (hi : (Z.rowed A C T).foot i) : i ≠ gc := by
 rcases hi with q | q | q | q | q | q
 ·exact Nat.ne_of_lt (h1 i (.inl q))
 ·exact Nat.ne_of_lt (h1 i (.inr (.inl q)))
 ·exact Nat.ne_of_lt (h1 i (.inr (.inr (.inl q))))
 ·exact Nat.ne_of_lt (h1 i (.inr (.inr (.inr (.inl q)))))
 ·simp only [PLoc.rowed] at q; omega
 ·simp only [PLoc.rowed] at q; omega
theorem rowed_moves {w0 w : World} {Z : PLoc} {A C T : Nat} (hM : MadeB w0 w Z.r A C T true true) : Moves Z.foot (Z.rowed A C T).foot w0 w :=
 ⟨hM.t.mono fun i hi => .inl hi, fun i hi => by
  rcases hi with q | q | q | q | q | q
  ·exact .inl (.inl q)
  ·exact .inl (.inr (.inl q))
  ·exact .inl (.inr (.inr (.inl q)))
  ·exact .inl (.inr (.inr (.inr (.inl q))))
  ·exact .inr (by rw [q]; exact (hM.a rfl).1)
  ·exact .inr (by rw [q]; exact (hM.c rfl).1)⟩
theorem PR.came_set {w w' : World} {E : Nat} {Z : PLoc} {s : Rst} {f f' : CF} {TT : Nat} (h : PR w E Z { s with came := f }) (ht : Turned (fun i => i = Z.A ∨ i = Z.C) w w') (hb : ByteRow w' Z.A TT f') (ho : BoolRow w' Z.C TT f') (hT : TT = s.tot) (hpos : 0 < s.tot) (hf : RFit E { s with came := f' }) : PR w' E Z { s with came := f' } := by
 subst hT
 have hr := h.rows hpos
 have no : ∀ i, i ≠ Z.A → i ≠ Z.C → ¬ (i = Z.A ∨ i = Z.C) := fun i a b q => by rcases q with q | q; exact a q; exact b q
 exact ⟨h.cells.turned ht (no _ (Ne.symm hr.ar) (Ne.symm hr.cr)), h.disk.stays ht (no _ (Ne.symm hr.ad) (Ne.symm hr.cd)) (no _ (Ne.symm hr.aR) (Ne.symm hr.cR)) (no _ (Ne.symm hr.aM) (Ne.symm hr.cM)), fun _ => ⟨hr.dv, hr.cv, hr.la, hr.lk, hb, ho, hr.ac, hr.ar, hr.ad, hr.aR, hr.aM, hr.cr, hr.cd, hr.cR, hr.cM⟩, h.rd, h.rR, h.rM, fun i hi => Nat.lt_of_lt_of_le (h.low i hi) ht.size, hf, h.cnt⟩
/-- What a step leaves that may make rows. -/
def PGoes (w : World) (E : Nat) (Z : PLoc) (s : Rst) (w' : World) : Prop := ∃ Z' : PLoc, Z'.r = Z.r ∧ PR w' E Z' s ∧ Moves Z.foot Z'.foot w w'
theorem named_zero {s : Rst} {E nm T : Nat} (hf : RFit E s) (h0 : s.tot = 0) : s.named nm T = ⟨s.S, s.X, nm, T, fun _ => none, s.sv, s.sf, s.mks⟩ := by
 have e : s.came = fun _ => none := funext fun i => hf.out i (by omega)
 unfold Rst.named
 rw [if_pos h0, ← e]
theorem RFit.nameds {K : Nat} {r : Rst} (h : RFit K r) {nm T : Nat} (hn : nm < 4294967296) (hT : T ≤ 4096) : RFit K (r.named nm T) := by
 unfold Rst.named
 split
 ·rename_i h0
  exact ⟨h.d, hn, hT, fun i hi => h.out i (by omega), h.sv, h.sf, h.mks, h.k, h.rs, h.rx⟩
 ·exact h
theorem RFit.fills {K : Nat} {r : Rst} (h : RFit K r) {a : Nat} {d : List UInt8} {k : Nat} (hk : a + k ≤ r.tot) : RFit K { r with came := Rst.fill r.came a d k } :=
 ⟨h.d, h.nm, h.tot, fun i hi => by
  show Rst.fill r.came a d k i = none
  rw [fill_out _ (by simp only at hi; omega)]
  exact h.out i hi, fun i hi => fill_some (h.sv i hi) _, h.sf, h.mks, h.k, h.rs, h.rx⟩
theorem named_came (s : Rst) (nm T : Nat) : (s.named nm T).came = s.came := by unfold Rst.named; split <;> rfl
theorem take_bad {s : Rst} {t : ByteArray} (h : s.takeE t ≠ 0) : s.take t = s := by unfold Rst.take; rw [if_neg h]
theorem take_good {s : Rst} {t : ByteArray} {nm T a : Nat} {d : ByteArray} (hu : unchunk t = (((nm : Int), (T : Int), (a : Int), d), 0)) (h : s.takeE t = 0) : s.take t = { s.named nm T with came := Rst.fill s.came a d.data.toList d.size } := by
 unfold Rst.take
 rw [if_pos h, hu]
 rfl
theorem takeE_bad {s : Rst} {t : ByteArray} (h : (unchunk t).2 ≠ 0) : s.takeE t = (unchunk t).2 := by unfold Rst.takeE; rw [if_pos h]
theorem takeE_name {s : Rst} {t : ByteArray} {nm T a : Nat} {d : ByteArray} (hu : unchunk t = (((nm : Int), (T : Int), (a : Int), d), 0)) (h0 : s.tot ≠ 0) (h : ¬ (nm = s.nm ∧ T = s.tot)) : s.takeE t = 6 := by
 unfold Rst.takeE
 rw [hu, if_neg (by simp), if_pos ⟨h0, fun q => h ⟨Int.ofNat.inj q.1, Int.ofNat.inj q.2⟩⟩]
theorem takeE_good {s : Rst} {t : ByteArray} {nm T a : Nat} {d : ByteArray} (hu : unchunk t = (((nm : Int), (T : Int), (a : Int), d), 0)) (h : s.tot = 0 ∨ nm = s.nm ∧ T = s.tot) : s.takeE t = 0 := by
 unfold Rst.takeE
 rw [hu, if_neg (by simp), if_neg]
 rintro ⟨h0, q⟩
 rcases h with h | ⟨rfl, rfl⟩
 ·exact h0 h
 ·exact q ⟨rfl, rfl⟩
def pkV (Z : PLoc) (gc nm T : Nat) (g : Unit) : Nat → Value
 | 0 => .pointer (some ⟨Z.r, 0, none⟩)
 | 1 => .pointer (some ⟨Z.r, 0, none⟩)
 | 2 => .pointer (some ⟨gc, 0, none⟩)
 | 3 => .int .u32 (nm : Int)
 | 4 => .pointer (some ⟨gc, 1, none⟩)
 | 5 => .int .i64 (T : Int)
 | 6 => .pointer (some ⟨Z.r, 0, none⟩)
 | 7 => .pointer (some ⟨Z.r, 1, none⟩)
 | 9 => .pointer (some ⟨Z.r, 0, none⟩)
 | 10 => .pointer (some ⟨Z.r, 2, none⟩)
 | _ => undef
def plV (Z : PLoc) (gc T : Nat) (g : Nat × Nat) : Nat → Value
 | 0 => .pointer (some ⟨Z.r, 0, none⟩)
 | 1 => .pointer (some ⟨Z.r, 0, none⟩)
 | 2 => .pointer (some ⟨gc, 1, none⟩)
 | 3 => .int .i64 (T : Int)
 | 4 => .slice (some ⟨g.1, 0, none⟩) T T
 | 5 => .pointer (some ⟨gc, 1, none⟩)
 | 6 => .int .i64 (T : Int)
 | 7 => .slice (some ⟨g.2, 0, none⟩) T T
 | 8 => .pointer (some ⟨Z.r, 0, none⟩)
 | 9 => .pointer (some ⟨Z.r, 3, none⟩)
 | 11 => .pointer (some ⟨Z.r, 0, none⟩)
 | 12 => .pointer (some ⟨Z.r, 4, none⟩)
 | _ => undef
def pqV (Z Z1 : PLoc) (gc a k TT : Nat) (d : ByteArray) (hkd : k < d.size) (g : Unit) : Nat → Value
 | 0 => .pointer (some ⟨Z.r, 0, none⟩)
 | 1 => .pointer (some ⟨Z.r, 0, none⟩)
 | 2 => .pointer (some ⟨Z.r, 3, none⟩)
 | 3 => .slice (some ⟨Z1.A, 0, none⟩) TT Z1.a
 | 4 => .pointer (some ⟨gc, 2, none⟩)
 | 5 => .int .i64 (a : Int)
 | 6 => .int .i64 (k : Int)
 | 7 => .int .i64 ((a + k : Nat) : Int)
 | 8 => .pointer (some ⟨Z.r, 0, none⟩)
 | 9 => .pointer (some ⟨Z.r, 0, none⟩)
 | 10 => .pointer (some ⟨Z.r, 4, none⟩)
 | 11 => .slice (some ⟨Z1.C, 0, none⟩) TT Z1.k
 | 12 => .pointer (some ⟨gc, 2, none⟩)
 | 13 => .int .i64 (a : Int)
 | 14 => .int .i64 (k : Int)
 | 15 => .int .i64 ((a + k : Nat) : Int)
 | 16 => .pointer (some ⟨gc, 3, none⟩)
 | 17 => .string d
 | 18 => .int .i64 (k : Int)
 | 19 => .int .u8 ((d[k]'hkd).toNat : Int)
 | 20 => .pointer (some ⟨Z1.A, a + k, none⟩)
 | 22 => .pointer (some ⟨Z1.C, a + k, none⟩)
 | _ => undef
set_option maxHeartbeats 2000000 in
set_option maxRecDepth 100000 in
theorem ptake_any {w : World} {E : Nat} {Z : PLoc} {s : Rst} (t : ByteArray) (h : PR w E Z s) (ht : t.size ≤ 1000000) (hE : E + 1 ≤ 1000000) :
  Calls Tryz.prog 9 #[.pointer (some ⟨Z.r, 0, none⟩), .string t] w fun e w' => e = .returned (errV (s.takeE t)) ∧ PGoes w (E + 1) Z (s.take t) w' := by
 have h' := h.more (K' := E + 1) (by omega) hE
 clear h hE
 have h := h'
 clear h'
 go_enter Tryz.func9, Tryz.ntmps9
 go_wp2_with fail
 refine (cread_any t _ ht).mono ?_
 rintro r w1 ⟨rfl, hb1⟩
 have h1 := h.below hb1
 by_cases he : (unchunk t).2 = 0
 ·obtain ⟨nm, T, a, d, hu, hnm, hT1, hT2, had, hd⟩ := unchunk_says he
  rw [hu]
  have hC0 := Ck.new w1 (nm : Int) (T : Int) (a : Int) d
  have b2 := below1 w1 (ckO (nm : Int) (T : Int) (a : Int) d)
  have h20 := h1.below b2
  have hb20 := hb1.trans (b2.mono hb1.size)
  have HU := Lib.hid hu
  have hgl := h1.low
  clear he hu h1 h
  unfold ckVal
  simp only [errV_zero]
  go_upto_region 4 with (fail)
  obtain ⟨gc, hgc⟩ : ∃ g, g = w1.heap.size := ⟨_, rfl⟩
  rw [← hgc] at hC0 hgl ⊢
  generalize w1.alloc (ckO (nm : Int) (T : Int) (a : Int) d) = w2 at *
  have c2 := h20.cell 2 rfl
  have HG := Lib.hid (show Z.r ≠ gc by have := hgl Z.r (.inl rfl); omega)
  have HGF := Lib.hid (show ∀ i, Z.foot i → i < gc from hgl)
  have HG2 := Lib.hid (cell_lt hC0.c0)
  have h2 := h20
  have hCk := hC0
  have hb2 := hb20
  have HB1 := Lib.hid hb1.size
  clear h20 hC0 hb20 hgc hgl b2 hb1
  go_upto_if 20 with (fail)
  go_cut [5] (fun v wx => v = .pointer (some ⟨gc, 0, none⟩) ∧ Ck wx gc nm T a d ∧ ∃ Z1 : PLoc, Z1.r = Z.r ∧ PR wx (E + 1) Z1 (s.named nm T) ∧ (∀ i, Z1.foot i → i ≠ gc) ∧ Moves Z.foot Z1.foot w wx)
  case first =>
   by_cases h0 : s.tot = 0
   ·have t0 : ((s.tot : Int) == 0) = true := by rw [h0]; rfl
    have HI := Lib.hid (And.intro h2.rd (And.intro h2.rR (And.intro h2.rM h2.cnt)))
    have HL := Lib.hid (And.intro (h2.low Z.d (.inr (.inl rfl))) (And.intro (h2.low Z.R (.inr (.inr (.inl rfl)))) (h2.low Z.M (.inr (.inr (.inr (.inl rfl)))))))
    have HRL := Lib.hid (h2.low Z.r (.inl rfl))
    have HNZ := Lib.hid (named_zero (nm := nm) (T := T) h2.fit h0)
    have HFN := Lib.hid (h2.fit.nameds hnm hT2)
    clear h0
    go_wp2
    refine Flow.wp_region_go (by kernel_rfl) (by kernel_rfl) (by kernel_rfl) 100 rfl (by kernel_rfl) (pkV Z gc nm T) (fun _ L wz => RC wz Z.r (recVs Z.d (cond (L 8) nm s.nm) (cond (L 11) T s.tot) Z.dv Z.cv s.sv s.sf s.mks) ∧ Ck wz gc nm T a d ∧ Turned (fun i => i = Z.r) w2 wz) (fun _ _ => False) (()) (⟨h2.cells.below (Below.refl _ _).drew, hCk.drew, .of_below (Below.refl _ _).drew⟩) ⟨?_, ?_, ?_, ?_, ?_, ?_, ?_, ?_, ?_, ?_, ?_, ?_, trivial⟩ ?_ ?_
    ·intro g L wz K ρ hc0 hf0 hF hO hU hcl hi hd hC hK
     have e0 : ρ (.tmp 0) = .pointer (some ⟨Z.r, 0, none⟩) := hO 0 (by kernel_rfl)
     simp [go_sem, Flow.ylP_value, Flow.ylP_skip, Flow.ylP_enter, Flow.ylP_panic, hc0, hf0, e0]
     exact hK g wz hC (fun _ _ => rfl)
    ·intro g L wz K ρ hc0 hf0 hF hO hU hcl hi hd hC hK
     have e0 : ρ (.tmp 0) = .pointer (some ⟨Z.r, 0, none⟩) := hO 0 (by kernel_rfl)
     simp [go_sem, Flow.ylP_value, Flow.ylP_skip, Flow.ylP_enter, Flow.ylP_panic, hc0, hf0, e0]
     exact hK g wz hC (fun _ _ => rfl)
    ·intro g L wz K ρ hc0 hf0 hF hO hU hcl hi hd hC hK
     have e5 : ρ (.tmp 5) = .pointer (some ⟨gc, 0, none⟩) := hO 5 (by kernel_rfl)
     simp [go_sem, Flow.ylP_value, Flow.ylP_skip, Flow.ylP_enter, Flow.ylP_panic, hc0, hf0, e5]
     exact hK g wz hC (fun _ _ => rfl)
    ·intro g L wz K ρ hc0 hf0 hF hO hU hcl hi hd hC hK
     have d2 : L 2 = true := hd ⟨2, .data⟩ (by simp) rfl
     have e23 : ρ (.tmp 23) = .pointer (some ⟨gc, 0, none⟩) := hF 23 2 (by kernel_rfl) d2
     have cc := hC.2.1.c0
     simp [go_sem, Flow.ylP_value, Flow.ylP_skip, Flow.ylP_enter, Flow.ylP_panic, hc0, hf0, e23, cc]
     exact hK g wz hC (fun _ _ => rfl)
    ·intro g L wz K ρ hc0 hf0 hF hO hU hcl hi hd hC hK
     have e5 : ρ (.tmp 5) = .pointer (some ⟨gc, 0, none⟩) := hO 5 (by kernel_rfl)
     simp [go_sem, Flow.ylP_value, Flow.ylP_skip, Flow.ylP_enter, Flow.ylP_panic, hc0, hf0, e5]
     exact hK g wz hC (fun _ _ => rfl)
    ·intro g L wz K ρ hc0 hf0 hF hO hU hcl hi hd hC hK
     have d4 : L 4 = true := hd ⟨4, .data⟩ (by simp) rfl
     have e25 : ρ (.tmp 25) = .pointer (some ⟨gc, 1, none⟩) := hF 25 4 (by kernel_rfl) d4
     have cc := hC.2.1.c1
     simp [go_sem, Flow.ylP_value, Flow.ylP_skip, Flow.ylP_enter, Flow.ylP_panic, hc0, hf0, e25, cc]
     exact hK g wz hC (fun _ _ => rfl)
    ·intro g L wz K ρ hc0 hf0 hF hO hU hcl hi hd hC hK
     have d0 : L 0 = true := hd ⟨0, .data⟩ (by simp) rfl
     have e21 : ρ (.tmp 21) = .pointer (some ⟨Z.r, 0, none⟩) := hF 21 0 (by kernel_rfl) d0
     simp [go_sem, Flow.ylP_value, Flow.ylP_skip, Flow.ylP_enter, Flow.ylP_panic, hc0, hf0, e21]
     exact hK g wz hC (fun _ _ => rfl)
    ·intro g L wz K ρ hc0 hf0 hF hO hU hcl hi hd hC hK
     have d6 : L 6 = true := hd ⟨6, .data⟩ (by simp) rfl
     have e27 : ρ (.tmp 27) = .pointer (some ⟨Z.r, 0, none⟩) := hF 27 6 (by kernel_rfl) d6
     simp [go_sem, Flow.ylP_value, Flow.ylP_skip, Flow.ylP_enter, Flow.ylP_panic, hc0, hf0, e27]
     exact hK g wz hC (fun _ _ => rfl)
    ·intro g L wz K ρ hc0 hf0 hF hO hU hcl hi hd hC hK
     have d7 : L 7 = true := hd ⟨7, .data⟩ (by simp) rfl
     have e28 : ρ (.tmp 28) = .pointer (some ⟨Z.r, 1, none⟩) := hF 28 7 (by kernel_rfl) d7
     have d3 : L 3 = true := hd ⟨3, .data⟩ (by simp) rfl
     have e24 : ρ (.tmp 24) = .int .u32 (nm : Int) := hF 24 3 (by kernel_rfl) d3
     have fc := (hC.1 1 _ rfl).2
     have cc := (hC.1 1 _ rfl).1
     simp [go_sem, Flow.ylP_value, Flow.ylP_skip, Flow.ylP_enter, Flow.ylP_panic, hc0, hf0, e28, e24, fc, cc]
     exact hK () _ ⟨hC.1.set 1 (.int .u32 (nm : Int)) (by simp [recVs]), hC.2.1.other HG.out _, hC.2.2.trans (.set _ 1 _ rfl)⟩ (fun _ _ => rfl)
    ·intro g L wz K ρ hc0 hf0 hF hO hU hcl hi hd hC hK
     have d1 : L 1 = true := hd ⟨1, .data⟩ (by simp) rfl
     have e22 : ρ (.tmp 22) = .pointer (some ⟨Z.r, 0, none⟩) := hF 22 1 (by kernel_rfl) d1
     simp [go_sem, Flow.ylP_value, Flow.ylP_skip, Flow.ylP_enter, Flow.ylP_panic, hc0, hf0, e22]
     exact hK g wz hC (fun _ _ => rfl)
    ·intro g L wz K ρ hc0 hf0 hF hO hU hcl hi hd hC hK
     have d9 : L 9 = true := hd ⟨9, .data⟩ (by simp) rfl
     have e29 : ρ (.tmp 29) = .pointer (some ⟨Z.r, 0, none⟩) := hF 29 9 (by kernel_rfl) d9
     simp [go_sem, Flow.ylP_value, Flow.ylP_skip, Flow.ylP_enter, Flow.ylP_panic, hc0, hf0, e29]
     exact hK g wz hC (fun _ _ => rfl)
    ·intro g L wz K ρ hc0 hf0 hF hO hU hcl hi hd hC hK
     have d10 : L 10 = true := hd ⟨10, .data⟩ (by simp) rfl
     have e30 : ρ (.tmp 30) = .pointer (some ⟨Z.r, 2, none⟩) := hF 30 10 (by kernel_rfl) d10
     have d5 : L 5 = true := hd ⟨5, .data⟩ (by simp) rfl
     have e26 : ρ (.tmp 26) = .int .i64 (T : Int) := hF 26 5 (by kernel_rfl) d5
     have fc := (hC.1 2 _ rfl).2
     have cc := (hC.1 2 _ rfl).1
     simp [go_sem, Flow.ylP_value, Flow.ylP_skip, Flow.ylP_enter, Flow.ylP_panic, hc0, hf0, e30, e26, fc, cc]
     exact hK () _ ⟨hC.1.set 2 (.int .i64 (T : Int)) (by simp [recVs]), hC.2.1.other HG.out _, hC.2.2.trans (.set _ 2 _ rfl)⟩ (fun _ _ => rfl)
    ·intro g L ch wz h; exact h.elim
    ·intro g L wz hL hC
     rw [hL 8 (by decide), hL 11 (by decide)] at hC
     simp only [Flow.putAll, pkV]
     simp [Act.put]
     obtain ⟨hRC, hCk3, ht3⟩ := hC
     have HD3 := Lib.hid (h2.disk.stays ht3 (Ne.symm h2.rd) (Ne.symm h2.rR) (Ne.symm h2.rM))
     generalize wz = w3 at *
     clear c2 hCk
     go_wp2
     refine Flow.wp_region_go (by kernel_rfl) (by kernel_rfl) (by kernel_rfl) 100 rfl (by kernel_rfl) (plV Z gc T) (fun gz L wz => RC wz Z.r (recVs Z.d nm T (cond (L 10) (.slice (some ⟨gz.1, 0, none⟩) T T) Z.dv) (cond (L 13) (.slice (some ⟨gz.2, 0, none⟩) T T) Z.cv) s.sv s.sf s.mks) ∧ Ck wz gc nm T a d ∧ MadeB w3 wz Z.r gz.1 gz.2 T (L 4) (L 7)) (fun _ _ => False) ((0, 0)) (⟨hRC.below (Below.refl _ _).drew, hCk3.drew, .start (Below.refl _ _).drew (Nat.lt_of_lt_of_le HRL.out ht3.size)⟩) ⟨?_, ?_, ?_, ?_, ?_, ?_, ?_, ?_, ?_, ?_, ?_, ?_, ?_, ?_, trivial⟩ ?_ ?_
     ·intro gz L wz K ρ hc0 hf0 hF hO hU hcl hi hd hC hK
      have e0 : ρ (.tmp 0) = .pointer (some ⟨Z.r, 0, none⟩) := hO 0 (by kernel_rfl)
      simp [go_sem, Flow.ylP_value, Flow.ylP_skip, Flow.ylP_enter, Flow.ylP_panic, hc0, hf0, e0]
      exact hK gz wz hC (fun _ _ => rfl)
     ·intro gz L wz K ρ hc0 hf0 hF hO hU hcl hi hd hC hK
      have e0 : ρ (.tmp 0) = .pointer (some ⟨Z.r, 0, none⟩) := hO 0 (by kernel_rfl)
      simp [go_sem, Flow.ylP_value, Flow.ylP_skip, Flow.ylP_enter, Flow.ylP_panic, hc0, hf0, e0]
      exact hK gz wz hC (fun _ _ => rfl)
     ·intro gz L wz K ρ hc0 hf0 hF hO hU hcl hi hd hC hK
      have e5 : ρ (.tmp 5) = .pointer (some ⟨gc, 0, none⟩) := hO 5 (by kernel_rfl)
      simp [go_sem, Flow.ylP_value, Flow.ylP_skip, Flow.ylP_enter, Flow.ylP_panic, hc0, hf0, e5]
      exact hK gz wz hC (fun _ _ => rfl)
     ·intro gz L wz K ρ hc0 hf0 hF hO hU hcl hi hd hC hK
      have d2 : L 2 = true := hd ⟨2, .data⟩ (by simp) rfl
      have e33 : ρ (.tmp 33) = .pointer (some ⟨gc, 1, none⟩) := hF 33 2 (by kernel_rfl) d2
      have cc := hC.2.1.c1
      simp [go_sem, Flow.ylP_value, Flow.ylP_skip, Flow.ylP_enter, Flow.ylP_panic, hc0, hf0, e33, cc]
      exact hK gz wz hC (fun _ _ => rfl)
     ·intro gz L wz K ρ hc0 hf0 hF hO hU hcl hi hd hC hK
      have d3 : L 3 = true := hd ⟨3, .data⟩ (by simp) rfl
      have e34 : ρ (.tmp 34) = .int .i64 (T : Int) := hF 34 3 (by kernel_rfl) d3
      have h10 : L 10 = false := by cases h : L 10 with | false => rfl | true => (have := hcl 10 4 (by kernel_rfl) h; rw [hi] at this; cases this)
      have hmk := run_make_row' (P := Tryz.prog) 69 5 (.int .u8 0) 1 Tryz.underlying69 dwInfo rfl .i64 .i64 T (by omega) (by omega) wz
      unfold execOp
      simp only [resolve, Sem.run_bind, Sem.run_pure, Result.andThen_ok, e34, hmk]
      refine hK (wz.heap.size, gz.2) _ ?_ (by intro j hj; unfold plV; split <;> first | rfl | (rw [hi] at hj; cases hj) | (have hz := hcl _ 4 (by kernel_rfl) hj; rw [hi] at hz; cases hz))
      have b9 := below1 wz (.cells (madeCells #[.int .u8 0] T) 5)
      have hR := hC.1.below b9
      rw [h10] at hR
      exact ⟨by simpa [h10] using hR, hC.2.1.below b9, hC.2.2.mkA _⟩
     ·intro gz L wz K ρ hc0 hf0 hF hO hU hcl hi hd hC hK
      have e5 : ρ (.tmp 5) = .pointer (some ⟨gc, 0, none⟩) := hO 5 (by kernel_rfl)
      simp [go_sem, Flow.ylP_value, Flow.ylP_skip, Flow.ylP_enter, Flow.ylP_panic, hc0, hf0, e5]
      exact hK gz wz hC (fun _ _ => rfl)
     ·intro gz L wz K ρ hc0 hf0 hF hO hU hcl hi hd hC hK
      have d5 : L 5 = true := hd ⟨5, .data⟩ (by simp) rfl
      have e36 : ρ (.tmp 36) = .pointer (some ⟨gc, 1, none⟩) := hF 36 5 (by kernel_rfl) d5
      have cc := hC.2.1.c1
      simp [go_sem, Flow.ylP_value, Flow.ylP_skip, Flow.ylP_enter, Flow.ylP_panic, hc0, hf0, e36, cc]
      exact hK gz wz hC (fun _ _ => rfl)
     ·intro gz L wz K ρ hc0 hf0 hF hO hU hcl hi hd hC hK
      have d6 : L 6 = true := hd ⟨6, .data⟩ (by simp) rfl
      have e37 : ρ (.tmp 37) = .int .i64 (T : Int) := hF 37 6 (by kernel_rfl) d6
      have h13 : L 13 = false := by cases h : L 13 with | false => rfl | true => (have := hcl 13 7 (by kernel_rfl) h; rw [hi] at this; cases this)
      have hmk := run_make_row' (P := Tryz.prog) 70 4 (.bool false) 1 Tryz.underlying70 boInfo rfl .i64 .i64 T (by omega) (by omega) wz
      unfold execOp
      simp only [resolve, Sem.run_bind, Sem.run_pure, Result.andThen_ok, e37, hmk]
      refine hK (gz.1, wz.heap.size) _ ?_ (by intro j hj; unfold plV; split <;> first | rfl | (rw [hi] at hj; cases hj) | (have hz := hcl _ 7 (by kernel_rfl) hj; rw [hi] at hz; cases hz))
      have b9 := below1 wz (.cells (madeCells #[.bool false] T) 4)
      have hR := hC.1.below b9
      rw [h13] at hR
      exact ⟨by simpa [h13] using hR, hC.2.1.below b9, hC.2.2.mkC _⟩
     ·intro gz L wz K ρ hc0 hf0 hF hO hU hcl hi hd hC hK
      have d0 : L 0 = true := hd ⟨0, .data⟩ (by simp) rfl
      have e31 : ρ (.tmp 31) = .pointer (some ⟨Z.r, 0, none⟩) := hF 31 0 (by kernel_rfl) d0
      simp [go_sem, Flow.ylP_value, Flow.ylP_skip, Flow.ylP_enter, Flow.ylP_panic, hc0, hf0, e31]
      exact hK gz wz hC (fun _ _ => rfl)
     ·intro gz L wz K ρ hc0 hf0 hF hO hU hcl hi hd hC hK
      have d8 : L 8 = true := hd ⟨8, .data⟩ (by simp) rfl
      have e39 : ρ (.tmp 39) = .pointer (some ⟨Z.r, 0, none⟩) := hF 39 8 (by kernel_rfl) d8
      simp [go_sem, Flow.ylP_value, Flow.ylP_skip, Flow.ylP_enter, Flow.ylP_panic, hc0, hf0, e39]
      exact hK gz wz hC (fun _ _ => rfl)
     ·intro gz L wz K ρ hc0 hf0 hF hO hU hcl hi hd hC hK
      have d9 : L 9 = true := hd ⟨9, .data⟩ (by simp) rfl
      have e40 : ρ (.tmp 40) = .pointer (some ⟨Z.r, 3, none⟩) := hF 40 9 (by kernel_rfl) d9
      have d4 : L 4 = true := hd ⟨4, .data⟩ (by simp) rfl
      have e35 : ρ (.tmp 35) = .slice (some ⟨gz.1, 0, none⟩) T T := hF 35 4 (by kernel_rfl) d4
      have fc := (hC.1 3 _ rfl).2
      have cc := (hC.1 3 _ rfl).1
      simp [go_sem, Flow.ylP_value, Flow.ylP_skip, Flow.ylP_enter, Flow.ylP_panic, hc0, hf0, e40, e35, fc, cc]
      exact hK gz _ ⟨hC.1.set 3 (.slice (some ⟨gz.1, 0, none⟩) T T) (by simp [recVs]), hC.2.1.other HG.out _, hC.2.2.set 3 _⟩ (fun _ _ => rfl)
     ·intro gz L wz K ρ hc0 hf0 hF hO hU hcl hi hd hC hK
      have d1 : L 1 = true := hd ⟨1, .data⟩ (by simp) rfl
      have e32 : ρ (.tmp 32) = .pointer (some ⟨Z.r, 0, none⟩) := hF 32 1 (by kernel_rfl) d1
      simp [go_sem, Flow.ylP_value, Flow.ylP_skip, Flow.ylP_enter, Flow.ylP_panic, hc0, hf0, e32]
      exact hK gz wz hC (fun _ _ => rfl)
     ·intro gz L wz K ρ hc0 hf0 hF hO hU hcl hi hd hC hK
      have d11 : L 11 = true := hd ⟨11, .data⟩ (by simp) rfl
      have e41 : ρ (.tmp 41) = .pointer (some ⟨Z.r, 0, none⟩) := hF 41 11 (by kernel_rfl) d11
      simp [go_sem, Flow.ylP_value, Flow.ylP_skip, Flow.ylP_enter, Flow.ylP_panic, hc0, hf0, e41]
      exact hK gz wz hC (fun _ _ => rfl)
     ·intro gz L wz K ρ hc0 hf0 hF hO hU hcl hi hd hC hK
      have d12 : L 12 = true := hd ⟨12, .data⟩ (by simp) rfl
      have e42 : ρ (.tmp 42) = .pointer (some ⟨Z.r, 4, none⟩) := hF 42 12 (by kernel_rfl) d12
      have d7 : L 7 = true := hd ⟨7, .data⟩ (by simp) rfl
      have e38 : ρ (.tmp 38) = .slice (some ⟨gz.2, 0, none⟩) T T := hF 38 7 (by kernel_rfl) d7
      have fc := (hC.1 4 _ rfl).2
      have cc := (hC.1 4 _ rfl).1
      simp [go_sem, Flow.ylP_value, Flow.ylP_skip, Flow.ylP_enter, Flow.ylP_panic, hc0, hf0, e42, e38, fc, cc]
      exact hK gz _ ⟨hC.1.set 4 (.slice (some ⟨gz.2, 0, none⟩) T T) (by simp [recVs]), hC.2.1.other HG.out _, hC.2.2.set 4 _⟩ (fun _ _ => rfl)
     ·intro gz L ch wz h; exact h.elim
     ·intro gz L wz hL hC
      rw [hL 10 (by decide), hL 13 (by decide), hL 4 (by decide), hL 7 (by decide)] at hC
      simp only [Flow.putAll, plV]
      simp [Act.put]
      obtain ⟨hR4, hCk4, hM4⟩ := hC
      have hf6 := HFN.out
      rw [HNZ.out] at hf6
      have h4 := PR.rowed_new HI.out hR4 hM4 HD3.out ⟨Nat.lt_of_lt_of_le HL.out.1 ht3.size, Nat.lt_of_lt_of_le HL.out.2.1 ht3.size, Nat.lt_of_lt_of_le HL.out.2.2 ht3.size⟩ hf6
      rw [← HNZ.out] at h4
      have hm4 := rowed_moves hM4
      have HA4 := Lib.hid (hM4.a rfl).1
      have HC4 := Lib.hid (hM4.c rfl).1
      have HS3 := Lib.hid ht3.size
      have hm3 : Moves Z.foot Z.foot w w3 := (Moves.of_below hb2).trans (.of_turned ht3 fun i hi => .inl hi)
      clear hf6 hR4 hM4 hRC hCk3 ht3
      go_wp2
      go_meet
      exact ⟨rfl, hCk4, Z.rowed gz.1 gz.2 T, rfl, h4, fun i hi => rowed_ne HGF.out (Nat.lt_of_lt_of_le HG2.out HS3.out) HA4.out HC4.out hi, hm3.trans hm4⟩
   ·have t0 : ((s.tot : Int) == 0) = false := beq_eq_false_iff_ne.2 (by omega)
    have hn : s.named nm T = s := by unfold Rst.named; rw [if_neg h0]
    have HN := Lib.hid hn
    clear hn h0
    go_wp2
    go_meet
    exact ⟨rfl, hCk, Z, rfl, by rw [HN.out]; exact h2, fun i hi => Nat.ne_of_lt (HGF.out i hi), .of_below hb2⟩
  case rest =>
   obtain ⟨rfl, hCk1, Z1, hZr, h5, hgc, hm5⟩ := hcut
   have HGF5 := Lib.hid hgc
   clear h2 hCk hb2 c2 hgc
   generalize hww : wc = w5 at *
   clear hww
   by_cases hg : s.tot = 0 ∨ nm = s.nm ∧ T = s.tot
   ·have hs1 : (s.named nm T).nm = nm ∧ (s.named nm T).tot = T := by
     unfold Rst.named
     split
     ·exact ⟨rfl, rfl⟩
     ·rename_i h0
      rcases hg with q | ⟨q1, q2⟩
      ·exact absurd q h0
      ·exact ⟨q1.symm, q2.symm⟩
    have e1 := Lib.hid (takeE_good HU.out hg)
    have e2 := Lib.hid (take_good HU.out e1.out)
    obtain ⟨s1, hs⟩ : ∃ s1, s1 = s.named nm T := ⟨_, rfl⟩
    rw [← hs] at h5 hs1
    have hsc : s1.came = s.came := by rw [hs]; exact named_came s nm T
    have HS := Lib.hid hs
    have HSC := Lib.hid hsc
    obtain ⟨hn1, hn2⟩ := hs1
    have c1 := h5.cell 1 rfl
    have c2 := h5.cell 2 rfl
    rw [hZr, hn1] at c1
    rw [hZr, hn2] at c2
    have cc0 := hCk1.c0
    have cc1 := hCk1.c1
    have cc3 := hCk1.c3
    have h6f0 : RFit (E + 1) s1 := h5.fit
    have h6F := Lib.hid h6f0
    have HN2 := Lib.hid hn2
    clear h6f0
    have HZR := Lib.hid hZr
    clear hg hs hsc hn1 hn2 hZr
    go_wp2
    go_quiet (fail)
    have h6 := h5.drewN nq
    have hCk6 := hCk1.turned (F := fun _ => False) (.of_below (below_drewN (Below.refl _ w5) nq)) id
    have hm6 : Moves Z.foot Z1.foot w (w5.drewN nq) := hm5.trans (.of_below (below_drewN (Below.refl _ w5) nq))
    clear h5 hCk1 hm5 c1 c2 cc0 cc1
    generalize w5.drewN nq = w6 at *
    have cc3 := hCk6.c3
    go_wp2
    go_loopw [7, 63] (fun _ kv wr => ∃ k : Nat, k ≤ d.size ∧ kv = .int .i64 (k : Int) ∧ PR wr (E + 1) Z1 { s1 with came := Rst.fill s1.came a d.data.toList k } ∧ Turned (fun i => i = Z1.A ∨ i = Z1.C) w6 wr) (fun _ kv _ => d.size - (intOf kv).toNat)
    case atStart => exact ⟨0, Nat.zero_le _, rfl, h6, .refl _ _⟩
    case round =>
     obtain ⟨k, hk, rfl, hP, hT⟩ := hrel
     obtain ⟨f, hf⟩ : ∃ f, f = Rst.fill s1.came a d.data.toList k := ⟨_, rfl⟩
     rw [← hf] at hP
     by_cases hlt : k < d.size
     ·have t0 : decide ((k : Int) < (d.size : Int)) = true := decide_eq_true (by omega)
      have t0' : decide (k < d.size) = true := decide_eq_true hlt
      have hr := hP.rows (by show 0 < s1.tot; rw [HN2.out]; omega)
      obtain ⟨TT, hTT⟩ : ∃ TT, TT = s1.tot := ⟨_, rfl⟩
      have hr' : PRows wr Z1 TT f := by rw [hTT]; exact hr
      have HX : Hid (a + k < TT) := Lib.hid (by rw [hTT, HN2.out]; omega)
      have c3 := hP.cell 3 rfl
      have c4 := hP.cell 4 rfl
      rw [HZR.out, hr'.dv] at c3
      rw [HZR.out, hr'.cv] at c4
      have cK := (hr'.bo (a + k) HX.out).1
      have ix0 : (0 : Int) ≤ (a : Int) + (k : Int) := by omega
      have ix1 : (a : Int) + (k : Int) < (TT : Int) := by have := HX.out; omega
      have ix2 : ((a : Int) + (k : Int)).toNat = a + k := by omega
      have HR : Hid (¬ (Z.r = Z1.A ∨ Z.r = Z1.C)) := Lib.hid (by rw [← HZR.out]; rintro (q | q); exact hr'.ar q.symm; exact hr'.cr q.symm)
      have HGA : Hid (¬ (gc = Z1.A ∨ gc = Z1.C)) := Lib.hid (by rintro (q | q); exact HGF5.out Z1.A (.inr (.inr (.inr (.inr (.inl rfl))))) q.symm; exact HGF5.out Z1.C (.inr (.inr (.inr (.inr (.inr rfl))))) q.symm)
      have HAC : Hid (Z1.A ≠ Z1.C) := Lib.hid hr'.ac
      have hCkr := hCk6.turned hT HGA.out
      have cc2 := hCkr.c2
      have cc3 := hCkr.c3
      have W1 := Lib.hid (w_in ((a : Int) + (k : Int)) (a + k) (by omega) (by omega))
      have W2 := Lib.hid (w_in ((k : Int) + 1) (k + 1) (by omega) (by omega))
      have hkd0 : (0 : Int) ≤ (k : Int) := by omega
      have hkd1 : (k : Int) < (d.size : Int) := by omega
      have hkd : k < d.size := hlt
      have HM := Lib.hid (show d.size - ((k : Int) + 1).toNat < d.size - k by omega)
      have HFX : Hid (RFit (E + 1) s1 ∧ a + d.size ≤ s1.tot) := Lib.hid ⟨h6F.out, by rw [HN2.out]; exact had⟩
      clear hr
      cases hx : (f (a + k)).isSome with
      | true =>
       have hnx := Lib.hid (fill_yes (c := s1.came) (a := a) (d := d.data.toList) (k := k) (by rw [← hf]; exact hx))
       have HF := Lib.hid hf
       rw [hx] at cK
       clear hx hf hr' hTT
       obtain ⟨wak1, wak2⟩ := W1.out
       obtain ⟨wk1, wk2⟩ := W2.out
       clear W1 W2
       go_wp2
       go_quiet (fail)
       have hP9 := hP.drewN nq
       have hT9 : Turned (fun i => i = Z1.A ∨ i = Z1.C) w6 (wr.drewN nq) := hT.trans (.of_below (below_drewN (Below.refl _ wr) nq))
       go_wp2
       go_roundw
       case rel => exact ⟨k + 1, hkd, by go_num, by rw [hnx.out, ← HF.out]; exact hP9, hT9⟩
       case measure => simpa [intOf] using HM.out
      | false =>
       have hgd := Crc.byte_at d k hkd
       have hnx0 := fill_no (c := s1.came) (a := a) (d := d.data.toList) (k := k) (by rw [← hf]; exact hx)
       rw [← hf, hgd] at hnx0
       have hnx := Lib.hid hnx0
       have HFN9 : Hid (RFit (E + 1) { s1 with came := bup f (a + k) (d[k]'hkd) }) := Lib.hid (by rw [← hnx0]; exact HFX.out.1.fills (by have := HFX.out.2; omega))
       have hx0 : Hid (0 < s1.tot) := Lib.hid (by rw [HN2.out]; omega)
       have hTT9 := Lib.hid hTT
       rw [hx] at cK
       clear hx hf hr' hTT hgd hnx0
       obtain ⟨wak1, wak2⟩ := W1.out
       obtain ⟨wk1, wk2⟩ := W2.out
       clear W1 W2
       go_wp2
       go_quiet (fail)
       have hP9 := hP.drewN nq
       have hT9 : Turned (fun i => i = Z1.A ∨ i = Z1.C) w6 (wr.drewN nq) := hT.trans (.of_below (below_drewN (Below.refl _ wr) nq))
       have hr9 := hP9.rows hx0.out
       simp only at hr9
       rw [← hTT9.out] at hr9
       have hCk9 := hCk6.turned hT9 HGA.out
       clear hP hT hCkr c3 c4 cK cc2 cc3
       generalize wr.drewN nq = w9 at *
       have c3 := hP9.cell 3 rfl
       have c4 := hP9.cell 4 rfl
       rw [HZR.out, hr9.dv] at c3
       rw [HZR.out, hr9.cv] at c4
       have cc2 := hCk9.c2
       have cc3 := hCk9.c3
       have hw9 := Lib.hid hT9
       go_wp2
       refine Flow.wp_region_go (by kernel_rfl) (by kernel_rfl) (by kernel_rfl) 100 rfl (by kernel_rfl) (pqV Z Z1 gc a k TT d hkd) (fun _ L wz => ByteRow wz Z1.A TT (cond (L 21) (bup f (a + k) (d[k]'hkd)) f) ∧ BoolRow wz Z1.C TT (cond (L 23) (bup f (a + k) (d[k]'hkd)) f) ∧ Turned (fun i => i = Z1.A ∨ i = Z1.C) w9 wz) (fun _ _ => False) (()) (⟨hr9.by_.turned (F := fun _ => False) (.of_below (Below.refl _ _).drew) id, hr9.bo.turned (F := fun _ => False) (.of_below (Below.refl _ _).drew) id, .of_below (Below.refl _ _).drew⟩) ⟨?_, ?_, ?_, ?_, ?_, ?_, ?_, ?_, ?_, ?_, ?_, ?_, ?_, ?_, ?_, ?_, ?_, ?_, ?_, ?_, ?_, ?_, ?_, ?_, trivial⟩ ?_ ?_
       ·intro g L wz K ρ hc0 hf0 hF hO hU hcl hi hd hC hK
        have e0 : ρ (.tmp 0) = .pointer (some ⟨Z.r, 0, none⟩) := hO 0 (by kernel_rfl)
        simp [go_sem, Flow.ylP_value, Flow.ylP_skip, Flow.ylP_enter, Flow.ylP_panic, hc0, hf0, e0]
        exact hK g wz hC (fun _ _ => rfl)
       ·intro g L wz K ρ hc0 hf0 hF hO hU hcl hi hd hC hK
        have d0 : L 0 = true := hd ⟨0, .data⟩ (by simp) rfl
        have e77 : ρ (.tmp 77) = .pointer (some ⟨Z.r, 0, none⟩) := hF 77 0 (by kernel_rfl) d0
        simp [go_sem, Flow.ylP_value, Flow.ylP_skip, Flow.ylP_enter, Flow.ylP_panic, hc0, hf0, e77]
        exact hK g wz hC (fun _ _ => rfl)
       ·intro g L wz K ρ hc0 hf0 hF hO hU hcl hi hd hC hK
        have d1 : L 1 = true := hd ⟨1, .data⟩ (by simp) rfl
        have e78 : ρ (.tmp 78) = .pointer (some ⟨Z.r, 0, none⟩) := hF 78 1 (by kernel_rfl) d1
        simp [go_sem, Flow.ylP_value, Flow.ylP_skip, Flow.ylP_enter, Flow.ylP_panic, hc0, hf0, e78]
        exact hK g wz hC (fun _ _ => rfl)
       ·intro g L wz K ρ hc0 hf0 hF hO hU hcl hi hd hC hK
        have d2 : L 2 = true := hd ⟨2, .data⟩ (by simp) rfl
        have e79 : ρ (.tmp 79) = .pointer (some ⟨Z.r, 3, none⟩) := hF 79 2 (by kernel_rfl) d2
        have cc := hC.2.2.cell c3 HR.out
        simp [go_sem, Flow.ylP_value, Flow.ylP_skip, Flow.ylP_enter, Flow.ylP_panic, hc0, hf0, e79, cc]
        exact hK g wz hC (fun _ _ => rfl)
       ·intro g L wz K ρ hc0 hf0 hF hO hU hcl hi hd hC hK
        have e5 : ρ (.tmp 5) = .pointer (some ⟨gc, 0, none⟩) := hO 5 (by kernel_rfl)
        simp [go_sem, Flow.ylP_value, Flow.ylP_skip, Flow.ylP_enter, Flow.ylP_panic, hc0, hf0, e5]
        exact hK g wz hC (fun _ _ => rfl)
       ·intro g L wz K ρ hc0 hf0 hF hO hU hcl hi hd hC hK
        have d4 : L 4 = true := hd ⟨4, .data⟩ (by simp) rfl
        have e81 : ρ (.tmp 81) = .pointer (some ⟨gc, 2, none⟩) := hF 81 4 (by kernel_rfl) d4
        have cc := hC.2.2.cell cc2 HGA.out
        simp [go_sem, Flow.ylP_value, Flow.ylP_skip, Flow.ylP_enter, Flow.ylP_panic, hc0, hf0, e81, cc]
        exact hK g wz hC (fun _ _ => rfl)
       ·intro g L wz K ρ hc0 hf0 hF hO hU hcl hi hd hC hK
        have e7 : ρ (.tmp 7) = .int .i64 (k : Int) := hO 7 (by kernel_rfl)
        simp [go_sem, Flow.ylP_value, Flow.ylP_skip, Flow.ylP_enter, Flow.ylP_panic, hc0, hf0, e7]
        exact hK g wz hC (fun _ _ => rfl)
       ·intro g L wz K ρ hc0 hf0 hF hO hU hcl hi hd hC hK
        have d5 : L 5 = true := hd ⟨5, .data⟩ (by simp) rfl
        have e82 : ρ (.tmp 82) = .int .i64 (a : Int) := hF 82 5 (by kernel_rfl) d5
        have d6 : L 6 = true := hd ⟨6, .data⟩ (by simp) rfl
        have e83 : ρ (.tmp 83) = .int .i64 (k : Int) := hF 83 6 (by kernel_rfl) d6
        simp [go_sem, Flow.ylP_value, Flow.ylP_skip, Flow.ylP_enter, Flow.ylP_panic, hc0, hf0, e82, e83, wak1, wak2]
        exact hK g wz hC (fun _ _ => rfl)
       ·intro g L wz K ρ hc0 hf0 hF hO hU hcl hi hd hC hK
        have e0 : ρ (.tmp 0) = .pointer (some ⟨Z.r, 0, none⟩) := hO 0 (by kernel_rfl)
        simp [go_sem, Flow.ylP_value, Flow.ylP_skip, Flow.ylP_enter, Flow.ylP_panic, hc0, hf0, e0]
        exact hK g wz hC (fun _ _ => rfl)
       ·intro g L wz K ρ hc0 hf0 hF hO hU hcl hi hd hC hK
        have d8 : L 8 = true := hd ⟨8, .data⟩ (by simp) rfl
        have e85 : ρ (.tmp 85) = .pointer (some ⟨Z.r, 0, none⟩) := hF 85 8 (by kernel_rfl) d8
        simp [go_sem, Flow.ylP_value, Flow.ylP_skip, Flow.ylP_enter, Flow.ylP_panic, hc0, hf0, e85]
        exact hK g wz hC (fun _ _ => rfl)
       ·intro g L wz K ρ hc0 hf0 hF hO hU hcl hi hd hC hK
        have d9 : L 9 = true := hd ⟨9, .data⟩ (by simp) rfl
        have e86 : ρ (.tmp 86) = .pointer (some ⟨Z.r, 0, none⟩) := hF 86 9 (by kernel_rfl) d9
        simp [go_sem, Flow.ylP_value, Flow.ylP_skip, Flow.ylP_enter, Flow.ylP_panic, hc0, hf0, e86]
        exact hK g wz hC (fun _ _ => rfl)
       ·intro g L wz K ρ hc0 hf0 hF hO hU hcl hi hd hC hK
        have d10 : L 10 = true := hd ⟨10, .data⟩ (by simp) rfl
        have e87 : ρ (.tmp 87) = .pointer (some ⟨Z.r, 4, none⟩) := hF 87 10 (by kernel_rfl) d10
        have cc := hC.2.2.cell c4 HR.out
        simp [go_sem, Flow.ylP_value, Flow.ylP_skip, Flow.ylP_enter, Flow.ylP_panic, hc0, hf0, e87, cc]
        exact hK g wz hC (fun _ _ => rfl)
       ·intro g L wz K ρ hc0 hf0 hF hO hU hcl hi hd hC hK
        have e5 : ρ (.tmp 5) = .pointer (some ⟨gc, 0, none⟩) := hO 5 (by kernel_rfl)
        simp [go_sem, Flow.ylP_value, Flow.ylP_skip, Flow.ylP_enter, Flow.ylP_panic, hc0, hf0, e5]
        exact hK g wz hC (fun _ _ => rfl)
       ·intro g L wz K ρ hc0 hf0 hF hO hU hcl hi hd hC hK
        have d12 : L 12 = true := hd ⟨12, .data⟩ (by simp) rfl
        have e89 : ρ (.tmp 89) = .pointer (some ⟨gc, 2, none⟩) := hF 89 12 (by kernel_rfl) d12
        have cc := hC.2.2.cell cc2 HGA.out
        simp [go_sem, Flow.ylP_value, Flow.ylP_skip, Flow.ylP_enter, Flow.ylP_panic, hc0, hf0, e89, cc]
        exact hK g wz hC (fun _ _ => rfl)
       ·intro g L wz K ρ hc0 hf0 hF hO hU hcl hi hd hC hK
        have e7 : ρ (.tmp 7) = .int .i64 (k : Int) := hO 7 (by kernel_rfl)
        simp [go_sem, Flow.ylP_value, Flow.ylP_skip, Flow.ylP_enter, Flow.ylP_panic, hc0, hf0, e7]
        exact hK g wz hC (fun _ _ => rfl)
       ·intro g L wz K ρ hc0 hf0 hF hO hU hcl hi hd hC hK
        have d13 : L 13 = true := hd ⟨13, .data⟩ (by simp) rfl
        have e90 : ρ (.tmp 90) = .int .i64 (a : Int) := hF 90 13 (by kernel_rfl) d13
        have d14 : L 14 = true := hd ⟨14, .data⟩ (by simp) rfl
        have e91 : ρ (.tmp 91) = .int .i64 (k : Int) := hF 91 14 (by kernel_rfl) d14
        simp [go_sem, Flow.ylP_value, Flow.ylP_skip, Flow.ylP_enter, Flow.ylP_panic, hc0, hf0, e90, e91, wak1, wak2]
        exact hK g wz hC (fun _ _ => rfl)
       ·intro g L wz K ρ hc0 hf0 hF hO hU hcl hi hd hC hK
        have e5 : ρ (.tmp 5) = .pointer (some ⟨gc, 0, none⟩) := hO 5 (by kernel_rfl)
        simp [go_sem, Flow.ylP_value, Flow.ylP_skip, Flow.ylP_enter, Flow.ylP_panic, hc0, hf0, e5]
        exact hK g wz hC (fun _ _ => rfl)
       ·intro g L wz K ρ hc0 hf0 hF hO hU hcl hi hd hC hK
        have d16 : L 16 = true := hd ⟨16, .data⟩ (by simp) rfl
        have e93 : ρ (.tmp 93) = .pointer (some ⟨gc, 3, none⟩) := hF 93 16 (by kernel_rfl) d16
        have cc := hC.2.2.cell cc3 HGA.out
        simp [go_sem, Flow.ylP_value, Flow.ylP_skip, Flow.ylP_enter, Flow.ylP_panic, hc0, hf0, e93, cc]
        exact hK g wz hC (fun _ _ => rfl)
       ·intro g L wz K ρ hc0 hf0 hF hO hU hcl hi hd hC hK
        have e7 : ρ (.tmp 7) = .int .i64 (k : Int) := hO 7 (by kernel_rfl)
        simp [go_sem, Flow.ylP_value, Flow.ylP_skip, Flow.ylP_enter, Flow.ylP_panic, hc0, hf0, e7]
        exact hK g wz hC (fun _ _ => rfl)
       ·intro g L wz K ρ hc0 hf0 hF hO hU hcl hi hd hC hK
        have d17 : L 17 = true := hd ⟨17, .data⟩ (by simp) rfl
        have e94 : ρ (.tmp 94) = .string d := hF 94 17 (by kernel_rfl) d17
        have d18 : L 18 = true := hd ⟨18, .data⟩ (by simp) rfl
        have e95 : ρ (.tmp 95) = .int .i64 (k : Int) := hF 95 18 (by kernel_rfl) d18
        simp [go_sem, Flow.ylP_value, Flow.ylP_skip, Flow.ylP_enter, Flow.ylP_panic, hc0, hf0, e94, e95, hkd, hkd0, hkd1]
        exact hK g wz hC (fun _ _ => rfl)
       ·intro g L wz K ρ hc0 hf0 hF hO hU hcl hi hd hC hK
        have d3 : L 3 = true := hd ⟨3, .data⟩ (by simp) rfl
        have e80 : ρ (.tmp 80) = .slice (some ⟨Z1.A, 0, none⟩) TT Z1.a := hF 80 3 (by kernel_rfl) d3
        have d7 : L 7 = true := hd ⟨7, .data⟩ (by simp) rfl
        have e84 : ρ (.tmp 84) = .int .i64 ((a + k : Nat) : Int) := hF 84 7 (by kernel_rfl) d7
        simp [go_sem, Flow.ylP_value, Flow.ylP_skip, Flow.ylP_enter, Flow.ylP_panic, hc0, hf0, e80, e84, ix0, ix1, ix2]
        exact hK g wz hC (fun _ _ => rfl)
       ·intro g L wz K ρ hc0 hf0 hF hO hU hcl hi hd hC hK
        have d20 : L 20 = true := hd ⟨20, .data⟩ (by simp) rfl
        have e97 : ρ (.tmp 97) = .pointer (some ⟨Z1.A, a + k, none⟩) := hF 97 20 (by kernel_rfl) d20
        have d19 : L 19 = true := hd ⟨19, .data⟩ (by simp) rfl
        have e96 : ρ (.tmp 96) = .int .u8 ((d[k]'hkd).toNat : Int) := hF 96 19 (by kernel_rfl) d19
        have fc := (hC.1 (a + k) HX.out).2
        have cc := (hC.1 (a + k) HX.out).1
        simp [go_sem, Flow.ylP_value, Flow.ylP_skip, Flow.ylP_enter, Flow.ylP_panic, hc0, hf0, e97, e96, fc, cc]
        rw [hi] at hC
        exact hK () _ ⟨hC.1.set HX.out (d[k]'hkd), hC.2.1.turned (F := fun i => i = Z1.A) (.set _ _ _ rfl) (Ne.symm HAC.out), hC.2.2.trans (.set _ _ _ (.inl rfl))⟩ (fun _ _ => rfl)
       ·intro g L wz K ρ hc0 hf0 hF hO hU hcl hi hd hC hK
        have d11 : L 11 = true := hd ⟨11, .data⟩ (by simp) rfl
        have e88 : ρ (.tmp 88) = .slice (some ⟨Z1.C, 0, none⟩) TT Z1.k := hF 88 11 (by kernel_rfl) d11
        have d15 : L 15 = true := hd ⟨15, .data⟩ (by simp) rfl
        have e92 : ρ (.tmp 92) = .int .i64 ((a + k : Nat) : Int) := hF 92 15 (by kernel_rfl) d15
        simp [go_sem, Flow.ylP_value, Flow.ylP_skip, Flow.ylP_enter, Flow.ylP_panic, hc0, hf0, e88, e92, ix0, ix1, ix2]
        exact hK g wz hC (fun _ _ => rfl)
       ·intro g L wz K ρ hc0 hf0 hF hO hU hcl hi hd hC hK
        have d22 : L 22 = true := hd ⟨22, .data⟩ (by simp) rfl
        have e98 : ρ (.tmp 98) = .pointer (some ⟨Z1.C, a + k, none⟩) := hF 98 22 (by kernel_rfl) d22
        have fc := (hC.2.1 (a + k) HX.out).2
        have cc := (hC.2.1 (a + k) HX.out).1
        simp [go_sem, Flow.ylP_value, Flow.ylP_skip, Flow.ylP_enter, Flow.ylP_panic, hc0, hf0, e98, fc, cc]
        rw [hi] at hC
        exact hK () _ ⟨hC.1.turned (F := fun i => i = Z1.C) (.set _ _ _ rfl) HAC.out, hC.2.1.set HX.out (d[k]'hkd), hC.2.2.trans (.set _ _ _ (.inr rfl))⟩ (fun _ _ => rfl)
       ·intro g L ch wz h; exact h.elim
       ·intro g L wz hL hC
        rw [hL 21 (by decide), hL 23 (by decide)] at hC
        simp only [Flow.putAll, pqV]
        simp [Act.put]
        obtain ⟨p1, p2, p3⟩ := hC
        have hP10 := hP9.came_set p3 p1 p2 hTT9.out hx0.out HFN9.out
        have hT10 := hT9.trans p3
        clear hP9 p1 p2 p3 hT9 c3 c4 cc2 cc3 wak1 wak2 ix0 ix1 ix2
        go_wp2
        go_roundw
        case rel => exact ⟨k + 1, hkd, by go_num, by rw [hnx.out]; exact hP10, hT10⟩
        case measure => simpa [intOf] using HM.out
     ·obtain rfl : k = d.size := by omega
      have t0 : decide ((d.size : Int) < (d.size : Int)) = false := decide_eq_false (by omega)
      have t0' : decide (d.size < d.size) = false := decide_eq_false hlt
      have HF := Lib.hid hf
      clear hlt hf
      go_wp2
      go_ret
      rw [e1.out, e2.out]
      refine ⟨rfl, Z1, HZR.out, ?_, hm6.trans (.of_turned hT fun i hi => ?_)⟩
      ·rw [← HS.out, ← HSC.out, ← HF.out]
       exact hP
      ·rcases hi with q | q
       ·exact .inr (.inr (.inr (.inr (.inl q))))
       ·exact .inr (.inr (.inr (.inr (.inr q))))
   ·have h0 : s.tot ≠ 0 := fun q => hg (.inl q)
    have hbd : ¬ (nm = s.nm ∧ T = s.tot) := fun q => hg (.inr q)
    have e1 := Lib.hid (takeE_name HU.out h0 hbd)
    have e2 := Lib.hid (take_bad (s := s) (t := t) (by rw [e1.out]; decide))
    have hs : s.named nm T = s := by unfold Rst.named; rw [if_neg h0]
    rw [hs] at h5
    have c1 := h5.cell 1 rfl
    have c2 := h5.cell 2 rfl
    rw [hZr] at c1 c2
    have cc0 := hCk1.c0
    have cc1 := hCk1.c1
    have HZR := Lib.hid hZr
    by_cases hn : nm = s.nm
    ·have t2 : ((T : Int) != (s.tot : Int)) = true := bne_iff_ne.2 (fun q => hbd ⟨hn, Int.ofNat.inj q⟩)
     rw [← hn] at c1
     clear hg hs hn hbd h0 hZr
     go_wp2
     go_quiet (fail)
     go_wp2
     go_ret
     rw [e1.out, e2.out]
     exact ⟨rfl, Z1, HZR.out, h5.drewN nq, hm5.trans (.of_below (below_drewN (Below.refl _ w5) nq))⟩
    ·have t1 : ((nm : Int) != (s.nm : Int)) = true := bne_iff_ne.2 (fun q => hn (Int.ofNat.inj q))
     clear hg hs hn hbd h0 hZr
     go_wp2
     go_quiet (fail)
     go_wp2
     go_ret
     rw [e1.out, e2.out]
     exact ⟨rfl, Z1, HZR.out, h5.drewN nq, hm5.trans (.of_below (below_drewN (Below.refl _ w5) nq))⟩
 ·have e1 := Lib.hid (takeE_bad (s := s) he)
  have e2 := Lib.hid (take_bad (s := s) (by rw [e1.out]; exact he))
  obtain ⟨x, e, hx⟩ : ∃ x e, unchunk t = (x, e) := ⟨_, _, rfl⟩
  rw [hx] at e1 he ⊢
  simp only at e1 he ⊢
  rw [errV_of he]
  obtain ⟨m, tt, aa, d⟩ := x
  have b2 := below1 w1 (ckO m tt aa d)
  have h2 := h1.below b2
  have hb2 := hb1.trans (b2.mono hb1.size)
  have he' := Lib.hid he
  clear he hx h1 h hb1 b2
  unfold ckVal
  simp only
  go_wp2
  go_ret
  rw [e1.out, errV_of he'.out, e2.out]
  exact ⟨rfl, Z, rfl, h2, .of_below hb2⟩
end Go.Proofs.YtfefpcdgflgaeaaGreatDoor
end

section
namespace Go.Proofs.YtfefpcdgflgaeaaGreatDoor
set_option linter.unusedSimpArgs false
set_option linter.unusedVariables false
open Go.RowKit As Go.Maps
theorem extract_at (s : ByteArray) (a b i : Nat) (h : a + i < b) (hb : b ≤ s.size) : byteAt (s.extract a b) i = byteAt s (a + i) := by
 unfold byteAt
 simp only [ByteArray.data_extract, List.getD_eq_getElem?_getD]
 rw [Array.toList_extract]
 simp [List.getElem?_take, List.getElem?_drop]
 rw [if_pos (by omega)]
theorem rec_open {m nm t f : Nat} (h : (sealOf (recB m nm t f)).size ≤ 32) : openOf ((recS m nm t f).extract 0 (sealOf (recB m nm t f)).size) = (recB m nm t f, 0) := by
 have e : (recS m nm t f).extract 0 (sealOf (recB m nm t f)).size = sealOf (recB m nm t f) := by
  unfold recS padz
  rw [ByteArray.extract_append]
  simp
 rw [e]
 have h4 : (sealOf (recB m nm t f)).size - 4 = (recB m nm t f).size := by rw [sealOf_size]; omega
 have e2 : (sealOf (recB m nm t f)).extract 0 ((sealOf (recB m nm t f)).size - 4) = recB m nm t f := by
  rw [h4]
  unfold sealOf
  rw [ByteArray.extract_append]
  simp
 rw [open_good (by rw [sealOf_size]; omega) (by rw [e2]), e2]
/-- What record answers. -/
def recT : Option (Nat × Nat × Nat × Nat) → Value
 | some q => .tuple #[.int .i64 (q.1 : Int), .int .u32 (q.2.1 : Int), .int .i64 (q.2.2.1 : Int), .int .i64 (q.2.2.2 : Int), .bool true]
 | none => .tuple #[.int .i64 0, .int .u32 0, .int .i64 0, .int .i64 0, .bool false]
set_option maxHeartbeats 1000000 in
set_option maxRecDepth 100000 in
theorem precord_no (s : ByteArray) (w : World) (h : s = zeros 32) :
  Calls Tryz.prog 48 #[.string s] w fun e w' => e = .returned (recT none) ∧ w = w' := by
 have hs : s.size = 32 := by rw [h, zeros_size]
 have hp : 0 < s.size := by omega
 have i0 : (0 : Int) < (s.size : Int) := by omega
 have q0 : ((s[0].toNat : Int) != 82) = true := by
  rw [bne_iff_ne]
  have := byteAt_eq s 0 hp
  have h2 : byteAt s 0 = 0 := by rw [h]; rfl
  omega
 clear h hs
 go_enter Tryz.func48, Tryz.ntmps48
 go_wp2
 exact bodyPost_ret (v := recT none) (by simp [results, Tryz.results48, go_sem, recT]) rfl ⟨rfl, rfl⟩
set_option maxHeartbeats 2000000 in
set_option maxRecDepth 100000 in
theorem precord_yes {m nm t f : Nat} (s : ByteArray) (w : World) (hm : m ≤ 1000000) (hn : nm < 4294967296) (ht0 : 0 < t) (ht : t ≤ 4096) (hf : f ≤ t) (h : s = recS m nm t f) :
  Calls Tryz.prog 48 #[.string s] w fun e w' => e = .returned (recT (some (m, nm, t, f))) ∧ Below w.heap.size w w' := by
 have hsz := recS_size (m := m) (nm := nm) hm ht (f := f) (by omega)
 have hs : s.size = 32 := by rw [h]; exact padz_size hsz
 have hI1 := rec_m (m := m) (nm := nm) (t := t) (f := f) hm
 have hI2 := rec_t (m := m) (nm := nm) (t := t) (f := f) ht
 have hI3 := rec_f (m := m) (nm := nm) (t := t) (f := f) (by omega)
 have hO := rec_open hsz
 have hb0 : byteAt s 0 = 82 := by rw [h]; unfold byteAt; rw [recS_list]; rfl
 have n0 := rec_name (m := m) (nm := nm) (t := t) (f := f) (i := 0) (by omega)
 have n1 := rec_name (m := m) (nm := nm) (t := t) (f := f) (i := 1) (by omega)
 have n2 := rec_name (m := m) (nm := nm) (t := t) (f := f) (i := 2) (by omega)
 have n3 := rec_name (m := m) (nm := nm) (t := t) (f := f) (i := 3) (by omega)
 have he : (sealOf (recB m nm t f)).size = 1 + (vput m).length + 4 + (vput t).length + (vput f).length + 4 := by rw [sealOf_size, recB_size]; omega
 rw [he] at hO hsz
 rw [← h] at hI1 hI2 hI3 hO n0 n1 n2 n3
 generalize recB m nm t f = RB at hO
 have lM := vput_pos m
 generalize (vput m).length = M at *
 generalize (vput t).length = T at *
 generalize (vput f).length = F at *
 clear h he
 have hp : 0 < s.size := by omega
 have i0 : (0 : Int) < (s.size : Int) := by omega
 have q0 : ((s[0].toNat : Int) != 82) = false := by
  rw [bne_eq_false_iff_eq]
  have := byteAt_eq s 0 hp
  omega
 obtain ⟨Q, hQ⟩ : ∃ Q, Q = 1 + M := ⟨_, rfl⟩
 obtain ⟨P1, hP1⟩ : ∃ P1, P1 = Q + 4 := ⟨_, rfl⟩
 obtain ⟨P2, hP2⟩ : ∃ P2, P2 = P1 + T := ⟨_, rfl⟩
 obtain ⟨P3, hP3⟩ : ∃ P3, P3 = P2 + F := ⟨_, rfl⟩
 obtain ⟨P4, hP4⟩ : ∃ P4, P4 = P3 + 4 := ⟨_, rfl⟩
 rw [← hQ] at hI2 hI3 hO n0 n1 n2 n3
 rw [← hP1] at hI2 hI3 hO
 rw [← hP2] at hI3 hO
 rw [← hP3, ← hP4] at hO
 have l1 : P1 ≤ s.size := by omega
 have l2 : P2 ≤ s.size := by omega
 have l4 : P4 ≤ s.size := by omega
 have lq : Q ≤ P1 := by omega
 have l1s : 1 ≤ s.size := by omega
 have ls : s.size ≤ 32 := by omega
 obtain ⟨x, hx⟩ : ∃ x, x = s.extract Q P1 := ⟨_, rfl⟩
 have xs : x.size = 4 := by rw [hx, ByteArray.size_extract]; omega
 have hxs : ∀ i (hi : i < 4), ((x[i]'(by omega)).toNat : Int) = ((nm / 256 ^ i % 256 : Nat) : Int) := fun i hi => by
  have e1 := byteAt_eq x i (by omega)
  have e2 := extract_at s Q P1 i (by omega) l1
  rw [← hx] at e2
  have e3 : byteAt s (Q + i) = nm / 256 ^ i % 256 := by
   rcases (by omega : i = 0 ∨ i = 1 ∨ i = 2 ∨ i = 3) with rfl | rfl | rfl | rfl
   ·exact n0
   ·exact n1
   ·exact n2
   ·exact n3
  rw [← e1, e2, e3]
 have z0 := hxs 0 (by omega)
 have z1 := hxs 1 (by omega)
 have z2 := hxs 2 (by omega)
 have z3 := hxs 3 (by omega)
 have y0 : nm / 256 ^ 0 % 256 < 256 := Nat.mod_lt _ (by omega)
 have y1 : nm / 256 ^ 1 % 256 < 256 := Nat.mod_lt _ (by omega)
 have y2 : nm / 256 ^ 2 % 256 < 256 := Nat.mod_lt _ (by omega)
 have y3 : nm / 256 ^ 3 % 256 < 256 := Nat.mod_lt _ (by omega)
 have hNM := name_or' y0 y1 y2 y3
 rw [show nm / 256 ^ 0 % 256 + 256 * (nm / 256 ^ 1 % 256 + 256 * (nm / 256 ^ 2 % 256 + 256 * (nm / 256 ^ 3 % 256))) = nm by simp only [Nat.pow_zero, Nat.pow_one, show 256 ^ 2 = 65536 from rfl, show 256 ^ 3 = 16777216 from rfl, Nat.div_one]; omega] at hNM
 clear hxs n0 n1 n2 n3
 generalize nm / 256 ^ 0 % 256 = B0 at *
 generalize nm / 256 ^ 1 % 256 = B1 at *
 generalize nm / 256 ^ 2 % 256 = B2 at *
 generalize nm / 256 ^ 3 % 256 = B3 at *
 have v0 := u32_nat (n := B0) (by omega)
 have v1 := u32_nat (n := B1) (by omega)
 have v2 := u32_nat (n := B2) (by omega)
 have v3 := u32_nat (n := B3) (by omega)
 have m1 : IntKind.u32.wrap ((B1 : Int) * 256) = (B1 : Int) * 256 := u32_mul (n := B1) (k := 256) (by omega)
 have m2 : IntKind.u32.wrap ((B2 : Int) * 65536) = (B2 : Int) * 65536 := u32_mul (n := B2) (k := 65536) (by omega)
 have m3 : IntKind.u32.wrap ((B3 : Int) * 16777216) = (B3 : Int) * 16777216 := u32_mul (n := B3) (k := 16777216) (by omega)
 have p0 : 0 < x.size := by omega
 have p1 : 1 < x.size := by omega
 have p2 : 2 < x.size := by omega
 have p3 : 3 < x.size := by omega
 have j0 : (0 : Int) < (x.size : Int) := by omega
 have j1 : (1 : Int) < (x.size : Int) := by omega
 have j2 : (2 : Int) < (x.size : Int) := by omega
 have j3 : (3 : Int) < (x.size : Int) := by omega
 have zz0 : ((x[0]'p0).toNat : Int) = (B0 : Int) := z0
 have zz1 : ((x[1]'p1).toNat : Int) = (B1 : Int) := z1
 have zz2 : ((x[2]'p2).toNat : Int) = (B2 : Int) := z2
 have zz3 : ((x[3]'p3).toNat : Int) = (B3 : Int) := z3
 clear z0 z1 z2 z3
 have HY := Lib.hid (And.intro hI1 (And.intro hI2 (And.intro hI3 hO)))
 have hz1 : ∀ a b, (s.extract a b).size ≤ 32 := fun a b => by rw [ByteArray.size_extract]; omega
 have HZ1 : Hid (∀ a b, (s.extract a b).size ≤ maxLen) := Lib.hid fun a b => by have := hz1 a b; unfold maxLen; omega
 have HZ2 : Hid (∀ a b, (s.extract a b).size ≤ 1000000) := Lib.hid fun a b => by have := hz1 a b; omega
 have HB : Hid ((1125899906842624 : Int) ≤ 9223372036854775807 ∧ (4096 : Int) ≤ 9223372036854775807) := Lib.hid (by omega)
 clear hz1
 have W1 := Lib.hid (w_in (1 + (M : Int)) Q (by omega) (by omega))
 have W2 := Lib.hid (w_in ((Q : Int) + 4) P1 (by omega) (by omega))
 have W3 := Lib.hid (w_in ((P1 : Int) - 4) Q (by omega) (by omega))
 have W4 := Lib.hid (w_in ((P1 : Int) + (T : Int)) P2 (by omega) (by omega))
 have W5 := Lib.hid (w_in ((P2 : Int) + (F : Int)) P3 (by omega) (by omega))
 have W6 := Lib.hid (w_in ((P3 : Int) + 4) P4 (by omega) (by omega))
 have HX := Lib.hid hx
 have d1 : decide (s.size < P1) = false := decide_eq_false (by omega)
 have d4 : decide (s.size < P4) = false := decide_eq_false (by omega)
 have hmn : min (s.size : Int) (P2 : Int) = (P2 : Int) := by omega
 have g1 : decide (0 < (t : Int)) = true := decide_eq_true (by omega)
 have g2 : decide (f ≤ t) = true := decide_eq_true hf
 clear hI1 hI2 hI3 hO hs hb0 hQ hP1 hP2 hP3 hP4 hx xs hsz y0 y1 y2 y3 lM
 obtain ⟨w1a, w1b⟩ := W1.out
 obtain ⟨w2a, w2b⟩ := W2.out
 obtain ⟨w3a, w3b⟩ := W3.out
 obtain ⟨w4a, w4b⟩ := W4.out
 obtain ⟨w5a, w5b⟩ := W5.out
 obtain ⟨w6a, w6b⟩ := W6.out
 clear W1 W2 W3 W4 W5 W6
 go_enter Tryz.func48, Tryz.ntmps48
 go_wp2_with fail
 refine (vint_any _ _ _ (HZ1.out _ _) HB.out.1).mono ?_
 rintro r w' ⟨rfl, rfl⟩
 rw [show vint (s.extract 1 s.size).data.toList 1125899906842624 = (m, M, 0) from HY.out.1]
 simp only [errV_zero]
 go_wp2_with fail
 rw [← HX.out]
 go_quiet (fail)
 clear zz0 zz1 zz2 zz3 v0 v1 v2 v3 m1 m2 m3 j0 j1 j2 j3 w1a w1b w2a w2b w3a w3b
 have hb1 : Below w.heap.size w (w.drewN nq) := below_drewN (Below.refl _ w) nq
 generalize w.drewN nq = w1 at *
 go_wp2_with fail
 refine (vint_any _ _ _ (HZ1.out _ _) HB.out.2).mono ?_
 rintro r w' ⟨rfl, rfl⟩
 rw [show vint (s.extract P1 s.size).data.toList 4096 = (t, T, 0) from HY.out.2.1]
 simp only [errV_zero]
 go_wp2_with fail
 refine (vint_any _ _ _ (HZ1.out _ _) HB.out.2).mono ?_
 rintro r w' ⟨rfl, rfl⟩
 rw [show vint (s.extract P2 s.size).data.toList 4096 = (f, F, 0) from HY.out.2.2.1]
 simp only [errV_zero]
 go_wp2_with fail
 refine (open_any _ _ (HZ2.out _ _)).mono ?_
 rintro r w' ⟨rfl, hb2⟩
 rw [HY.out.2.2.2]
 simp only [errV_zero]
 have hb3 := hb1.trans (hb2.mono hb1.size)
 go_wp2
 exact bodyPost_ret (v := recT (some (m, nm, t, f))) (by simp [results, Tryz.results48, go_sem, recT]) rfl ⟨rfl, hb3⟩
theorem precord_any {K : Nat} (s : ByteArray) (w : World) (hK : K ≤ 1000000) (h : s = zeros 32 ∨ RecOk K s) :
  Calls Tryz.prog 48 #[.string s] w fun e w' => e = .returned (recT (recOf s)) ∧ Below w.heap.size w w' := by
 rcases h with h | ⟨m, nm, t, f, h1, h2, h3, h4, h5, h6⟩
 ·have e : recOf s = none := by rw [h]; exact recOf_zeros
  rw [e]
  exact (precord_no s w h).mono fun _ _ ⟨a, b⟩ => ⟨a, by rw [← b]; exact Below.refl _ _⟩
 ·have e : recOf s = some (m, nm, t, f) := by rw [h6]; exact recOf_rec (by omega) h2 h4 (by omega)
  rw [e]
  exact precord_yes s w (by omega) h2 h3 h4 h5 h6
end Go.Proofs.YtfefpcdgflgaeaaGreatDoor
end
