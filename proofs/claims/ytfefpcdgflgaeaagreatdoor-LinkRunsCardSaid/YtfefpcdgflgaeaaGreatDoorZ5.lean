/- The program's receiver in memory.

The program's receiver: Offer, Safe, Flush.

The Go functions one, More, Sum of package crc and carry, More, Sum of the reference compute what the plain functions of CrcLaw say. No condition but that the numbers fit.

The program's receiver: New, Text.

The program's receiver: Save. Printed by gen_recvs.py.

Whether a text is empty. Any program.

vary.Put makes what vput says. -/
import Derived.Test.YtfefpcdgflgaeaaGreatDoorZ2
import Derived.Test.YtfefpcdgflgaeaaGreatDoorZ4b
import Derived.Test.YtfefpcdgflgaeaaGreatDoorProg
import Derived.Test.YtfefpcdgflgaeaaGreatDoorZ1
import Derived.WalkKit
import Derived.WalkLawsBesides
import Derived.WalkSpells
import Derived.Outline
import Derived.Lib.Hide
import Derived.Laws.BitsAllLaws
import Derived.Deep.QuietTactic
import Derived.BigQuiet
import Derived.Test.YtfefpcdgflgaeaaGreatDoorZ4
import Derived.Test.YtfefpcdgflgaeaaGreatDoorZ3
section
namespace Go.Proofs.YtfefpcdgflgaeaaGreatDoor
set_option linter.unusedSimpArgs false
set_option linter.unusedVariables false
open Go.RowKit As Go.Maps
theorem w_in (x : Int) (n : Nat) (e : x = (n : Int)) (h : n ≤ 1000000000) : IntKind.i64.wrap x = (n : Int) ∧ wrap64 x = (n : Int) := by
 subst e
 exact ⟨IntWalk.i64_in _ (by omega), IntWalk.wrap64_in _ (by omega)⟩
/-- Cells of a thing that may be written. -/
def RC (w : World) (r : Nat) (vs : List Value) : Prop := ∀ i v, vs[i]? = some v → w.cell? ⟨r, i, none⟩ = some v ∧ w.frozen? ⟨r, i, none⟩ = false
section
variable {w w' : World} {r : Nat} {vs : List Value} {F : Nat → Prop}
theorem RC.turned (h : RC w r vs) (ht : Turned F w w') (hn : ¬ F r) : RC w' r vs := fun i v hv =>
 ⟨ht.cell (h i v hv).1 hn, (ht.frozen (a := ⟨r, i, none⟩) (cell_lt (h i v hv).1) hn).trans (h i v hv).2⟩
theorem RC.below (h : RC w r vs) (hb : Below w.heap.size w w') : RC w' r vs := h.turned (F := fun _ => False) (.of_below hb) id
theorem RC.set (h : RC w r vs) (k : Nat) (x : Value) (hk : k < vs.length) : RC (w.setCell ⟨r, k, none⟩ x) r (vs.set k x) := by
 intro i v hv
 rw [List.getElem?_set] at hv
 by_cases e : k = i
 ·subst e
  rw [if_pos rfl, if_pos hk] at hv
  injection hv with hv
  subst hv
  obtain ⟨h1, h2⟩ := h k _ (List.getElem?_eq_getElem hk)
  exact ⟨World.cell?_setCell_same _ _ _ h1, by rw [World.frozen?_setCell]; exact h2⟩
 ·rw [if_neg e] at hv
  obtain ⟨h1, h2⟩ := h i v hv
  refine ⟨?_, by rw [World.frozen?_setCell]; exact h2⟩
  rw [World.cell?_setCell_other _ _ _ _ (by intro q; injection q with _ q; exact e q)]
  exact h1
theorem RC.new (w : World) (vs : List Value) (t : TypeId) : RC (w.alloc (.cells vs.toArray t)) w.heap.size vs := by
 intro i v hv
 refine ⟨?_, by simp⟩
 rw [World.cell?_alloc_new]
 simpa using hv
end
/-- Bytes that came, and which. -/
def ByteRow (w : World) (A n : Nat) (f : CF) : Prop := ∀ i, i < n → w.cell? ⟨A, i, none⟩ = some (.int .u8 (((f i).getD 0).toNat : Int)) ∧ w.frozen? ⟨A, i, none⟩ = false
def BoolRow (w : World) (C n : Nat) (f : CF) : Prop := ∀ i, i < n → w.cell? ⟨C, i, none⟩ = some (.bool (f i).isSome) ∧ w.frozen? ⟨C, i, none⟩ = false
section
variable {w w' : World} {A n : Nat} {f : CF} {F : Nat → Prop}
theorem ByteRow.turned (h : ByteRow w A n f) (ht : Turned F w w') (hn : ¬ F A) : ByteRow w' A n f := fun i hi =>
 ⟨ht.cell (h i hi).1 hn, (ht.frozen (a := ⟨A, i, none⟩) (cell_lt (h i hi).1) hn).trans (h i hi).2⟩
theorem BoolRow.turned (h : BoolRow w A n f) (ht : Turned F w w') (hn : ¬ F A) : BoolRow w' A n f := fun i hi =>
 ⟨ht.cell (h i hi).1 hn, (ht.frozen (a := ⟨A, i, none⟩) (cell_lt (h i hi).1) hn).trans (h i hi).2⟩
theorem ByteRow.set (h : ByteRow w A n f) {k : Nat} (hk : k < n) (b : UInt8) : ByteRow (w.setCell ⟨A, k, none⟩ (.int .u8 (b.toNat : Int))) A n (bup f k b) := by
 intro i hi
 refine ⟨?_, by rw [World.frozen?_setCell]; exact (h i hi).2⟩
 by_cases e : i = k
 ·subst e
  rw [World.cell?_setCell_same _ _ _ (h i hi).1, bup_same]
  rfl
 ·rw [World.cell?_setCell_other _ _ _ _ (by intro q; injection q with _ q; exact e q.symm), (h i hi).1, bup_other _ _ e]
theorem BoolRow.set (h : BoolRow w A n f) {k : Nat} (hk : k < n) (b : UInt8) : BoolRow (w.setCell ⟨A, k, none⟩ (.bool true)) A n (bup f k b) := by
 intro i hi
 refine ⟨?_, by rw [World.frozen?_setCell]; exact (h i hi).2⟩
 by_cases e : i = k
 ·subst e
  rw [World.cell?_setCell_same _ _ _ (h i hi).1, bup_same]
  rfl
 ·rw [World.cell?_setCell_other _ _ _ _ (by intro q; injection q with _ q; exact e q.symm), (h i hi).1, bup_other _ _ e]
end
structure PLoc where
 r : Nat
 d : Nat
 R : Nat
 M : Nat
 c : Nat
 n : Nat
 A : Nat
 a : Nat
 C : Nat
 k : Nat
 dv : Value
 cv : Value
def PLoc.foot (L : PLoc) (i : Nat) : Prop := i = L.r ∨ i = L.d ∨ i = L.R ∨ i = L.M ∨ i = L.A ∨ i = L.C
def recVs (d nm tot : Nat) (dv cv : Value) (sv sf mks : Nat) : List Value := [.pointer (some ⟨d, 0, none⟩), .int .u32 (nm : Int), .int .i64 (tot : Int), dv, cv, .int .i64 (sv : Int), .int .i64 (sf : Int), .int .i64 (mks : Int)]
/-- The rows of what came, where something did. -/
structure PRows (w : World) (L : PLoc) (t : Nat) (f : CF) : Prop where
 dv : L.dv = .slice (some ⟨L.A, 0, none⟩) t L.a
 cv : L.cv = .slice (some ⟨L.C, 0, none⟩) t L.k
 la : t ≤ L.a
 lk : t ≤ L.k
 by_ : ByteRow w L.A t f
 bo : BoolRow w L.C t f
 ac : L.A ≠ L.C
 ar : L.A ≠ L.r
 ad : L.A ≠ L.d
 aR : L.A ≠ L.R
 aM : L.A ≠ L.M
 cr : L.C ≠ L.r
 cd : L.C ≠ L.d
 cR : L.C ≠ L.R
 cM : L.C ≠ L.M
structure PR (w : World) (K : Nat) (L : PLoc) (s : Rst) : Prop where
 cells : RC w L.r (recVs L.d s.nm s.tot L.dv L.cv s.sv s.sf s.mks)
 disk : PD w L.d L.R L.M 140 L.c L.n s.S s.X
 rows : 0 < s.tot → PRows w L s.tot s.came
 rd : L.r ≠ L.d
 rR : L.r ≠ L.R
 rM : L.r ≠ L.M
 low : ∀ i, L.foot i → i < w.heap.size
 fit : RFit K s
 cnt : L.n ≤ 200 * K
section
variable {w w' : World} {K : Nat} {L : PLoc} {s : Rst} {F : Nat → Prop}
theorem PRows.turned {t : Nat} {f : CF} (h : PRows w L t f) (ht : Turned F w w') (h1 : ¬ F L.A) (h2 : ¬ F L.C) : PRows w' L t f :=
 ⟨h.dv, h.cv, h.la, h.lk, h.by_.turned ht h1, h.bo.turned ht h2, h.ac, h.ar, h.ad, h.aR, h.aM, h.cr, h.cd, h.cR, h.cM⟩
theorem PR.stays (h : PR w K L s) (ht : Turned F w w') (hn : ∀ i, L.foot i → ¬ F i) : PR w' K L s :=
 ⟨h.cells.turned ht (hn _ (.inl rfl)), h.disk.stays ht (hn _ (.inr (.inl rfl))) (hn _ (.inr (.inr (.inl rfl)))) (hn _ (.inr (.inr (.inr (.inl rfl))))), fun q => (h.rows q).turned ht (hn _ (.inr (.inr (.inr (.inr (.inl rfl)))))) (hn _ (.inr (.inr (.inr (.inr (.inr rfl)))))), h.rd, h.rR, h.rM, fun i hi => Nat.lt_of_lt_of_le (h.low i hi) ht.size, h.fit, h.cnt⟩
theorem PR.below (h : PR w K L s) (hb : Below w.heap.size w w') : PR w' K L s := h.stays (F := fun _ => False) (.of_below hb) (fun _ _ => id)
theorem PR.drew (h : PR w K L s) : PR w.drew K L s := h.below (Below.refl _ _).drew
theorem PR.cell (h : PR w K L s) (i : Nat) {v : Value} (hv : (recVs L.d s.nm s.tot L.dv L.cv s.sv s.sf s.mks)[i]? = some v) : w.cell? ⟨L.r, i, none⟩ = some v := (h.cells i v hv).1
theorem PR.free (h : PR w K L s) (i : Nat) {v : Value} (hv : (recVs L.d s.nm s.tot L.dv L.cv s.sv s.sf s.mks)[i]? = some v) : w.frozen? ⟨L.r, i, none⟩ = false := (h.cells i v hv).2
theorem PR.more (h : PR w K L s) {K' : Nat} (hk : K ≤ K') (hK : K' ≤ 1000000) : PR w K' L s := ⟨h.cells, h.disk, h.rows, h.rd, h.rR, h.rM, h.low, h.fit.mono hk hK, by have := h.cnt; omega⟩
theorem foot_R {L : PLoc} {i : Nat} (h : PFoot L.R L.M i) : L.foot i := by
 rcases h with h | h
 ·exact .inr (.inr (.inl h))
 ·exact .inr (.inr (.inr (.inl h)))
theorem PR.off (h : PR w K L s) : ¬ PFoot L.R L.M L.r ∧ (0 < s.tot → ¬ PFoot L.R L.M L.A ∧ ¬ PFoot L.R L.M L.C) :=
 ⟨fun q => (by rcases q with q | q; exact h.rR q; exact h.rM q), fun q => ⟨fun u => (by rcases u with u | u; exact (h.rows q).aR u; exact (h.rows q).aM u), fun u => (by rcases u with u | u; exact (h.rows q).cR u; exact (h.rows q).cM u)⟩⟩
/-- The disk turns. -/
theorem PR.disked (h : PR w K L s) {n : Nat} {S X : DF} (hd : PD w' L.d L.R L.M 140 L.c n S X) (ht : Turned (PFoot L.R L.M) w w') (hf : RFit K { s with S := S, X := X }) (hn : n ≤ 200 * K) : PR w' K { L with n := n } { s with S := S, X := X } :=
 ⟨h.cells.turned ht h.off.1, hd, fun q => by
  have hr := h.rows q
  have h1 := hr.turned ht (h.off.2 q).1 (h.off.2 q).2
  exact ⟨h1.dv, h1.cv, h1.la, h1.lk, h1.by_, h1.bo, h1.ac, h1.ar, h1.ad, h1.aR, h1.aM, h1.cr, h1.cd, h1.cR, h1.cM⟩, h.rd, h.rR, h.rM, fun i hi => Nat.lt_of_lt_of_le (h.low i hi) ht.size, hf, hn⟩
/-- A number of the receiver turns. -/
theorem PR.stored (h : PR w K L s) (i : Nat) (x : Value) (s' : Rst) (h1 : s'.S = s.S) (h2 : s'.X = s.X) (h3 : s'.tot = s.tot) (h4 : s'.came = s.came) (hv : (recVs L.d s.nm s.tot L.dv L.cv s.sv s.sf s.mks).set i x = recVs L.d s'.nm s'.tot L.dv L.cv s'.sv s'.sf s'.mks) (hi : i < 8) (hf : RFit K s') : PR (w.setCell ⟨L.r, i, none⟩ x) K L s' := by
 have ht : Turned (fun j => j = L.r) w (w.setCell ⟨L.r, i, none⟩ x) := .set w i _ rfl
 refine ⟨?_, ?_, fun q => ?_, h.rd, h.rR, h.rM, fun j hj => Nat.lt_of_lt_of_le (h.low j hj) ht.size, hf, h.cnt⟩
 ·rw [← hv]
  exact h.cells.set i x hi
 ·rw [h1, h2]
  exact h.disk.stays ht (Ne.symm h.rd) (Ne.symm h.rR) (Ne.symm h.rM)
 ·rw [h3] at q ⊢
  rw [h4]
  exact (h.rows q).turned ht (h.rows q).ar (h.rows q).cr
end
end Go.Proofs.YtfefpcdgflgaeaaGreatDoor
end

section
namespace Go.Proofs.YtfefpcdgflgaeaaGreatDoor
set_option linter.unusedSimpArgs false
set_option linter.unusedVariables false
open Go.RowKit As Go.Maps
set_option maxHeartbeats 1000000 in
set_option maxRecDepth 100000 in
theorem poffer_any {w : World} {K : Nat} {L : PLoc} {s : Rst} (h : PR w K L s) :
  Calls Tryz.prog 21 #[.pointer (some ⟨L.r, 0, none⟩)] w fun e w' => e = .returned (.int .i64 (s.offer : Int)) ∧ w = w' := by
 have c2 := h.cell 2 rfl
 have c4 := h.cell 4 rfl
 have H4 := Lib.hid h.fit.tot
 have HR := Lib.hid h.rows
 clear h
 go_enter Tryz.func21, Tryz.ntmps21
 go_wp2
 go_loop [3] (fun v => ∃ k : Nat, k ≤ s.tot ∧ v = .int .i64 (k : Int) ∧ Hid (∀ i, i < k → (s.came i).isSome = true)) (fun v => s.tot - (intOf v).toNat)
 case atStart => exact ⟨0, Nat.zero_le _, rfl, Lib.hid fun i hi => absurd hi (Nat.not_lt_zero _)⟩
 case round =>
  obtain ⟨k, hk, rfl, hall⟩ := hrel
  by_cases hlt : k < s.tot
  ·have hr := HR.out (by omega)
   have t0 : decide ((k : Int) < (s.tot : Int)) = true := decide_eq_true (by omega)
   have t0' : decide (k < s.tot) = true := decide_eq_true hlt
   have cK := (hr.bo k hlt).1
   have i0 : (0 : Int) ≤ (k : Int) := by omega
   have i1 : (k : Int) < (s.tot : Int) := by omega
   rw [hr.cv] at c4
   have wk : IntKind.i64.wrap ((k : Int) + 1) = ((k + 1 : Nat) : Int) := IntWalk.i64_in _ (by have := H4.out; omega)
   clear hr
   cases hx : (s.came k).isSome with
   | true =>
    have hn : Hid (∀ i, i < k + 1 → (s.came i).isSome = true) := Lib.hid fun i hi => by
     rcases Nat.lt_or_ge i k with q | q
     ·exact hall.out i q
     ·obtain rfl : i = k := by omega
      exact hx
    rw [hx] at cK
    clear hx
    go_wp2
    go_round
    case rel => exact ⟨k + 1, hlt, by go_num, hn⟩
    case measure => simp [intOf]; omega
   | false =>
    have ho := Lib.hid (offer_is hk hall.out (.inr hx))
    rw [hx] at cK
    clear hx
    go_wp2
    go_ret
    exact ⟨retI (congrArg _ ho.out.symm), rfl⟩
  ·obtain rfl : k = s.tot := by omega
   have t0 : decide ((s.tot : Int) < (s.tot : Int)) = false := decide_eq_false (by omega)
   have t0' : decide (s.tot < s.tot) = false := decide_eq_false hlt
   have ho := Lib.hid (offer_is (Nat.le_refl _) hall.out (.inl rfl))
   clear hlt
   go_wp2
   go_ret
   exact ⟨retI (congrArg _ ho.out.symm), rfl⟩
theorem PR.sync {w w' : World} {K : Nat} {L : PLoc} {s : Rst} {S X : DF} {nm tot sv sf mks : Nat} (h : PR w K L s) {n : Nat} (hn : n ≤ 200 * K) (hd : PD w' L.d L.R L.M 140 L.c n S X) (ht : Turned (PFoot L.R L.M) w w') :
  RC w' L.r (recVs L.d s.nm s.tot L.dv L.cv s.sv s.sf s.mks) ∧ (0 < s.tot → PRows w' { L with n := n } s.tot s.came) ∧ (∀ i, L.foot i → i < w'.heap.size) := by
 refine ⟨h.cells.turned ht (fun q => ?_), fun q => ?_, fun i hi => Nat.lt_of_lt_of_le (h.low i hi) ht.size⟩
 ·rcases q with q | q
  ·exact h.rR q
  ·exact h.rM q
 ·have hr := h.rows q
  have h1 := hr.turned ht (fun q => by rcases q with q | q; exact hr.aR q; exact hr.aM q) (fun q => by rcases q with q | q; exact hr.cR q; exact hr.cM q)
  exact ⟨h1.dv, h1.cv, h1.la, h1.lk, h1.by_, h1.bo, h1.ac, h1.ar, h1.ad, h1.aR, h1.aM, h1.cr, h1.cd, h1.cR, h1.cM⟩
theorem foot_r {L : PLoc} {i : Nat} (h : PFoot L.R L.M i) : L.foot i := by
 rcases h with h | h
 ·exact .inr (.inr (.inl h))
 ·exact .inr (.inr (.inr (.inl h)))
set_option maxHeartbeats 1000000 in
theorem pflush_any {w : World} {K : Nat} {L : PLoc} {s : Rst} (h : PR w K L s) :
  Calls Tryz.prog 13 #[.pointer (some ⟨L.r, 0, none⟩)] w fun e w' => e = .returned (.tuple #[]) ∧ PR w' K L s.flush ∧ Turned L.foot w w' := by
 have c0 := h.cell 0 rfl
 go_enter Tryz.func13, Tryz.ntmps13
 go_wp2_with fail
 refine (dsync_any h.disk).mono ?_
 rintro e w1 ⟨rfl, hd, ht⟩
 obtain ⟨q1, q2, q3⟩ := h.sync (nm := 0) (tot := 0) (sv := 0) (sf := 0) (mks := 0) h.cnt hd ht
 have c5 := (q1 5 _ rfl).1
 have c6 := (q1 6 _ rfl).1
 have f6 := (q1 6 _ rfl).2
 have HF := Lib.hid (And.intro h.fit (And.intro h.cnt (And.intro h.rd (And.intro h.rR h.rM))))
 clear h c0
 go_wp2
 go_end0
 have hset : Turned L.foot w1 (w1.setCell ⟨L.r, 6, none⟩ (.int .i64 (s.sv : Int))) := .set w1 6 _ (.inl rfl)
 have hset' : Turned (fun i => i = L.r) w1 (w1.setCell ⟨L.r, 6, none⟩ (.int .i64 (s.sv : Int))) := .set w1 6 _ rfl
 obtain ⟨hf, hc, hrd, hrR, hrM⟩ := HF.out
 refine ⟨rfl, ⟨q1.set 6 (.int .i64 (s.sv : Int)) (by simp [recVs]), hd.stays hset' (Ne.symm hrd) (Ne.symm hrR) (Ne.symm hrM), fun q => ?_, hrd, hrR, hrM, fun i hi => Nat.lt_of_lt_of_le (q3 i hi) hset.size, hf.flush, hc⟩, (ht.mono fun i => foot_r).trans hset⟩
 have hr := q2 q
 exact hr.turned hset' hr.ar hr.cr
end Go.Proofs.YtfefpcdgflgaeaaGreatDoor
end

section
namespace Go.Proofs.YtfefpcdgflgaeaaGreatDoor.Crc
open Go.RowKit
theorem retI {k : IntKind} {a b : Int} (h : a = b) : Ending.returned (.int k a) = .returned (.int k b) := by rw [h]
theorem valI {k : IntKind} {a b : Int} (h : a = b) : Value.int k a = .int k b := by rw [h]

theorem and_one (m : Nat) (h : m < 4294967296) : bits BinOp.and IntKind.u32 (m : Int) 1 = ((m % 2 : Nat) : Int) := by
 have e := u32_and_nat m 1 h (by omega)
 rw [nat_mask1] at e
 exact e
theorem xor_poly (m : Nat) (h : m < 4294967296) : bits BinOp.xor IntKind.u32 ((m : Int) / 2) 2197175160 = ((m / 2 ^^^ poly : Nat) : Int) := by
 have e := u32_xor_nat (m / 2) poly (by omega) poly_lt
 have e1 : ((m / 2 : Nat) : Int) = (m : Int) / 2 := by omega
 rw [e1] at e
 exact e
theorem stp_odd (m : Nat) (h : m < 4294967296) (t : (bits BinOp.and IntKind.u32 (m : Int) 1 == 1) = true) :
  bits BinOp.xor IntKind.u32 ((m : Int) / 2) 2197175160 = (stp m : Int) := by
 rw [and_one m h] at t
 have t' : m % 2 = 1 := by
  have := beq_iff_eq.1 t
  omega
 rw [xor_poly m h]
 unfold stp
 rw [if_pos t']
theorem stp_even (m : Nat) (h : m < 4294967296) (t : (bits BinOp.and IntKind.u32 (m : Int) 1 == 1) = false) :
  (m : Int) / 2 = (stp m : Int) := by
 rw [and_one m h] at t
 have t' : m % 2 ≠ 1 := by
  have := beq_eq_false_iff_ne.1 t
  omega
 unfold stp
 rw [if_neg t']
 omega

theorem one_any (n : Nat) (w : World) (h : n < 4294967296) :
  Calls Tryz.prog 97 #[.int .u32 (n : Int)] w fun e w' => e = .returned (.int .u32 (one n : Int)) ∧ w = w' := by
 go_enter Tryz.func97, Tryz.ntmps97
 go_wp2
 go_loop [0, 3] (fun v i => ∃ k : Nat, k ≤ 8 ∧ i = .int .i64 k ∧ v = .int .u32 (iter k n : Int)) (fun _ i => 8 - (intOf i).toNat)
 case atStart => exact ⟨0, by omega, rfl, rfl⟩
 case round =>
  obtain ⟨k, hk, rfl, rfl⟩ := hrel
  have hb := iter_lt k h
  have hs := Lib.hid (iter_succ k n)
  go_wp2
  ·go_round
   case rel => exact ⟨k + 1, by omega, by go_num, valI (by rw [hs.out]; exact stp_odd _ hb (by assumption))⟩
   case measure => simp [intOf]; omega
  ·go_round
   case rel => exact ⟨k + 1, by omega, by go_num, valI (by rw [hs.out]; exact stp_even _ hb (by assumption))⟩
   case measure => simp [intOf]; omega
  ·go_ret
   obtain rfl : k = 8 := by omega
   exact ⟨rfl, rfl⟩

/- Complements. -/
theorem not_u32 (m : Nat) (h : m < 4294967296) : bits BinOp.xor IntKind.u32 IntKind.u32.max (m : Int) = ((4294967295 - m : Nat) : Int) := by
 show IntKind.u32.wrap ((BitVec.ofInt 32 IntKind.u32.max ^^^ BitVec.ofInt 32 (m : Int)).toNat : Int) = _
 have h1 : BitVec.ofInt 32 IntKind.u32.max = BitVec.allOnes 32 := by decide
 rw [h1, BitVec.allOnes_xor, BitVec.toNat_not, ofInt_u32 m h, IntKind.wrap_u32']
 omega
theorem byte_at (s : ByteArray) (k : Nat) (h : k < s.size) : (s.data.toList.getD k 0) = s[k] := by
 have h' : k < s.data.toList.length := by simpa using h
 simp only [List.getD, List.getElem?_eq_getElem h', Option.getD_some]
 rfl
theorem byte_in (n : Nat) (b : UInt8) (h : n < 4294967296) :
  bits BinOp.xor IntKind.u32 (bits BinOp.and IntKind.u32 (n : Int) 255) ((b.toNat : Int) % 4294967296) = ((n % 256 ^^^ b.toNat : Nat) : Int) := by
 have hb := b.toNat_lt
 have e := u32_and_nat n 255 h (by omega)
 rw [nat_mask8] at e
 have e1 : (b.toNat : Int) % 4294967296 = (b.toNat : Int) := by omega
 rw [e1]
 have e2 : bits BinOp.and IntKind.u32 (n : Int) 255 = ((n % 256 : Nat) : Int) := e
 rw [e2]
 exact u32_xor_nat _ _ (by omega) (by omega)
theorem byte_in_lt (n : Nat) (b : UInt8) : n % 256 ^^^ b.toNat < 4294967296 := by
 have := Nat.xor_lt_two_pow (n := 8) (x := n % 256) (y := b.toNat) (by omega) b.toNat_lt
 omega
theorem byte_out (n : Nat) (b : UInt8) (h : n < 4294967296) :
  bits BinOp.xor IntKind.u32 (one (n % 256 ^^^ b.toNat) : Int) ((n : Int) / 256) = (byteStep n b.toNat : Int) := by
 have e1 : (n : Int) / 256 = ((n / 256 : Nat) : Int) := by omega
 rw [e1]
 exact u32_xor_nat _ _ (iter_lt 8 (byte_in_lt n b)) (by omega)
theorem take_snoc (s : ByteArray) (k : Nat) (h : k < s.size) : s.data.toList.take (k + 1) = s.data.toList.take k ++ [s[k]] := by
 rw [List.take_succ_eq_append_getElem (by simpa using h)]; rfl
theorem run_step (n : Nat) (s : ByteArray) (k : Nat) (h : k < s.size) : run n (s.data.toList.take (k + 1)) = byteStep (run n (s.data.toList.take k)) s[k].toNat := by
 rw [take_snoc s k h, run_snoc]

def more (n : Nat) (l : List UInt8) : Nat := 4294967295 - run (4294967295 - n) l

theorem more_any (n : Nat) (s : ByteArray) (w : World) (hn : n < 4294967296) (hs : s.size ≤ maxLen) :
  Calls Tryz.prog 78 #[.int .u32 (n : Int), .string s] w fun e w' => e = .returned (.int .u32 (more n s.data.toList : Int)) ∧ w = w' := by
 unfold maxLen at hs
 go_enter Tryz.func78, Tryz.ntmps78
 go_wp2
 go_loop [0, 5, 10] (fun v _ i => ∃ k : Nat, k ≤ s.size ∧ i = .int .i64 k ∧ v = .int .u32 (run (4294967295 - n) (s.data.toList.take k) : Int)) (fun _ _ i => s.size - (intOf i).toNat)
 case atStart => exact ⟨0, by omega, rfl, valI (not_u32 n hn)⟩
 case round =>
  obtain ⟨k, hk, rfl, rfl⟩ := hrel
  have hb := run_lt (n := 4294967295 - n) (by omega) (s.data.toList.take k)
  by_cases hlt : k < s.size
  ·have hstep := Lib.hid (run_step (4294967295 - n) s k hlt)
   have hout := Lib.hid (byte_out (run (4294967295 - n) (s.data.toList.take k)) s[k] hb)
   have hin := Lib.hid (byte_in (run (4294967295 - n) (s.data.toList.take k)) s[k] hb)
   go_wp2_with fail
   rw [hin.out]
   refine (one_any _ _ (byte_in_lt _ _)).mono ?_
   rintro e w' ⟨rfl, rfl⟩
   go_wp2_with fail
   go_round
   case rel => exact ⟨k + 1, by omega, by go_num, valI (by rw [hstep.out]; exact hout.out)⟩
   case measure => simp [intOf]; omega
  ·obtain rfl : k = s.size := by omega
   go_wp2_with fail
   go_ret
   have e : s.data.toList.take s.size = s.data.toList := List.take_of_length_le (by simp)
   rw [e] at hb ⊢
   exact ⟨retI (not_u32 _ hb), rfl⟩
theorem bit_at (n : Nat) (b : UInt8) (j : Nat) (h : n < 4294967296) :
  bits BinOp.xor IntKind.u32 (bits BinOp.and IntKind.u32 (n : Int) 1) (bits BinOp.and IntKind.u32 ((b.toNat : Int) / 2 ^ j % 4294967296) 1) = ((n % 2 ^^^ (b.toNat / 2 ^ j % 2) : Nat) : Int) := by
 have hb := b.toNat_lt
 have hd : b.toNat / 2 ^ j ≤ b.toNat := Nat.div_le_self _ _
 have e1 : (b.toNat : Int) / 2 ^ j % 4294967296 = ((b.toNat / 2 ^ j : Nat) : Int) := by
  have e0 : ((b.toNat / 2 ^ j : Nat) : Int) = (b.toNat : Int) / 2 ^ j := by simp
  rw [← e0]
  generalize b.toNat / 2 ^ j = q at hd ⊢
  omega
 rw [e1, and_one n h, and_one _ (by omega)]
 exact u32_xor_nat _ _ (by omega) (by omega)
theorem carry_yes (n : Nat) (s : ByteArray) (k : Nat) (h : n < 4294967296) (hlt : k < 8 * s.size) (h8 : k / 8 < s.size)
  (t : (bits BinOp.xor IntKind.u32 (bits BinOp.and IntKind.u32 (carried n s.data.toList k : Int) 1) (bits BinOp.and IntKind.u32 ((s[k / 8].toNat : Int) / 2 ^ (k % 8) % 4294967296) 1) == 1) = true) :
  bits BinOp.xor IntKind.u32 ((carried n s.data.toList k : Int) / 2) 2197175160 = (carried n s.data.toList (k + 1) : Int) := by
 have hc := carried_lt h s.data.toList k
 rw [bit_at _ _ _ hc] at t
 have t' := beq_iff_eq.1 t
 rw [xor_poly _ hc, carried_succ n _ k (by simpa using hlt), bitStep_ref _ _ (by omega), byte_at s _ h8, if_pos (by omega)]
theorem carry_no (n : Nat) (s : ByteArray) (k : Nat) (h : n < 4294967296) (hlt : k < 8 * s.size) (h8 : k / 8 < s.size)
  (t : (bits BinOp.xor IntKind.u32 (bits BinOp.and IntKind.u32 (carried n s.data.toList k : Int) 1) (bits BinOp.and IntKind.u32 ((s[k / 8].toNat : Int) / 2 ^ (k % 8) % 4294967296) 1) == 1) = false) :
  (carried n s.data.toList k : Int) / 2 = (carried n s.data.toList (k + 1) : Int) := by
 have hc := carried_lt h s.data.toList k
 rw [bit_at _ _ _ hc] at t
 have t' := beq_eq_false_iff_ne.1 t
 rw [carried_succ n _ k (by simpa using hlt), bitStep_ref _ _ (by omega), byte_at s _ h8, if_neg (by omega)]
 omega
theorem carry_any (n : Nat) (s : ByteArray) (w : World) (h : n < 4294967296) (hs : s.size ≤ 1000000) :
  Calls Tryz.prog 77 #[.int .u32 (n : Int), .string s] w fun e w' => e = .returned (.int .u32 (run n s.data.toList : Int)) ∧ w = w' := by
 go_enter Tryz.func77, Tryz.ntmps77
 go_wp2
 go_loop [0, 5] (fun v i => ∃ k : Nat, k ≤ 8 * s.size ∧ i = .int .i64 k ∧ v = .int .u32 (carried n s.data.toList k : Int)) (fun _ i => 8 * s.size - (intOf i).toNat)
 case atStart => exact ⟨0, by omega, rfl, valI (by rw [carried_zero])⟩
 case round =>
  obtain ⟨k, hk, rfl, rfl⟩ := hrel
  have hb := carried_lt h s.data.toList k
  by_cases hlt : k < 8 * s.size
  ·have h8 : k / 8 < s.size := by omega
   go_wp2_with fail
   ·go_round
    case rel => exact ⟨k + 1, by omega, by go_num, valI (carry_yes n s k h hlt h8 (by assumption))⟩
    case measure => simp [intOf]; omega
   ·go_round
    case rel => exact ⟨k + 1, by omega, by go_num, valI (carry_no n s k h hlt h8 (by assumption))⟩
    case measure => simp [intOf]; omega
  ·obtain rfl : k = 8 * s.size := by omega
   go_wp2_with fail
   go_ret
   have e : carried n s.data.toList (8 * s.size) = run n s.data.toList := by
    rw [← carried_end n s.data.toList]; simp
   exact ⟨retI (by rw [e]), rfl⟩
theorem rsum_any (s : ByteArray) (w : World) (hs : s.size ≤ 1000000) :
  Calls Tryz.prog 51 #[.string s] w fun e w' => e = .returned (.int .u32 (more 0 s.data.toList : Int)) ∧ w = w' := by
 go_enter Tryz.func51, Tryz.ntmps51
 go_wp2_with fail
 refine (carry_any 4294967295 s _ (by omega) hs).mono ?_
 rintro e w' ⟨rfl, rfl⟩
 go_wp2_with fail
 go_ret
 exact ⟨retI (not_u32 _ (run_lt (by omega) _)), rfl⟩
theorem sum_any (s : ByteArray) (w : World) (hs : s.size ≤ maxLen) :
  Calls Tryz.prog 52 #[.string s] w fun e w' => e = .returned (.int .u32 (more 0 s.data.toList : Int)) ∧ w = w' := by
 go_enter Tryz.func52, Tryz.ntmps52
 go_wp2_with fail
 refine (more_any 0 s _ (by omega) hs).mono ?_
 rintro e w' ⟨rfl, rfl⟩
 go_wp2_with fail
 go_ret
 exact ⟨rfl, rfl⟩

end Go.Proofs.YtfefpcdgflgaeaaGreatDoor.Crc
end

section
namespace Go.Proofs.YtfefpcdgflgaeaaGreatDoor
set_option linter.unusedSimpArgs false
set_option linter.unusedVariables false
open Go.RowKit As Go.Maps
theorem string_part {P : Program} {w : World} {A n a b c : Nat} {f : CF} (src e dst : TypeId) (hs : P.underlying src = some (.slice e)) (he : P.underlying e = some (.int .u8)) (hd : P.underlying dst = some .string) (h : ByteRow w A n f) (hb : b ≤ n) :
  (convert src dst (.slice (some ⟨A, a, none⟩) (b - a) c)).run P w = .ok (.string (blk f a b)) w := by
 rw [run_convert_bytes_arg w src e hs he A a (b - a) c ((List.range (b - a)).map fun i => (((f (a + i)).getD 0).toNat : Int)) (by simp) (fun i hi => by
  rw [(h (a + i) (by omega)).1]
  simp [List.getD, hi]) dst hd]
 congr 2
 unfold blk strOf
 simp only [strOfNums, List.map_map]
 congr 2
 apply List.map_congr_left
 intro i _
 simp
theorem PR.drewN {w : World} {K : Nat} {L : PLoc} {s : Rst} (h : PR w K L s) (n : Nat) : PR (w.drewN n) K L s := h.below (below_drewN (Below.refl _ _) _)
end Go.Proofs.YtfefpcdgflgaeaaGreatDoor
end

section
namespace Go.Proofs.YtfefpcdgflgaeaaGreatDoor
set_option linter.unusedSimpArgs false
set_option linter.unusedVariables false
open Go.RowKit As Go.Maps
theorem run_bpart (A n c a b : Nat) (h : a < b) (h2 : b ≤ n) (hc : n ≤ c) (w : World) : (Instr.slice 69 (.slice (some ⟨A, 0, none⟩) n c) (some (.int .i64 (a : Int))) (some (.int .i64 (b : Int))) none).run Tryz.prog w = .ok (.slice (some ⟨A, a, none⟩) (b - a) (c - a)) w := by
 rw [run_slice_lh w _ (some ⟨A, 0, none⟩) n c (by kernel_rfl) .i64 .i64 a (b : Int) (by omega) (by omega) (by omega), show (sizeOf (Tryz.prog.elem 69)).run Tryz.prog w = .ok 1 w by kernel_rfl]
 show Result.ok (sliced (some ⟨A, 0, none⟩) (a : Int).toNat (b : Int).toNat c 1) w = _
 unfold sliced
 rw [show (a : Int).toNat = a by omega, show (b : Int).toNat = b by omega, if_neg (by omega)]
 simp [Addr.add]
 intro h; omega
theorem sliceAt_is (x : Value) (lo hi mx : Option Value) (w : World) : (Instr.sliceAt 69 x lo hi mx).run Tryz.prog w = (Instr.slice 69 x lo hi mx).run Tryz.prog w := by
 unfold Instr.sliceAt
 simp [go_sem]
def psV (Z : PLoc) (N a b q T : Nat) (z : ByteArray) (g : Unit) : Nat → Value
 | 0 => .pointer (some ⟨Z.r, 0, none⟩)
 | 1 => .pointer (some ⟨Z.r, 0, none⟩)
 | 2 => .pointer (some ⟨Z.r, 0, none⟩)
 | 3 => .pointer (some ⟨Z.d, 0, none⟩)
 | 4 => .int .i64 (a : Int)
 | 5 => .int .i64 (q : Int)
 | 6 => .int .i64 ((q + 2 : Nat) : Int)
 | 7 => .pointer (some ⟨Z.r, 0, none⟩)
 | 8 => .pointer (some ⟨Z.r, 0, none⟩)
 | 9 => .pointer (some ⟨Z.r, 3, none⟩)
 | 10 => .slice (some ⟨Z.A, 0, none⟩) T Z.a
 | 11 => .int .i64 (a : Int)
 | 12 => .int .i64 (N : Int)
 | 13 => .int .i64 (a : Int)
 | 14 => .int .i64 ((a + 32 : Nat) : Int)
 | 15 => .int .i64 (b : Int)
 | 16 => .slice (some ⟨Z.A, a, none⟩) (b - a) (Z.a - a)
 | 17 => .string z
 | 18 => .nilIface
 | _ => undef
set_option maxHeartbeats 1000000 in
set_option maxRecDepth 100000 in
theorem psave_any {w : World} {E : Nat} {Z : PLoc} {s : Rst} (h : PR w E Z s) (hE : E + 1 ≤ 1000000) :
  Calls Tryz.prog 11 #[.pointer (some ⟨Z.r, 0, none⟩)] w fun e w' => e = .returned (.tuple #[]) ∧ PR w' (E + 1) { Z with n := Z.n + ((s.offer + 31) / 32 - s.sv / 32) } s.save ∧ Turned Z.foot w w' := by
 go_enter Tryz.func11, Tryz.ntmps11
 go_wp2_with fail
 refine (poffer_any h).mono ?_
 rintro e w' ⟨rfl, rfl⟩
 have c5 := h.cell 5 rfl
 have H4 := Lib.hid (And.intro h.fit.tot (And.intro (offer_le s.came s.tot) h.fit.sv_le))
 have hP0 := h.more (K' := E + 1) (by omega) hE
 have hP0f := hP0.fit
 have HC0 := Lib.hid h.cnt
 have HF0 := Lib.hid hP0f
 clear hP0f
 clear h
 obtain ⟨N, hN⟩ : ∃ N, N = s.offer := ⟨_, rfl⟩
 obtain ⟨k0, hk0⟩ : ∃ k0, k0 = s.sv / 32 := ⟨_, rfl⟩
 have hNT : N ≤ s.tot := by rw [hN]; exact H4.out.2.1
 have hks : k0 ≤ 128 := by have := H4.out; omega
 have wk0 : (s.sv : Int) / 32 = (k0 : Int) := by omega
 have W0 := Lib.hid (w_in ((k0 : Int) * 32) (32 * k0) (by omega) (by omega))
 rw [← hN]
 have HN0 := Lib.hid hN
 have HK0 := Lib.hid hk0
 clear hN hk0
 obtain ⟨wk1, wk2⟩ := W0.out
 clear W0
 go_wp2
 clear wk0 wk1 wk2
 go_loopw [3] (fun v wr => ∃ j a : Nat, Hid (a = 32 * (k0 + j)) ∧ (k0 + j ≤ (N + 31) / 32 ∨ j = 0) ∧ v = .int .i64 (a : Int) ∧ PR wr (E + 1) { Z with n := Z.n + j } { s with X := saveX s.came N s.X k0 j } ∧ Turned Z.foot w wr) (fun v _ => N - (intOf v).toNat)
 case atStart =>
  exact ⟨0, 32 * k0, Lib.hid rfl, .inr rfl, by go_num, hP0, .refl _ _⟩
 case round =>
  clear hP0 c5
  obtain ⟨j, a, HA, hj, rfl, hP, hT⟩ := hrel
  have ha := HA.out
  obtain ⟨X, hX⟩ : ∃ X, X = saveX s.came N s.X k0 j := ⟨_, rfl⟩
  rw [← hX] at hP
  by_cases hlt : a < N
  ·have t0 : decide ((a : Int) < (N : Int)) = true := decide_eq_true (by omega)
   have t0' : decide (a < N) = true := decide_eq_true hlt
   have hpos : 0 < s.tot := by omega
   have hr := hP.rows hpos
   have c0 := hP.cell 0 rfl
   have c3 := hP.cell 3 rfl
   rw [hr.dv] at c3
   obtain ⟨T, hTT⟩ : ∃ T, T = s.tot := ⟨_, rfl⟩
   rw [← hTT] at c3
   obtain ⟨b, hb⟩ : ∃ b, b = min N (a + 32) := ⟨_, rfl⟩
   obtain ⟨q, hq0⟩ : ∃ q, q = k0 + j := ⟨_, rfl⟩
   obtain ⟨z, hz⟩ : ∃ z, z = blk s.came a b := ⟨_, rfl⟩
   have hzs : z.size ≤ 32 := by rw [hz, blk_size]; omega
   have hq : (a : Int) / 32 = (q : Int) := by omega
   have hq2 : Int.tdiv (a : Int) 32 = (q : Int) := by rw [Int.tdiv_eq_ediv_of_nonneg (by omega)]; exact hq
   have hT4 := H4.out.1
   have W1 := Lib.hid (w_in (2 + (q : Int)) (q + 2) (by omega) (by omega))
   have W2 := Lib.hid (w_in ((a : Int) + 32) (a + 32) (by omega) (by omega))
   have hab1 : a < b := by omega
   have hab2 : b ≤ T := by omega
   have hab3 : T ≤ Z.a := by rw [hTT]; exact hr.la
   have hmn : min (N : Int) ((a : Int) + 32) = (b : Int) := by omega
   have hq9 : q ≤ 1000000000 := by omega
   have HM := Lib.hid (show N - ((a : Int) + 32).toNat < N - a by omega)
   have HN := Lib.hid (And.intro hP.off.1 (hP.off.2 hpos).1)
   have HB : Hid (∀ wz, Turned (PFoot Z.R Z.M) wr wz → (convert 69 9 (.slice (some ⟨Z.A, a, none⟩) (b - a) (Z.a - a))).run Tryz.prog wz = .ok (.string z) wz) := Lib.hid fun wz ht => by
    rw [hz]
    exact string_part (a := a) (b := b) 69 5 9 Tryz.underlying69 Tryz.underlying5 Tryz.underlying9 (hr.by_.turned ht HN.out.2) (by rw [← hTT]; exact hab2)
   have HL : Hid (Z.n + j < maxLen) := Lib.hid (by have := HC0.out; unfold maxLen; omega)
   have E1 := Lib.hid (show dwErr 140 ((q + 2 : Nat) : Int) z = 0 by unfold dwErr; rw [if_neg (by omega), if_neg (by omega)])
   have E2 := Lib.hid (show dwX 140 X ((q + 2 : Nat) : Int) z = upd X (q + 2) (padz z) by unfold dwX; rw [if_pos E1.out]; rfl)
   have hXn : saveX s.came N s.X k0 (j + 1) = upd X (q + 2) (padz z) := by rw [saveX, ← hX, ← hq0, hz, ha, hb, ha, hq0]
   have HP : Hid (∀ wz, PD wz Z.d Z.R Z.M 140 Z.c (Z.n + j + 1) s.S (upd X (q + 2) (padz z)) → Turned (PFoot Z.R Z.M) wr wz → PR wz (E + 1) { Z with n := Z.n + (j + 1) } { s with X := saveX s.came N s.X k0 (j + 1) }) := Lib.hid fun wz hd ht => by
    have hf := HF0.out.saving (j + 1) (.inl (by rw [← HK0.out, ← HN0.out]; omega))
    rw [← HN0.out, ← HK0.out] at hf
    have := hP.disked hd ht (by rw [← hXn]; exact hf) (by have := HC0.out; omega)
    rw [hXn]
    exact this
   have HJ : Hid (k0 + (j + 1) ≤ (N + 31) / 32 ∨ j + 1 = 0) := Lib.hid (.inl (by omega))
   have HW := Lib.hid (show a + 32 = 32 * (k0 + (j + 1)) by omega)
   clear hr hz hb hX hXn hq0 ha hTT
   obtain ⟨wq1, wq2⟩ := W1.out
   have wq0 := (w_in (q : Int) q rfl hq9).1
   obtain ⟨wa1, wa2⟩ := W2.out
   clear W1 W2
   go_wp2
   refine Flow.wp_region_go (by kernel_rfl) (by kernel_rfl) (by kernel_rfl) 40 rfl (by kernel_rfl) (psV Z N a b q T z) (fun _ L wz => PD wz Z.d Z.R Z.M 140 Z.c (cond (L 18) (Z.n + j + 1) (Z.n + j)) s.S (cond (L 18) (upd X (q + 2) (padz z)) X) ∧ Turned (PFoot Z.R Z.M) wr wz) (fun _ _ => False) (()) (⟨hP.disk.below (Below.refl _ _).drew, .of_below (Below.refl _ _).drew⟩) ⟨?_, ?_, ?_, ?_, ?_, ?_, ?_, ?_, ?_, ?_, ?_, ?_, ?_, ?_, ?_, ?_, ?_, ?_, ?_, trivial⟩ ?_ ?_
   ·intro g L wz K ρ hc0 hf0 hF hO hU hcl hi hd hC hK
    have e0 : ρ (.tmp 0) = .pointer (some ⟨Z.r, 0, none⟩) := hO 0 (by kernel_rfl)
    simp [go_sem, Flow.ylP_value, Flow.ylP_skip, Flow.ylP_enter, Flow.ylP_panic, hc0, hf0, e0]
    exact hK g wz hC (fun _ _ => rfl)
   ·intro g L wz K ρ hc0 hf0 hF hO hU hcl hi hd hC hK
    have d0 : L 0 = true := hd ⟨0, .data⟩ (by simp) rfl
    have e17 : ρ (.tmp 17) = .pointer (some ⟨Z.r, 0, none⟩) := hF 17 0 (by kernel_rfl) d0
    simp [go_sem, Flow.ylP_value, Flow.ylP_skip, Flow.ylP_enter, Flow.ylP_panic, hc0, hf0, e17]
    exact hK g wz hC (fun _ _ => rfl)
   ·intro g L wz K ρ hc0 hf0 hF hO hU hcl hi hd hC hK
    have d1 : L 1 = true := hd ⟨1, .data⟩ (by simp) rfl
    have e18 : ρ (.tmp 18) = .pointer (some ⟨Z.r, 0, none⟩) := hF 18 1 (by kernel_rfl) d1
    simp [go_sem, Flow.ylP_value, Flow.ylP_skip, Flow.ylP_enter, Flow.ylP_panic, hc0, hf0, e18]
    exact hK g wz hC (fun _ _ => rfl)
   ·intro g L wz K ρ hc0 hf0 hF hO hU hcl hi hd hC hK
    have d2 : L 2 = true := hd ⟨2, .data⟩ (by simp) rfl
    have e19 : ρ (.tmp 19) = .pointer (some ⟨Z.r, 0, none⟩) := hF 19 2 (by kernel_rfl) d2
    have cc := hC.2.cell c0 HN.out.1
    simp [go_sem, Flow.ylP_value, Flow.ylP_skip, Flow.ylP_enter, Flow.ylP_panic, hc0, hf0, e19, cc]
    exact hK g wz hC (fun _ _ => rfl)
   ·intro g L wz K ρ hc0 hf0 hF hO hU hcl hi hd hC hK
    have e3 : ρ (.tmp 3) = .int .i64 (a : Int) := hO 3 (by kernel_rfl)
    simp [go_sem, Flow.ylP_value, Flow.ylP_skip, Flow.ylP_enter, Flow.ylP_panic, hc0, hf0, e3]
    exact hK g wz hC (fun _ _ => rfl)
   ·intro g L wz K ρ hc0 hf0 hF hO hU hcl hi hd hC hK
    have d4 : L 4 = true := hd ⟨4, .data⟩ (by simp) rfl
    have e21 : ρ (.tmp 21) = .int .i64 (a : Int) := hF 21 4 (by kernel_rfl) d4
    simp [go_sem, Flow.ylP_value, Flow.ylP_skip, Flow.ylP_enter, Flow.ylP_panic, hc0, hf0, e21, hq, hq2, wq0]
    exact hK g wz hC (fun _ _ => rfl)
   ·intro g L wz K ρ hc0 hf0 hF hO hU hcl hi hd hC hK
    have d5 : L 5 = true := hd ⟨5, .data⟩ (by simp) rfl
    have e22 : ρ (.tmp 22) = .int .i64 (q : Int) := hF 22 5 (by kernel_rfl) d5
    simp [go_sem, Flow.ylP_value, Flow.ylP_skip, Flow.ylP_enter, Flow.ylP_panic, hc0, hf0, e22, wq1, wq2]
    exact hK g wz hC (fun _ _ => rfl)
   ·intro g L wz K ρ hc0 hf0 hF hO hU hcl hi hd hC hK
    have e0 : ρ (.tmp 0) = .pointer (some ⟨Z.r, 0, none⟩) := hO 0 (by kernel_rfl)
    simp [go_sem, Flow.ylP_value, Flow.ylP_skip, Flow.ylP_enter, Flow.ylP_panic, hc0, hf0, e0]
    exact hK g wz hC (fun _ _ => rfl)
   ·intro g L wz K ρ hc0 hf0 hF hO hU hcl hi hd hC hK
    have d7 : L 7 = true := hd ⟨7, .data⟩ (by simp) rfl
    have e24 : ρ (.tmp 24) = .pointer (some ⟨Z.r, 0, none⟩) := hF 24 7 (by kernel_rfl) d7
    simp [go_sem, Flow.ylP_value, Flow.ylP_skip, Flow.ylP_enter, Flow.ylP_panic, hc0, hf0, e24]
    exact hK g wz hC (fun _ _ => rfl)
   ·intro g L wz K ρ hc0 hf0 hF hO hU hcl hi hd hC hK
    have d8 : L 8 = true := hd ⟨8, .data⟩ (by simp) rfl
    have e25 : ρ (.tmp 25) = .pointer (some ⟨Z.r, 0, none⟩) := hF 25 8 (by kernel_rfl) d8
    simp [go_sem, Flow.ylP_value, Flow.ylP_skip, Flow.ylP_enter, Flow.ylP_panic, hc0, hf0, e25]
    exact hK g wz hC (fun _ _ => rfl)
   ·intro g L wz K ρ hc0 hf0 hF hO hU hcl hi hd hC hK
    have d9 : L 9 = true := hd ⟨9, .data⟩ (by simp) rfl
    have e26 : ρ (.tmp 26) = .pointer (some ⟨Z.r, 3, none⟩) := hF 26 9 (by kernel_rfl) d9
    have cc := hC.2.cell c3 HN.out.1
    simp [go_sem, Flow.ylP_value, Flow.ylP_skip, Flow.ylP_enter, Flow.ylP_panic, hc0, hf0, e26, cc]
    exact hK g wz hC (fun _ _ => rfl)
   ·intro g L wz K ρ hc0 hf0 hF hO hU hcl hi hd hC hK
    have e3 : ρ (.tmp 3) = .int .i64 (a : Int) := hO 3 (by kernel_rfl)
    simp [go_sem, Flow.ylP_value, Flow.ylP_skip, Flow.ylP_enter, Flow.ylP_panic, hc0, hf0, e3]
    exact hK g wz hC (fun _ _ => rfl)
   ·intro g L wz K ρ hc0 hf0 hF hO hU hcl hi hd hC hK
    have e2 : ρ (.tmp 2) = .int .i64 (N : Int) := hO 2 (by kernel_rfl)
    simp [go_sem, Flow.ylP_value, Flow.ylP_skip, Flow.ylP_enter, Flow.ylP_panic, hc0, hf0, e2]
    exact hK g wz hC (fun _ _ => rfl)
   ·intro g L wz K ρ hc0 hf0 hF hO hU hcl hi hd hC hK
    have e3 : ρ (.tmp 3) = .int .i64 (a : Int) := hO 3 (by kernel_rfl)
    simp [go_sem, Flow.ylP_value, Flow.ylP_skip, Flow.ylP_enter, Flow.ylP_panic, hc0, hf0, e3]
    exact hK g wz hC (fun _ _ => rfl)
   ·intro g L wz K ρ hc0 hf0 hF hO hU hcl hi hd hC hK
    have d13 : L 13 = true := hd ⟨13, .data⟩ (by simp) rfl
    have e30 : ρ (.tmp 30) = .int .i64 (a : Int) := hF 30 13 (by kernel_rfl) d13
    simp [go_sem, Flow.ylP_value, Flow.ylP_skip, Flow.ylP_enter, Flow.ylP_panic, hc0, hf0, e30, wa1, wa2]
    exact hK g wz hC (fun _ _ => rfl)
   ·intro g L wz K ρ hc0 hf0 hF hO hU hcl hi hd hC hK
    have d12 : L 12 = true := hd ⟨12, .data⟩ (by simp) rfl
    have e29 : ρ (.tmp 29) = .int .i64 (N : Int) := hF 29 12 (by kernel_rfl) d12
    have d14 : L 14 = true := hd ⟨14, .data⟩ (by simp) rfl
    have e31 : ρ (.tmp 31) = .int .i64 ((a + 32 : Nat) : Int) := hF 31 14 (by kernel_rfl) d14
    simp [go_sem, Flow.ylP_value, Flow.ylP_skip, Flow.ylP_enter, Flow.ylP_panic, hc0, hf0, e29, e31, hmn]
    exact hK g wz hC (fun _ _ => rfl)
   ·intro g L wz K ρ hc0 hf0 hF hO hU hcl hi hd hC hK
    have d10 : L 10 = true := hd ⟨10, .data⟩ (by simp) rfl
    have e27 : ρ (.tmp 27) = .slice (some ⟨Z.A, 0, none⟩) T Z.a := hF 27 10 (by kernel_rfl) d10
    have d11 : L 11 = true := hd ⟨11, .data⟩ (by simp) rfl
    have e28 : ρ (.tmp 28) = .int .i64 (a : Int) := hF 28 11 (by kernel_rfl) d11
    have d15 : L 15 = true := hd ⟨15, .data⟩ (by simp) rfl
    have e32 : ρ (.tmp 32) = .int .i64 (b : Int) := hF 32 15 (by kernel_rfl) d15
    have hsl := run_bpart Z.A T Z.a a b hab1 hab2 hab3 wz
    unfold execOp
    simp only [resolve, Sem.run_bind, Sem.run_pure, Result.andThen_ok, Option.map_some, Option.map_none, e27, e28, e32, sliceAt_is, hsl]
    exact hK g wz hC (fun _ _ => rfl)
   ·intro g L wz K ρ hc0 hf0 hF hO hU hcl hi hd hC hK
    have d16 : L 16 = true := hd ⟨16, .data⟩ (by simp) rfl
    have e33 : ρ (.tmp 33) = .slice (some ⟨Z.A, a, none⟩) (b - a) (Z.a - a) := hF 33 16 (by kernel_rfl) d16
    have hcv := HB.out wz hC.2
    unfold execOp
    simp only [resolve, Sem.run_bind, Sem.run_pure, Result.andThen_ok, e33, hcv]
    exact hK g wz hC (fun _ _ => rfl)
   ·intro g L wz K ρ hc0 hf0 hF hO hU hcl hi hd hC hK
    have d3 : L 3 = true := hd ⟨3, .data⟩ (by simp) rfl
    have e20 : ρ (.tmp 20) = .pointer (some ⟨Z.d, 0, none⟩) := hF 20 3 (by kernel_rfl) d3
    have d6 : L 6 = true := hd ⟨6, .data⟩ (by simp) rfl
    have e23 : ρ (.tmp 23) = .int .i64 ((q + 2 : Nat) : Int) := hF 23 6 (by kernel_rfl) d6
    have d17 : L 17 = true := hd ⟨17, .data⟩ (by simp) rfl
    have e34 : ρ (.tmp 34) = .string z := hF 34 17 (by kernel_rfl) d17
    simp [go_sem, Flow.ylP_value, Flow.ylP_skip, Flow.ylP_enter, Flow.ylP_panic, hc0, hf0, e20, e23, e34]
    simp only [hi, cond_false] at hC
    refine (dwrite_any hC.1 ((q + 2 : Nat) : Int) z (by omega) HL.out).mono ?_
    rintro r wn ⟨rfl, hpn, htn⟩
    rw [E1.out]
    rw [E2.out] at hpn
    exact ⟨_, rfl, hK () wn ⟨hpn, hC.2.trans htn⟩ (by intro j hj; unfold psV; split <;> first | rfl | (rw [hi] at hj; cases hj) | (have hz := hcl _ 18 (by kernel_rfl) hj; rw [hi] at hz; cases hz))⟩
   ·intro g L ch wz h; exact h.elim
   ·intro g L wz hL hC
    rw [hL 18 (by decide)] at hC
    simp only [Flow.putAll, psV]
    simp [Act.put]
    have hp9 := HP.out wz hC.1 hC.2
    have ht9 := hT.trans (hC.2.mono fun i => foot_R)
    clear hP hT hC hq hq2 hmn wq0 wq1 wq2 HB HN HL E1 E2 c0 c3 HP hab1 hab2 hab3 hzs
    go_wp2
    go_roundw
    case rel => exact ⟨j + 1, a + 32, HW, HJ.out, rfl, hp9, ht9⟩
    case measure => simpa [intOf] using HM.out
  ·have t0 : decide ((a : Int) < (N : Int)) = false := decide_eq_false (by omega)
   have t0' : decide (a < N) = false := decide_eq_false hlt
   have hj9 : j = (N + 31) / 32 - k0 := by omega
   have HJ := Lib.hid hj9
   have HX := Lib.hid hX
   clear hlt hj9 ha hX
   have c5 := hP.cell 5 rfl
   have f5 := hP.free 5 rfl
   go_wp2
   go_end0
   have hset : Turned Z.foot wr (wr.setCell ⟨Z.r, 5, none⟩ (.int .i64 (N : Int))) := .set wr 5 _ (.inl rfl)
   have hs := hP.stored 5 (.int .i64 (N : Int)) s.save rfl (by show saveX _ _ _ _ _ = X; rw [← HN0.out, ← HK0.out, ← HJ.out, HX.out]) rfl rfl (by rw [HN0.out]; rfl) (by omega) HF0.out.save
   refine ⟨rfl, ?_, hT.trans hset⟩
   rw [← HN0.out, ← HK0.out, ← HJ.out]
   exact hs
end Go.Proofs.YtfefpcdgflgaeaaGreatDoor
end

section
namespace Go.Proofs.YtfefpcdgflgaeaaGreatDoor
theorem str_empty' (s : ByteArray) : s.toList.isEmpty = decide (s.size = 0) := by
 rw [ByteArray.toList_eq]
 by_cases h : s.size = 0
 ·rw [decide_eq_true h]
  have : s.data.toList = [] := by
   apply List.length_eq_zero_iff.1
   simpa using h
  rw [this]; rfl
 ·rw [decide_eq_false h]
  rw [List.isEmpty_eq_false_iff]
  intro e
  apply h
  have := congrArg List.length e
  simpa using this
end Go.Proofs.YtfefpcdgflgaeaaGreatDoor
end

section
namespace Go.Proofs.YtfefpcdgflgaeaaGreatDoor
open Go.RowKit
theorem byteInfo : (Tryz.prog.info? 5).map (fun i => (i.zero, i.size, i.bytes)) = some (some (.int .u8 0), 1, 1) := by kernel_rfl
theorem cells_new1 (w : World) (v : Value) (t : TypeId) : ∀ j u, ([v] : List Value)[j]? = some u → (w.alloc (.cells #[v] t)).cell? ((⟨w.heap.size, 0, none⟩ : Addr).add j) = some u := by
 intro j u hu
 have hadd : (⟨w.heap.size, 0, none⟩ : Addr).add j = ⟨w.heap.size, j, none⟩ := by unfold Addr.add; split <;> simp_all
 rw [hadd, World.cell?_alloc_new]
 simpa using hu
/-- The lowest seven bits, and one more. -/
theorem low7 (n : Nat) : bits BinOp.or IntKind.u8 (IntKind.u8.wrap (n : Int)) 128 = ((UInt8.ofNat (n % 128 + 128)).toNat : Int) := by
 rw [IntKind.wrap_u8']
 have e1 : (n : Int) % 256 = ((n % 256 : Nat) : Int) := by omega
 rw [e1]
 have e := u8_or_nat (n % 256) 128 (by omega) (by omega)
 have e2 : ((128 : Nat) : Int) = 128 := rfl
 rw [e2] at e
 rw [e]
 have e3 : (UInt8.ofNat (n % 128 + 128)).toNat = n % 128 + 128 := by simp; omega
 rw [e3]
 have e4 : n % 256 ||| 128 = n % 128 + 128 := by
  have hs : n % 256 = n % 128 + 128 * (n / 128 % 2) := by omega
  rcases Nat.mod_two_eq_zero_or_one (n / 128) with h0 | h0
  ·rw [h0] at hs
   rw [hs, Nat.mul_zero, Nat.add_zero, Nat.or_comm, nat_join 7 128 (n % 128) (by decide) (by omega), Nat.add_comm]
  ·rw [h0] at hs
   rw [hs, Nat.mul_one, Nat.add_comm, ← nat_join 7 128 (n % 128) (by decide) (by omega), Nat.or_assoc, Nat.or_comm (n % 128) 128, ← Nat.or_assoc, Nat.or_self, nat_join 7 128 (n % 128) (by decide) (by omega)]
 rw [e4]
theorem shr7 (n : Nat) : (n : Int) / 128 = ((n / 128 : Nat) : Int) := by omega
theorem own_snoc {w : World} {base : Nat} {E : TypeId} {v : Value} {l : List UInt8} {b : UInt8} (h : w.ownsRow base E 1 v (l.length + 1) (bytesV l ++ [byteV b])) : w.ownsRow base E 1 v (l ++ [b]).length (bytesV (l ++ [b])) := by
 simpa [bytesV] using h
theorem own_snoc' {w : World} {base : Nat} {E : TypeId} {v : Value} {l : List UInt8} {b : UInt8} (h : w.ownsRow base E 1 v (l.length + 1) (bytesV l ++ [byteV b])) : w.ownsRow base E 1 v (l.length + 1) (bytesV (l ++ [b])) := by
 simpa [bytesV] using h
theorem vput_next {n m : Nat} {l : List UInt8} (h : vput n = l ++ vput m) (hm : ¬ m < 128) : vput n = (l ++ [UInt8.ofNat (m % 128 + 128)]) ++ vput (m / 128) := by rw [h, vput_big hm]; simp
set_option maxHeartbeats 1000000 in
set_option maxRecDepth 100000 in
theorem vput_any (n : Nat) (w : World) (hn : n < 18446744073709551616) :
  Calls Tryz.prog 41 #[.int .u64 (n : Int)] w fun e w' => e = .returned (.string ⟨(vput n).toArray⟩) ∧ Below w.heap.size w w' := by
 obtain ⟨i0, hi, hz0, hz1, hz2⟩ := info_parts byteInfo
 have hlen := vput_len10 hn
 go_enter Tryz.func41, Tryz.ntmps41
 go_wp2
 go_loopw [0, 3] (fun m v wr => ∃ (k : Nat) (l : List UInt8), vput n = l ++ vput k ∧ k < 18446744073709551616 ∧ m = .int .u64 (k : Int) ∧ wr.ownsRow w.heap.size 5 1 v l.length (bytesV l) ∧ Below w.heap.size w wr) (fun m _ _ => (intOf m).toNat)
 case atStart => exact ⟨n, [], rfl, hn, rfl, World.ownsRow_nil _ _ _ _, Below.refl _ _⟩
 case round =>
  obtain ⟨k, l, hv, hk, rfl, hT, hbel⟩ := hrel
  have hB := hbel.size
  have hl10 : l.length ≤ 10 := by rw [hv] at hlen; simp at hlen; omega
  have HV := Lib.hid hv
  clear hv
  by_cases hlt : k < 128
  ·have hd : decide (128 ≤ (k : Int)) = false := by simp; omega
   have hend := Lib.hid (show vput n = l ++ [UInt8.ofNat k] by rw [HV.out, vput_small hlt])
   go_wp2_with (first
    | (at_builtin; refine wpList_append_own _ rfl (.tmp 14) (.tmp 17) 69 rfl w.heap.size 5 i0 (.int .u8 0) 1 1 Tryz.underlying69 hi hz0 hz1 hz2 rfl (by decide) u3 l.length (bytesV l) rfl (hT.alloc _) ⟨wr.heap.size, 0, none⟩ 1 1 [Value.int .u8 (k : Int)] rfl rfl (cells_new1 _ _ _) (by intro u hu; simp at hu; subst hu; rfl) (by unfold maxLen; omega) (by omega) (by simp; omega) ?_; intro v1 w1 hT1 hg1 _; have hb1 := grown_own (hbel.alloc hB _) hg1 (by simp; omega) (hT.alloc _)))
   rw [byteV_of (b := UInt8.ofNat k) (by simp; omega)] at hT1
   obtain ⟨A1, c1, rfl⟩ := own_form hT1
   have hs1 := string_own (P := Tryz.prog) 69 5 9 Tryz.underlying69 Tryz.underlying5 Tryz.underlying9 (own_snoc' hT1) (by simp) (by omega)
   rw [hs1]
   go_wp2
   go_ret
   exact ⟨by rw [hend.out]; rfl, hb1⟩
  ·have hd : decide (128 ≤ (k : Int)) = true := by simp; omega
   have hnext := Lib.hid (vput_next HV.out hlt)
   have hlow := low7 k
   rw [IntKind.wrap_u8'] at hlow
   have hl9 : l.length ≤ 9 := by
    have h1 := hnext.out
    have h2 := vput_pos (k / 128)
    rw [h1] at hlen
    simp at hlen
    omega
   go_wp2_with (first
    | (at_builtin; refine wpList_append_own _ rfl (.tmp 6) (.tmp 10) 69 rfl w.heap.size 5 i0 (.int .u8 0) 1 1 Tryz.underlying69 hi hz0 hz1 hz2 rfl (by decide) u3 l.length (bytesV l) rfl (hT.alloc _) ⟨wr.heap.size, 0, none⟩ 1 1 [byteV (UInt8.ofNat (k % 128 + 128))] rfl rfl (cells_new1 _ _ _) (by intro u hu; simp at hu; subst hu; rfl) (by unfold maxLen; omega) (by omega) (by simp; omega) ?_; intro v1 w1 hT1 hg1 _; have hb1 := grown_own (hbel.alloc hB _) hg1 (by simp; omega) (hT.alloc _); have hT2 := own_snoc hT1))
   go_roundw
   case rel => exact ⟨k / 128, _, hnext.out, by omega, valI (shr7 k), hT2, hb1⟩
   case measure => simp [intOf]; omega
end Go.Proofs.YtfefpcdgflgaeaaGreatDoor
end
