/- VectorWrite of the reference says what vwrite says.

Tail of the reference says what wtail says. Printed by gen_rtail.py.

The Go function Table of the reference computes what the plain function tab says.

sort.Search over the reference's question, whether a vector's entry is not below a replica.

Body of the reference says what bwrite says.

Frame of the reference says what frameOf says. Printed by gen_rframe.py out of rframe.src.

Unframe of the reference says what unframe says. Printed by gen_unframe.py.

The batch in a frame of the versions ahead, in plain Lean: what is read goes on with what is left. No program in sight.

A taker's number: what is wrong stays.

A taker's vector. -/
import Derived.Test.YtkejlnjnoiidnaaGreatDoorZ7b
import Derived.Test.YtkejlnjnoiidnaaGreatDoorZ5
import Derived.Test.YtkejlnjnoiidnaaGreatDoorZ6
import Derived.Test.YtkejlnjnoiidnaaGreatDoorZ2
import Derived.Test.YtkejlnjnoiidnaaGreatDoorZ11
import Derived.Maps.StringElems
import Derived.Test.YtkejlnjnoiidnaaGreatDoorZ14
import Derived.Test.YtkejlnjnoiidnaaGreatDoorZ12
import Derived.Test.YtkejlnjnoiidnaaGreatDoorZ10
import Derived.Test.YtkejlnjnoiidnaaGreatDoorZ15
import Derived.Test.YtkejlnjnoiidnaaGreatDoorZ4
import Derived.Test.YtkejlnjnoiidnaaGreatDoorZ9
section
namespace Go.Proofs.YtkejlnjnoiidnaaGreatDoor
set_option linter.unusedSimpArgs false
open Go.RowKit As
end Go.Proofs.YtkejlnjnoiidnaaGreatDoor
end

section
namespace Go.Proofs.YtkejlnjnoiidnaaGreatDoor
set_option linter.unusedSimpArgs false
set_option linter.unusedVariables false
open Go.RowKit As Go.Maps
theorem below_map {w w' : World} {B n : Nat} {P : Program} {k : TypeId} {R : Value → Option (DataW Unit × List MemPlace)} {D : DataW Unit} (h : w.ownsMap P k R B n D) (hb : Below w.heap.size w w') : w'.ownsMap P k R B n D := by
 have hlt := h.lt
 obtain ⟨es, clock, he, F, hs, hD⟩ := h
 exact ⟨es, clock, (hb.block B hlt).trans he, F, hs, hD⟩
abbrev litS (s : ByteArray) : DataW Unit := .lit (.string s.data.toList)
abbrev k64 (n : Int) : Lit := .int .i64 n
/-- The map of the literal, as far as it is filled. -/
structure TMap (w0 : World) (V S3 S4 : ByteArray) (g : Nat) (l2 l3 l8 l16 : Bool) (w : World) : Prop where
 base : w0.heap.size ≤ g
 map : ∃ D, w.ownsMap Tryz.prog 3 (plainElem Tryz.prog 9) g (l2.toNat + l3.toNat + l8.toNat + l16.toNat) D ∧ IsMap D ∧
  (l2 = true → D.atKey (k64 1) (litS ⟨#[]⟩) = litS V) ∧ (l3 = true → D.atKey (k64 2) (litS ⟨#[]⟩) = litS ⟨#[]⟩) ∧ (l8 = true → D.atKey (k64 3) (litS ⟨#[]⟩) = litS S3) ∧ (l16 = true → D.atKey (k64 4) (litS ⟨#[]⟩) = litS S4)
/-- The state of the region: which of its operations have come up. -/
structure TI (w0 : World) (V S3 S4 : ByteArray) (g : Nat) (l0 l2 l3 l8 l16 l17 : Bool) (w : World) : Prop where
 bel : Below w0.heap.size w0 w
 map : l0 = true → TMap w0 V S3 S4 g l2 l3 l8 l16 w
 no : l0 = false → l2 = false ∧ l3 = false ∧ l8 = false ∧ l16 = false ∧ l17 = false
 all : l17 = true → l2 = true ∧ l3 = true ∧ l8 = true ∧ l16 = true
theorem TMap.grow {w0 w w' : World} {V S3 S4 : ByteArray} {g : Nat} {l2 l3 l8 l16 : Bool} (h : TMap w0 V S3 S4 g l2 l3 l8 l16 w) (hb : Below w.heap.size w w') : TMap w0 V S3 S4 g l2 l3 l8 l16 w' := by
 obtain ⟨h1, D, hD, r⟩ := h
 exact ⟨h1, D, below_map hD hb, r⟩
theorem TI.grow {w0 w w' : World} {V S3 S4 : ByteArray} {g : Nat} {l0 l2 l3 l8 l16 l17 : Bool} (h : TI w0 V S3 S4 g l0 l2 l3 l8 l16 l17 w) (hb : Below w.heap.size w w') : TI w0 V S3 S4 g l0 l2 l3 l8 l16 l17 w' :=
 ⟨h.bel.trans (hb.mono h.bel.size), fun h0 => (h.map h0).grow hb, h.no, h.all⟩
theorem intLaw : Keyed Tryz.prog 3 := int_keyed Tryz.underlying3
theorem key_ne {a b : Int} (h : a ≠ b) : k64 a ≠ k64 b := fun e => h (by injection e)
theorem key_ok (n : Int) : WideAt.IsKeyLit (k64 n) := by simp [WideAt.IsKeyLit]
/-- One entry more. -/
theorem TMap.put {w0 w : World} {V S3 S4 : ByteArray} {g : Nat} {l2 l3 l8 l16 : Bool} (h : TMap w0 V S3 S4 g l2 l3 l8 l16 w) (k : Int) (s : ByteArray) (hk : k = 1 ∧ s = V ∧ l2 = false ∨ k = 2 ∧ s = ⟨#[]⟩ ∧ l3 = false ∨ k = 3 ∧ s = S3 ∧ l8 = false ∨ k = 4 ∧ s = S4 ∧ l16 = false) (hs : s.size ≤ maxLen) :
  ∃ w', (Instr.mapUpdate 106 (.map (some g)) (.int .i64 k) (.string s)).run Tryz.prog w = .ok () w' ∧ w.grownBy w' (some g) ∧ TMap w0 V S3 S4 g (l2 || k == 1) (l3 || k == 2) (l8 || k == 3) (l16 || k == 4) w' := by
 obtain ⟨h1, D, hD, hM, a2, a3, a8, a16⟩ := h
 have hwf : (Lit.int .i64 k).wf = true := by rcases hk with h | h | h | h <;> (obtain ⟨rfl, _⟩ := h; decide)
 have hsz : l2.toNat + l3.toNat + l8.toNat + l16.toNat < maxLen := by
  have := Bool.toNat_le l2; have := Bool.toNat_le l3; have := Bool.toNat_le l8; have := Bool.toNat_le l16
  unfold maxLen; omega
 obtain ⟨w', hrun, hown, hgr⟩ := hD.update (t := 106) (e := 9) (key := .int .i64 k) (val := .string s) (kl := k64 k) intLaw Tryz.underlying106 hsz (keyOf_int_mk Tryz.underlying3 hwf) (plainElem_string Tryz.underlying9 hs)
 refine ⟨w', hrun, hgr, h1, D.put (k64 k) (litS s), ?_, hM.put _ _, ?_, ?_, ?_, ?_⟩
 ·have e : (l2 || k == 1).toNat + (l3 || k == 2).toNat + (l8 || k == 3).toNat + (l16 || k == 4).toNat = l2.toNat + l3.toNat + l8.toNat + l16.toNat + 1 := by
   rcases hk with ⟨rfl, _, rfl⟩ | ⟨rfl, _, rfl⟩ | ⟨rfl, _, rfl⟩ | ⟨rfl, _, rfl⟩ <;> simp <;> omega
  rw [e]
  exact hown
 ·intro hl
  by_cases hk1 : k = 1
  ·subst hk1
   rw [atKey_put_same hM (key_ok _)]
   rcases hk with ⟨_, rfl, _⟩ | ⟨h, _⟩ | ⟨h, _⟩ | ⟨h, _⟩ <;> first | rfl | omega
  ·rw [atKey_put_other (key_ne (Ne.symm hk1))]
   exact a2 (by simpa [hk1] using hl)
 ·intro hl
  by_cases hk1 : k = 2
  ·subst hk1
   rw [atKey_put_same hM (key_ok _)]
   rcases hk with ⟨h, _⟩ | ⟨_, rfl, _⟩ | ⟨h, _⟩ | ⟨h, _⟩ <;> first | rfl | omega
  ·rw [atKey_put_other (key_ne (Ne.symm hk1))]
   exact a3 (by simpa [hk1] using hl)
 ·intro hl
  by_cases hk1 : k = 3
  ·subst hk1
   rw [atKey_put_same hM (key_ok _)]
   rcases hk with ⟨h, _⟩ | ⟨h, _⟩ | ⟨_, rfl, _⟩ | ⟨h, _⟩ <;> first | rfl | omega
  ·rw [atKey_put_other (key_ne (Ne.symm hk1))]
   exact a8 (by simpa [hk1] using hl)
 ·intro hl
  by_cases hk1 : k = 4
  ·subst hk1
   rw [atKey_put_same hM (key_ok _)]
   rcases hk with ⟨h, _⟩ | ⟨h, _⟩ | ⟨h, _⟩ | ⟨_, rfl, _⟩ <;> first | rfl | omega
  ·rw [atKey_put_other (key_ne (Ne.symm hk1))]
   exact a16 (by simpa [hk1] using hl)
end Go.Proofs.YtkejlnjnoiidnaaGreatDoor
end

section
namespace Go.Proofs.YtkejlnjnoiidnaaGreatDoor.Keys
open Go.RowKit Go.Maps
end Go.Proofs.YtkejlnjnoiidnaaGreatDoor.Keys
end

section
namespace Go.Proofs.YtkejlnjnoiidnaaGreatDoor
open Go.RowKit As
end Go.Proofs.YtkejlnjnoiidnaaGreatDoor
end

section
namespace Go.Proofs.YtkejlnjnoiidnaaGreatDoor
set_option linter.unusedSimpArgs false
open Go.RowKit As
end Go.Proofs.YtkejlnjnoiidnaaGreatDoor
end

section
namespace Go.Proofs.YtkejlnjnoiidnaaGreatDoor
set_option linter.unusedSimpArgs false
set_option linter.unusedVariables false
open Go.RowKit As Tokens
theorem Two.set2 {w : World} {F : Nat} {a b : Int} (h : Two w F a b) (x y : Int) : Two ((w.setCell ⟨F, 0, none⟩ (.int .i64 x)).setCell ⟨F, 1, none⟩ (.int .i64 y)) F x y :=
 ⟨by rw [World.cell?_setCell_other _ _ _ _ (by simp)]; exact World.cell?_setCell_same _ _ _ h.c0, World.cell?_setCell_same _ _ _ (by rw [World.cell?_setCell_other _ _ _ _ (by simp)]; exact h.c1), by simpa using h.f0, by simpa using h.f1⟩
end Go.Proofs.YtkejlnjnoiidnaaGreatDoor
end

section
namespace Go.Proofs.YtkejlnjnoiidnaaGreatDoor
set_option linter.unusedSimpArgs false
set_option linter.unusedVariables false
open Go.RowKit As
def put5 (w : World) (O F : Nat) (a b c : Value) (x y : Int) : World := ((((w.setCell ⟨O, 0, none⟩ a).setCell ⟨O, 1, none⟩ b).setCell ⟨O, 2, none⟩ c).setCell ⟨F, 0, none⟩ (.int .i64 x)).setCell ⟨F, 1, none⟩ (.int .i64 y)
theorem below_put5 {B O F : Nat} {a w : World} (h : Below B a w) (hO : B ≤ O) (hF : B ≤ F) (x y z : Value) (e q : Int) : Below B a (put5 w O F x y z e q) := by
 unfold put5
 exact ((((h.setCell (p := ⟨O, 0, none⟩) hO _).setCell (p := ⟨O, 1, none⟩) hO _).setCell (p := ⟨O, 2, none⟩) hO _).setCell (p := ⟨F, 0, none⟩) hF _).setCell (p := ⟨F, 1, none⟩) hF _
/-- Where a call of the reference ends that reads a batch. -/
def RFEnd (X : BR) (w : World) (e : Ending) (w' : World) : Prop :=
 ∃ x : BatArg, e = .returned (.tuple #[x.v, faultV X.2]) ∧ Bat w' x ∧ (x.f, x.h, x.l) = X.1 ∧ (x.n ≤ x.c ∧ x.n' ≤ x.c' ∧ Above w.heap.size x) ∧ Below w.heap.size w w'
theorem above_mono {B B' : Nat} {x : BatArg} (h : Above B x) (hB : B' ≤ B) : Above B' x := ⟨fun a ha => Nat.le_trans hB (h.1 a ha), fun a ha => Nat.le_trans hB (h.2.1 a ha), fun a ha => Nat.le_trans hB (h.2.2 a ha)⟩
theorem sl_low {w : World} {B N C i size n : Nat} {A : Option Addr} {xs : List Value} (h : Sl w N size A n xs) (ha : ∀ a, A = some a → B ≤ a.block) (hC : C < B) (v : Value) : Sl (w.setCell ⟨C, i, none⟩ v) N size A n xs :=
 ⟨h.1, fun hn => by
  obtain ⟨b, o, e, hb, hc⟩ := h.2 hn
  have hB : B ≤ b := ha _ e
  exact ⟨b, o, e, hb, fun j u hu => res_nb (hc j u hu) (by omega)⟩⟩
theorem Bat.low {w : World} {B C i : Nat} {x : BatArg} (h : Bat w x) (ha : Above B x) (hC : C < B) (v : Value) : Bat (w.setCell ⟨C, i, none⟩ v) x := by
 refine ⟨?_, ?_, ?_, h.nf, h.nh, h.nl⟩ <;> rw [show (w.setCell ⟨C, i, none⟩ v).heap.size = w.heap.size by simp]
 ·exact sl_low h.f ha.1 hC v
 ·exact sl_low h.h ha.2.1 hC v
 ·exact sl_low h.l ha.2.2 hC v
theorem rf_no {X : BR} {w w' : World} {e p : Int} (hX : X = (noB, e, p)) (hb : Below w.heap.size w w') : RFEnd X w (.returned (.tuple #[.agg #[nilS, nilS, nilS], .agg #[.int .i64 e, .int .i64 p]])) w' := by
 subst hX
 exact ⟨noBat, rfl, noBat_is _, rfl, noCap _, hb⟩
theorem BxAt.nb {w : World} {K C i : Nat} {x : BatArg} (h : BxAt w K x) (hn : C ≠ K) (v : Value) : BxAt (w.setCell ⟨C, i, none⟩ v) K x := ⟨res_nb h.c0 hn, res_nb h.c1 hn, res_nb h.c2 hn⟩
theorem Two.nb {w : World} {G C i : Nat} {a b : Int} (h : Two w G a b) (hn : C ≠ G) (v : Value) : Two (w.setCell ⟨C, i, none⟩ v) G a b := ⟨res_nb h.c0 hn, res_nb h.c1 hn, by simpa using h.f0, by simpa using h.f1⟩
end Go.Proofs.YtkejlnjnoiidnaaGreatDoor
end

section
namespace Go.Proofs.YtkejlnjnoiidnaaGreatDoor
set_option linter.unusedVariables false
abbrev bad0 (e : Int) : BR := (noB, e, -1)
def onum (s : ByteArray) (p : Nat) (most : Int) (K : Nat → Nat → BR) : BR := if (vat s p most).2.2 ≠ 0 then bad0 (vat s p most).2.2 else K (vat s p most).1 (p + (vat s p most).2.1)
def oents (s : ByteArray) : Nat → Nat → List Ent → (List Ent → Nat → BR) → BR
 | 0, p, acc, K => K acc p
 | c + 1, p, acc, K => onum s p 200 fun r p => onum s p 1099511627776 fun t p => oents s c p (acc ++ [((r : Int), (t : Int))]) K
def ovec (s : ByteArray) (p : Nat) (K : List Ent → Nat → BR) : BR := onum s p 16 fun n p => oents s n p [] K
def ofill (s : ByteArray) (p : Nat) (x : Wr) (K : Wr → Nat → BR) : BR :=
 if (wfill x (s.extract p s.size)).2.2 ≠ 0 then bad0 (wfill x (s.extract p s.size)).2.2 else K (wfill x (s.extract p s.size)).1 (p + (wfill x (s.extract p s.size)).2.1)
def okey (s : ByteArray) (p : Nat) (t r kd : Nat) (K : Wr → Nat → BR) : BR :=
 if (unspan (s.extract p s.size)).2.2 ≠ 0 then bad0 (unspan (s.extract p s.size)).2.2
 else ofill s (p + (unspan (s.extract p s.size)).2.1) ((t : Int), (r : Int), (kd : Int), (unspan (s.extract p s.size)).1, ⟨#[]⟩, 0) K
def owrite (s : ByteArray) (p : Nat) (K : Wr → Nat → BR) : BR :=
 if s.size ≤ p then bad0 7
 else if byteOf s p < 1 ∨ 4 < byteOf s p then bad0 1
 else onum s (p + 1) 1099511627776 fun t q => onum s q 200 fun r q => okey s q t r (byteOf s p) K
def oend (s : ByteArray) (f h : List Ent) (ws : List Wr) (p : Nat) : BR := if p < s.size then bad0 3 else if (bright f h ws).1 ≠ 0 then bad0 (bright f h ws).1 else ((f, h, ws), 0, -1)
def owrites (s : ByteArray) (f h : List Ent) : Nat → Nat → List Wr → BR
 | 0, p, ws => oend s f h ws p
 | c + 1, p, ws => owrite s p fun w q => owrites s f h c q (ws ++ [w])
def oall (s : ByteArray) : BR := ovec s 0 fun f p => ovec s p fun h p => onum s p 60 fun n p => owrites s f h n p []
def oread (s : ByteArray) : BR :=
 if (fver s).2 ≠ 0 then bad0 (fver s).2
 else if (fver s).1 = 3 then bad0 6
 else if (fver s).1 = 2 then bread (s.extract 3 (s.size - 4)) else oall (s.extract 3 (s.size - 4))
section
variable {s : ByteArray} {p n k c : Nat} {most v e : Int} {X : BR} {f h : List Ent} {ws : List Wr} {x y : Wr} {b : ByteArray}
theorem onum_bad {K : Nat → Nat → BR} (ha : vat s p most = (n, k, e)) (he : e ≠ 0) : onum s p most K = bad0 e := by unfold onum; rw [ha, if_pos he]
theorem onum_go {K : Nat → Nat → BR} (ha : vat s p most = (n, k, 0)) : onum s p most K = K n (p + k) := by unfold onum; rw [ha, if_neg (by simp)]
theorem ofill_bad {K : Wr → Nat → BR} (ha : wfill x (s.extract p s.size) = (y, n, e)) (he : e ≠ 0) : ofill s p x K = bad0 e := by unfold ofill; rw [ha, if_pos he]
theorem ofill_go {K : Wr → Nat → BR} (ha : wfill x (s.extract p s.size) = (y, n, 0)) : ofill s p x K = K y (p + n) := by unfold ofill; rw [ha, if_neg (by simp)]
theorem okey_bad {K : Wr → Nat → BR} {t r kd : Nat} (ha : unspan (s.extract p s.size) = (b, n, e)) (he : e ≠ 0) : okey s p t r kd K = bad0 e := by unfold okey; rw [ha, if_pos he]
theorem okey_go {K : Wr → Nat → BR} {t r kd : Nat} (ha : unspan (s.extract p s.size) = (b, n, 0)) : okey s p t r kd K = ofill s (p + n) ((t : Int), (r : Int), (kd : Int), b, ⟨#[]⟩, 0) K := by unfold okey; rw [ha, if_neg (by simp)]
theorem owrite_end {K : Wr → Nat → BR} (h : s.size ≤ p) : owrite s p K = bad0 7 := by unfold owrite; rw [if_pos h]
theorem owrite_kind {K : Wr → Nat → BR} (h : ¬ s.size ≤ p) (h2 : byteOf s p < 1 ∨ 4 < byteOf s p) : owrite s p K = bad0 1 := by unfold owrite; rw [if_neg h, if_pos h2]
theorem owrite_go {K : Wr → Nat → BR} (h : ¬ s.size ≤ p) (h2 : ¬ (byteOf s p < 1 ∨ 4 < byteOf s p)) : owrite s p K = onum s (p + 1) 1099511627776 fun t q => onum s q 200 fun r q => okey s q t r (byteOf s p) K := by unfold owrite; rw [if_neg h, if_neg h2]
theorem oend_more (h1 : p < s.size) : oend s f h ws p = bad0 3 := by unfold oend; rw [if_pos h1]
theorem oend_bad (h1 : ¬ p < s.size) (h2 : (bright f h ws).1 ≠ 0) : oend s f h ws p = bad0 (bright f h ws).1 := by unfold oend; rw [if_neg h1, if_pos h2]
theorem oend_ok (h1 : ¬ p < s.size) (h2 : (bright f h ws).1 = 0) : oend s f h ws p = ((f, h, ws), 0, -1) := by unfold oend; rw [if_neg h1, if_neg (by omega)]
theorem oread_ver (hv : fver s = (v, e)) (he : e ≠ 0) : oread s = bad0 e := by unfold oread; rw [hv, if_pos he]
theorem oread_three (hv : fver s = (3, 0)) : oread s = bad0 6 := by unfold oread; rw [hv, if_neg (by simp), if_pos rfl]
theorem oread_two (hv : fver s = (2, 0)) : oread s = bread (s.extract 3 (s.size - 4)) := by unfold oread; rw [hv, if_neg (by simp), if_neg (by simp), if_pos rfl]
theorem oread_one (hv : fver s = (1, 0)) : oread s = oall (s.extract 3 (s.size - 4)) := by unfold oread; rw [hv, if_neg (by simp), if_neg (by simp), if_neg (by simp)]
end
end Go.Proofs.YtkejlnjnoiidnaaGreatDoor
end

section
namespace Go.Proofs.YtkejlnjnoiidnaaGreatDoor
set_option linter.unusedSimpArgs false
set_option linter.unusedVariables false
open Go.RowKit As
/-- A taker's two cells: what is left, and what is wrong. -/
structure Tk (w : World) (B : Nat) (r : ByteArray) (e : Int) : Prop where
 c0 : w.cell? ⟨B, 0, none⟩ = some (.string r)
 c1 : w.cell? ⟨B, 1, none⟩ = some (errV e)
 f0 : w.frozen? ⟨B, 0, none⟩ = false
 f1 : w.frozen? ⟨B, 1, none⟩ = false
section
variable {w w' : World} {B : Nat} {r : ByteArray} {e : Int}
theorem Tk.lt (h : Tk w B r e) : B < w.heap.size := cell_lt h.c0
theorem Tk.keep {N : Nat} (h : Tk w B r e) (hb : Below N w w') (hN : B < N) : Tk w' B r e :=
 ⟨(hb.cell (p := ⟨B, 0, none⟩) hN).trans h.c0, (hb.cell (p := ⟨B, 1, none⟩) hN).trans h.c1, (hb.frozen (p := ⟨B, 0, none⟩) hN).trans h.f0, (hb.frozen (p := ⟨B, 1, none⟩) hN).trans h.f1⟩
theorem Tk.below (h : Tk w B r e) (hb : Below w.heap.size w w') : Tk w' B r e := h.keep hb h.lt
theorem Tk.put (h : Tk w B r e) (r' : ByteArray) (e' : Int) : Tk ((w.setCell ⟨B, 0, none⟩ (.string r')).setCell ⟨B, 1, none⟩ (errV e')) B r' e' :=
 ⟨res_ne (World.cell?_setCell_same _ _ _ h.c0) (by omega), World.cell?_setCell_same _ _ _ (res_ne h.c1 (by omega)), by simpa using h.f0, by simpa using h.f1⟩
theorem Tk.text (h : Tk w B r e) (r' : ByteArray) : Tk (w.setCell ⟨B, 0, none⟩ (.string r')) B r' e :=
 ⟨World.cell?_setCell_same _ _ _ h.c0, res_ne h.c1 (by omega), by simpa using h.f0, by simpa using h.f1⟩
theorem Tk.err (h : Tk w B r e) (e' : Int) : Tk (w.setCell ⟨B, 1, none⟩ (errV e')) B r e' :=
 ⟨res_ne h.c0 (by omega), World.cell?_setCell_same _ _ _ h.c1, by simpa using h.f0, by simpa using h.f1⟩
theorem Tk.nb (h : Tk w B r e) {C i : Nat} (hn : C ≠ B) (v : Value) : Tk (w.setCell ⟨C, i, none⟩ v) B r e :=
 ⟨res_nb h.c0 hn, res_nb h.c1 hn, by simpa using h.f0, by simpa using h.f1⟩
end
/-- What is left from p on. -/
abbrev rest (s : ByteArray) (p : Nat) : ByteArray := s.extract p s.size
/-- How a taker stands: at p, the spec goes on with K; or something is wrong, and the spec says so. -/
def TkAt (s : ByteArray) (w : World) (B : Nat) (X : BR) (K : Nat → BR) : Prop :=
 (∃ p, p ≤ s.size ∧ Tk w B (rest s p) 0 ∧ X = K p) ∨ (∃ r e, r.size ≤ s.size ∧ e ≠ 0 ∧ Tk w B r e ∧ X = bad0 e)
/-- Where a number ends. -/
def NumEnd (s : ByteArray) (B p : Nat) (most : Int) (w : World) (e : Ending) (w' : World) : Prop :=
 ∃ (n k : Nat) (x : Int), vat s p most = (n, k, x) ∧ (n : Int) ≤ most ∧ p + k ≤ s.size ∧ e = .returned (.int .i64 (n : Int)) ∧ w' = ((w.setCell ⟨B, 0, none⟩ (.string (rest s (p + k)))).setCell ⟨B, 1, none⟩ (errV x))
set_option maxHeartbeats 2000000 in
set_option maxRecDepth 100000 in
/-- Something is wrong already: 0, and nothing changes. -/
theorem tnum_bad (most : Int) (B : Nat) (r : ByteArray) (e : Int) (w : World) (he : e ≠ 0) (h : Tk w B r e) :
  Calls Tryz.prog 59 #[.pointer (some ⟨B, 0, none⟩), .int .i64 most] w fun x w' => x = .returned (.int .i64 0) ∧ w = w' := by
 obtain ⟨c0, c1, f0, f1⟩ := h
 rw [errV_of he] at c1
 clear he
 go_enter Tryz.func59, Tryz.ntmps59
 go_wp2
 go_ret
 exact ⟨rfl, rfl⟩
theorem tk_cut {s : ByteArray} {p k : Nat} (h : p + k ≤ s.size) : (rest s p).extract k (rest s p).size = rest s (p + k) ∧ k ≤ (rest s p).size := by
 constructor
 ·rw [ByteArray.extract_extract, ByteArray.size_extract]; congr 1 <;> omega
 ·rw [ByteArray.size_extract]; omega
set_option maxHeartbeats 2000000 in
set_option maxRecDepth 100000 in
theorem tnum_any (s : ByteArray) (p B : Nat) (most : Int) (w : World) (hs : s.size ≤ 1000000) (hp : p ≤ s.size) (hm : most ≤ 9223372036854775807) (hm0 : 0 ≤ most) (h : Tk w B (rest s p) 0) :
  Calls Tryz.prog 59 #[.pointer (some ⟨B, 0, none⟩), .int .i64 most] w fun x w' => NumEnd s B p most w x w' := by
 obtain ⟨c0, c1, f0, f1⟩ := h
 rw [errV_zero] at c1
 obtain ⟨n, k, x, ha, hx⟩ := vat_of s p most
 have hl : (rest s p).size ≤ maxLen := by rw [ByteArray.size_extract]; unfold maxLen; omega
 have HV := Lib.hid (show vint (rest s p).data.toList most = (n, k, x) from ha)
 have HA := Lib.hid ha
 have hpk : p + k ≤ s.size := by rcases hx with h | h <;> omega
 have hn : (n : Int) ≤ most := by rcases hx with h | h <;> omega
 obtain ⟨hcut, hk⟩ := tk_cut hpk
 obtain ⟨R, hR⟩ : ∃ R, R = rest s p := ⟨_, rfl⟩
 have i1 : (0 : Int) ≤ (k : Int) := by omega
 have i2 : (k : Int) ≤ (R.size : Int) := by rw [hR]; omega
 rw [← hR] at hcut hk c0 hl HV
 have HN := Lib.hid hn
 have HPK := Lib.hid hpk
 have HR := Lib.hid hR
 have HM := Lib.hid hm
 clear ha hx hpk hn hR hs hp hm hm0
 go_enter Tryz.func59, Tryz.ntmps59
 go_wp2_with fail
 refine (vint_any R most w hl HM.out).mono ?_
 rintro r w' ⟨rfl, rfl⟩
 rw [HV.out]
 simp only
 by_cases he : x = 0
 ·subst he
  rw [errV_zero]
  go_wp2
  go_ret
  exact ⟨n, k, 0, HA.out, HN.out, HPK.out, rfl, rfl⟩
 ·have HE := Lib.hid (errV_of he)
  rw [errV_of he]
  clear he
  go_wp2
  go_ret
  exact ⟨n, k, x, HA.out, HN.out, HPK.out, rfl, by rw [HE.out]⟩
theorem grown_trans {a b c : World} {r : Option Nat} (h : a.grownBy b r) (k : b.grownBy c r) : a.grownBy c r :=
 ⟨k.os.trans h.os, k.tape.trans h.tape, k.output.trans h.output, Nat.le_trans h.size k.size, fun i hi hn => (k.block i (Nat.lt_of_lt_of_le hi h.size) hn).trans (h.block i hi hn)⟩
theorem grown_of {a b : World} (h : Below a.heap.size a b) (r : Option Nat) : a.grownBy b r := ⟨h.os, h.tape, h.output, h.size, fun i hi _ => h.block i hi⟩
theorem grown_set (w : World) (B i : Nat) (v : Value) : w.grownBy (w.setCell ⟨B, i, none⟩ v) (some B) :=
 ⟨rfl, rfl, rfl, by simp, fun k _ hn => Below.heap_setCell _ _ _ _ (fun e => hn (by simp [e]))⟩
theorem grown_cell {a b : World} {B : Nat} (h : a.grownBy b (some B)) {p : Addr} (hp : p.block < a.heap.size) (hn : p.block ≠ B) : b.cell? p = a.cell? p := World.cell?_of_block (w := a) (h.block p.block hp (fun e => hn (Option.some.inj e)))
theorem grown_frozen {a b : World} {B : Nat} (h : a.grownBy b (some B)) {p : Addr} (hp : p.block < a.heap.size) (hn : p.block ≠ B) : b.frozen? p = a.frozen? p := World.frozen?_of_block (w := a) (h.block p.block hp (fun e => hn (Option.some.inj e)))
section
variable {s : ByteArray} {w w' : World} {B : Nat} {X : BR} {K : Nat → BR}
theorem TkAt.lt (h : TkAt s w B X K) : B < w.heap.size := by rcases h with ⟨_, _, h, _⟩ | ⟨_, _, _, _, h, _⟩ <;> exact h.lt
theorem TkAt.below (h : TkAt s w B X K) (hb : Below w.heap.size w w') : TkAt s w' B X K := by
 rcases h with ⟨p, hp, h, hX⟩ | ⟨r, e, hr, he, h, hX⟩
 ·exact .inl ⟨p, hp, h.below hb, hX⟩
 ·exact .inr ⟨r, e, hr, he, h.below hb, hX⟩
theorem TkAt.nb (h : TkAt s w B X K) {C i : Nat} (hn : C ≠ B) (v : Value) : TkAt s (w.setCell ⟨C, i, none⟩ v) B X K := by
 rcases h with ⟨p, hp, h, hX⟩ | ⟨r, e, hr, he, h, hX⟩
 ·exact .inl ⟨p, hp, h.nb hn v, hX⟩
 ·exact .inr ⟨r, e, hr, he, h.nb hn v, hX⟩
theorem TkAt.is {K' : Nat → BR} (h : TkAt s w B X K) (hK : ∀ p, K p = K' p) : TkAt s w B X K' := by
 rcases h with ⟨p, hp, h, hX⟩ | h
 ·exact .inl ⟨p, hp, h, hX.trans (hK p)⟩
 ·exact .inr h
end
set_option maxHeartbeats 1000000 in
theorem tnum (s : ByteArray) (B : Nat) (most : Int) (w : World) (X : BR) (K : Nat → Nat → BR) (hs : s.size ≤ 1000000) (hm : most ≤ 9223372036854775807) (hm0 : 0 ≤ most) (h : TkAt s w B X (fun p => onum s p most K)) :
  Calls Tryz.prog 59 #[.pointer (some ⟨B, 0, none⟩), .int .i64 most] w fun e w' => ∃ n : Nat, e = .returned (.int .i64 (n : Int)) ∧ (n : Int) ≤ most ∧ w.grownBy w' (some B) ∧ TkAt s w' B X (K n) := by
 rcases h with ⟨p, hp, h, hX⟩ | ⟨r, e, hr, he, h, hX⟩
 ·refine (tnum_any s p B most w hs hp hm hm0 h).mono ?_
  rintro e w' ⟨n, k, x, ha, hn, hpk, rfl, rfl⟩
  refine ⟨n, rfl, hn, grown_trans (grown_set w B 0 _) (grown_set _ B 1 _), ?_⟩
  by_cases hx : x = 0
  ·subst hx
   exact .inl ⟨p + k, hpk, h.put _ 0, hX.trans (onum_go ha)⟩
  ·exact .inr ⟨_, x, by rw [ByteArray.size_extract]; omega, hx, h.put _ x, hX.trans (onum_bad ha hx)⟩
 ·refine (tnum_bad most B r e w he h).mono ?_
  rintro x w' ⟨rfl, rfl⟩
  exact ⟨0, rfl, hm0, grown_of (Below.refl _ _) _, .inr ⟨r, e, hr, he, h, hX⟩⟩
end Go.Proofs.YtkejlnjnoiidnaaGreatDoor
end

section
namespace Go.Proofs.YtkejlnjnoiidnaaGreatDoor
set_option linter.unusedSimpArgs false
set_option linter.unusedVariables false
open Go.RowKit As
theorem own_kept {w w' : World} {base B : Nat} {e : TypeId} {size n : Nat} {v : Value} {xs : List Value} (h : w.ownsRow base e size v n xs) (hg : w.grownBy w' (some B)) (hB : B < base) : w'.ownsRow base e size v n xs := by
 refine h.kept hg ?_
 cases hv : v.ownBlock with
 | none => exact .inl rfl
 | some k => have := (h.lt k hv).1; exact .inr (fun e => by injection e; omega)
/-- A store into a block that is newer than the row. -/
theorem own_newer {w w' : World} {base g i : Nat} {e : TypeId} {size n : Nat} {v x : Value} {xs : List Value} (h : w.ownsRow base e size v n xs) (hO : ∀ k, v.ownBlock = some k → k ≠ g) : (w.setCell ⟨g, i, none⟩ x).ownsRow base e size v n xs := by
 refine h.kept (grown_set w g i x) ?_
 cases hv : v.ownBlock with
 | none => exact .inl rfl
 | some k => exact .inr (fun e => hO k hv (Option.some.inj e))
theorem grown_row {a b c : World} {B : Nat} {row : Option Nat} (h : a.grownBy b (some B)) (hg : b.grownBy c row) (hr : ∀ k, row = some k → a.heap.size ≤ k) : a.grownBy c (some B) :=
 ⟨hg.os.trans h.os, hg.tape.trans h.tape, hg.output.trans h.output, Nat.le_trans h.size hg.size, fun i hi hn => (hg.block i (Nat.lt_of_lt_of_le hi h.size) (fun e => by have := hr i e.symm; omega)).trans (h.block i hi hn)⟩
theorem grown_sets {a b : World} {B g i : Nat} (h : a.grownBy b (some B)) (hg : a.heap.size ≤ g) (v : Value) : a.grownBy (b.setCell ⟨g, i, none⟩ v) (some B) := grown_row h (grown_set b g i v) (fun k e => by injection e with e; omega)
theorem Tk.grown {w w' : World} {B : Nat} {r : ByteArray} {e : Int} {row : Option Nat} (h : Tk w B r e) (hg : w.grownBy w' row) (hn : row ≠ some B) : Tk w' B r e := by
 have hb := hg.block B h.lt (fun e => hn e.symm)
 exact ⟨(World.cell?_of_block (a := ⟨B, 0, none⟩) hb).trans h.c0, (World.cell?_of_block (a := ⟨B, 1, none⟩) hb).trans h.c1, (World.frozen?_of_block (a := ⟨B, 0, none⟩) hb).trans h.f0, (World.frozen?_of_block (a := ⟨B, 1, none⟩) hb).trans h.f1⟩
theorem TkAt.grown {s : ByteArray} {w w' : World} {B : Nat} {X : BR} {K : Nat → BR} {row : Option Nat} (h : TkAt s w B X K) (hg : w.grownBy w' row) (hn : row ≠ some B) : TkAt s w' B X K := by
 rcases h with ⟨p, hp, h, hX⟩ | ⟨r, e, hr, he, h, hX⟩
 ·exact .inl ⟨p, hp, h.grown hg hn, hX⟩
 ·exact .inr ⟨r, e, hr, he, h.grown hg hn, hX⟩
theorem Two.grown {w w' : World} {g B : Nat} {a b : Int} (h : Two w g a b) (hg : w.grownBy w' (some B)) (hn : g ≠ B) : Two w' g a b :=
 ⟨(grown_cell hg (p := ⟨g, 0, none⟩) (cell_lt h.c0) hn).trans h.c0, (grown_cell hg (p := ⟨g, 1, none⟩) (cell_lt h.c1) hn).trans h.c1, (grown_frozen hg (p := ⟨g, 0, none⟩) (cell_lt h.c0) hn).trans h.f0, (grown_frozen hg (p := ⟨g, 1, none⟩) (cell_lt h.c1) hn).trans h.f1⟩
theorem oents_next {s : ByteArray} {n k p : Nat} {f : List Ent} {K : List Ent → Nat → BR} (h : k < n) : oents s (n - k) p f K = onum s p 200 fun r p => onum s p 1099511627776 fun t p => oents s (n - (k + 1)) p (f ++ [((r : Int), (t : Int))]) K := by
 rw [show n - k = (n - (k + 1)) + 1 by omega]
 rfl
theorem tv_fits {f : List Ent} {r t : Nat} (h : ∀ y ∈ f, entFits y) (hr : (r : Int) ≤ 200) (ht : (t : Int) ≤ 1099511627776) : ∀ y ∈ f ++ [((r : Int), (t : Int))], entFits y := by
 intro y hy
 rcases List.mem_append.1 hy with hy | hy
 ·exact h y hy
 ·simp only [List.mem_singleton] at hy
  subst hy
  unfold entFits
  simp only
  omega
theorem tv_cap {k n : Nat} (h : k < n) (hn : (n : Int) ≤ 16) : k + 1 ≤ 140737488355328 ∧ (k + 1) * 16 ≤ 140737488355328 := by omega
set_option maxHeartbeats 4000000 in
set_option maxRecDepth 100000 in
theorem tvec (s : ByteArray) (B : Nat) (w : World) (X : BR) (K : List Ent → Nat → BR) (hs : s.size ≤ 1000000) (h : TkAt s w B X (fun p => ovec s p K)) :
  Calls Tryz.prog 58 #[.pointer (some ⟨B, 0, none⟩)] w fun e w' => ∃ v f, e = .returned v ∧ w'.ownsRow w.heap.size 79 2 v f.length (entV f) ∧ f.length ≤ 16 ∧ (∀ y ∈ f, entFits y) ∧ w.grownBy w' (some B) ∧ TkAt s w' B X (K f) := by
 obtain ⟨i0, hi, hz0, hz1, hz2⟩ := info_parts entInfo
 have LB := Lib.hid h.lt
 go_enter Tryz.func58, Tryz.ntmps58
 go_wp2_with fail
 refine (tnum s B 16 w X (fun n p => oents s n p [] K) hs (by decide) (by decide) h).mono ?_
 rintro e w1 ⟨n, rfl, hn, hg1, hT1⟩
 have HN := Lib.hid hn
 clear hn
 go_wp2
 go_loopw [3, 4, 7] (fun ov _ kv wr => ∃ (k : Nat) (f : List Ent), k ≤ n ∧ f.length = k ∧ kv = .int .i64 k ∧ wr.ownsRow w.heap.size 79 2 ov f.length (entV f) ∧ Hid (∀ y ∈ f, entFits y) ∧ w.grownBy wr (some B) ∧ TkAt s wr B X (fun p => oents s (n - k) p f K)) (fun _ _ kv _ => n - (intOf kv).toNat)
 case atStart => exact ⟨0, [], Nat.zero_le _, rfl, rfl, World.ownsRow_nil _ _ _ _, Lib.hid (fun _ h => by cases h), hg1, hT1⟩
 case round =>
  obtain ⟨k, f, hk, hf, rfl, hO, hfit, hg, hT⟩ := hrel
  by_cases hlt : k < n
  ·have hT' := hT.is (fun p => oents_next (s := s) (p := p) (f := f) (K := K) hlt)
   have HLT := Lib.hid hlt
   obtain ⟨jd1, jd2⟩ := lt_dec hlt
   obtain ⟨jw1, jw2⟩ := j_facts (j := k) (by have := HN.out; omega)
   have HK := Lib.hid hk
   have HFL := Lib.hid hf
   clear hT hlt hk hf
   go_wp2_with fail
   refine (tnum s B 200 wr X _ hs (by decide) (by decide) hT').mono ?_
   rintro e w2 ⟨r, rfl, hr, hg2, hT2⟩
   have HR := Lib.hid hr
   have hO2 := own_kept hO hg2 LB.out
   have hOlt := Lib.hid (fun k hk => Nat.lt_of_lt_of_le (hO.lt k hk).2 hg2.size)
   have hg12 := grown_trans hg hg2
   have bA := below1 w2 (.cells #[.int .i64 (r : Int), .int .i64 0] 79)
   have tA := Two.new w2 (r : Int) 0 79
   have hT2A := hT2.below bA
   have hO2A := own_below hO2 bA
   have hg2A := grown_trans hg12 (grown_of bA _)
   have LG := Lib.hid (show w.heap.size ≤ w2.heap.size from hg12.size)
   have NB := Lib.hid (show w2.heap.size ≠ B from fun e => by have := LB.out; have := LG.out; omega)
   clear hT' hO hg2 hT2 hO2 hr hg12 bA
   go_wp2_with fail
   refine (tnum s B 1099511627776 _ X _ hs (by decide) (by decide) hT2A).mono ?_
   rintro e w3 ⟨t, rfl, ht, hg3, hT3⟩
   have HT := Lib.hid ht
   have hO3 := own_newer (w' := w3) (g := w2.heap.size) (i := 1) (x := .int .i64 (t : Int)) (own_kept hO2A hg3 LB.out) (fun k hk => Nat.ne_of_lt (hOlt.out k hk))
   have tB := tA.grown hg3 NB.out
   have tC := tB.set1 (t : Int)
   have hT4 := hT3.nb (C := w2.heap.size) (i := 1) NB.out (.int .i64 (t : Int))
   have hg4 := grown_sets (i := 1) (grown_trans hg2A hg3) LG.out (.int .i64 (t : Int))
   obtain ⟨b0, b1, bf0, bf1⟩ := tB
   obtain ⟨c0, c1, _, _⟩ := tC
   generalize w2.heap.size = g at *
   clear ht hT2A hO2A hg3 hT3 tA hg2A
   have HC := Lib.hid (tv_cap (Nat.lt_of_le_of_lt (Nat.le_refl k) HLT.out) HN.out)
   have HF1 := Lib.hid (show f.length + 1 ≤ 140737488355328 ∧ (f.length + 1) * 16 ≤ 140737488355328 by rw [HFL.out]; exact HC.out)
   go_wp2_with (first
    | (at_builtin; refine wpList_append_own _ rfl (.tmp 15) (.tmp 17) 22 rfl w.heap.size 79 i0 (.agg #[.int .i64 0, .int .i64 0]) 2 16 Tryz.underlying22 hi hz0 hz1 hz2 rfl (by decide) u3 f.length (entV f) rfl (own_below hO3 (below1 _ _)) ⟨w3.heap.size, 0, none⟩ 1 1 [.int .i64 (r : Int), .int .i64 (t : Int)] rfl rfl (by have h := cells_ent (w3.setCell ⟨g, 1, none⟩ (.int .i64 (t : Int))) (.int .i64 (r : Int)) (.int .i64 (t : Int)) 79; simpa using h) (by intro u hu; simp at hu; rcases hu with rfl | rfl <;> rfl) (Nat.le_trans HF1.out.1 (by decide)) HF1.out.2 (Nat.le_trans hg4.size (by simp)) ?_; intro v6 w6 hO6 hg6 _))
   have hO7 := entV_snoc (x := ((r : Int), (t : Int))) rfl hO6
   have hr : ∀ k, u3.ownBlock = some k → w.heap.size ≤ k := fun k hk => (hO3.lt k hk).1
   have hg7 := grown_row (grown_trans hg4 (grown_of (below1 _ _) _)) hg6 hr
   have hT7 := (hT4.below (below1 _ (.cells #[.int .i64 (r : Int), .int .i64 (t : Int)] 79))).grown hg6 (fun e => by have := hr B e; have := LB.out; omega)
   go_roundw
   case rel => exact ⟨k + 1, f ++ [((r : Int), (t : Int))], HLT.out, by rw [List.length_append, HFL.out]; rfl, by go_num, hO7, Lib.hid (tv_fits hfit.out HR.out HT.out), hg7, hT7⟩
   case measure => exact meas_next HLT.out
  ·obtain rfl : k = n := Nat.le_antisymm hk (Nat.not_lt.1 hlt)
   obtain ⟨jd1, jd2⟩ := lt_no (Nat.lt_irrefl k)
   have hk16 : f.length ≤ 16 := by have := HN.out; omega
   have hT' : TkAt s wr B X (K f) := hT.is (fun p => by rw [Nat.sub_self]; rfl)
   clear hT hk hlt
   go_wp2
   go_ret
   exact ⟨_, f, rfl, hO, hk16, hfit.out, hg, hT'⟩
end Go.Proofs.YtkejlnjnoiidnaaGreatDoor
end
