/- A text in pieces, in plain Lean. No program in sight.

slices.Equal over slices of entries, tokens and writes.

Lists of entries (a replica, a time) in memory; how far a replica is known: vector.Of and VectorOf of the reference.

What is wrong with a vector, in plain Lean. No program in sight.

How far two vectors know together, and whether one covers the other one, in plain Lean. No program in sight.

The vector that bytes begin with, in plain Lean. No program in sight.

A piece as bytes, and the piece that bytes are, in plain Lean. No program in sight.

A receiver, in plain Lean: what came, what is on the disk. No program in sight.

What stays true of a receiver, in plain Lean. No program in sight.

Plain facts on bits turned in a list of bytes. No program in sight.

A link, in plain Lean: pieces to be sent, and who gets them. No program in sight.

append to a slice of the call's own, as one step of a region that draws its order. Any program.

What a call leaves: all blocks but some stand. Any program.

What a call turns of two things that lie apart. Any program. -/
import Derived.Test.YtfefpcdgflgaeaaGreatDoorZ1
import Derived.Test.YtfefpcdgflgaeaaGreatDoorProg
import Derived.WalkKit
import Derived.WalkLawsBesides
import Derived.WalkSpells
import Derived.Outline
import Derived.Lib.Hide
import Derived.Laws.BitsAllLaws
import Derived.Deep.RegionLaw
import Derived.OwnWalk
section
namespace Go.Proofs.YtfefpcdgflgaeaaGreatDoor
def piece (s : ByteArray) (z k : Nat) : Chk := ((crcOf s : Int), (s.size : Int), ((k * z : Nat) : Int), s.extract (k * z) (min s.size (k * z + z)))
def pieces (s : ByteArray) (z : Nat) : Nat → List Chk
 | 0 => []
 | k + 1 => pieces s z k ++ [piece s z k]
theorem pieces_len (s : ByteArray) (z k : Nat) : (pieces s z k).length = k := by
 induction k with
 | zero => rfl
 | succ k ih => simp [pieces, ih]
def howMany (s : ByteArray) (z : Nat) : Nat := (s.size + z - 1) / z
def cutOf (s : ByteArray) (z : Int) : List Chk × Int := if s.size = 0 ∨ 4096 < s.size then ([], 4) else if z < 1 ∨ 256 < z then ([], 2) else (pieces s z.toNat (howMany s z.toNat), 0)
theorem cut_limit {s : ByteArray} {z : Int} (h : s.size = 0 ∨ 4096 < s.size) : cutOf s z = ([], 4) := by unfold cutOf; rw [if_pos h]
theorem cut_range {s : ByteArray} {z : Int} (h : ¬ (s.size = 0 ∨ 4096 < s.size)) (h2 : z < 1 ∨ 256 < z) : cutOf s z = ([], 2) := by unfold cutOf; rw [if_neg h, if_pos h2]
theorem cut_good {s : ByteArray} {z : Nat} (h : ¬ (s.size = 0 ∨ 4096 < s.size)) (h2 : ¬ ((z : Int) < 1 ∨ 256 < (z : Int))) : cutOf s (z : Int) = (pieces s z (howMany s z), 0) := by unfold cutOf; rw [if_neg h, if_neg h2]; rfl
/-- k pieces are done, p bytes of the text ahead of the next. -/
def Cut (s : ByteArray) (z k p : Nat) : Prop := p = k * z ∧ (k = 0 ∨ p < s.size + z)
theorem Cut.zero (s : ByteArray) (z : Nat) : Cut s z 0 0 := ⟨by simp, .inl rfl⟩
theorem Cut.succ {s : ByteArray} {z k p : Nat} (h : Cut s z k p) (hp : p < s.size) : Cut s z (k + 1) (p + z) := ⟨by rw [h.1, Nat.succ_mul], .inr (by omega)⟩
theorem Cut.le {s : ByteArray} {z k p : Nat} (h : Cut s z k p) (hz : 0 < z) : k ≤ p := by rw [h.1]; exact Nat.le_mul_of_pos_right k hz
theorem Cut.done {s : ByteArray} {z k p : Nat} (h : Cut s z k p) (hz : 0 < z) (hp : s.size ≤ p) (h0 : 0 < s.size) : k = howMany s z := by
 unfold howMany
 obtain ⟨rfl, h2⟩ := h
 have hk : 0 < k := by
  rcases Nat.eq_zero_or_pos k with rfl | h
  ·rw [Nat.zero_mul] at hp; omega
  ·exact h
 have e : k * z = (k - 1) * z + z := by
  have : k = (k - 1) + 1 := by omega
  conv => lhs; rw [this]
  rw [Nat.succ_mul]
 exact (Nat.div_eq_of_lt_le (by omega) (by rw [Nat.succ_mul]; omega)).symm
theorem Cut.piece {s : ByteArray} {z k p : Nat} (h : Cut s z k p) : pieces s z (k + 1) = pieces s z k ++ [((crcOf s : Int), (s.size : Int), (p : Int), s.extract p (min s.size (p + z)))] := by
 simp only [pieces, Go.Proofs.YtfefpcdgflgaeaaGreatDoor.piece, ← h.1]
theorem howMany_le {s : ByteArray} {z : Nat} (hz : 0 < z) : howMany s z ≤ s.size := by
 unfold howMany
 rw [Nat.div_le_iff_le_mul_add_pred hz]
 have : s.size ≤ z * s.size := Nat.le_mul_of_pos_left _ hz
 omega
end Go.Proofs.YtfefpcdgflgaeaaGreatDoor
end

section
namespace Go.Proofs.YtfefpcdgflgaeaaGreatDoor
open Go.RowKit
abbrev Ent := Int × Int
def entCells (x : Ent) : List Value := [.int .i64 x.1, .int .i64 x.2]
end Go.Proofs.YtfefpcdgflgaeaaGreatDoor
end

section
namespace Go.Proofs.YtfefpcdgflgaeaaGreatDoor
open Go.RowKit

theorem entCells_len (x : Ent) : (entCells x).length = 2 := rfl
/-- Fits its kind. -/
def entFits (x : Ent) : Prop := (-9223372036854775808 ≤ x.1 ∧ x.1 ≤ 9223372036854775807) ∧ (-9223372036854775808 ≤ x.2 ∧ x.2 ≤ 9223372036854775807)
/-- The slice value of n entries reads as l. -/
def Ents (w : World) (B : Nat) (A : Option Addr) (n : Nat) (l : List Ent) : Prop := Sl w B 2 A n (l.flatMap entCells) ∧ ∀ x ∈ l, entFits x
theorem Ents.len {w : World} {B n : Nat} {A : Option Addr} {l : List Ent} (h : Ents w B A n l) : l.length = n := by
 have := h.1.1; rw [flat_len _ 2 entCells_len] at this; omega
theorem Ents.at_ {w : World} {B n : Nat} {A : Option Addr} {l : List Ent} (h : Ents w B A n l) {k : Nat} (hk : k < n) :
  ∃ b o r t, A = some ⟨b, o, none⟩ ∧ b < B ∧ l[k]? = some (r, t) ∧ entFits (r, t) ∧ w.cell? ⟨b, o + k * 2, none⟩ = some (.int .i64 r) ∧ w.cell? ⟨b, o + k * 2 + 1, none⟩ = some (.int .i64 t) := by
 obtain ⟨b, o, e, hb, hc⟩ := h.1.2 (by omega)
 have hl := h.len
 have hx : l[k]? = some l[k] := List.getElem?_eq_getElem (by omega)
 refine ⟨b, o, l[k].1, l[k].2, e, hb, hx, h.2 _ (List.getElem_mem _), ?_, ?_⟩
 ·have := flat_get entCells 2 entCells_len l k 0 _ hx (by omega)
  exact hc (k * 2 + 0) _ this
 ·have := flat_get entCells 2 entCells_len l k 1 _ hx (by omega)
  exact hc (k * 2 + 1) _ this
theorem Ents.below {w w' : World} {B n : Nat} {A : Option Addr} {l : List Ent} (h : Ents w B A n l) (hb : Below B w w') : Ents w' B A n l := ⟨h.1.below hb, h.2⟩

theorem Ents.more {w : World} {B B' n : Nat} {A : Option Addr} {l : List Ent} (h : Ents w B A n l) (hB : B ≤ B') : Ents w B' A n l := ⟨h.1.more hB, h.2⟩
theorem Ents.grow {w w' : World} {n : Nat} {A : Option Addr} {l : List Ent} (h : Ents w w.heap.size A n l) (hb : Below w.heap.size w w') : Ents w' w'.heap.size A n l := (h.below hb).more hb.size
end Go.Proofs.YtfefpcdgflgaeaaGreatDoor
end

section
namespace Go.Proofs.YtfefpcdgflgaeaaGreatDoor
/-- An entry beyond what there is. -/
def entBad (x : Ent) : Prop := x.1 < 0 ∨ 200 < x.1 ∨ x.2 < 1 ∨ 1099511627776 < x.2
instance (x : Ent) : Decidable (entBad x) := by unfold entBad; infer_instance
/-- What is wrong from entry i on, the replica ahead being last. -/
def vrgo : List Ent → Int → Nat → Int × Int
 | [], _, _ => (0, -1)
 | x :: l, last, i => if entBad x then (2, i) else if x.1 ≤ last then (10, i) else vrgo l x.1 (i + 1)
/-- The replica ahead of entry k. -/
def lastAt (l : List Ent) (k : Nat) : Int := if k = 0 then -1 else (l.getD (k - 1) (-1, 0)).1
theorem lastAt_succ (l : List Ent) (k : Nat) (r t : Int) (h : l[k]? = some (r, t)) : lastAt l (k + 1) = r := by
 unfold lastAt
 rw [if_neg (by omega)]
 simp [List.getD, h]
/-- As it stands ahead of entry k. -/
def VAt (l : List Ent) (k : Nat) : Prop := vrgo l (-1) 0 = vrgo (l.drop k) (lastAt l k) k
theorem VAt.zero (l : List Ent) : VAt l 0 := rfl
theorem drop_at {α : Type} {l : List α} {k : Nat} {x : α} (h : l[k]? = some x) : l.drop k = x :: l.drop (k + 1) := by
 obtain ⟨hk, e⟩ := List.getElem?_eq_some_iff.1 h
 rw [List.drop_eq_getElem_cons hk, e]
theorem VAt.succ {l : List Ent} {k : Nat} {r t : Int} (h : VAt l k) (hx : l[k]? = some (r, t)) (hb : ¬ entBad (r, t)) (ho : ¬ r ≤ lastAt l k) : VAt l (k + 1) := by
 unfold VAt at *
 rw [h, drop_at hx]
 simp only [vrgo]
 rw [if_neg hb, if_neg ho, lastAt_succ l k r t hx]
theorem VAt.all {l : List Ent} {k : Nat} (h : VAt l k) (hk : l.length ≤ k) : vrgo l (-1) 0 = (0, -1) := by
 unfold VAt at h
 rw [h, List.drop_eq_nil_of_le hk]
 rfl
end Go.Proofs.YtfefpcdgflgaeaaGreatDoor
end

section
namespace Go.Proofs.YtfefpcdgflgaeaaGreatDoor
/-- Each entry fits, the replicas rise, from k on. -/
def Rises (k : Int) (l : List Ent) : Prop := (∀ x ∈ l, k ≤ x.1 ∧ x.1 ≤ 200 ∧ 1 ≤ x.2 ∧ x.2 ≤ 1099511627776) ∧ l.Pairwise (fun x y => x.1 < y.1)
theorem Rises.tail {k : Int} {x : Ent} {l : List Ent} (h : Rises k (x :: l)) : Rises (x.1 + 1) l := by
 obtain ⟨h1, h2⟩ := h
 rw [List.pairwise_cons] at h2
 refine ⟨fun y hy => ?_, h2.2⟩
 have := h1 y (List.mem_cons_of_mem _ hy)
 have := h2.1 y hy
 omega
theorem Rises.head {k : Int} {x : Ent} {l : List Ent} (h : Rises k (x :: l)) : k ≤ x.1 ∧ x.1 ≤ 200 ∧ 1 ≤ x.2 ∧ x.2 ≤ 1099511627776 := h.1 x (by simp)
theorem Rises.cons {k : Int} {x : Ent} {l : List Ent} (h : Rises (x.1 + 1) l) (h0 : k ≤ x.1) (h1 : x.1 ≤ 200) (h2 : 1 ≤ x.2) (h3 : x.2 ≤ 1099511627776) : Rises k (x :: l) := by
 obtain ⟨a, b⟩ := h
 refine ⟨fun y hy => ?_, List.pairwise_cons.2 ⟨fun y hy => ?_, b⟩⟩
 ·rcases List.mem_cons.1 hy with rfl | hy
  ·exact ⟨h0, h1, h2, h3⟩
  ·have := a y hy; omega
 ·have := a y hy; omega
theorem Rises.less {k k' : Int} {l : List Ent} (h : Rises k l) (hk : k' ≤ k) : Rises k' l := ⟨fun x hx => by have := h.1 x hx; omega, h.2⟩
end Go.Proofs.YtfefpcdgflgaeaaGreatDoor
end

section
namespace Go.Proofs.YtfefpcdgflgaeaaGreatDoor
/-- The number at byte p. -/
def vat (s : ByteArray) (p : Nat) (most : Int) : Nat × Nat × Int := vint (s.extract p s.size).data.toList most
/-- What a number at a byte can be. -/
theorem vat_says (s : ByteArray) (p : Nat) (most : Int) : ((vat s p most).2.2 = 0 ∧ ((vat s p most).1 : Int) ≤ most ∧ 0 < (vat s p most).2.1 ∧ (vat s p most).2.1 ≤ 10 ∧ p + (vat s p most).2.1 ≤ s.size) ∨ ∃ e : Int, vat s p most = (0, 0, e) ∧ (e = 2 ∨ e = 3 ∨ e = 4 ∨ e = 7) := by
 unfold vat
 rcases vint_says (s.extract p s.size).data.toList most with ⟨h0, h1, _, h2, h3, h4⟩ | h
 ·refine .inl ⟨h0, h1, h2, h3, ?_⟩
  have e : (s.extract p s.size).data.toList.length = s.size - p := by
   simp
  omega
 ·exact .inr h
theorem vat_of (s : ByteArray) (p : Nat) (most : Int) : ∃ (n k : Nat) (e : Int), vat s p most = (n, k, e) ∧ (e = 0 ∧ (n : Int) ≤ most ∧ 0 < k ∧ k ≤ 10 ∧ p + k ≤ s.size ∨ e ≠ 0 ∧ n = 0 ∧ k = 0) := by
 rcases vat_says s p most with ⟨h0, h1, h2, h3, h4⟩ | ⟨e, h, he⟩
 ·exact ⟨_, _, _, rfl, .inl ⟨h0, h1, h2, h3, h4⟩⟩
 ·exact ⟨0, 0, e, h, .inr ⟨by omega, rfl, rfl⟩⟩
end Go.Proofs.YtfefpcdgflgaeaaGreatDoor
end

section
namespace Go.Proofs.YtfefpcdgflgaeaaGreatDoor
/-- What is wrong with a piece: of Total, of At, of how many bytes. -/
def chkRight (t a : Int) (n : Nat) : Int := if t < 1 ∨ 4096 < t ∨ a < 0 ∨ t < a then 2 else if n = 0 ∨ 256 < n then 4 else if t - a < (n : Int) then 2 else 0
theorem chkRight_ok {t a : Int} {n : Nat} (h : chkRight t a n = 0) : 1 ≤ t ∧ t ≤ 4096 ∧ 0 ≤ a ∧ a ≤ t ∧ n ≤ 256 := by
 unfold chkRight at h
 split at h
 ·omega
 ·split at h
  ·omega
  ·split at h <;> omega
def chkBytes (x : Chk) : ByteArray := strOf [67] ++ four x.1.toNat ++ strOf (vput x.2.1.toNat) ++ strOf (vput x.2.2.1.toNat) ++ x.2.2.2
/-- A piece as bytes; what is wrong. -/
def chkOf (x : Chk) : ByteArray × Int := if chkRight x.2.1 x.2.2.1 x.2.2.2.size ≠ 0 then (strOf [], chkRight x.2.1 x.2.2.1 x.2.2.2.size) else (sealOf (chkBytes x), 0)
theorem chkOf_bad {x : Chk} (h : chkRight x.2.1 x.2.2.1 x.2.2.2.size ≠ 0) : (chkOf x).1 = strOf [] := by unfold chkOf; rw [if_pos h]
theorem chkOf_good {x : Chk} (h : chkRight x.2.1 x.2.2.1 x.2.2.2.size = 0) : (chkOf x).1 = sealOf (chkBytes x) := by unfold chkOf; rw [if_neg (by omega)]
/-- Byte k. -/
def byteAt (t : ByteArray) (k : Nat) : Nat := (t.data.toList.getD k 0).toNat
theorem byteAt_eq (t : ByteArray) (k : Nat) (h : k < t.size) : byteAt t k = (t[k]).toNat := by
 unfold byteAt
 have hl : k < t.data.toList.length := by simpa using h
 simp [List.getD, List.getElem?_eq_getElem hl]
 rfl
theorem byteAt_lt (t : ByteArray) (k : Nat) : byteAt t k < 256 := UInt8.toNat_lt _
def nameOf (t : ByteArray) : Nat := byteAt t 1 + 256 * (byteAt t 2 + 256 * (byteAt t 3 + 256 * byteAt t 4))
theorem name_or {a b c d : Nat} (ha : a < 256) (hb : b < 256) (hc : c < 256) (hd : d < 256) :
  bits BinOp.or IntKind.u32 (bits BinOp.or IntKind.u32 (bits BinOp.or IntKind.u32 (a : Int) ((b * 256 : Nat) : Int)) ((c * 65536 : Nat) : Int)) ((d * 16777216 : Nat) : Int) = ((a + 256 * (b + 256 * (c + 256 * d)) : Nat) : Int) := by
 rw [u32_or_nat _ _ (by omega) (by omega), Nat.or_comm, nat_join 8 (b * 256) a (by omega) (by omega),
  u32_or_nat _ _ (by omega) (by omega), Nat.or_comm, nat_join 16 (c * 65536) _ (by omega) (by omega),
  u32_or_nat _ _ (by omega) (by omega), Nat.or_comm, nat_join 24 (d * 16777216) _ (by omega) (by omega)]
 omega
def chk0 : Chk := (0, 0, 0, strOf [])
/-- The piece that bytes are without their sum. -/
def uncut (t : ByteArray) : Chk × Int :=
 if t.size = 0 ∨ byteAt t 0 ≠ 67 then (chk0, 5) else if t.size < 5 then (chk0, 7)
 else if (vat t 5 4096).2.2 ≠ 0 then (chk0, (vat t 5 4096).2.2)
 else if (vat t (5 + (vat t 5 4096).2.1) 4096).2.2 ≠ 0 then (chk0, (vat t (5 + (vat t 5 4096).2.1) 4096).2.2)
 else if chkRight (vat t 5 4096).1 (vat t (5 + (vat t 5 4096).2.1) 4096).1 (t.size - (5 + (vat t 5 4096).2.1 + (vat t (5 + (vat t 5 4096).2.1) 4096).2.1)) ≠ 0 then (chk0, chkRight (vat t 5 4096).1 (vat t (5 + (vat t 5 4096).2.1) 4096).1 (t.size - (5 + (vat t 5 4096).2.1 + (vat t (5 + (vat t 5 4096).2.1) 4096).2.1)))
 else (((nameOf t : Int), ((vat t 5 4096).1 : Int), ((vat t (5 + (vat t 5 4096).2.1) 4096).1 : Int), t.extract (5 + (vat t 5 4096).2.1 + (vat t (5 + (vat t 5 4096).2.1) 4096).2.1) t.size), 0)
theorem uncut_name {t : ByteArray} (h : t.size = 0 ∨ byteAt t 0 ≠ 67) : uncut t = (chk0, 5) := by unfold uncut; rw [if_pos h]
theorem uncut_short {t : ByteArray} (h : ¬ (t.size = 0 ∨ byteAt t 0 ≠ 67)) (h1 : t.size < 5) : uncut t = (chk0, 7) := by unfold uncut; rw [if_neg h, if_pos h1]
theorem uncut_one {t : ByteArray} {n k : Nat} {e : Int} (h : ¬ (t.size = 0 ∨ byteAt t 0 ≠ 67)) (h1 : ¬ t.size < 5) (h2 : vat t 5 4096 = (n, k, e)) (he : e ≠ 0) : uncut t = (chk0, e) := by
 unfold uncut; rw [if_neg h, if_neg h1, h2, if_pos he]
theorem uncut_two {t : ByteArray} {n k m j : Nat} {e : Int} (h : ¬ (t.size = 0 ∨ byteAt t 0 ≠ 67)) (h1 : ¬ t.size < 5) (h2 : vat t 5 4096 = (n, k, 0)) (h3 : vat t (5 + k) 4096 = (m, j, e)) (he : e ≠ 0) : uncut t = (chk0, e) := by
 unfold uncut; rw [if_neg h, if_neg h1, h2, if_neg (by simp), h3, if_pos he]
theorem uncut_bad {t : ByteArray} {n k m j : Nat} (h : ¬ (t.size = 0 ∨ byteAt t 0 ≠ 67)) (h1 : ¬ t.size < 5) (h2 : vat t 5 4096 = (n, k, 0)) (h3 : vat t (5 + k) 4096 = (m, j, 0)) (he : chkRight n m (t.size - (5 + k + j)) ≠ 0) : uncut t = (chk0, chkRight n m (t.size - (5 + k + j))) := by
 unfold uncut; rw [if_neg h, if_neg h1, h2, if_neg (by simp), h3, if_neg (by simp), if_pos he]
theorem uncut_good {t : ByteArray} {n k m j : Nat} (h : ¬ (t.size = 0 ∨ byteAt t 0 ≠ 67)) (h1 : ¬ t.size < 5) (h2 : vat t 5 4096 = (n, k, 0)) (h3 : vat t (5 + k) 4096 = (m, j, 0)) (he : chkRight n m (t.size - (5 + k + j)) = 0) : uncut t = (((nameOf t : Int), (n : Int), (m : Int), t.extract (5 + k + j) t.size), 0) := by
 unfold uncut; rw [if_neg h, if_neg h1, h2, if_neg (by simp), h3, if_neg (by simp), if_neg (by simpa using he)]
/-- The piece that bytes are; what is wrong. -/
def unchunk (s : ByteArray) : Chk × Int := if (openOf s).2 ≠ 0 then (chk0, (openOf s).2) else uncut (openOf s).1
end Go.Proofs.YtfefpcdgflgaeaaGreatDoor
end

section
namespace Go.Proofs.YtfefpcdgflgaeaaGreatDoor
set_option linter.unusedVariables false
set_option linter.unusedSimpArgs false
abbrev CF := Nat → Option UInt8
structure Rst where
 S : DF
 X : DF
 nm : Nat
 tot : Nat
 came : CF
 sv : Nat
 sf : Nat
 mks : Nat
/-- How many are there from n on, of so many. -/
def offFrom (c : CF) : Nat → Nat → Nat
 | 0, n => n
 | k + 1, n => if (c n).isSome = true then offFrom c k (n + 1) else n
def offerOf (c : CF) (t : Nat) : Nat := offFrom c t 0
theorem offFrom_is (c : CF) : ∀ (k n m : Nat), n ≤ m → m ≤ n + k → (∀ i, n ≤ i → i < m → (c i).isSome = true) → (m = n + k ∨ (c m).isSome = false) → offFrom c k n = m := by
 intro k
 induction k with
 | zero => intro n m h1 h2 _ _; simp only [offFrom]; omega
 | succ k ih =>
  intro n m h1 h2 h3 h4
  rw [offFrom]
  by_cases hn : n = m
  ·subst hn
   rcases h4 with h4 | h4
   ·omega
   ·rw [if_neg (by rw [h4]; simp)]
  ·rw [if_pos (h3 n (Nat.le_refl _) (by omega))]
   exact ih (n + 1) m (by omega) (by omega) (fun i a b => h3 i (by omega) b) (by rcases h4 with h4 | h4; exact .inl (by omega); exact .inr h4)
theorem offer_is {c : CF} {t m : Nat} (h2 : m ≤ t) (h3 : ∀ i, i < m → (c i).isSome = true) (h4 : m = t ∨ (c m).isSome = false) : offerOf c t = m :=
 offFrom_is c t 0 m (Nat.zero_le _) (by omega) (fun i _ b => h3 i b) (by rcases h4 with h4 | h4; exact .inl (by omega); exact .inr h4)
theorem offFrom_says (c : CF) : ∀ (k n : Nat), n ≤ offFrom c k n ∧ offFrom c k n ≤ n + k ∧ (∀ i, n ≤ i → i < offFrom c k n → (c i).isSome = true) ∧ (offFrom c k n = n + k ∨ (c (offFrom c k n)).isSome = false) := by
 intro k
 induction k with
 | zero => intro n; exact ⟨Nat.le_refl _, Nat.le_refl _, fun i a b => by simp only [offFrom] at b; omega, .inl rfl⟩
 | succ k ih =>
  intro n
  rw [offFrom]
  by_cases hn : (c n).isSome = true
  ·rw [if_pos hn]
   obtain ⟨a1, a2, a3, a4⟩ := ih (n + 1)
   refine ⟨by omega, by omega, fun i b1 b2 => ?_, ?_⟩
   ·by_cases e : i = n
    ·subst e; exact hn
    ·exact a3 i (by omega) b2
   ·rcases a4 with a4 | a4
    ·exact .inl (by omega)
    ·exact .inr a4
  ·rw [if_neg hn]
   exact ⟨Nat.le_refl _, by omega, fun i a b => by omega, .inr (by simpa using hn)⟩
theorem offer_le (c : CF) (t : Nat) : offerOf c t ≤ t := by have := (offFrom_says c t 0).2.1; unfold offerOf; omega
theorem offer_some {c : CF} {t i : Nat} (h : i < offerOf c t) : (c i).isSome = true := (offFrom_says c t 0).2.2.1 i (Nat.zero_le _) h
theorem offer_next {c : CF} {t : Nat} (ho : ∀ i, t ≤ i → c i = none) : (c (offerOf c t)).isSome = false := by
 rcases (offFrom_says c t 0).2.2.2 with h | h
 ·rw [Nat.zero_add] at h
  unfold offerOf
  rw [h, ho t (Nat.le_refl _)]
  rfl
 ·exact h
/-- Bytes from a to b. -/
def blk (c : CF) (a b : Nat) : ByteArray := strOf ((List.range (b - a)).map fun i => (c (a + i)).getD 0)
theorem blk_size (c : CF) (a b : Nat) : (blk c a b).size = b - a := by unfold blk; rw [strOf_len]; simp
/-- Sectors k0 and those behind, so many, of what is there up to n. -/
def saveX (c : CF) (n : Nat) (X : DF) (k0 : Nat) : Nat → DF
 | 0 => X
 | j + 1 => upd (saveX c n X k0 j) (k0 + j + 2) (padz (blk c (32 * (k0 + j)) (min n (32 * (k0 + j) + 32))))
/-- A record. -/
def recB (m nm t f : Nat) : ByteArray := strOf [82] ++ strOf (vput m) ++ four nm ++ strOf (vput t) ++ strOf (vput f)
def recS (m nm t f : Nat) : ByteArray := padz (sealOf (recB m nm t f))
def big50 : Nat := 1125899906842624
/-- What a sector tells. -/
def recOf (s : ByteArray) : Option (Nat × Nat × Nat × Nat) :=
 if s.data.toList.getD 0 0 = 82 ∧ (vat s 1 big50).2.2 = 0 then
  some ((vat s 1 big50).1, byteAt s (1 + (vat s 1 big50).2.1) + 256 * (byteAt s (1 + (vat s 1 big50).2.1 + 1) + 256 * (byteAt s (1 + (vat s 1 big50).2.1 + 2) + 256 * byteAt s (1 + (vat s 1 big50).2.1 + 3))),
   (vat s (1 + (vat s 1 big50).2.1 + 4) 4096).1, (vat s (1 + (vat s 1 big50).2.1 + 4 + (vat s (1 + (vat s 1 big50).2.1 + 4) 4096).2.1) 4096).1)
 else none
/-- What is taken over from a record: that with more records ahead of it. -/
def pick (q : Nat × Nat × Nat × Nat) : Option (Nat × Nat × Nat × Nat) → Nat × Nat × Nat × Nat
 | some p => if q.1 < p.1 + 1 then (p.1 + 1, p.2.1, p.2.2.1, p.2.2.2) else q
 | none => q
namespace Rst
def new : Rst := ⟨fun _ => none, fun _ => none, 0, 0, fun _ => none, 0, 0, 0⟩
def offer (r : Rst) : Nat := offerOf r.came r.tot
/-- The first piece tells name and total. -/
def named (r : Rst) (n t : Nat) : Rst := if r.tot = 0 then { r with nm := n, tot := t } else r
/-- The first k bytes of a piece come in. -/
def fill (c : CF) (a : Nat) (d : List UInt8) : Nat → CF
 | 0 => c
 | k + 1 => if (fill c a d k (a + k)).isSome = true then fill c a d k else bup (fill c a d k) (a + k) (d.getD k 0)
def takeC (r : Rst) (x : Chk) : Rst := { r.named x.1.toNat x.2.1.toNat with came := fill r.came x.2.2.1.toNat x.2.2.2.data.toList x.2.2.2.size }
def takeE (r : Rst) (s : ByteArray) : Int := if (unchunk s).2 ≠ 0 then (unchunk s).2 else if r.tot ≠ 0 ∧ ¬ ((unchunk s).1.1 = (r.nm : Int) ∧ (unchunk s).1.2.1 = (r.tot : Int)) then 6 else 0
def take (r : Rst) (s : ByteArray) : Rst := if r.takeE s = 0 then r.takeC (unchunk s).1 else r
def save (r : Rst) : Rst := { r with X := saveX r.came r.offer r.X (r.sv / 32) ((r.offer + 31) / 32 - r.sv / 32), sv := r.offer }
def flush (r : Rst) : Rst := { r with S := crashed 140 18446744073709551615 r.S r.X, X := fun _ => none, sf := r.sv }
def mark (r : Rst) : Rst := if r.tot = 0 then r else { r with X := upd r.X (r.mks % 2) (recS r.mks r.nm r.tot r.sf), mks := r.mks + 1 }
def picked (S : DF) : Nat × Nat × Nat × Nat := pick (pick (0, 0, 0, 0) (recOf (safeAt S 0))) (recOf (safeAt S 1))
def sect (S : DF) (i : Nat) : UInt8 := (safeAt S (2 + i / 32)).data.toList.getD (i % 32) 0
def back (S : DF) (f : Nat) : CF := fun i => if i < f then some (sect S i) else none
def of (S : DF) (q : Nat × Nat × Nat × Nat) : Rst := ⟨S, fun _ => none, q.2.1, q.2.2.1, back S q.2.2.2, q.2.2.2, q.2.2.2, q.1⟩
def crash (r : Rst) (mask : Nat) : Rst := of (crashed 140 mask r.S r.X) (picked (crashed 140 mask r.S r.X))
def textE (r : Rst) : Int := if r.tot = 0 then 8 else if r.offer < r.tot then 7 else if crcOf (blk r.came 0 r.tot) ≠ r.nm then 15 else 0
def text (r : Rst) : ByteArray := if r.textE = 0 then blk r.came 0 r.tot else strOf []
end Rst
/-- A record that is whole, of fewer than K ahead. -/
def RecOk (K : Nat) (s : ByteArray) : Prop := ∃ m nm t f, m < K ∧ nm < 4294967296 ∧ 0 < t ∧ t ≤ 4096 ∧ f ≤ t ∧ s = recS m nm t f
structure RFit (K : Nat) (r : Rst) : Prop where
 d : DFit 140 r.S r.X
 nm : r.nm < 4294967296
 tot : r.tot ≤ 4096
 out : ∀ i, r.tot ≤ i → r.came i = none
 sv : ∀ i, i < r.sv → (r.came i).isSome = true
 sf : r.sf ≤ r.sv
 mks : r.mks ≤ K
 k : K ≤ 1000000
 rs : ∀ i s, i < 2 → r.S i = some s → RecOk K s
 rx : ∀ i s, i < 2 → r.X i = some s → RecOk K s
theorem RecOk.mono {K K' : Nat} {s : ByteArray} (h : RecOk K s) (hk : K ≤ K') : RecOk K' s := by
 obtain ⟨m, nm, t, f, h1, h2⟩ := h
 exact ⟨m, nm, t, f, by omega, h2⟩
theorem vput_le3 {n : Nat} (h : n ≤ 1000000) : (vput n).length ≤ 3 := vput_len n 2 (by simp; omega)
theorem vput_le2 {n : Nat} (h : n ≤ 4096) : (vput n).length ≤ 2 := vput_len n 1 (by simp; omega)
theorem recB_size (m nm t f : Nat) : (recB m nm t f).size = 5 + (vput m).length + (vput t).length + (vput f).length := by
 unfold recB
 simp only [ByteArray.size_append, strOf_len, lowB_len, List.length_cons, List.length_nil]
 omega
theorem recB_list (m nm t f : Nat) : (recB m nm t f).data.toList = 82 :: (vput m ++ (lowB 4 nm ++ (vput t ++ vput f))) := by
 unfold recB four
 rw [← strOf_add, ← strOf_add, ← strOf_add, ← strOf_add]
 simp [strOf]
theorem recS_size {m nm t f : Nat} (hm : m ≤ 1000000) (ht : t ≤ 4096) (hf : f ≤ 4096) : (sealOf (recB m nm t f)).size ≤ 32 := by
 rw [sealOf_size, recB_size]
 have := vput_le3 hm
 have := vput_le2 ht
 have := vput_le2 hf
 omega
theorem RecOk.size {K : Nat} {s : ByteArray} (h : RecOk K s) (hK : K ≤ 1000000) : s.size = 32 := by
 obtain ⟨m, nm, t, f, h1, h2, h3, h4, h5, rfl⟩ := h
 exact padz_size (recS_size (by omega) h4 (by omega))
theorem zeros_list (n : Nat) : (zeros n).data.toList = List.replicate n 0 := by unfold zeros; simp
theorem sealOf_list (s : ByteArray) : (sealOf s).data.toList = s.data.toList ++ lowB 4 (crcOf s) := by unfold sealOf; rw [ByteArray.data_append]; simp [four, strOf]
theorem padz_list (s : ByteArray) : (padz s).data.toList = s.data.toList ++ List.replicate (32 - s.size) 0 := by unfold padz; rw [ByteArray.data_append]; simp [zeros]
/-- The bytes of a record in its sector. -/
theorem recS_list (m nm t f : Nat) : (recS m nm t f).data.toList = 82 :: (vput m ++ (lowB 4 nm ++ (vput t ++ (vput f ++ (lowB 4 (crcOf (recB m nm t f)) ++ List.replicate (32 - (sealOf (recB m nm t f)).size) 0))))) := by
 unfold recS
 rw [padz_list, sealOf_list, recB_list]
 simp
theorem vat_list (s : ByteArray) (p : Nat) (most : Int) : vat s p most = vint (s.data.toList.drop p) most := by
 unfold vat
 congr 1
 rw [ByteArray.data_extract]
 simp
 have : s.data.toList.length = s.size := by simp
 rw [List.take_of_length_le (by simp)]
section
variable {m nm t f : Nat}
theorem rec_m (hm : m ≤ 1000000) : vat (recS m nm t f) 1 big50 = (m, (vput m).length, 0) := by
 rw [vat_list, recS_list]
 exact vint_put (by simp; omega) (by unfold big50; omega) _
theorem rec_t (ht : t ≤ 4096) : vat (recS m nm t f) (1 + (vput m).length + 4) 4096 = (t, (vput t).length, 0) := by
 rw [vat_list, recS_list]
 have e : (82 :: (vput m ++ (lowB 4 nm ++ (vput t ++ (vput f ++ (lowB 4 (crcOf (recB m nm t f)) ++ List.replicate (32 - (sealOf (recB m nm t f)).size) 0)))))).drop (1 + (vput m).length + 4) = vput t ++ (vput f ++ (lowB 4 (crcOf (recB m nm t f)) ++ List.replicate (32 - (sealOf (recB m nm t f)).size) 0)) := by
  rw [show 1 + (vput m).length + 4 = ((vput m).length + 4) + 1 by omega, List.drop_succ_cons, ← List.drop_drop, List.drop_left, List.drop_left' (lowB_len 4 nm)]
 rw [e]
 exact vint_put (by simp; omega) (by omega) _
theorem rec_f (hf : f ≤ 4096) : vat (recS m nm t f) (1 + (vput m).length + 4 + (vput t).length) 4096 = (f, (vput f).length, 0) := by
 rw [vat_list, recS_list]
 have e : (82 :: (vput m ++ (lowB 4 nm ++ (vput t ++ (vput f ++ (lowB 4 (crcOf (recB m nm t f)) ++ List.replicate (32 - (sealOf (recB m nm t f)).size) 0)))))).drop (1 + (vput m).length + 4 + (vput t).length) = vput f ++ (lowB 4 (crcOf (recB m nm t f)) ++ List.replicate (32 - (sealOf (recB m nm t f)).size) 0) := by
  rw [show 1 + (vput m).length + 4 + (vput t).length = ((vput m).length + (4 + (vput t).length)) + 1 by omega, List.drop_succ_cons, ← List.drop_drop, List.drop_left, ← List.drop_drop, List.drop_left' (lowB_len 4 nm), List.drop_left]
 rw [e]
 exact vint_put (by simp; omega) (by omega) _
theorem rec_name {i : Nat} (hi : i < 4) : byteAt (recS m nm t f) (1 + (vput m).length + i) = nm / 256 ^ i % 256 := by
 unfold byteAt
 rw [recS_list]
 rw [show 1 + (vput m).length + i = ((vput m).length + i) + 1 by omega]
 simp only [List.getD_eq_getElem?_getD, List.getElem?_cons_succ]
 rw [List.getElem?_append_right (by omega), Nat.add_sub_cancel_left, List.getElem?_append_left (by rw [lowB_len]; exact hi), lowB_four]
 rcases (by omega : i = 0 ∨ i = 1 ∨ i = 2 ∨ i = 3) with rfl | rfl | rfl | rfl <;> simp
theorem recOf_rec (hm : m ≤ 1000000) (hn : nm < 4294967296) (ht : t ≤ 4096) (hf : f ≤ 4096) : recOf (recS m nm t f) = some (m, nm, t, f) := by
 have h0 : (recS m nm t f).data.toList.getD 0 0 = 82 := by rw [recS_list]; rfl
 have n0 := rec_name (m := m) (nm := nm) (t := t) (f := f) (i := 0) (by omega)
 have n1 := rec_name (m := m) (nm := nm) (t := t) (f := f) (i := 1) (by omega)
 have n2 := rec_name (m := m) (nm := nm) (t := t) (f := f) (i := 2) (by omega)
 have n3 := rec_name (m := m) (nm := nm) (t := t) (f := f) (i := 3) (by omega)
 rw [Nat.add_zero] at n0
 unfold recOf
 rw [rec_m hm]
 simp only
 rw [if_pos ⟨h0, trivial⟩, rec_t ht]
 simp only
 rw [rec_f hf, n0, n1, n2, n3]
 clear n0 n1 n2 n3
 simp only [Option.some.injEq, Prod.mk.injEq, true_and, and_true, Nat.pow_zero, Nat.pow_one, show 256 ^ 2 = 65536 from rfl, show 256 ^ 3 = 16777216 from rfl, Nat.div_one]
 omega
end
theorem recOf_zeros : recOf (zeros 32) = none := by
 unfold recOf
 rw [if_neg]
 rw [zeros_list]
 simp
/-- What a sector tells that holds a record, or nothing. -/
theorem safe_ok {K : Nat} {S : DF} (h : ∀ i s, i < 2 → S i = some s → RecOk K s) (i : Nat) (hi : i < 2) : safeAt S i = zeros 32 ∨ RecOk K (safeAt S i) := by
 unfold safeAt
 cases hs : S i with
 | none => exact .inl rfl
 | some s => exact .inr (h i s hi hs)
end Go.Proofs.YtfefpcdgflgaeaaGreatDoor
end

section
namespace Go.Proofs.YtfefpcdgflgaeaaGreatDoor
set_option linter.unusedVariables false
set_option linter.unusedSimpArgs false
theorem chkRight_ok' {t a : Int} {n : Nat} (h : chkRight t a n = 0) : 1 ≤ t ∧ t ≤ 4096 ∧ 0 ≤ a ∧ a + n ≤ t ∧ n ≤ 256 ∧ 0 < n := by
 unfold chkRight at h
 split at h
 ·omega
 ·split at h
  ·omega
  ·split at h <;> omega
theorem nameOf_lt (t : ByteArray) : nameOf t < 4294967296 := by
 unfold nameOf
 have := byteAt_lt t 1
 have := byteAt_lt t 2
 have := byteAt_lt t 3
 have := byteAt_lt t 4
 omega
theorem uncut_says {t : ByteArray} (h : (uncut t).2 = 0) : ∃ (nm T a : Nat) (d : ByteArray), uncut t = (((nm : Int), (T : Int), (a : Int), d), 0) ∧ nm < 4294967296 ∧ 1 ≤ T ∧ T ≤ 4096 ∧ a + d.size ≤ T ∧ d.size ≤ 256 := by
 by_cases h1 : t.size = 0 ∨ byteAt t 0 ≠ 67
 ·rw [uncut_name h1] at h; simp at h
 by_cases h2 : t.size < 5
 ·rw [uncut_short h1 h2] at h; simp at h
 obtain ⟨n, k, e, h3⟩ : ∃ n k e, vat t 5 4096 = (n, k, e) := ⟨_, _, _, rfl⟩
 by_cases he : e = 0
 ·subst he
  obtain ⟨m, j, e, h4⟩ : ∃ m j e, vat t (5 + k) 4096 = (m, j, e) := ⟨_, _, _, rfl⟩
  by_cases he : e = 0
  ·subst he
   by_cases h5 : chkRight n m (t.size - (5 + k + j)) = 0
   ·have := chkRight_ok' h5
    refine ⟨nameOf t, n, m, t.extract (5 + k + j) t.size, uncut_good h1 h2 h3 h4 h5, nameOf_lt t, ?_⟩
    rw [ByteArray.size_extract]
    omega
   ·rw [uncut_bad h1 h2 h3 h4 h5] at h
    exact absurd h h5
  ·rw [uncut_two h1 h2 h3 h4 he] at h
   exact absurd h he
 ·rw [uncut_one h1 h2 h3 he] at h
  exact absurd h he
theorem unchunk_says {s : ByteArray} (h : (unchunk s).2 = 0) : ∃ (nm T a : Nat) (d : ByteArray), unchunk s = (((nm : Int), (T : Int), (a : Int), d), 0) ∧ nm < 4294967296 ∧ 1 ≤ T ∧ T ≤ 4096 ∧ a + d.size ≤ T ∧ d.size ≤ 256 := by
 unfold unchunk at h ⊢
 split at h
 ·rename_i h1
  exact absurd h h1
 ·rename_i h1
  rw [if_neg h1]
  exact uncut_says h
section
variable {c : CF} {a : Nat} {d : List UInt8}
theorem fill_some {i : Nat} (h : (c i).isSome = true) : ∀ k, (Rst.fill c a d k i).isSome = true := by
 intro k
 induction k with
 | zero => exact h
 | succ k ih =>
  rw [Rst.fill]
  split
  ·exact ih
  ·unfold bup
   split
   ·rfl
   ·exact ih
theorem fill_out {i : Nat} : ∀ k, a + k ≤ i → Rst.fill c a d k i = c i := by
 intro k
 induction k with
 | zero => intro _; rfl
 | succ k ih =>
  intro h
  rw [Rst.fill]
  split
  ·exact ih (by omega)
  ·rw [bup_other _ _ (by omega)]
   exact ih (by omega)
theorem fill_yes {k : Nat} (h : (Rst.fill c a d k (a + k)).isSome = true) : Rst.fill c a d (k + 1) = Rst.fill c a d k := by rw [Rst.fill, if_pos h]
theorem fill_no {k : Nat} (h : (Rst.fill c a d k (a + k)).isSome = false) : Rst.fill c a d (k + 1) = bup (Rst.fill c a d k) (a + k) (d.getD k 0) := by rw [Rst.fill, if_neg (by rw [h]; simp)]
end
theorem saveX_fit {S X : DF} (h : DFit 140 S X) {n : Nat} (hn : n ≤ 4096) (c : CF) (k0 : Nat) : ∀ j, k0 + j ≤ (n + 31) / 32 ∨ j = 0 → DFit 140 S (saveX c n X k0 j) := by
 intro j
 induction j with
 | zero => intro _; exact h
 | succ j ih =>
  intro hj
  have h1 := ih (by omega)
  rw [saveX]
  refine h1.write (by omega) ?_
  rw [blk_size]
  omega
theorem saveX_low {X : DF} {n k0 i : Nat} {c : CF} (hi : i < 2) : ∀ j, saveX c n X k0 j i = X i := by
 intro j
 induction j with
 | zero => rfl
 | succ j ih => rw [saveX, upd_other _ _ (by omega)]; exact ih
theorem lasts_from {N mask : Nat} {S X : DF} {i : Nat} {s : ByteArray} : ∀ k, k ≤ (dirty N X).length → lasts mask X (dirty N X) S k i = some s → S i = some s ∨ X i = some s := by
 intro k
 induction k with
 | zero => intro _ h; exact .inl h
 | succ k ih =>
  intro hk h
  obtain ⟨_, h2, t, h3⟩ := dirty_at (N := N) (X := X) (k := k) (by omega)
  rw [lasts] at h
  split at h
  ·by_cases e : i = (dirty N X).getD k 0
   ·subst e
    rw [upd_same, h3] at h
    injection h with h
    exact .inr (by rw [h3, ← h]; rfl)
   ·rw [upd_other _ _ e] at h
    exact ih (by omega) h
  ·exact ih (by omega) h
theorem crashed_from {N mask : Nat} {S X : DF} {i : Nat} {s : ByteArray} (h : crashed N mask S X i = some s) : S i = some s ∨ X i = some s := lasts_from _ (Nat.le_refl _) h
/-- What is taken over fits. -/
structure QFit (K : Nat) (q : Nat × Nat × Nat × Nat) : Prop where
 mks : q.1 ≤ K
 nm : q.2.1 < 4294967296
 tot : q.2.2.1 ≤ 4096
 sf : q.2.2.2 ≤ q.2.2.1
theorem QFit.zero (K : Nat) : QFit K (0, 0, 0, 0) := ⟨Nat.zero_le _, by decide, by decide, by decide⟩
theorem QFit.pick {K : Nat} {q : Nat × Nat × Nat × Nat} (h : QFit K q) {s : ByteArray} (hK : K ≤ 1000000) (hs : s = zeros 32 ∨ RecOk K s) : QFit K (pick q (recOf s)) := by
 rcases hs with rfl | ⟨m, nm, t, f, h1, h2, h3, h4, h5, rfl⟩
 ·rw [recOf_zeros]; exact h
 ·rw [recOf_rec (by omega) h2 h4 (by omega)]
  unfold Go.Proofs.YtfefpcdgflgaeaaGreatDoor.pick
  simp only
  split
  ·exact ⟨by simp only; omega, h2, h4, h5⟩
  ·exact h
theorem picked_fit {K : Nat} {S : DF} (hK : K ≤ 1000000) (h : ∀ i s, i < 2 → S i = some s → RecOk K s) : QFit K (Rst.picked S) :=
 ((QFit.zero K).pick hK (safe_ok h 0 (by omega))).pick hK (safe_ok h 1 (by omega))
namespace RFit
variable {K : Nat} {r : Rst}
theorem new (hK : K ≤ 1000000) : RFit K Rst.new :=
 ⟨DFit.new (by omega), by decide, by decide, fun _ _ => rfl, fun i h => absurd h (Nat.not_lt_zero _), Nat.le_refl _, Nat.zero_le _, hK, fun _ _ _ h => (by cases h), fun _ _ _ h => (by cases h)⟩
theorem mono (h : RFit K r) {K' : Nat} (hk : K ≤ K') (hK : K' ≤ 1000000) : RFit K' r :=
 ⟨h.d, h.nm, h.tot, h.out, h.sv, h.sf, Nat.le_trans h.mks hk, hK, fun i s a b => (h.rs i s a b).mono hk, fun i s a b => (h.rx i s a b).mono hk⟩
theorem sv_le (h : RFit K r) : r.sv ≤ r.tot := by
 rcases Nat.lt_or_ge r.tot r.sv with q | q
 ·have := h.sv r.tot q
  rw [h.out r.tot (Nat.le_refl _)] at this
  cases this
 ·exact q
theorem sv_offer (h : RFit K r) : r.sv ≤ r.offer := by
 rcases Nat.lt_or_ge r.offer r.sv with q | q
 ·have := h.sv _ q
  rw [show r.offer = offerOf r.came r.tot from rfl, offer_next h.out] at this
  cases this
 ·exact q
theorem takeC (h : RFit K r) {nm T a : Nat} {d : ByteArray} (hn : nm < 4294967296) (hT : T ≤ 4096) (ha : a + d.size ≤ T) (hs : r.tot = 0 ∨ r.tot = T) : RFit K (r.takeC ((nm : Int), (T : Int), (a : Int), d)) := by
 unfold Rst.takeC Rst.named
 simp only [Int.toNat_natCast]
 split
 ·rename_i h0
  refine ⟨h.d, hn, hT, fun i hi => ?_, fun i hi => fill_some (h.sv i hi) _, h.sf, h.mks, h.k, h.rs, h.rx⟩
  show Rst.fill r.came a _ _ i = none
  rw [fill_out _ (by simp only at hi; omega)]
  exact h.out i (by omega)
 ·rename_i h0
  obtain rfl : r.tot = T := by omega
  refine ⟨h.d, h.nm, h.tot, fun i hi => ?_, fun i hi => fill_some (h.sv i hi) _, h.sf, h.mks, h.k, h.rs, h.rx⟩
  show Rst.fill r.came a _ _ i = none
  rw [fill_out _ (by simp only at hi; omega)]
  exact h.out i hi
theorem take (h : RFit K r) (s : ByteArray) : RFit K (r.take s) := by
 unfold Rst.take
 split
 ·rename_i he
  unfold Rst.takeE at he
  split at he
  ·rename_i h1; exact absurd he h1
  ·rename_i h1
   obtain ⟨nm, T, a, d, e, h2, h3, h4, h5, h6⟩ := unchunk_says (s := s) (by simpa using h1)
   rw [e] at he ⊢
   simp only at he
   split at he
   ·cases he
   ·exact h.takeC h2 h4 h5 (by omega)
 ·exact h
theorem saving (h : RFit K r) (j : Nat) (hj : r.sv / 32 + j ≤ (r.offer + 31) / 32 ∨ j = 0) : RFit K { r with X := saveX r.came r.offer r.X (r.sv / 32) j } := by
 have h1 := offer_le r.came r.tot
 have h2 := h.tot
 exact ⟨saveX_fit h.d (by unfold Rst.offer; omega) _ _ _ hj, h.nm, h.tot, h.out, h.sv, h.sf, h.mks, h.k, h.rs, fun i s hi hx => h.rx i s hi ((saveX_low hi _).symm.trans hx)⟩
theorem save (h : RFit K r) : RFit K r.save := by
 have h1 := offer_le r.came r.tot
 have h2 := h.tot
 exact ⟨saveX_fit h.d (by unfold Rst.offer; omega) _ _ _ (by omega), h.nm, h.tot, h.out, fun i hi => offer_some hi, Nat.le_trans h.sf h.sv_offer, h.mks, h.k, h.rs, fun i s hi hx => h.rx i s hi ((saveX_low hi _).symm.trans hx)⟩
theorem rcrash (h : RFit K r) (mask : Nat) : ∀ i s, i < 2 → crashed 140 mask r.S r.X i = some s → RecOk K s := fun i s hi hs => by
 rcases crashed_from hs with hs | hs
 ·exact h.rs i s hi hs
 ·exact h.rx i s hi hs
theorem flush (h : RFit K r) : RFit K r.flush :=
 ⟨h.d.crash, h.nm, h.tot, h.out, h.sv, Nat.le_refl _, h.mks, h.k, h.rcrash _, fun _ _ _ h => (by cases h)⟩
theorem mark (h : RFit K r) (hK : K + 1 ≤ 1000000) : RFit (K + 1) r.mark := by
 unfold Rst.mark
 split
 ·exact h.mono (by omega) hK
 ·rename_i h0
  have h1 := h.tot
  have h2 := h.mks
  have h3 := h.sv_le
  have h4 := h.sf
  refine ⟨h.d.write (by omega) (recS_size (by omega) h1 (by omega)), h.nm, h.tot, h.out, h.sv, h.sf, by simp only; omega, hK, fun i s hi hs => (h.rs i s hi hs).mono (by omega), fun i s hi hs => ?_⟩
  simp only at hs
  by_cases e : i = r.mks % 2
  ·subst e
   rw [upd_same] at hs
   injection hs with hs
   exact ⟨_, _, _, _, by omega, h.nm, by omega, h1, by omega, hs.symm⟩
  ·rw [upd_other _ _ e] at hs
   exact (h.rx i s hi hs).mono (by omega)
theorem of {S : DF} (hd : DFit 140 S (fun _ => none)) (hK : K ≤ 1000000) (h : ∀ i s, i < 2 → S i = some s → RecOk K s) : RFit K (Rst.of S (Rst.picked S)) := by
 have q := picked_fit hK h
 refine ⟨hd, q.nm, q.tot, fun i hi => ?_, fun i hi => ?_, Nat.le_refl _, q.mks, hK, h, fun _ _ _ h => (by cases h)⟩
 ·show Rst.back S _ i = none
  unfold Rst.back
  rw [if_neg (by have := q.sf; simp only [Rst.of] at hi; omega)]
 ·show (Rst.back S _ i).isSome = true
  unfold Rst.back
  rw [if_pos (by simpa [Rst.of] using hi)]
  rfl
theorem crash (h : RFit K r) (mask : Nat) : RFit K (r.crash mask) := RFit.of h.d.crash h.k (h.rcrash mask)
end RFit
end Go.Proofs.YtfefpcdgflgaeaaGreatDoor
end

section
namespace Go.Proofs.YtfefpcdgflgaeaaGreatDoor.Turn
/-- Bit p of the bytes is turned. -/
def step (l : List UInt8) (p : Nat) : List UInt8 := l.set (p / 8) (UInt8.ofNat ((l.getD (p / 8) 0).toNat ^^^ 2 ^ (p % 8)))
theorem step_len (l : List UInt8) (p : Nat) : (step l p).length = l.length := by simp [step]
/-- The first k bits of m turn those from a on. -/
def tos (l : List UInt8) (m a : Nat) : Nat → List UInt8
 | 0 => l
 | k + 1 => if m / 2 ^ k % 2 = 1 then step (tos l m a k) (a + k) else tos l m a k
theorem to_len (l : List UInt8) (m a k : Nat) : (tos l m a k).length = l.length := by
 induction k with
 | zero => rfl
 | succ k ih =>
  simp only [tos]
  split
  ·rw [step_len, ih]
  ·exact ih
theorem to_yes (l : List UInt8) (m a k : Nat) (h : m / 2 ^ k % 2 = 1) : tos l m a (k + 1) = step (tos l m a k) (a + k) := by simp only [tos]; rw [if_pos h]
theorem to_no (l : List UInt8) (m a k : Nat) (h : ¬ m / 2 ^ k % 2 = 1) : tos l m a (k + 1) = tos l m a k := by simp only [tos]; rw [if_neg h]
def turn (l : List UInt8) (m : Nat) : List UInt8 := if l.length < 4 then l else tos l m (m / 4294967296 % (8 * l.length - 31)) 32
/-- Where the rest of the bits is nought nothing turns any more. -/
theorem to_rest (l : List UInt8) (m a k j : Nat) (h : ∀ i, k ≤ i → i < k + j → ¬ m / 2 ^ i % 2 = 1) : tos l m a (k + j) = tos l m a k := by
 induction j with
 | zero => rfl
 | succ j ih =>
  rw [← Nat.add_assoc, to_no _ _ _ _ (h (k + j) (by omega) (by omega))]
  exact ih fun i h1 h2 => h i h1 (by omega)
theorem low_bit (m k : Nat) (hk : k < 32) : m % 4294967296 / 2 ^ k % 2 = m / 2 ^ k % 2 := by
  have e : 4294967296 = 2 ^ k * 2 ^ (32 - k) := by rw [← Nat.pow_add]; have : k + (32 - k) = 32 := by omega
                                                   rw [this]
  rw [e, Nat.mod_mul_right_div_self]
  have h2 : 2 ^ (32 - k) = 2 * 2 ^ (31 - k) := by rw [← Nat.pow_succ']; congr 1; omega
  rw [h2, Nat.mod_mul_right_mod]
theorem to_low_end (l : List UInt8) (m a k : Nat) (hk : k ≤ 32) (h : m % 4294967296 / 2 ^ k = 0) : tos l m a k = tos l m a 32 := by
 have := to_rest l m a k (32 - k) (fun i h1 h2 => by
  rw [← low_bit m i (by omega)]
  have e : m % 4294967296 / 2 ^ i = 0 := by
   have : i = k + (i - k) := by omega
   rw [this, Nat.pow_add, ← Nat.div_div_eq_div_mul, h, Nat.zero_div]
  rw [e]
  omega)
 have e : k + (32 - k) = 32 := by omega
 rw [e] at this
 exact this.symm
theorem low_zero (m : Nat) : m % 4294967296 / 2 ^ 32 = 0 := by
 have e : (2 : Nat) ^ 32 = 4294967296 := by decide
 rw [e]
 omega
end Go.Proofs.YtfefpcdgflgaeaaGreatDoor.Turn
end

section
namespace Go.Proofs.YtfefpcdgflgaeaaGreatDoor
set_option linter.unusedVariables false
set_option linter.unusedSimpArgs false
structure Lst where
 f : Nat
 s : Rst
def lefts (ps : List ByteArray) (z f : Nat) : List ByteArray := ps.drop (min ps.length (f / z))
def numOf (N : Int) : Nat := (N % 18446744073709551616).toNat
def pick1 (ps : List ByteArray) (z f : Nat) (N : Int) : Option ByteArray := if (lefts ps z f).length = 0 then none else some ((lefts ps z f).getD (numOf N % (lefts ps z f).length) (strOf []))
def turnB (t : ByteArray) (m : Nat) : ByteArray := ⟨(Turn.turn t.data.toList m).toArray⟩
def sentT (kd : Int) (t : ByteArray) (m : Nat) : ByteArray := if kd = 5 then turnB t m else t
def preS (s : Rst) (n : Nat) : Rst := if n = 1 then s.save else if n = 2 then s.save.flush.mark else if n = 3 then s.mark else s
def sentE (kd : Int) (s : Rst) (m : Nat) : Option ByteArray → Int
 | none => 0
 | some t => s.takeE (sentT kd t m)
def sentS (kd : Int) (s : Rst) (m : Nat) : Option ByteArray → Rst
 | none => s
 | some t => s.take (sentT kd t m)
def stepE (ps : List ByteArray) (z : Nat) (l : Lst) (kd N : Int) (m : Nat) : Int := if kd = 1 ∨ kd = 5 then sentE kd l.s m (pick1 ps z l.f N) else if kd = 2 ∨ kd = 3 ∨ kd = 4 then 0 else 1
def stepL (ps : List ByteArray) (z : Nat) (l : Lst) (kd N : Int) (m : Nat) : Lst :=
 if kd = 1 ∨ kd = 5 then ⟨l.f, sentS kd l.s m (pick1 ps z l.f N)⟩ else if kd = 2 then ⟨l.f, l.s.save.flush.mark.flush⟩ else if kd = 3 then ⟨l.f, (preS l.s (numOf N % 4)).crash m⟩ else if kd = 4 then ⟨l.s.offer, l.s⟩ else l
def leftN (ps : List ByteArray) (z f : Nat) : Int := (ps.length : Int) - ((f / z : Nat) : Int)
theorem lefts_len (ps : List ByteArray) (z f : Nat) : (lefts ps z f).length = ps.length - min ps.length (f / z) := by unfold lefts; simp
theorem pick1_none {ps : List ByteArray} {z f : Nat} {N : Int} (h : ps.length ≤ f / z) : pick1 ps z f N = none := by
 unfold pick1
 rw [if_pos (by rw [lefts_len]; omega)]
theorem pick1_some {ps : List ByteArray} {z f : Nat} {N : Int} (h : f / z < ps.length) : ∃ t, ps[f / z + numOf N % (ps.length - f / z)]? = some t ∧ pick1 ps z f N = some t := by
 have hl : (lefts ps z f).length = ps.length - f / z := by rw [lefts_len]; omega
 have hm := Nat.mod_lt (numOf N) (show 0 < ps.length - f / z by omega)
 have hi : f / z + numOf N % (ps.length - f / z) < ps.length := by omega
 refine ⟨_, List.getElem?_eq_getElem hi, ?_⟩
 unfold pick1
 rw [if_neg (by omega), hl]
 congr 1
 unfold lefts
 rw [List.getD_eq_getElem?_getD, List.getElem?_drop, Nat.min_eq_right (by omega), List.getElem?_eq_getElem hi]
 rfl
/-- What is sent of a text. -/
def sentOf (s : ByteArray) (z : Int) : List ByteArray := (cutOf s z).1.map fun c => sealOf (chkBytes c)
theorem pieces_mem {s : ByteArray} {z : Nat} : ∀ (k : Nat) (c : Chk), c ∈ pieces s z k → ∃ j, j < k ∧ c = Go.Proofs.YtfefpcdgflgaeaaGreatDoor.piece s z j := by
 intro k
 induction k with
 | zero => intro c h; cases h
 | succ k ih =>
  intro c h
  simp only [pieces, List.mem_append, List.mem_singleton] at h
  rcases h with h | h
  ·obtain ⟨j, h1, h2⟩ := ih c h
   exact ⟨j, by omega, h2⟩
  ·exact ⟨k, by omega, h⟩
theorem cut_right {s : ByteArray} {z : Int} (h : (cutOf s z).2 = 0) : ∀ c ∈ (cutOf s z).1, chkRight c.2.1 c.2.2.1 c.2.2.2.size = 0 ∧ 0 ≤ c.1 ∧ c.1 < 4294967296 := by
 by_cases h0 : s.size = 0 ∨ 4096 < s.size
 ·rw [cut_limit h0] at h; simp at h
 by_cases h1 : z < 1 ∨ 256 < z
 ·rw [cut_range h0 h1] at h; simp at h
 obtain ⟨n, rfl⟩ := Int.eq_ofNat_of_zero_le (show 0 ≤ z by omega)
 rw [cut_good h0 h1]
 intro c hc
 obtain ⟨j, hj, rfl⟩ := pieces_mem _ _ hc
 have hn : 0 < n := by omega
 have hjn : j * n < s.size := by
  unfold howMany at hj
  have h2 := Nat.le_div_iff_mul_le hn |>.1 (Nat.succ_le_of_lt hj)
  rw [Nat.succ_mul] at h2
  omega
 have hcr := crcOf_lt s
 refine ⟨?_, by simp only [Go.Proofs.YtfefpcdgflgaeaaGreatDoor.piece]; omega, by simp only [Go.Proofs.YtfefpcdgflgaeaaGreatDoor.piece]; omega⟩
 simp only [Go.Proofs.YtfefpcdgflgaeaaGreatDoor.piece]
 unfold chkRight
 rw [ByteArray.size_extract, if_neg (by omega), if_neg (by omega), if_neg (by omega)]
theorem sent_size {s : ByteArray} {z : Int} (h : (cutOf s z).2 = 0) : ∀ t ∈ sentOf s z, 4 ≤ t.size ∧ t.size ≤ 300 := by
 intro t ht
 unfold sentOf at ht
 obtain ⟨c, hc, rfl⟩ := List.mem_map.1 ht
 obtain ⟨h1, _⟩ := cut_right h c hc
 have h2 := chkRight_ok' h1
 rw [sealOf_size]
 unfold chkBytes
 simp only [ByteArray.size_append, strOf_len, lowB_len, List.length_cons, List.length_nil]
 have h3 := vput_le2 (n := c.2.1.toNat) (by omega)
 have h4 := vput_le2 (n := c.2.2.1.toNat) (by omega)
 omega
theorem cut_some {s : ByteArray} {z : Int} (h : (cutOf s z).2 = 0) : 0 < (cutOf s z).1.length ∧ (cutOf s z).1.length ≤ 4096 ∧ 1 ≤ z ∧ z ≤ 256 := by
 by_cases h0 : s.size = 0 ∨ 4096 < s.size
 ·rw [cut_limit h0] at h; simp at h
 by_cases h1 : z < 1 ∨ 256 < z
 ·rw [cut_range h0 h1] at h; simp at h
 obtain ⟨n, rfl⟩ := Int.eq_ofNat_of_zero_le (show 0 ≤ z by omega)
 rw [cut_good h0 h1]
 have hn : 0 < n := by omega
 have := howMany_le (s := s) hn
 simp only [pieces_len]
 refine ⟨?_, by omega, by omega, by omega⟩
 unfold howMany
 exact Nat.div_pos (by omega) hn
end Go.Proofs.YtfefpcdgflgaeaaGreatDoor
end

section
namespace Go.Proofs.YtfefpcdgflgaeaaGreatDoor
open Go Go.RowKit
theorem step_append_own {P : Program} {ops : Array Oper} {o : Oper} {a : Act} {w : World} {K : Act → World → Prop} {Q : Exit → Act → World → Prop} {E : Prop}
  (hg : o.guard = none) (s x : Operand) (t : TypeId) (ho : o.op = Op.call { callee := Callee.builtin Builtin.append, args := #[s, x], argTypes := #[t, t] })
  (base : Nat) (e : TypeId) (i : TypeInfo) (z : Value) (size bytes : Nat) (ht : P.underlying t = some (.slice e)) (hi : P.info? e = some i) (hz : i.zero = some z)
  (hsize : i.size = size) (hby : i.bytes = bytes) (hzs : z.cells.size = size) (hsz : 0 < size)
  (v : Value) (n : Nat) (xs : List Value) (hs : a.eval s = v) (hown : w.ownsRow base e size v n xs)
  (ad : Addr) (m c : Nat) (news : List Value) (hx : a.eval x = .slice (some ad) m c) (hl : news.length = m * size) (hnews : ∀ j u, news[j]? = some u → w.cell? (ad.add j) = some u) (h1 : ∀ u ∈ news, u.oneCell' = true)
  (h63 : n + m ≤ maxLen) (hbytes : (n + m) * bytes ≤ 140737488355328) (hbase : base ≤ w.heap.size)
  (h : ∀ v' w', w'.ownsRow base e size v' (n + m) (xs ++ news) → w.grownBy w' v.ownBlock → K (a.put o.dst v') w') :
  if Region.wanted o (yielded ops a.tmps) = true then Oper.wp P o a w K Q else E := by
 rw [if_pos (by simp [Region.wanted, hg])]
 exact wp_append_own w s x t ho base e i z size bytes ht hi hz hsize hby hzs hsz v n xs hs hown ad m c news hx hl hnews h1 h63 hbytes hbase fun v' w' h2 h3 _ => h v' w' h2 h3
theorem own_set {w : World} {base : Nat} {e : TypeId} {size n : Nat} {v : Value} {xs : List Value} {s j : Nat} (x : Value) (h : w.ownsRow base e size v n xs) (hs : s < base) : (w.setCell ⟨s, j, none⟩ x).ownsRow base e size v n xs := by
 refine h.kept (row := some s) ⟨rfl, rfl, rfl, by simp, fun k _ hk => heap_setCell_other w ⟨s, j, none⟩ k x (fun e => hk (by simp [e]))⟩ ?_
 cases hv : v.ownBlock with
 | none => exact .inl rfl
 | some k =>
  have := (h.lt k hv).1
  exact .inr (by simp; omega)
end Go.Proofs.YtfefpcdgflgaeaaGreatDoor
end

section
namespace Go.Proofs.YtfefpcdgflgaeaaGreatDoor
set_option linter.unusedSimpArgs false
set_option linter.unusedVariables false
open Go.RowKit
/-- All blocks but those of S stand. -/
structure Turned (S : Nat → Prop) (w w' : World) : Prop where
 os : w'.os = w.os
 tape : w'.tape = w.tape
 output : w'.output = w.output
 size : w.heap.size ≤ w'.heap.size
 block : ∀ k, k < w.heap.size → ¬ S k → w'.heap[k]? = w.heap[k]?
section
variable {S S' : Nat → Prop} {w w' w'' : World} {b B : Nat}
theorem Turned.refl (S : Nat → Prop) (w : World) : Turned S w w := ⟨rfl, rfl, rfl, Nat.le_refl _, fun _ _ _ => rfl⟩
theorem Turned.trans (h : Turned S w w') (k : Turned S w' w'') : Turned S w w'' :=
 ⟨k.os.trans h.os, k.tape.trans h.tape, k.output.trans h.output, Nat.le_trans h.size k.size, fun i hi hn => (k.block i (Nat.lt_of_lt_of_le hi h.size) hn).trans (h.block i hi hn)⟩
theorem Turned.mono (h : Turned S w w') (hs : ∀ i, S i → S' i) : Turned S' w w' := ⟨h.os, h.tape, h.output, h.size, fun i hi hn => h.block i hi (fun q => hn (hs i q))⟩
/-- New blocks may turn as they like. -/
theorem Turned.then (h : Turned S w w') (k : Turned S' w' w'') (hs : ∀ i, S' i → S i ∨ w.heap.size ≤ i) : Turned S w w'' :=
 ⟨k.os.trans h.os, k.tape.trans h.tape, k.output.trans h.output, Nat.le_trans h.size k.size, fun i hi hn => (k.block i (Nat.lt_of_lt_of_le hi h.size) (fun q => by rcases hs i q with q | q; exact hn q; omega)).trans (h.block i hi hn)⟩
theorem Turned.of_below (h : Below w.heap.size w w') : Turned S w w' := ⟨h.os, h.tape, h.output, h.size, fun i hi _ => h.block i hi⟩
theorem Turned.of_grown (h : w.grownBy w' (some b)) (hb : S b) : Turned S w w' := ⟨h.os, h.tape, h.output, h.size, fun i hi hn => h.block i hi (fun e => hn (by injection e with e; rw [e]; exact hb))⟩
theorem Turned.below (h : Turned S w w') (hS : ∀ i, S i → B ≤ i) (hB : B ≤ w.heap.size) : Below B w w' := ⟨h.os, h.tape, h.output, h.size, fun i hi => h.block i (Nat.lt_of_lt_of_le hi hB) (fun q => by have := hS i q; omega)⟩
theorem Turned.cell (h : Turned S w w') {a : Addr} {v : Value} (hc : w.cell? a = some v) (hn : ¬ S a.block) : w'.cell? a = some v := by
 rw [World.cell?_of_block (h.block a.block (cell_lt hc) hn)]; exact hc
theorem Turned.frozen (h : Turned S w w') {a : Addr} (hl : a.block < w.heap.size) (hn : ¬ S a.block) : w'.frozen? a = w.frozen? a := World.frozen?_of_block (h.block a.block hl hn)
theorem Turned.own (h : Turned S w w') {base : Nat} {e : TypeId} {size n : Nat} {v : Value} {xs : List Value} (ho : w.ownsRow base e size v n xs) (hn : ∀ k, v.ownBlock = some k → ¬ S k) : w'.ownsRow base e size v n xs := by
 refine ⟨ho.1, ?_⟩
 rcases ho.2 with hn' | ⟨g, cap, cur, rfl, hb, hgg, rest⟩
 ·exact .inl hn'
 ·refine .inr ⟨g, cap, cur, rfl, hb, ?_, rest⟩
  rw [h.block g (Array.getElem?_eq_some_iff.1 hgg).1 (hn g rfl)]
  exact hgg
theorem Turned.im (h : Turned S w w') {n : Nat} {f : Nat → Option ByteArray} (hi : IM w b n f) (hn : ¬ S b) : IM w' b n f := by
 obtain ⟨D, ⟨es, clock, hb, F, hs, hD⟩, hd⟩ := hi
 exact ⟨D, ⟨es, clock, (h.block b (Array.getElem?_eq_some_iff.1 hb).1 hn).trans hb, F, hs, hD⟩, hd⟩
theorem Turned.set (w : World) (i : Nat) (v : Value) (hb : S b) : Turned S w (w.setCell ⟨b, i, none⟩ v) :=
 ⟨rfl, rfl, rfl, by simp, fun k hk hn => Below.heap_setCell _ _ _ _ (fun e => hn (by rw [e]; exact hb))⟩
end
end Go.Proofs.YtfefpcdgflgaeaaGreatDoor
end

section
namespace Go.Proofs.YtfefpcdgflgaeaaGreatDoor
set_option linter.unusedVariables false
open Go.RowKit
/-- Only the blocks of F turn; F' are some of these, and new ones. -/
structure Moves (F F' : Nat → Prop) (w w' : World) : Prop where
 t : Turned F w w'
 g : ∀ i, F' i → F i ∨ w.heap.size ≤ i
section
variable {F F' F'' G : Nat → Prop} {w w' w'' : World} {B : Nat}
theorem Moves.refl (F : Nat → Prop) (w : World) : Moves F F w w := ⟨.refl _ _, fun _ h => .inl h⟩
theorem Moves.trans (h : Moves F F' w w') (k : Moves F' F'' w' w'') : Moves F F'' w w'' :=
 ⟨h.t.then k.t h.g, fun i hi => by
  rcases k.g i hi with q | q
  ·exact h.g i q
  ·exact .inr (Nat.le_trans h.t.size q)⟩
theorem Moves.of_below (h : Below w.heap.size w w') : Moves F F w w' := ⟨.of_below h, fun _ h => .inl h⟩
theorem Moves.of_turned (h : Turned G w w') (hs : ∀ i, G i → F i) : Moves F F w w' := ⟨h.mono hs, fun _ h => .inl h⟩
theorem Moves.set (w : World) (b i : Nat) (v : Value) (hb : F b) : Moves F F w (w.setCell ⟨b, i, none⟩ v) := ⟨.set w i v hb, fun _ h => .inl h⟩
theorem Moves.size (h : Moves F F' w w') : w.heap.size ≤ w'.heap.size := h.t.size
/-- What lies from B on, and is there. -/
def Within (F : Nat → Prop) (B : Nat) (w : World) : Prop := ∀ i, F i → B ≤ i ∧ i < w.heap.size
def Apart (F G : Nat → Prop) : Prop := ∀ i, F i → ¬ G i
theorem Within.grow (h : Within F B w) (hs : w.heap.size ≤ w'.heap.size) : Within F B w' := fun i hi => ⟨(h i hi).1, Nat.lt_of_lt_of_le (h i hi).2 hs⟩
theorem Within.moved (h : Within F B w) (hm : Moves F F' w w') (hB : B ≤ w.heap.size) (hl : ∀ i, F' i → i < w'.heap.size) : Within F' B w' := fun i hi => ⟨by
 rcases hm.g i hi with q | q
 ·exact (h i q).1
 ·omega, hl i hi⟩
theorem Apart.moved (h : Apart F G) (hm : Moves F F' w w') (hl : ∀ i, G i → i < w.heap.size) : Apart F' G := fun i hi hg => by
 rcases hm.g i hi with q | q
 ·exact h i q hg
 ·have := hl i hg; omega
theorem Apart.symm (h : Apart F G) : Apart G F := fun i hg hf => h i hf hg
theorem Moves.below (h : Moves F F' w w') (hw : Within F B w) (hB : B ≤ w.heap.size) : Below B w w' := h.t.below (fun i hi => (hw i hi).1) hB
theorem Turned.apart (h : Turned F w w') (ha : Apart F G) {i : Nat} (hg : G i) : ¬ F i := fun hf => ha i hf hg
end
end Go.Proofs.YtfefpcdgflgaeaaGreatDoor
end
