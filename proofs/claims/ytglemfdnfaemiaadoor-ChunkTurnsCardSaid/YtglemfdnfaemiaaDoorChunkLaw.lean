/- A piece as bytes, and the piece that bytes are, in plain Lean. No program in sight. -/
import Derived.Test.YtglemfdnfaemiaaDoorEqualC
import Derived.Test.YtglemfdnfaemiaaDoorCutLaw
import Derived.Test.YtglemfdnfaemiaaDoorVecReadLaw
import Derived.Laws.BitsAllLaws
namespace Go.Proofs.YtglemfdnfaemiaaDoor
/-- What is wrong with a piece: of Total, of At, of how many bytes. -/
def chkRight (t a : Int) (n : Nat) : Int := if t < 1 ∨ 4096 < t ∨ a < 0 ∨ t < a then 2 else if n = 0 ∨ 256 < n then 4 else if t - a < (n : Int) then 2 else 0
theorem chkRight_ok {t a : Int} {n : Nat} (h : chkRight t a n = 0) : 1 ≤ t ∧ t ≤ 4096 ∧ 0 ≤ a ∧ a ≤ t ∧ n ≤ 256 := by
  unfold chkRight at h
  split at h
  · omega
  · split at h
    · omega
    · split at h <;> omega
def chkBytes (x : Chk) : ByteArray := strOf [67] ++ four x.1.toNat ++ strOf (vput x.2.1.toNat) ++ strOf (vput x.2.2.1.toNat) ++ x.2.2.2
/-- A piece as bytes; what is wrong. -/
def chkOf (x : Chk) : ByteArray × Int := if chkRight x.2.1 x.2.2.1 x.2.2.2.size ≠ 0 then (strOf [], chkRight x.2.1 x.2.2.1 x.2.2.2.size) else (sealOf (chkBytes x), 0)
theorem chkOf_two (x : Chk) : (chkOf x).2 = chkRight x.2.1 x.2.2.1 x.2.2.2.size := by
  unfold chkOf
  split
  · rfl
  · simp only; omega
theorem chkOf_bad {x : Chk} (h : chkRight x.2.1 x.2.2.1 x.2.2.2.size ≠ 0) : (chkOf x).1 = strOf [] := by unfold chkOf; rw [if_pos h]
theorem chkOf_good {x : Chk} (h : chkRight x.2.1 x.2.2.1 x.2.2.2.size = 0) : (chkOf x).1 = sealOf (chkBytes x) := by unfold chkOf; rw [if_neg (by omega)]
/-- Byte k. -/
def byteAt (t : ByteArray) (k : Nat) : Nat := (t.data.toList.getD k 0).toNat
theorem byteAt_eq (t : ByteArray) (k : Nat) (h : k < t.size) : byteAt t k = (t[k]).toNat := by
  unfold byteAt
  have hl : k < t.data.toList.length := by simpa using h
  simp [List.getD, List.getElem?_eq_getElem hl]
  rfl
theorem byteAt_lt (t : ByteArray) (k : Nat) : byteAt t k < 256 := UInt8.toNat_lt _
def nameOf (t : ByteArray) : Nat := byteAt t 1 + 256 * (byteAt t 2 + 256 * (byteAt t 3 + 256 * byteAt t 4))
theorem name_or {a b c d : Nat} (ha : a < 256) (hb : b < 256) (hc : c < 256) (hd : d < 256) :
    bits BinOp.or IntKind.u32 (bits BinOp.or IntKind.u32 (bits BinOp.or IntKind.u32 (a : Int) ((b * 256 : Nat) : Int)) ((c * 65536 : Nat) : Int)) ((d * 16777216 : Nat) : Int) = ((a + 256 * (b + 256 * (c + 256 * d)) : Nat) : Int) := by
  rw [u32_or_nat _ _ (by omega) (by omega), Nat.or_comm, nat_join 8 (b * 256) a (by omega) (by omega),
    u32_or_nat _ _ (by omega) (by omega), Nat.or_comm, nat_join 16 (c * 65536) _ (by omega) (by omega),
    u32_or_nat _ _ (by omega) (by omega), Nat.or_comm, nat_join 24 (d * 16777216) _ (by omega) (by omega)]
  omega
def chk0 : Chk := (0, 0, 0, strOf [])
/-- The piece that bytes are without their sum. -/
def uncut (t : ByteArray) : Chk × Int :=
  if t.size = 0 ∨ byteAt t 0 ≠ 67 then (chk0, 5) else if t.size < 5 then (chk0, 7)
  else if (vat t 5 4096).2.2 ≠ 0 then (chk0, (vat t 5 4096).2.2)
  else if (vat t (5 + (vat t 5 4096).2.1) 4096).2.2 ≠ 0 then (chk0, (vat t (5 + (vat t 5 4096).2.1) 4096).2.2)
  else if chkRight (vat t 5 4096).1 (vat t (5 + (vat t 5 4096).2.1) 4096).1 (t.size - (5 + (vat t 5 4096).2.1 + (vat t (5 + (vat t 5 4096).2.1) 4096).2.1)) ≠ 0 then (chk0, chkRight (vat t 5 4096).1 (vat t (5 + (vat t 5 4096).2.1) 4096).1 (t.size - (5 + (vat t 5 4096).2.1 + (vat t (5 + (vat t 5 4096).2.1) 4096).2.1)))
  else (((nameOf t : Int), ((vat t 5 4096).1 : Int), ((vat t (5 + (vat t 5 4096).2.1) 4096).1 : Int), t.extract (5 + (vat t 5 4096).2.1 + (vat t (5 + (vat t 5 4096).2.1) 4096).2.1) t.size), 0)
theorem uncut_name {t : ByteArray} (h : t.size = 0 ∨ byteAt t 0 ≠ 67) : uncut t = (chk0, 5) := by unfold uncut; rw [if_pos h]
theorem uncut_short {t : ByteArray} (h : ¬ (t.size = 0 ∨ byteAt t 0 ≠ 67)) (h1 : t.size < 5) : uncut t = (chk0, 7) := by unfold uncut; rw [if_neg h, if_pos h1]
theorem uncut_one {t : ByteArray} {n k : Nat} {e : Int} (h : ¬ (t.size = 0 ∨ byteAt t 0 ≠ 67)) (h1 : ¬ t.size < 5) (h2 : vat t 5 4096 = (n, k, e)) (he : e ≠ 0) : uncut t = (chk0, e) := by
  unfold uncut; rw [if_neg h, if_neg h1, h2, if_pos he]
theorem uncut_two {t : ByteArray} {n k m j : Nat} {e : Int} (h : ¬ (t.size = 0 ∨ byteAt t 0 ≠ 67)) (h1 : ¬ t.size < 5) (h2 : vat t 5 4096 = (n, k, 0)) (h3 : vat t (5 + k) 4096 = (m, j, e)) (he : e ≠ 0) : uncut t = (chk0, e) := by
  unfold uncut; rw [if_neg h, if_neg h1, h2, if_neg (by simp), h3, if_pos he]
theorem uncut_bad {t : ByteArray} {n k m j : Nat} (h : ¬ (t.size = 0 ∨ byteAt t 0 ≠ 67)) (h1 : ¬ t.size < 5) (h2 : vat t 5 4096 = (n, k, 0)) (h3 : vat t (5 + k) 4096 = (m, j, 0)) (he : chkRight n m (t.size - (5 + k + j)) ≠ 0) : uncut t = (chk0, chkRight n m (t.size - (5 + k + j))) := by
  unfold uncut; rw [if_neg h, if_neg h1, h2, if_neg (by simp), h3, if_neg (by simp), if_pos he]
theorem uncut_good {t : ByteArray} {n k m j : Nat} (h : ¬ (t.size = 0 ∨ byteAt t 0 ≠ 67)) (h1 : ¬ t.size < 5) (h2 : vat t 5 4096 = (n, k, 0)) (h3 : vat t (5 + k) 4096 = (m, j, 0)) (he : chkRight n m (t.size - (5 + k + j)) = 0) : uncut t = (((nameOf t : Int), (n : Int), (m : Int), t.extract (5 + k + j) t.size), 0) := by
  unfold uncut; rw [if_neg h, if_neg h1, h2, if_neg (by simp), h3, if_neg (by simp), if_neg (by simpa using he)]
/-- The piece that bytes are; what is wrong. -/
def unchunk (s : ByteArray) : Chk × Int := if (openOf s).2 ≠ 0 then (chk0, (openOf s).2) else uncut (openOf s).1
end Go.Proofs.YtglemfdnfaemiaaDoor
