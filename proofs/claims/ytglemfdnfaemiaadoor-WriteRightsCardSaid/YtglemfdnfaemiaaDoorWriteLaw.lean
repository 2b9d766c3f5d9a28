/- What is wrong with a write, its tail as bytes, and a write out of bytes, in plain Lean. No program in sight. -/
import Derived.Test.YtglemfdnfaemiaaDoorSpanLaw
import Derived.Test.YtglemfdnfaemiaaDoorIdents
namespace Go.Proofs.YtglemfdnfaemiaaDoor
/-- What is wrong with a write: time, replica, kind, key, value, number. -/
def wright (w : Wr) : Int :=
  if w.2.2.1 < 1 ∨ 4 < w.2.2.1 then 1
  else if idRight (w.1, w.2.1) = false then 2
  else if 40 < w.2.2.2.1.size ∨ 300 < w.2.2.2.2.1.size then 4
  else if (w.2.2.1 ≠ 1 ∧ w.2.2.1 ≠ 4 ∧ w.2.2.2.2.1.size ≠ 0) ∨ (w.2.2.1 ≠ 3 ∧ w.2.2.1 ≠ 4 ∧ w.2.2.2.2.2 ≠ 0) then 3
  else if w.2.2.1 = 3 ∧ (w.2.2.2.2.2 < -1125899906842624 ∨ 1125899906842624 < w.2.2.2.2.2) ∨ w.2.2.1 = 4 ∧ (w.2.2.2.2.2 < 0 ∨ 1000 < w.2.2.2.2.2) then 2 else 0
def zigN (n : Int) : Nat := (if n < 0 then 2 * -(n + 1) + 1 else 2 * n).toNat
def zagN (n : Nat) : Int := if n % 2 = 1 then -((n / 2 : Nat) : Int) - 1 else ((n / 2 : Nat) : Int)
/-- A write's tail, if it is right. -/
def wtailOf (w : Wr) : ByteArray :=
  if w.2.2.1 = 1 then strOf (vput w.2.2.2.2.1.size) ++ w.2.2.2.2.1
  else if w.2.2.1 = 3 then strOf (vput (zigN w.2.2.2.2.2))
  else if w.2.2.1 = 4 then strOf (vput w.2.2.2.2.2.toNat) ++ (strOf (vput w.2.2.2.2.1.size) ++ w.2.2.2.2.1)
  else strOf []
def wtail (w : Wr) : ByteArray × Int := if wright w ≠ 0 then (strOf [], wright w) else (wtailOf w, 0)
def noWr : Wr := (0, 0, 0, strOf [], strOf [], 0)
def wend (w : Wr) (k : Nat) : Wr × Nat × Int := if wright w ≠ 0 then (noWr, 0, wright w) else (w, k, 0)
/-- A write with what bytes begin with. -/
def wfill (w : Wr) (s : ByteArray) : Wr × Nat × Int :=
  if w.2.2.1 = 1 then
    if (unspan s).2.2 ≠ 0 then (noWr, 0, (unspan s).2.2) else wend (w.1, w.2.1, w.2.2.1, w.2.2.2.1, (unspan s).1, 0) (unspan s).2.1
  else if w.2.2.1 = 3 then
    if (vget s.data.toList).2.2 ≠ 0 then (noWr, 0, (vget s.data.toList).2.2) else wend (w.1, w.2.1, w.2.2.1, w.2.2.2.1, strOf [], zagN (vget s.data.toList).1) (vget s.data.toList).2.1
  else if w.2.2.1 = 4 then
    if (vint s.data.toList 1000).2.2 ≠ 0 then (noWr, 0, (vint s.data.toList 1000).2.2)
    else if (unspan (s.extract (vint s.data.toList 1000).2.1 s.size)).2.2 ≠ 0 then (noWr, 0, (unspan (s.extract (vint s.data.toList 1000).2.1 s.size)).2.2)
    else wend (w.1, w.2.1, w.2.2.1, w.2.2.2.1, (unspan (s.extract (vint s.data.toList 1000).2.1 s.size)).1, ((vint s.data.toList 1000).1 : Int)) ((vint s.data.toList 1000).2.1 + (unspan (s.extract (vint s.data.toList 1000).2.1 s.size)).2.1)
  else wend (w.1, w.2.1, w.2.2.1, w.2.2.2.1, strOf [], 0) 0
end Go.Proofs.YtglemfdnfaemiaaDoor
