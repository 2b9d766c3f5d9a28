/- Tokens as bytes, and tokens out of bytes, in plain Lean. No program in sight. -/
import Derived.Test.YtglemfdnfaemiaaDoorTextLaw
import Derived.Test.YtglemfdnfaemiaaDoorSpansLaw
namespace Go.Proofs.YtglemfdnfaemiaaDoor
def tbytes (t : Tok) : List UInt8 := if t.1.size ≠ 0 then vput (2 * t.1.size) ++ t.1.data.toList else vput (2 * (t.2.2 - 4).toNat + 1) ++ vput (t.2.1 - 1).toNat
def twrite (l : List Tok) : ByteArray × Int × Int := if (tright l).1 ≠ 0 then (strOf [], tright l) else (strOf (l.flatMap tbytes), 0, -1)
abbrev TR := List Tok × Int × Int
/-- The number at byte p. -/
def gat (s : ByteArray) (p : Nat) : Nat × Nat × Int := vget (s.extract p s.size).data.toList
def iat (s : ByteArray) (p : Nat) (most : Int) : Nat × Nat × Int := vint (s.extract p s.size).data.toList most
def tend (out : List Tok) (starts : List Nat) : TR := if (tright out).1 ≠ 0 then ([], (tright out).1, ((starts.getD (tright out).2.toNat 0 : Nat) : Int)) else (out, 0, -1)
/-- What comes from byte p on: f times at most. -/
def trgo' (s : ByteArray) : Nat → Nat → List Tok → List Nat → TR
  | 0, _, out, starts => tend out starts
  | f + 1, p, out, starts =>
    if s.size ≤ p then tend out starts
    else if (gat s p).2.2 ≠ 0 then ([], (gat s p).2.2, (p : Int))
    else if (gat s p).1 % 2 = 0 then
      if (gat s p).1 = 0 then ([], 3, (p : Int))
      else if s.size < p + (gat s p).2.1 + (gat s p).1 / 2 then ([], 7, (s.size : Int))
      else trgo' s f (p + (gat s p).2.1 + (gat s p).1 / 2) (out ++ [(s.extract (p + (gat s p).2.1) (p + (gat s p).2.1 + (gat s p).1 / 2), 0, 0)]) (starts ++ [p])
    else if 63 < (gat s p).1 / 2 then ([], 2, (p : Int))
    else if (iat s (p + (gat s p).2.1) 1023).2.2 ≠ 0 then ([], (iat s (p + (gat s p).2.1) 1023).2.2, ((p + (gat s p).2.1 : Nat) : Int))
    else trgo' s f (p + (gat s p).2.1 + (iat s (p + (gat s p).2.1) 1023).2.1) (out ++ [(strOf [], ((iat s (p + (gat s p).2.1) 1023).1 : Int) + 1, (((gat s p).1 / 2 : Nat) : Int) + 4)]) (starts ++ [p])
def tread (s : ByteArray) : TR := trgo' s (s.size + 1) 0 [] []
def swell (s : ByteArray) : ByteArray × Int × Int := if (tread s).2.1 ≠ 0 then (strOf [], (tread s).2.1, (tread s).2.2) else (strOf (ttext (tread s).1), 0, -1)
theorem gat_says (s : ByteArray) (p : Nat) : ((gat s p).2.2 = 0 ∧ (gat s p).1 < 18446744073709551616 ∧ 0 < (gat s p).2.1 ∧ (gat s p).2.1 ≤ 10 ∧ p + (gat s p).2.1 ≤ s.size) ∨ ∃ e : Int, gat s p = (0, 0, e) ∧ (e = 3 ∨ e = 4 ∨ e = 7) := by
  unfold gat
  have e : (s.extract p s.size).data.toList.length = s.size - p := by
    simp
  rcases vget_says (s.extract p s.size).data.toList with ⟨h0, h1, h2, h3, h4⟩ | h | h | h
  · exact .inl ⟨h0, h1, h2, h3, by omega⟩
  · exact .inr ⟨3, h, by omega⟩
  · exact .inr ⟨4, h, by omega⟩
  · exact .inr ⟨7, h, by omega⟩
end Go.Proofs.YtglemfdnfaemiaaDoor
