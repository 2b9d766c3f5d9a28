/- Batches in memory. Any program. -/
import Derived.Test.YtglemfdnfaemiaaDoorEqualS
namespace Go.Proofs.YtglemfdnfaemiaaDoor
open Go.RowKit
/-- A batch in an argument: three slices. -/
structure BatArg where
  A : Option Addr
  n : Nat
  c : Nat
  A' : Option Addr
  n' : Nat
  c' : Nat
  A'' : Option Addr
  n'' : Nat
  c'' : Nat
  f : List Ent
  h : List Ent
  l : List Wr
def BatArg.v (b : BatArg) : Value := .agg #[.slice b.A b.n b.c, .slice b.A' b.n' b.c', .slice b.A'' b.n'' b.c'']
structure Bat (w : World) (b : BatArg) : Prop where
  f : Sl w w.heap.size 2 b.A b.n (b.f.flatMap entCells)
  h : Sl w w.heap.size 2 b.A' b.n' (b.h.flatMap entCells)
  l : Sl w w.heap.size 6 b.A'' b.n'' (b.l.flatMap wrCells)
  nf : b.n ≤ maxLen
  nh : b.n' ≤ maxLen
  nl : b.n'' ≤ maxLen
theorem Bat.grow {w w' : World} {b : BatArg} (h : Bat w b) (hb : Below w.heap.size w w') : Bat w' b := ⟨h.f.grow hb, h.h.grow hb, h.l.grow hb, h.nf, h.nh, h.nl⟩
end Go.Proofs.YtglemfdnfaemiaaDoor
