/- A slice of bytes of the call's own, that grows: its cells, and the string that it turns into. Any program. -/
import Derived.Test.YtnaclpfcldoebaaDoorBytes
import Derived.OwnWalk
import Derived.Maps.AppendAt
import Derived.KernelRfl
import Derived.Laws.OwnMore
namespace Go.Proofs.YtnaclpfcldoebaaDoor
open Go.RowKit
abbrev byteV (b : UInt8) : Value := .int .u8 (b.toNat : Int)
abbrev bytesV (l : List UInt8) : List Value := l.map byteV
theorem byteV_of {n : Int} {b : UInt8} (h : n = (b.toNat : Int)) : Value.int .u8 n = byteV b := by rw [h]
theorem string_own {P : Program} {w : World} {base : Nat} {E : TypeId} {A : Option Addr} {n c : Nat} {l : List UInt8} (src e dst : TypeId) (hs : P.underlying src = some (.slice e)) (he : P.underlying e = some (.int .u8)) (hd : P.underlying dst = some .string)
    (h : w.ownsRow base E 1 (.slice A n c) n (bytesV l)) (hl : l.length = n) (hn : 0 < n) : (convert src dst (.slice A n c)).run P w = .ok (.string ⟨l.toArray⟩) w := by
  rcases h.2 with ⟨_, h0⟩ | ⟨g, cap, cur, hv, _, hh, _⟩
  · omega
  · have hA : A = some ⟨g, 0, none⟩ := by injection hv
    subst hA
    subst hl
    refine string_of w src e dst g c l hs he hd fun i hi => ⟨?_, h.frozenAt i⟩
    rw [h.cellAt i (by omega), List.getElem?_map, List.getElem?_eq_getElem hi, getD_at l 0 i hi]
    rfl
end Go.Proofs.YtnaclpfcldoebaaDoor
