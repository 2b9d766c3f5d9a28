/- The Go function Tokens of package match computes what the plain function tokens says. -/
import Derived.Test.YtnaclpfcldoebaaDoorTokLaw
import Derived.Test.YtnaclpfcldoebaaDoorMatchRef
import Derived.Test.YtnaclpfcldoebaaDoorBytes
import Derived.OwnWalk
import Derived.Maps.AppendAt
import Derived.KernelRfl
import Derived.Deep.DeepCutAuto
import Derived.Deep.Cut
import Derived.Deep.CutBlock
namespace Go.Proofs.YtnaclpfcldoebaaDoor.Tokens
open Go.RowKit Match
theorem tokInfo : (Tryd.prog.info? 48).map (fun i => (i.zero, i.size, i.bytes)) = some (some (.agg #[.string ⟨#[]⟩, .int .i64 0, .int .i64 0]), 3, 32) := by kernel_rfl
theorem cells_new (w : World) (c : Array Value) (t : TypeId) : ∀ j u, c.toList[j]? = some u → (w.alloc (.cells c t)).cell? ((⟨w.heap.size, 0, none⟩ : Addr).add j) = some u := by
  intro j u hu
  have hadd : (⟨w.heap.size, 0, none⟩ : Addr).add j = ⟨w.heap.size, j, none⟩ := by unfold Addr.add; split <;> simp_all
  rw [hadd, World.cell?_alloc_new]
  simpa using hu
theorem emptyB : (ByteArray.empty) = ⟨#[]⟩ := rfl
theorem cast_sum (p n : Nat) : (p : Int) + (n : Int) = ((p + n : Nat) : Int) := by omega
theorem rel_next {s : ByteArray} {k p o n : Nat} {done D : List Tok} (hX : ⟨p, o, done⟩ = st s k) (hS : step s ⟨p, o, done⟩ = ⟨p + n, p + n, D⟩) : (⟨p + n, p + n, D⟩ : St) = st s (k + 1) := by rw [st_succ, ← hX, hS]
abbrev tokV (l : List Tok) : List Value := l.flatMap tokCells
end Go.Proofs.YtnaclpfcldoebaaDoor.Tokens
