/- Regions that draw their order, whose operations only read what was there and whose callees may make new memory but hand back values that do not lie in it: one walk of the text's order serves every order. The class of worlds: those that stand as w did on all of w's blocks. -/
import Derived.Test.YthodlccjnbadhaaDoorMem
import Derived.Deep.QuietTactic
import Derived.BigQuiet
namespace Go.Proofs.YthodlccjnbadhaaDoor
open Go.RowKit

/-- A world that is as w was on all of w's blocks. -/
def Inv (w : World) : Type := { x : World // Below w.heap.size w x }
instance (w : World) : Nonempty (Inv w) := ⟨⟨w, Below.refl _ _⟩⟩
def Inv.w {w : World} (x : Inv w) : World := x.1
theorem Inv.below {w : World} (x : Inv w) : Below w.heap.size w x.w := x.2
theorem Inv.size {w : World} (x : Inv w) : w.heap.size ≤ x.w.heap.size := x.2.size
theorem Inv.cell {w : World} {a : Addr} {v : Value} (h : w.cell? a = some v) : ∀ x : Inv w, x.w.cell? a = some v := fun x => (x.below.cell (cell_lt h)).trans h
theorem wp_region_inv {P : Program} {id : Nat} {Q : Exit → Act → World → Prop} {a : Act} {w : World} {l : List Oper} (hm : P.follows .mixedOrders = true) (hB : Region.lexB .any l.toArray = true)
    (h : wpQuiet P l.toArray (fun w' => ∃ x : Inv w, w' = x.w) (fun a' => ∀ w', (∃ x : Inv w, w' = x.w) → Q .normal a' w') l a) : (Code.region id l.toArray true).wp P Q a w :=
  wp_region_quiet (C := fun w' => ∃ x : Inv w, w' = x.w) hm hB ⟨⟨_, (Below.refl _ w).drew⟩, rfl⟩ (by simpa using h)
theorem Calls.inv_of {P : Program} {f : FuncId} {args : Array Value} {w : World} {x : Inv w} {v : Value}
    (h : Calls P f args x.w fun e w' => e = .returned v ∧ Below x.w.heap.size x.w w') : Calls P f args x.w fun e w'' => e = .returned v ∧ ∃ y : Inv w, w'' = y.w :=
  h.mono fun _ w' ⟨he, hb⟩ => ⟨he, ⟨w', x.below.trans (hb.mono x.size)⟩, rfl⟩
theorem Calls.inv_same {P : Program} {f : FuncId} {args : Array Value} {w : World} {x : Inv w} {v : Value}
    (h : Calls P f args x.w fun e w' => e = .returned v ∧ x.w = w') : Calls P f args x.w fun e w'' => e = .returned v ∧ ∃ y : Inv w, w'' = y.w :=
  h.mono fun _ _ ⟨he, hb⟩ => ⟨he, x, hb.symm⟩
theorem Calls.inv_same' {P : Program} {f : FuncId} {args : Array Value} {w : World} {x : Inv w} {v : Value}
    (h : Calls P f args x.w fun e w' => e = .returned v ∧ w' = x.w) : Calls P f args x.w fun e w'' => e = .returned v ∧ ∃ y : Inv w, w'' = y.w :=
  h.mono fun _ _ ⟨he, hb⟩ => ⟨he, x, hb⟩
theorem Calls.inv_drew {P : Program} {f : FuncId} {args : Array Value} {w : World} {x : Inv w} {v : Value}
    (h : Calls P f args x.w fun e w' => e = .returned v ∧ ∃ q, w' = x.w.drewN q) : Calls P f args x.w fun e w'' => e = .returned v ∧ ∃ y : Inv w, w'' = y.w :=
  h.mono fun _ _ ⟨he, q, hb⟩ => ⟨he, ⟨_, below_drewN x.below q⟩, hb⟩
end Go.Proofs.YthodlccjnbadhaaDoor
