/- errors.As by its contracts, at the target *api.Errno: a nil error, an api.Errno, an *api.At (after the kit's example Toyas).

errors.As at the target *api.Errno: an api.Errno, and an *api.At.

api.Tell, plain.Place and the laws' own two questions, by contracts on what an error is.

What an error is, told once for all: none, an api.Errno, an *api.At; and what api.Tell, plain.Place and the laws' own questions make of it.

The program's disk: Read, Dirty.

A region that draws its order, by an invariant: each operation is looked at once, whatever came up ahead of it. Any program.

A region that draws its order and one of whose calls may throw: by an invariant, each operation looked at once. Any program. -/
import Derived.Test.YtfefpcdgflgaeaaGreatDoorProg
import Derived.Test.YtfefpcdgflgaeaaGreatDoorZ1
import Derived.WalkKit
import Derived.LaidEql
import Derived.Stop.Asserts
import Derived.RowKitTokens
import Derived.RegionTactic
import Derived.Deep.QuietTactic
import Derived.BigQuiet
import Derived.Test.YtfefpcdgflgaeaaGreatDoorZ2
import Derived.Lib.Hide
import Derived.Laws.OwnMore
import Derived.WalkSpells
import Derived.Orders
import Derived.Deep.RegionHeld
import Derived.KernelRfl
section
namespace Go.Proofs.YtfefpcdgflgaeaaGreatDoor.As
open Go.RowKit Go.Extern.Stop Go.Stop Go.Extern
theorem valueOfP (t : Addr) (w : World) : (ReflectliteValue.unpack (.iface 143 (.pointer (some t)))).run Tryz.prog w
  = .ok (.agg #[.pointer (some ⟨4, 143, none⟩), .pointer (some ⟨w.heap.size, 0, none⟩), .int .u64 150]) (w.alloc (.cells #[.pointer (some t)] 143)) := by kernel_rfl
theorem typeP (a : Addr) (w : World) : (ReflectliteValue.methodAny (ReflectliteValue.valueError "reflectlite.Value.Type" 0) (fun t _ _ _ => ReflectliteType.toType t) #[.agg #[.pointer (some ⟨4, 143, none⟩), .pointer (some a), .int .u64 150]]).run Tryz.prog w
  = .ok (.iface 187 (.agg #[.pointer (some ⟨4, 143, none⟩)])) w := by kernel_rfl
theorem methodKind (h : Value) (w : World) : (Go.method 355 187 (.agg #[h]) "Kind").run Tryz.prog w = .ok (158, h) w := by kernel_rfl
theorem kindP (w : World) : ((ReflectliteType.abiMethod fun t => (fun a : Nat => Value.int IntKind.u8 (a : Int)) <$> Rtype.kind t) #[.pointer (some ⟨4, 143, none⟩)]).run Tryz.prog w = .ok (.int .u8 22) w := by kernel_rfl
theorem kindE (w : World) : ((ReflectliteType.abiMethod fun t => (fun a : Nat => Value.int IntKind.u8 (a : Int)) <$> Rtype.kind t) #[.pointer (some ⟨4, 34, none⟩)]).run Tryz.prog w = .ok (.int .u8 2) w := by kernel_rfl
theorem rlm (z : Sem Value) (f : TypeId → Addr → Nat → Nat → Sem Value) (v : Value) :
  ReflectliteValue.method z f #[v] = (do match ← ReflectliteValue.parts v with | none => z | some (t, a, fl) => f t a fl (fl % 32)) := rfl
theorem partsP (a : Addr) (w : World) : (ReflectliteValue.parts (.agg #[.pointer (some ⟨4, 143, none⟩), .pointer (some a), .int .u64 150])).run Tryz.prog w = .ok (some (143, a, 150)) w := by kernel_rfl
theorem isNilP (a p : Addr) (W : World) (ha : W.cell? a = some (.pointer (some p))) :
  (ReflectliteValue.method (ReflectliteValue.valueError "reflectlite.Value.IsNil" 0) ReflectliteValue.isNil #[.agg #[.pointer (some ⟨4, 143, none⟩), .pointer (some a), .int .u64 150]]).run Tryz.prog W = .ok (.bool false) W := by
 rw [rlm]
 simp only [Sem.run_bind, partsP, Result.andThen]
 simp [ReflectliteValue.isNil, loadVar, isAgg, underlying, Tryz.underlying143, ha, Result.andThen]
theorem methodElem (h : Value) (w : World) : (Go.method 355 187 (.agg #[h]) "Elem").run Tryz.prog w = .ok (171, .agg #[h]) w := by kernel_rfl
theorem methodImplements (h : Value) (w : World) : (Go.method 355 187 (.agg #[h]) "Implements").run Tryz.prog w = .ok (172, .agg #[h]) w := by kernel_rfl
theorem methodAssignableTo (h : Value) (w : World) : (Go.method 355 187 (.agg #[h]) "AssignableTo").run Tryz.prog w = .ok (169, .agg #[h]) w := by kernel_rfl
theorem elemP (w : World) : (ReflectliteType.method ReflectliteType.elem #[.agg #[.pointer (some ⟨4, 143, none⟩)]]).run Tryz.prog w = .ok (.iface 187 (.agg #[.pointer (some ⟨4, 34, none⟩)])) w := by kernel_rfl
theorem implementsE (w : World) : (ReflectliteType.relation "Implements" ReflectliteType.implements_ #[.agg #[.pointer (some ⟨4, 34, none⟩)], .iface 187 (.agg #[.pointer (some ⟨4, 32, none⟩)])]).run Tryz.prog w = .ok (.bool true) w := by kernel_rfl
theorem typeOfE (v : Value) (w : World) : (ReflectliteType.typeOf #[.iface 34 v]).run Tryz.prog w = .ok (.iface 187 (.agg #[.pointer (some ⟨4, 34, none⟩)])) w := by kernel_rfl
theorem typeOfA (v : Value) (w : World) : (ReflectliteType.typeOf #[.iface 113 v]).run Tryz.prog w = .ok (.iface 187 (.agg #[.pointer (some ⟨4, 113, none⟩)])) w := by kernel_rfl
theorem assignableE (w : World) : (ReflectliteType.relation "AssignableTo" ReflectliteType.assignableTo #[.agg #[.pointer (some ⟨4, 34, none⟩)], .iface 187 (.agg #[.pointer (some ⟨4, 34, none⟩)])]).run Tryz.prog w = .ok (.bool true) w := by kernel_rfl
theorem assignableA (w : World) : (ReflectliteType.relation "AssignableTo" ReflectliteType.assignableTo #[.agg #[.pointer (some ⟨4, 113, none⟩)], .iface 187 (.agg #[.pointer (some ⟨4, 34, none⟩)])]).run Tryz.prog w = .ok (.bool false) w := by kernel_rfl
theorem valueOfE (e : Int) (w : World) : (ReflectliteValue.unpack (.iface 34 (.int .i64 e))).run Tryz.prog w
  = .ok (.agg #[.pointer (some ⟨4, 34, none⟩), .pointer (some ⟨w.heap.size, 0, none⟩), .int .u64 130]) (w.alloc (.cells #[.int .i64 e] 34)) := by kernel_rfl
theorem elemOfP (w : World) : (Rtype.elem? 143).run Tryz.prog w = .ok (some 34) w := by kernel_rfl
theorem mkE (p : Addr) (w : World) : (ReflectliteValue.mk 34 p ReflectliteValue.flagAddr).run Tryz.prog w = .ok (.agg #[.pointer (some ⟨4, 34, none⟩), .pointer (some p), .int .u64 386]) w := by kernel_rfl
theorem elemV (a p : Addr) (W : World) (ha : W.cell? a = some (.pointer (some p))) :
  (ReflectliteValue.method (ReflectliteValue.valueError "reflectlite.Value.Elem" 0) ReflectliteValue.elem #[.agg #[.pointer (some ⟨4, 143, none⟩), .pointer (some a), .int .u64 150]]).run Tryz.prog W
   = .ok (.agg #[.pointer (some ⟨4, 34, none⟩), .pointer (some p), .int .u64 386]) W := by
 rw [rlm]
 simp only [Sem.run_bind, partsP, Result.andThen]
 simp [ReflectliteValue.elem, loadVar, isAgg, underlying, Tryz.underlying143, ha, Result.andThen, elemOfP, mkE]
theorem rls (v x : Value) : ReflectliteValue.set #[v, x] = (do
  let (some (dst, a, fl), some (src, b, _)) := (← ReflectliteValue.parts v, ← ReflectliteValue.parts x)
   | unsupported (.noEntry "extern/(internal/reflectlite.Value).Set.zeroValue")
  if fl / ReflectliteValue.flagAddr % 2 == 0 then unsupported (.noEntry "extern/(internal/reflectlite.Value).Set.unaddressable")
  let val ← loadVar src b
  if ← Rtype.directlyAssignable dst src then storeVar dst a val
  else if ← Rtype.implements dst src then
   if (← Rtype.kind src) == 20 then
    match val with
    | .nilIface => unsupported (.noEntry "extern/reflectlite: a nil value of one interface type handed on as a value of another")
    | _ => storeVar dst a val
   else storeVar dst a (.iface src val)
  else panicString ("reflectlite.Set: value of type " ++ (← Rtype.spelt src) ++ " is not assignable to type " ++ (← Rtype.spelt dst))
  pure (.tuple #[])) := rfl
theorem partsEa (a : Addr) (w : World) : (ReflectliteValue.parts (.agg #[.pointer (some ⟨4, 34, none⟩), .pointer (some a), .int .u64 386])).run Tryz.prog w = .ok (some (34, a, 386)) w := by kernel_rfl
theorem partsE (a : Addr) (w : World) : (ReflectliteValue.parts (.agg #[.pointer (some ⟨4, 34, none⟩), .pointer (some a), .int .u64 130])).run Tryz.prog w = .ok (some (34, a, 130)) w := by kernel_rfl
theorem directE (w : World) : (Rtype.directlyAssignable 34 34).run Tryz.prog w = .ok true w := by kernel_rfl
theorem setE (ta b : Addr) (e : Int) (old : Value) (W : World) (hb : W.cell? b = some (.int .i64 e)) (ht : W.cell? ta = some old) (hf : W.frozen? ta = false) :
  (ReflectliteValue.set #[.agg #[.pointer (some ⟨4, 34, none⟩), .pointer (some ta), .int .u64 386], .agg #[.pointer (some ⟨4, 34, none⟩), .pointer (some b), .int .u64 130]]).run Tryz.prog W
   = .ok (.tuple #[]) (W.setCell ta (.int .i64 e)) := by
 rw [rls]
 simp only [Sem.run_bind, partsEa, partsE, Result.andThen]
 simp [ReflectliteValue.flagAddr, loadVar, isAgg, underlying, Tryz.underlying34, hb, Result.andThen, directE, storeVar, Value.cells, storeCells, Addr.add]
 rw [run_store Tryz.prog W ta _ _ (by rfl)]
 simp [ht, hf]
theorem noAs (v : Value) (xT : TypeId) (w : World) : (Instr.typeAssert (.iface 113 v) xT 192 true).run Tryz.prog w = .ok (.tuple #[.nilIface, .bool false]) w := run_typeAssert_lacksB Tryz.underlying192 (by kernel_rfl) (by kernel_rfl) v xT w
theorem hasUnwrap (v : Value) (xT : TypeId) (w : World) : (Instr.typeAssert (.iface 113 v) xT 117 true).run Tryz.prog w = .ok (.tuple #[.iface 113 v, .bool true]) w := run_typeAssert_hasB Tryz.underlying117 (by kernel_rfl) v xT w
theorem noUnwrapE (v : Value) (xT : TypeId) (w : World) : (Instr.typeAssert (.iface 34 v) xT 117 true).run Tryz.prog w = .ok (.tuple #[.nilIface, .bool false]) w := run_typeAssert_lacksB Tryz.underlying117 (by kernel_rfl) (by kernel_rfl) v xT w
theorem methodUnwrap (h : Value) (w : World) : (Go.method 355 113 h "Unwrap").run Tryz.prog w = .ok (163, h) w := by kernel_rfl
/-- The variable of package errors that holds the type of 'error'. -/
def Handle (w : World) : Prop := w.cell? ⟨0, 0, none⟩ = some (.iface 187 (.agg #[.pointer (some ⟨4, 32, none⟩)]))
theorem Handle.below {w w' : World} (h : Handle w) (hb : Below w.heap.size w w') : Handle w' := (hb.cell (cell_lt h)).trans h
end Go.Proofs.YtfefpcdgflgaeaaGreatDoor.As
end

section
namespace Go.Proofs.YtfefpcdgflgaeaaGreatDoor.As
open Go.RowKit Go.Extern.Stop Go.Stop Go.Extern
set_option maxHeartbeats 4000000 in
theorem as_errno (e : Int) (t : Addr) (old : Value) (w : World) (hg : Handle w) (ht0 : w.cell? t = some old) (hf0 : w.frozen? t = false) :
  Calls Tryz.prog 81 #[.iface 34 (.int .i64 e), .iface 143 (.pointer (some t))] w fun ev w' => ev = .returned (.bool true) ∧ ∃ w1, w' = w1.setCell t (.int .i64 e) ∧ Below w.heap.size w w1 := by
 have x0 := @run_callFunc_extern Tryz.prog 100 _ (fun args => ReflectliteValue.unpack (args.getD 0 (.tuple #[]))) Tryz.func100 (by kernel_rfl) (by kernel_rfl) (by kernel_rfl) (by kernel_rfl)
 have x1 := @run_callFunc_extern Tryz.prog 101 _ (ReflectliteValue.methodAny (ReflectliteValue.valueError "reflectlite.Value.Type" 0) (fun t _ _ _ => ReflectliteType.toType t)) Tryz.func101 (by kernel_rfl) (by kernel_rfl) (by kernel_rfl) (by kernel_rfl)
 have x2 := @run_callFunc_extern Tryz.prog 102 _ (ReflectliteValue.method (ReflectliteValue.valueError "reflectlite.Value.IsNil" 0) ReflectliteValue.isNil) Tryz.func102 (by kernel_rfl) (by kernel_rfl) (by kernel_rfl) (by kernel_rfl)
 have x3 := @run_callFunc_extern Tryz.prog 158 _ (ReflectliteType.abiMethod fun t => do pure (.int .u8 (← Rtype.kind t))) Tryz.func158 (by kernel_rfl) (by kernel_rfl) (by kernel_rfl) (by kernel_rfl)
 have x4 := @run_callFunc_extern Tryz.prog 171 _ (ReflectliteType.method ReflectliteType.elem) Tryz.func171 (by kernel_rfl) (by kernel_rfl) (by kernel_rfl) (by kernel_rfl)
 have x5 := @run_callFunc_extern Tryz.prog 172 _ (ReflectliteType.relation "Implements" ReflectliteType.implements_) Tryz.func172 (by kernel_rfl) (by kernel_rfl) (by kernel_rfl) (by kernel_rfl)
 have x6 := @run_callFunc_extern Tryz.prog 111 _ (ReflectliteType.typeOf) Tryz.func111 (by kernel_rfl) (by kernel_rfl) (by kernel_rfl) (by kernel_rfl)
 have x7 := @run_callFunc_extern Tryz.prog 169 _ (ReflectliteType.relation "AssignableTo" ReflectliteType.assignableTo) Tryz.func169 (by kernel_rfl) (by kernel_rfl) (by kernel_rfl) (by kernel_rfl)
 have x8 := @run_callFunc_extern Tryz.prog 112 _ (ReflectliteValue.method (ReflectliteValue.valueError "reflectlite.Value.Elem" 0) ReflectliteValue.elem) Tryz.func112 (by kernel_rfl) (by kernel_rfl) (by kernel_rfl) (by kernel_rfl)
 have x9 := @run_callFunc_extern Tryz.prog 113 _ (ReflectliteValue.set) Tryz.func113 (by kernel_rfl) (by kernel_rfl) (by kernel_rfl) (by kernel_rfl)
 have c0 := valueOfP
 have c1 := typeP
 have c2 := methodKind
 have c3 := kindP
 have c4 := kindE
 have c5 := methodElem
 have c6 := methodImplements
 have c7 := methodAssignableTo
 have c8 := elemP
 have c9 := implementsE
 have c10 := typeOfE
 have c11 := assignableE
 have c12 := valueOfE
 have hlt := cell_lt hg
 have htl := cell_lt ht0
 simp only at hlt
 have n8 := isNilP ⟨w.heap.size, 0, none⟩ t ((w.alloc (.cells #[.pointer (some t)] 143)).alloc (.cells #[.pointer (some ⟨4, 143, none⟩), .pointer (some ⟨w.heap.size, 0, none⟩), .int .u64 150] 171)) (by simp)
 have hg2 : ((w.alloc (.cells #[.pointer (some t)] 143)).alloc (.cells #[.pointer (some ⟨4, 143, none⟩), .pointer (some ⟨w.heap.size, 0, none⟩), .int .u64 150] 171)).cell? ⟨0, 0, none⟩ = some (.iface 187 (.agg #[.pointer (some ⟨4, 32, none⟩)])) := by
  rw [World.cell?_alloc_lt _ _ ⟨0, 0, none⟩ (by simp), World.cell?_alloc_lt _ _ ⟨0, 0, none⟩ hlt]; exact hg
 have el := elemV ⟨w.heap.size, 0, none⟩ t (((w.alloc (.cells #[.pointer (some t)] 143)).alloc (.cells #[.pointer (some ⟨4, 143, none⟩), .pointer (some ⟨w.heap.size, 0, none⟩), .int .u64 150] 171)).alloc (.cells #[.pointer (some ⟨4, 143, none⟩), .pointer (some ⟨w.heap.size, 0, none⟩), .int .u64 150] 171)) (by rw [World.cell?_alloc_lt _ _ ⟨w.heap.size, 0, none⟩ (by simp <;> omega)]; simp)
 have st := setE t ⟨w.heap.size + 1 + 1 + 1, 0, none⟩ e old ((((w.alloc (.cells #[.pointer (some t)] 143)).alloc (.cells #[.pointer (some ⟨4, 143, none⟩), .pointer (some ⟨w.heap.size, 0, none⟩), .int .u64 150] 171)).alloc (.cells #[.pointer (some ⟨4, 143, none⟩), .pointer (some ⟨w.heap.size, 0, none⟩), .int .u64 150] 171)).alloc (.cells #[.int .i64 e] 34))
  (by rw [World.cell?_alloc_at _ _ _ _ (by simp)]; rfl)
  (by rw [World.cell?_alloc_lt _ _ t (by simp; omega), World.cell?_alloc_lt _ _ t (by simp; omega), World.cell?_alloc_lt _ _ t (by simp; omega), World.cell?_alloc_lt _ _ t htl]; exact ht0)
  (by rw [World.frozen?_alloc_old _ _ t (by simp; omega), World.frozen?_alloc_old _ _ t (by simp; omega), World.frozen?_alloc_old _ _ t (by simp; omega), World.frozen?_alloc_old _ _ t (Nat.ne_of_lt htl)]; exact hf0)
 unfold Handle at hg
 go_enter Tryz.func81, Tryz.ntmps81
 go_wp2
 refine wp_loop_rounds 1 ?_
 rw [rounds_succ]
 go_wp2
 go_ret
 exact ⟨rfl, _, rfl, ((((Below.refl _ _).alloc (Nat.le_refl _) _).alloc (by simp) _).alloc (by simp; omega) _).alloc (by simp; omega) _⟩
set_option maxHeartbeats 4000000 in
theorem as_at (e : Int) (a : Addr) (t : Addr) (old : Value) (w : World) (hg : Handle w) (ha : w.cell? a = some (.int .i64 e)) (ht0 : w.cell? t = some old) (hf0 : w.frozen? t = false) :
  Calls Tryz.prog 81 #[.iface 113 (.pointer (some a)), .iface 143 (.pointer (some t))] w fun ev w' => ev = .returned (.bool true) ∧ ∃ w1, w' = w1.setCell t (.int .i64 e) ∧ Below w.heap.size w w1 := by
 have x0 := @run_callFunc_extern Tryz.prog 100 _ (fun args => ReflectliteValue.unpack (args.getD 0 (.tuple #[]))) Tryz.func100 (by kernel_rfl) (by kernel_rfl) (by kernel_rfl) (by kernel_rfl)
 have x1 := @run_callFunc_extern Tryz.prog 101 _ (ReflectliteValue.methodAny (ReflectliteValue.valueError "reflectlite.Value.Type" 0) (fun t _ _ _ => ReflectliteType.toType t)) Tryz.func101 (by kernel_rfl) (by kernel_rfl) (by kernel_rfl) (by kernel_rfl)
 have x2 := @run_callFunc_extern Tryz.prog 102 _ (ReflectliteValue.method (ReflectliteValue.valueError "reflectlite.Value.IsNil" 0) ReflectliteValue.isNil) Tryz.func102 (by kernel_rfl) (by kernel_rfl) (by kernel_rfl) (by kernel_rfl)
 have x3 := @run_callFunc_extern Tryz.prog 158 _ (ReflectliteType.abiMethod fun t => do pure (.int .u8 (← Rtype.kind t))) Tryz.func158 (by kernel_rfl) (by kernel_rfl) (by kernel_rfl) (by kernel_rfl)
 have x4 := @run_callFunc_extern Tryz.prog 171 _ (ReflectliteType.method ReflectliteType.elem) Tryz.func171 (by kernel_rfl) (by kernel_rfl) (by kernel_rfl) (by kernel_rfl)
 have x5 := @run_callFunc_extern Tryz.prog 172 _ (ReflectliteType.relation "Implements" ReflectliteType.implements_) Tryz.func172 (by kernel_rfl) (by kernel_rfl) (by kernel_rfl) (by kernel_rfl)
 have x6 := @run_callFunc_extern Tryz.prog 111 _ (ReflectliteType.typeOf) Tryz.func111 (by kernel_rfl) (by kernel_rfl) (by kernel_rfl) (by kernel_rfl)
 have x7 := @run_callFunc_extern Tryz.prog 169 _ (ReflectliteType.relation "AssignableTo" ReflectliteType.assignableTo) Tryz.func169 (by kernel_rfl) (by kernel_rfl) (by kernel_rfl) (by kernel_rfl)
 have x8 := @run_callFunc_extern Tryz.prog 112 _ (ReflectliteValue.method (ReflectliteValue.valueError "reflectlite.Value.Elem" 0) ReflectliteValue.elem) Tryz.func112 (by kernel_rfl) (by kernel_rfl) (by kernel_rfl) (by kernel_rfl)
 have x9 := @run_callFunc_extern Tryz.prog 113 _ (ReflectliteValue.set) Tryz.func113 (by kernel_rfl) (by kernel_rfl) (by kernel_rfl) (by kernel_rfl)
 have c0 := valueOfP
 have c1 := typeP
 have c2 := methodKind
 have c3 := kindP
 have c4 := kindE
 have c5 := methodElem
 have c6 := methodImplements
 have c7 := methodAssignableTo
 have c8 := elemP
 have c9 := implementsE
 have c10 := typeOfE
 have c11 := assignableE
 have c12 := valueOfE
 have c13 := typeOfA
 have c14 := assignableA
 have c15 := noAs
 have c16 := hasUnwrap
 have c17 := methodUnwrap
 have hlt := cell_lt hg
 have htl := cell_lt ht0
 simp only at hlt
 have n8 := isNilP ⟨w.heap.size, 0, none⟩ t ((w.alloc (.cells #[.pointer (some t)] 143)).alloc (.cells #[.pointer (some ⟨4, 143, none⟩), .pointer (some ⟨w.heap.size, 0, none⟩), .int .u64 150] 171)) (by simp)
 have hg2 : ((w.alloc (.cells #[.pointer (some t)] 143)).alloc (.cells #[.pointer (some ⟨4, 143, none⟩), .pointer (some ⟨w.heap.size, 0, none⟩), .int .u64 150] 171)).cell? ⟨0, 0, none⟩ = some (.iface 187 (.agg #[.pointer (some ⟨4, 32, none⟩)])) := by
  rw [World.cell?_alloc_lt _ _ ⟨0, 0, none⟩ (by simp), World.cell?_alloc_lt _ _ ⟨0, 0, none⟩ hlt]; exact hg
 have el := elemV ⟨w.heap.size, 0, none⟩ t (((w.alloc (.cells #[.pointer (some t)] 143)).alloc (.cells #[.pointer (some ⟨4, 143, none⟩), .pointer (some ⟨w.heap.size, 0, none⟩), .int .u64 150] 171)).alloc (.cells #[.pointer (some ⟨4, 143, none⟩), .pointer (some ⟨w.heap.size, 0, none⟩), .int .u64 150] 171)) (by rw [World.cell?_alloc_lt _ _ ⟨w.heap.size, 0, none⟩ (by simp <;> omega)]; simp)
 have st := setE t ⟨w.heap.size + 1 + 1 + 1, 0, none⟩ e old ((((w.alloc (.cells #[.pointer (some t)] 143)).alloc (.cells #[.pointer (some ⟨4, 143, none⟩), .pointer (some ⟨w.heap.size, 0, none⟩), .int .u64 150] 171)).alloc (.cells #[.pointer (some ⟨4, 143, none⟩), .pointer (some ⟨w.heap.size, 0, none⟩), .int .u64 150] 171)).alloc (.cells #[.int .i64 e] 34))
  (by rw [World.cell?_alloc_at _ _ _ _ (by simp)]; rfl)
  (by rw [World.cell?_alloc_lt _ _ t (by simp; omega), World.cell?_alloc_lt _ _ t (by simp; omega), World.cell?_alloc_lt _ _ t (by simp; omega), World.cell?_alloc_lt _ _ t htl]; exact ht0)
  (by rw [World.frozen?_alloc_old _ _ t (by simp; omega), World.frozen?_alloc_old _ _ t (by simp; omega), World.frozen?_alloc_old _ _ t (by simp; omega), World.frozen?_alloc_old _ _ t (Nat.ne_of_lt htl)]; exact hf0)
 unfold Handle at hg
 have hal := cell_lt ha
 have ha2 : (((w.alloc (.cells #[.pointer (some t)] 143)).alloc (.cells #[.pointer (some ⟨4, 143, none⟩), .pointer (some ⟨w.heap.size, 0, none⟩), .int .u64 150] 171)).alloc (.cells #[.pointer (some ⟨4, 143, none⟩), .pointer (some ⟨w.heap.size, 0, none⟩), .int .u64 150] 171)).cell? a = some (.int .i64 e) := by rw [World.cell?_alloc_lt _ _ a (by simp; omega), World.cell?_alloc_lt _ _ a (by simp; omega), World.cell?_alloc_lt _ _ a hal]; exact ha
 go_enter Tryz.func81, Tryz.ntmps81
 go_wp2
 refine wp_loop_rounds 2 ?_
 rw [rounds_succ]
 go_wp2
 rw [rounds_succ]
 go_wp2
 go_ret
 exact ⟨rfl, _, rfl, ((((Below.refl _ _).alloc (Nat.le_refl _) _).alloc (by simp) _).alloc (by simp; omega) _).alloc (by simp; omega) _⟩

end Go.Proofs.YtfefpcdgflgaeaaGreatDoor.As
end

section
namespace Go.Proofs.YtfefpcdgflgaeaaGreatDoor.As
open Go.RowKit Go.Extern.Stop Go.Stop Go.Extern
theorem below1 (w : World) (o : Obj) : Below w.heap.size w (w.alloc o) := (Below.refl _ _).alloc (Nat.le_refl _) o
/-- Tell's three answers. -/
theorem tell_nil (w : World) : Calls Tryz.prog 61 #[.nilIface] w fun e w' => e = .returned (.int .i64 0) ∧ w = w' := by
 go_enter Tryz.func61, Tryz.ntmps61
 go_wp2
 go_ret
 exact ⟨rfl, rfl⟩
theorem tell_errno (e : Int) (w : World) (hg : Handle w) : Calls Tryz.prog 61 #[.iface 34 (.int .i64 e)] w fun r w' => r = .returned (.int .i64 e) ∧ Below w.heap.size w w' := by
 go_enter Tryz.func61, Tryz.ntmps61
 go_wp2_with fail
 refine (as_errno e _ _ _ (hg.below ((Below.refl _ _).alloc (Nat.le_refl _) _)) (World.cell?_alloc_at _ _ _ _ rfl) (by simp)).mono ?_
 rintro r w' ⟨rfl, w1, rfl, hb⟩
 have hz := hb.size
 have hc : w1.cell? ⟨w.heap.size, 0, none⟩ = some (.int .i64 0) := (hb.cell (p := ⟨w.heap.size, 0, none⟩) (by simp)).trans (by rw [World.cell?_alloc_at _ _ _ _ rfl]; rfl)
 have hc2 : (w1.setCell ⟨w.heap.size, 0, none⟩ (.int .i64 e)).cell? ⟨w.heap.size, 0, none⟩ = some (.int .i64 e) := World.cell?_setCell_same _ _ _ hc
 simp at hz
 go_wp2_with fail
 go_ret
 exact ⟨rfl, ((below1 _ _).trans (hb.mono (by simp))).setCell (by simp) _⟩
theorem tell_at (e : Int) (a : Addr) (w : World) (hg : Handle w) (ha : w.cell? a = some (.int .i64 e)) : Calls Tryz.prog 61 #[.iface 113 (.pointer (some a))] w fun r w' => r = .returned (.int .i64 e) ∧ Below w.heap.size w w' := by
 go_enter Tryz.func61, Tryz.ntmps61
 go_wp2_with fail
 refine (as_at e a _ _ _ (hg.below ((Below.refl _ _).alloc (Nat.le_refl _) _)) (by rw [World.cell?_alloc_lt _ _ a (cell_lt ha)]; exact ha) (World.cell?_alloc_at _ _ _ _ rfl) (by simp)).mono ?_
 rintro r w' ⟨rfl, w1, rfl, hb⟩
 have hz := hb.size
 have hc : w1.cell? ⟨w.heap.size, 0, none⟩ = some (.int .i64 0) := (hb.cell (p := ⟨w.heap.size, 0, none⟩) (by simp)).trans (by rw [World.cell?_alloc_at _ _ _ _ rfl]; rfl)
 have hc2 : (w1.setCell ⟨w.heap.size, 0, none⟩ (.int .i64 e)).cell? ⟨w.heap.size, 0, none⟩ = some (.int .i64 e) := World.cell?_setCell_same _ _ _ hc
 simp at hz
 go_wp2_with fail
 go_ret
 exact ⟨rfl, ((below1 _ _).trans (hb.mono (by simp))).setCell (by simp) _⟩
end Go.Proofs.YtfefpcdgflgaeaaGreatDoor.As
end

section
namespace Go.Proofs.YtfefpcdgflgaeaaGreatDoor
open Go.RowKit Go.Extern.Stop Go.Stop Go.Extern As
/-- v is the error e with the place p: 0, -1: none. -/
inductive ErrIs (w : World) : Value → Int → Int → Prop
 | none : ErrIs w .nilIface 0 (-1)
 | bare (e : Int) (he : e ≠ 0) : ErrIs w (.iface 34 (.int .i64 e)) e (-1)
 | at_ (b o : Nat) (e p : Int) (he : e ≠ 0) (h0 : w.cell? ⟨b, o, none⟩ = some (.int .i64 e)) (h1 : w.cell? ⟨b, o + 1, none⟩ = some (.int .i64 p)) : ErrIs w (.iface 113 (.pointer (some ⟨b, o, none⟩))) e p
theorem ErrIs.below {w w' : World} {v : Value} {e p : Int} (h : ErrIs w v e p) (hb : Below w.heap.size w w') : ErrIs w' v e p := by
 cases h with
 | none => exact .none
 | bare _ he => exact .bare _ he
 | at_ b o _ _ he h0 h1 => exact .at_ b o _ _ he ((hb.cell (cell_lt h0)).trans h0) ((hb.cell (cell_lt h1)).trans h1)
theorem ErrIs.drewN {w : World} {v : Value} {e p : Int} (h : ErrIs w v e p) (n : Nat) : ErrIs (w.drewN n) v e p := h.below (below_drewN (Below.refl _ _) n)
theorem ErrIs.zero {w : World} {v : Value} {p : Int} (h : ErrIs w v 0 p) : v = .nilIface ∧ p = -1 := by
 generalize he : (0 : Int) = e at h
 cases h with
 | none => exact ⟨rfl, rfl⟩
 | bare _ h => exact absurd he.symm h
 | at_ _ _ _ _ h => exact absurd he.symm h
/-- An error without a place, as a value. -/
def errV (e : Int) : Value := if e = 0 then .nilIface else .iface 34 (.int .i64 e)
theorem errV_zero : errV 0 = .nilIface := rfl
theorem errV_of {e : Int} (h : e ≠ 0) : errV e = .iface 34 (.int .i64 e) := by unfold errV; rw [if_neg h]
theorem errV_is (w : World) (e : Int) : ErrIs w (errV e) e (-1) := by
 by_cases h : e = 0
 ·subst h; exact .none
 ·rw [errV_of h]; exact .bare e h
theorem isAtE (v : Value) (w : World) : (Instr.typeAssert (.iface 34 v) 32 113 true).run Tryz.prog w = .ok (.tuple #[.pointer none, .bool false]) w := by kernel_rfl
theorem isAtA (v : Value) (w : World) : (Instr.typeAssert (.iface 113 v) 32 113 true).run Tryz.prog w = .ok (.tuple #[v, .bool true]) w := by kernel_rfl
set_option maxHeartbeats 1000000 in
theorem place_any {v : Value} {e p : Int} {w : World} (h : ErrIs w v e p) (hg : Handle w) : Calls Tryz.prog 33 #[v] w fun r w' => r = .returned (.tuple #[.int .i64 e, .int .i64 p]) ∧ Below w.heap.size w w' := by
 cases h with
 | none =>
  go_enter Tryz.func33, Tryz.ntmps33
  go_wp2_with (go_at_call 61; refine (tell_nil w).mono ?_; rintro e w' ⟨rfl, rfl⟩)
  refine wp_loop_rounds 1 ?_
  rw [rounds_succ]
  go_wp2
  go_ret2
  exact ⟨rfl, Below.refl _ _⟩
 | bare _ he =>
  have n1 := noUnwrapE
  have n2 := isAtE
  go_enter Tryz.func33, Tryz.ntmps33
  go_wp2_with (go_at_call 61; refine (tell_errno e w hg).mono ?_; rintro e w' ⟨rfl, hb⟩)
  refine wp_loop_rounds 1 ?_
  rw [rounds_succ]
  go_wp2
  go_ret2
  exact ⟨rfl, hb⟩
 | at_ b o _ _ he h0 h1 =>
  have n2 := isAtA
  go_enter Tryz.func33, Tryz.ntmps33
  go_wp2_with (go_at_call 61; refine (tell_at e _ w hg h0).mono ?_; rintro e w' ⟨rfl, hb⟩)
  have h1' := (hb.cell (cell_lt h1)).trans h1
  refine wp_loop_rounds 1 ?_
  rw [rounds_succ]
  go_wp2
  go_quiet (fail)
  go_wp2
  go_ret2
  exact ⟨rfl, below_drewN hb _⟩
theorem bare_any {v : Value} {e p : Int} {w : World} (h : ErrIs w v e p) (hg : Handle w) (x : Int) : Calls Tryz.prog 8 #[v, .int .i64 x] w fun r w' => r = .returned (.bool (decide (e = x ∧ p = -1))) ∧ Below w.heap.size w w' := by
 go_enter Tryz.func8, Tryz.ntmps8
 go_wp2_with fail
 refine (place_any h hg).mono ?_
 rintro r w' ⟨rfl, hb⟩
 by_cases h1 : e = x <;> by_cases h2 : p = -1 <;> simp only [h1, h2]
 all_goals
  go_wp2_with fail
  go_ret
  exact ⟨by first | rfl | simp [*], hb⟩
end Go.Proofs.YtfefpcdgflgaeaaGreatDoor
end

section
namespace Go.Proofs.YtfefpcdgflgaeaaGreatDoor
set_option linter.unusedSimpArgs false
set_option linter.unusedVariables false
open Go.RowKit As Go.Maps
def secs (N : Nat) (S : DF) : List Value := (List.range N).map fun i => .string (safeAt S i)
theorem secs_len (N : Nat) (S : DF) : (secs N S).length = N := by simp [secs]
theorem secs_at {N : Nat} (S : DF) {i : Nat} (h : i < N) : (secs N S)[i]? = some (.string (safeAt S i)) := by unfold secs; rw [List.getElem?_map, List.getElem?_range h]; rfl
/-- The disk lies in block d: its sectors in R, what was written since in the map M. -/
structure PD (w : World) (d R M N c n : Nat) (S X : DF) : Prop where
 c0 : w.cell? ⟨d, 0, none⟩ = some (.slice (some ⟨R, 0, none⟩) N c)
 c1 : w.cell? ⟨d, 1, none⟩ = some (.map (some M))
 row : w.ownsRow R 9 1 (.slice (some ⟨R, 0, none⟩) N c) N (secs N S)
 im : IM w M n X
 fit : DFit N S X
 dR : d ≠ R
 dM : d ≠ M
 RM : R ≠ M
def PFoot (R M : Nat) : Nat → Prop := fun i => i = R ∨ i = M
section
variable {w w' : World} {d R M N c n : Nat} {S X : DF} {F : Nat → Prop}
theorem PD.stays (h : PD w d R M N c n S X) (ht : Turned F w w') (h1 : ¬ F d) (h2 : ¬ F R) (h3 : ¬ F M) : PD w' d R M N c n S X :=
 ⟨ht.cell h.c0 h1, ht.cell h.c1 h1, ht.own h.row (fun k e => by injection e with e; subst e; exact h2), ht.im h.im h3, h.fit, h.dR, h.dM, h.RM⟩
theorem PD.below (h : PD w d R M N c n S X) (hb : Below w.heap.size w w') : PD w' d R M N c n S X := h.stays (F := fun _ => False) (.of_below hb) id id id
end
def drErr (N : Nat) (at_ : Int) : Int := if at_ < 0 ∨ (N : Int) ≤ at_ then 2 else 0
def drText (N : Nat) (S X : DF) (at_ : Int) : ByteArray := if at_ < 0 ∨ (N : Int) ≤ at_ then ⟨#[]⟩ else nowAt S X at_.toNat
set_option maxHeartbeats 1000000 in
set_option maxRecDepth 100000 in
theorem dread_any {w : World} {d R M N c n : Nat} {S X : DF} (h : PD w d R M N c n S X) (at_ : Int) :
  Calls Tryz.prog 47 #[.pointer (some ⟨d, 0, none⟩), .int .i64 at_] w fun e w' => e = .returned (.tuple #[.string (drText N S X at_), errV (drErr N at_)]) ∧ Below w.heap.size w w' := by
 have c0 := h.c0
 have c1 := h.c1
 have h140 := h.fit.n
 by_cases h0 : at_ < 0
 ·have d0 : decide (at_ < 0) = true := by simpa using h0
  have e1 := Lib.hid (show drText N S X at_ = ⟨#[]⟩ by unfold drText; rw [if_pos (.inl h0)])
  have e2 := Lib.hid (show drErr N at_ = 2 by unfold drErr; rw [if_pos (.inl h0)])
  go_enter Tryz.func47, Tryz.ntmps47
  go_wp2
  go_ret2
  rw [e1.out, e2.out]
  exact ⟨rfl, Below.refl _ _⟩
 ·obtain ⟨k, rfl⟩ := Int.eq_ofNat_of_zero_le (Int.not_lt.1 h0)
  have d0 : decide ((k : Int) < 0) = false := by simp
  by_cases hN : k < N
  ·have d1 : decide ((N : Int) ≤ (k : Int)) = false := by simp only [decide_eq_false_iff_not]; omega
   have hno : ¬ ((k : Int) < 0 ∨ (N : Int) ≤ (k : Int)) := by omega
   have e2 := Lib.hid (show drErr N k = 0 by unfold drErr; rw [if_neg hno])
   have hl := h.im.look_ok k (by omega)
   have hc := (h.row.cellAt k (by rw [Nat.mul_one]; exact hN)).trans (secs_at S hN)
   have i0 : (0 : Int) ≤ (k : Int) := by omega
   have i1 : (k : Int) < (N : Int) := by omega
   cases hx : X k with
   | none =>
    have e1 := Lib.hid (show drText N S X k = safeAt S k by unfold drText nowAt; rw [if_neg hno]; simp [hx])
    rw [hx] at hl
    simp only [Option.getD_none, Option.isSome_none] at hl
    clear h0 hno
    go_enter Tryz.func47, Tryz.ntmps47
    go_wp2
    go_ret2
    rw [e1.out, e2.out]
    exact ⟨rfl, Below.refl _ _⟩
   | some t =>
    have e1 := Lib.hid (show drText N S X k = t by unfold drText nowAt; rw [if_neg hno]; simp [hx])
    rw [hx] at hl
    simp only [Option.getD_some, Option.isSome_some] at hl
    clear h0 hno
    go_enter Tryz.func47, Tryz.ntmps47
    go_wp2
    go_ret2
    rw [e1.out, e2.out]
    exact ⟨rfl, Below.refl _ _⟩
  ·have d1 : decide ((N : Int) ≤ (k : Int)) = true := by simp only [decide_eq_true_eq]; omega
   have e1 := Lib.hid (show drText N S X k = ⟨#[]⟩ by unfold drText; rw [if_pos (.inr (by omega))])
   have e2 := Lib.hid (show drErr N k = 2 by unfold drErr; rw [if_pos (.inr (by omega))])
   go_enter Tryz.func47, Tryz.ntmps47
   go_wp2
   go_ret2
   rw [e1.out, e2.out]
   exact ⟨rfl, Below.refl _ _⟩
def natV (l : List Nat) : List Value := l.map fun x : Nat => Value.int .i64 (x : Int)
theorem natV_snoc {w : World} {base : Nat} {E : TypeId} {v : Value} {l : List Nat} {x : Nat} {n : Nat} (hn : l.length = n) (h : w.ownsRow base E 1 v (n + 1) (natV l ++ [Value.int .i64 (x : Int)])) : w.ownsRow base E 1 v (l ++ [x]).length (natV (l ++ [x])) := by
 subst hn
 simpa [natV] using h
theorem diInt : (Tryz.prog.info? 3).map (fun i => (i.zero, i.size, i.bytes)) = some (some (.int .i64 0), 1, 8) := by kernel_rfl
set_option maxHeartbeats 1000000 in
set_option maxRecDepth 100000 in
theorem ddirty_any {w : World} {d R M N c n : Nat} {S X : DF} (h : PD w d R M N c n S X) :
  Calls Tryz.prog 74 #[.pointer (some ⟨d, 0, none⟩)] w fun e w' => ∃ v, e = .returned v ∧ w'.ownsRow w.heap.size 3 1 v (dirty N X).length (natV (dirty N X)) ∧ Below w.heap.size w w' := by
 obtain ⟨j0, hj, hy0, hy1, hy2⟩ := info_parts diInt
 have c0 := h.c0
 have H140 := Lib.hid h.fit.n
 go_enter Tryz.func74, Tryz.ntmps74
 go_wp2
 go_loopw [3, 4, 5, 6, 12] (fun ov _ _ _ iv wr => ∃ k : Nat, k ≤ N ∧ iv = .int .i64 (k : Int) ∧ wr.ownsRow w.heap.size 3 1 ov (dirty k X).length (natV (dirty k X)) ∧ Below w.heap.size w wr) (fun _ _ _ _ iv _ => N - (intOf iv).toNat)
 case atStart => exact ⟨0, Nat.zero_le _, rfl, World.ownsRow_nil _ _ _ _, Below.refl _ _⟩
 case round =>
  obtain ⟨k, hk, rfl, ho, hb⟩ := hrel
  by_cases hlt : k < N
  ·have t0 : decide ((k : Int) < (N : Int)) = true := decide_eq_true (by omega)
   have t0' : decide (k < N) = true := decide_eq_true hlt
   have hP := h.below hb
   have c1 := hP.c1
   have hl := hP.im.look_ok k (by have := H140.out; omega)
   have hle := dirty_le k X
   have HLE := Lib.hid (show (dirty k X).length + 1 ≤ maxLen ∧ ((dirty k X).length + 1) * 8 ≤ 140737488355328 by have := H140.out; unfold maxLen; omega)
   have wk : IntKind.i64.wrap ((k : Int) + 1) = ((k + 1 : Nat) : Int) := IntWalk.i64_in _ (by have := H140.out; omega)
   cases hx : (X k).isSome with
   | true =>
    rw [hx] at hl
    have hD := Lib.hid (dirty_yes hx)
    clear hP hx hle
    go_wp2_with (first
     | (at_builtin; (refine wpList_append_own _ rfl (.tmp 25) (.tmp 27) 134 rfl w.heap.size 3 j0 (.int .i64 0) 1 8 Tryz.underlying134 hj hy0 hy1 hy2 rfl (by decide) u3 (dirty k X).length (natV (dirty k X)) rfl (ho.alloc _) ⟨wr.heap.size, 0, none⟩ 1 1 [.int .i64 (k : Int)] rfl rfl (cell_one_new _ _ _) (by intro u hu; simp at hu; subst hu; rfl) HLE.out.1 HLE.out.2 (by have := hb.size; simp; omega) ?_); intro v1 w2 hS1 hg2 _; have b2 := grown_own (hb.alloc hb.size _) hg2 (by have := hb.size; simp; omega) (ho.alloc _); have hS2 := natV_snoc (x := k) rfl hS1))
    go_roundw
    case rel => exact ⟨k + 1, hlt, by go_num, by rw [hD.out]; exact hS2, b2⟩
    case measure => simp [intOf]; omega
   | false =>
    rw [hx] at hl
    have hD := Lib.hid (dirty_no hx)
    clear hP hx hle
    go_wp2
    go_roundw
    case rel => exact ⟨k + 1, hlt, by go_num, by rw [hD.out]; exact ho, hb⟩
    case measure => simp [intOf]; omega
  ·obtain rfl : k = N := by omega
   have t0 : decide ((k : Int) < (k : Int)) = false := decide_eq_false (by omega)
   have t0' : decide (k < k) = false := decide_eq_false hlt
   clear hlt
   go_wp2
   go_ret
   exact ⟨_, rfl, ho, hb⟩
end Go.Proofs.YtfefpcdgflgaeaaGreatDoor
end

section
namespace Go.Proofs.YtfefpcdgflgaeaaGreatDoor.Flow
open Go
section
variable {P : Program} {ops : Array Oper} {Q : Exit → Act → World → Prop} {md : Region.Mode}
/-- Each operation waits for earlier ones alone. -/
def lexB (ops : Array Oper) : Bool := (List.range ops.size).all fun i => match ops[i]? with
 | some o => o.guard.isNone && o.after.all fun e => decide (e.on < i)
 | none => true
theorem lex_of (h : lexB ops = true) {i : Nat} {o : Oper} (ho : ops[i]? = some o) : o.guard = none ∧ ∀ e ∈ o.after, e.on < i := by
 have hi := (Array.getElem?_eq_some_iff.1 ho).1
 have := List.all_eq_true.1 h i (List.mem_range.2 hi)
 rw [ho] at this
 simp only [Bool.and_eq_true, Option.isNone_iff_eq_none, Array.all_eq_true_iff_forall_mem, decide_eq_true_eq] at this
 exact this
theorem getD_in {L : Array Bool} {i : Nat} (h : i < L.size) (d d' : Bool) : L.getD i d = L.getD i d' := by simp [Array.getD, h]
theorem all_of_ready (hlex : lexB ops = true) {L : Array Bool} (hs : L.size = ops.size) (h : Region.ready md ops L = []) (i : Nat) : i < ops.size → L.getD i false = true := by
 induction i using Nat.strongRecOn with
 | ind i ih =>
  intro hi
  rcases hb : L.getD i false with _ | _
  ·exfalso
   have hm : i ∈ Region.ready md ops L := mem_ready.2 ⟨by rw [getD_in (by omega) true false]; exact hb, ops[i], Array.getElem?_eq_getElem hi, fun e he _ => ih e.on ((lex_of hlex (Array.getElem?_eq_getElem hi)).2 e he) (by have := (lex_of hlex (Array.getElem?_eq_getElem hi)).2 e he; omega)⟩
   rw [h] at hm
   cases hm
  ·rfl
/-- How many have not come up. -/
def left (L : Array Bool) : Nat := L.toList.countP (! ·)
theorem left_set {L : Array Bool} {i : Nat} (h : L.getD i true = false) : left (L.setIfInBounds i true) + 1 = left L := by
 obtain ⟨l⟩ := L
 unfold left
 simp only [List.setIfInBounds_toArray]
 have h' : l[i]? = some false := by
  rcases Nat.lt_or_ge i l.length with hi | hi
  ·simp [Array.getD, hi] at h
   rw [List.getElem?_eq_getElem hi, h]
  ·simp [Array.getD, Nat.not_lt.2 hi] at h
 clear h
 induction l generalizing i with
 | nil => simp at h'
 | cons x l ih =>
  cases i with
  | zero => simp at h'; subst h'; simp
  | succ i =>
   simp at h'
   have := ih h'
   simp only [List.set_cons_succ, List.countP_cons]
   omega
theorem left_zero {L : Array Bool} (h : left L = 0) (i : Nat) : L.getD i true = true := by
 obtain ⟨l⟩ := L
 unfold left at h
 simp only at h
 rcases hl : l[i]? with _ | b
 ·simp [Array.getD]; intro hi; rw [List.getElem?_eq_getElem hi] at hl; cases hl
 ·have hm := List.mem_of_getElem? hl
  have := List.countP_eq_zero.1 h b hm
  obtain ⟨hi, e⟩ := List.getElem?_eq_some_iff.1 hl
  simp [Array.getD, hi, e]
  simpa using this
theorem wpAny_inv (I : Array Bool → Act → World → Prop)
  (hstep : ∀ L a w i o, L.size = ops.size → I L a w → ops[i]? = some o → L.getD i true = false → (∀ e ∈ o.after, Region.binds md e = true → L.getD e.on false = true) → wpOp P ops Q i (fun a' w' => I (L.setIfInBounds i true) a' w') a w)
  (hdone : ∀ L a w, L.size = ops.size → I L a w → Region.ready md ops L = [] → Q .normal a w) :
  ∀ (fuel : Nat) L a w, L.size = ops.size → I L a w → left L ≤ fuel → wpAny P md ops Q fuel L a w := by
 intro fuel
 induction fuel with
 | zero =>
  intro L a w hs hI hf
  have hr : Region.ready md ops L = [] := by
   rw [List.eq_nil_iff_forall_not_mem]
   intro i hi
   have h1 := (mem_ready.1 hi).1
   rw [left_zero (by omega) i] at h1
   cases h1
  exact ⟨hr, hdone L a w hs hI hr⟩
 | succ fuel ih =>
  intro L a w hs hI hf
  refine ⟨fun hr => hdone L a w hs hI hr, fun i hi => ?_⟩
  obtain ⟨h1, o, ho, h2⟩ := mem_ready.1 hi
  refine wpOp_mono (fun a' w' h => ih _ a' w' (by simpa using hs) h (by have := left_set h1; omega)) (hstep L a w i o hs hI ho h1 h2)
def fill (f : Nat → Value → Value) : Nat → List Value → List Value
 | _, [] => []
 | n, x :: l => f n x :: fill f (n + 1) l
theorem fill_get (f : Nat → Value → Value) (l : List Value) (n t : Nat) : (fill f n l)[t]? = l[t]?.map (f (n + t)) := by
 induction l generalizing n t with
 | nil => simp [fill]
 | cons x l ih =>
  cases t with
  | zero => simp [fill]
  | succ t => simp only [fill, List.getElem?_cons_succ, ih]; rw [show n + 1 + t = n + (t + 1) by omega]
/-- Which operation writes a slot. -/
def who (ops : Array Oper) (t : Nat) : Option Nat := ops.toList.findIdx? fun o => o.dst == some t
def slot (ops : Array Oper) (v : Nat → Value) (L : Nat → Bool) (t : Nat) (x : Value) : Value :=
 match who ops t with
 | some i => if L i then v i else x
 | none => x
/-- The frame once the operations of L have come up. -/
def frame (ops : Array Oper) (a0 : Act) (v : Nat → Value) (L : Nat → Bool) : Act := { a0 with tmps := (fill (slot ops v L) 0 a0.tmps.toList).toArray }
theorem who_some {t i : Nat} (h : who ops t = some i) : ∃ o, ops[i]? = some o ∧ o.dst = some t := by
 unfold who at h
 obtain ⟨hi, h1, _⟩ := List.findIdx?_eq_some_iff_getElem.1 h
 exact ⟨ops[i]'(by simpa using hi), Array.getElem?_eq_getElem (by simpa using hi), by simpa using h1⟩
theorem frame_at (a0 : Act) (v : Nat → Value) (L : Nat → Bool) (t : Nat) : (frame ops a0 v L).tmps[t]? = a0.tmps[t]?.map (slot ops v L t) := by
 unfold frame
 simp only [List.getElem?_toArray, fill_get, Nat.zero_add]
 simp
theorem frame_dst {a0 : Act} {v : Nat → Value} {L : Nat → Bool} {t i : Nat} (hw : who ops t = some i) (ht : t < a0.tmps.size) (hL : L i = true) : (frame ops a0 v L).eval (.tmp t) = v i := by
 show (frame ops a0 v L).tmps.getD t undef = v i
 rw [Array.getD_eq_getD_getElem?, frame_at, Array.getElem?_eq_getElem ht]
 simp [slot, hw, hL]
theorem frame_not {a0 : Act} {v : Nat → Value} {L : Nat → Bool} {t i : Nat} (hw : who ops t = some i) (hL : L i = false) : (frame ops a0 v L).eval (.tmp t) = a0.eval (.tmp t) := by
 show (frame ops a0 v L).tmps.getD t undef = a0.tmps.getD t undef
 rw [Array.getD_eq_getD_getElem?, Array.getD_eq_getD_getElem?, frame_at]
 cases a0.tmps[t]? <;> simp [slot, hw, hL]
theorem frame_old {a0 : Act} {v : Nat → Value} {L : Nat → Bool} {t : Nat} (hw : who ops t = none) : (frame ops a0 v L).eval (.tmp t) = a0.eval (.tmp t) := by
 show (frame ops a0 v L).tmps.getD t undef = a0.tmps.getD t undef
 rw [Array.getD_eq_getD_getElem?, Array.getD_eq_getD_getElem?, frame_at]
 cases a0.tmps[t]? <;> simp [slot, hw]
/-- Each slot is written by one operation. -/
def okB (ops : Array Oper) : Bool := (List.range ops.size).all fun i => match ops[i]? with
 | some o => (match o.dst with
  | some t => who ops t == some i
  | none => true)
 | none => true
theorem ok_of (h : okB ops = true) {i t : Nat} {o : Oper} (ho : ops[i]? = some o) (ht : o.dst = some t) : who ops t = some i := by
 have hi := (Array.getElem?_eq_some_iff.1 ho).1
 have := List.all_eq_true.1 h i (List.mem_range.2 hi)
 rw [ho] at this
 simp only [ht] at this
 simpa using this
theorem frame_put (hok : okB ops = true) {a0 : Act} {v v' : Nat → Value} {L : Nat → Bool} {i : Nat} {o : Oper} (ho : ops[i]? = some o) (hv : ∀ j, L j = true → v' j = v j) :
  (frame ops a0 v L).put o.dst (v' i) = frame ops a0 v' (fun j => j == i || L j) := by
 have key : ∀ t x, o.dst ≠ some t → slot ops v L t x = slot ops v' (fun j => j == i || L j) t x := by
  intro t x hne
  unfold slot
  rcases hw : who ops t with _ | j
  ·rfl
  ·simp only
   have hji : j ≠ i := by
    rintro rfl
    obtain ⟨o', ho', hd⟩ := who_some hw
    rw [ho] at ho'
    injection ho' with ho'
    subst ho'
    exact hne hd
   have hb : (j == i) = false := by simpa using hji
   simp only [hb, Bool.false_or]
   cases hL : L j with
   | false => simp
   | true => simp [hv j hL]
 rcases hd : o.dst with _ | d
 ·unfold Act.put
  simp only
  unfold frame
  congr 1
  apply Array.ext_getElem?
  intro t
  have h1 := frame_at (ops := ops) a0 v L t
  have h2 := frame_at (ops := ops) a0 v' (fun j => j == i || L j) t
  unfold frame at h1 h2
  rw [h1, h2]
  cases a0.tmps[t]? with
  | none => rfl
  | some x => simp only [Option.map_some]; rw [key t x (by rw [hd]; simp)]
 ·have hw := ok_of hok ho hd
  have e : (frame ops a0 v L).tmps.setIfInBounds d (v' i) = (frame ops a0 v' (fun j => j == i || L j)).tmps := by
   apply Array.ext_getElem?
   intro t
   rw [Array.getElem?_setIfInBounds, frame_at]
   have hsz : (frame ops a0 v L).tmps.size = a0.tmps.size := by
    apply Nat.le_antisymm
    ·rcases Nat.lt_or_ge a0.tmps.size (frame ops a0 v L).tmps.size with h | h
     ·have := frame_at (ops := ops) a0 v L a0.tmps.size
      rw [Array.getElem?_eq_getElem h, Array.getElem?_eq_none (Nat.le_refl _)] at this
      cases this
     ·exact h
    ·rcases Nat.lt_or_ge (frame ops a0 v L).tmps.size a0.tmps.size with h | h
     ·have := frame_at (ops := ops) a0 v L (frame ops a0 v L).tmps.size
      rw [Array.getElem?_eq_none (Nat.le_refl _), Array.getElem?_eq_getElem h] at this
      cases this
     ·exact h
   rw [frame_at, hsz]
   by_cases ht : d = t
   ·subst ht
    rw [if_pos rfl]
    by_cases hlt : d < a0.tmps.size
    ·rw [if_pos hlt, Array.getElem?_eq_getElem hlt]
     simp [slot, hw]
    ·rw [if_neg hlt, Array.getElem?_eq_none (Nat.not_lt.1 hlt)]; rfl
   ·rw [if_neg ht]
    cases a0.tmps[t]? with
    | none => rfl
    | some x => simp only [Option.map_some]; rw [key t x (by rw [hd]; intro h; injection h with h; exact ht h)]
  show ({ frame ops a0 v L with tmps := (frame ops a0 v L).tmps.setIfInBounds d (v' i) } : Act) = _
  rw [e]
  rfl
theorem frame_all {a0 : Act} {v : Nat → Value} {L : Nat → Bool} (h : ∀ i, i < ops.size → L i = true) : frame ops a0 v L = frame ops a0 v (fun _ => true) := by
 unfold frame
 congr 1
 apply Array.ext_getElem?
 intro t
 have h1 := frame_at (ops := ops) a0 v L t
 have h2 := frame_at (ops := ops) a0 v (fun _ => true) t
 unfold frame at h1 h2
 rw [h1, h2]
 cases a0.tmps[t]? with
 | none => rfl
 | some x =>
  simp only [Option.map_some]
  congr 1
  unfold slot
  rcases hw : who ops t with _ | j
  ·rfl
  ·simp only
   obtain ⟨o, ho, _⟩ := who_some hw
   rw [h j (Array.getElem?_eq_some_iff.1 ho).1]
   simp
theorem frame_none {a0 : Act} {v : Nat → Value} : frame ops a0 v (fun _ => false) = a0 := by
 obtain ⟨t0, d0⟩ := a0
 unfold frame
 congr 1
 apply Array.ext_getElem?
 intro t
 have h1 := frame_at (ops := ops) ⟨t0, d0⟩ v (fun _ => false) t
 unfold frame at h1
 rw [h1]
 cases t0[t]? with
 | none => rfl
 | some x =>
  simp only [Option.map_some]
  congr 1
  unfold slot
  split <;> simp
/-- The frame behind all operations, put by put. -/
def putAll (v : Nat → Value) : Nat → List Oper → Act → Act
 | _, [], a => a
 | i, o :: l, a => putAll v (i + 1) l (a.put o.dst (v i))
theorem putAll_from (hok : okB ops = true) {a0 : Act} {v : Nat → Value} (l pre : List Oper) (h : ops.toList = pre ++ l) : putAll v pre.length l (frame ops a0 v (fun j => decide (j < pre.length))) = frame ops a0 v (fun j => decide (j < ops.size)) := by
 induction l generalizing pre with
 | nil =>
  have : ops.size = pre.length := by rw [← Array.length_toList, h, List.append_nil]
  rw [this]
  rfl
 | cons o l ih =>
  have ho : ops[pre.length]? = some o := by rw [← Array.getElem?_toList, h, List.getElem?_append_right (Nat.le_refl _), Nat.sub_self]; rfl
  have e : (fun j => j == pre.length || decide (j < pre.length)) = fun j => decide (j < (pre ++ [o]).length) := by
   funext j
   rw [List.length_append, List.length_singleton]
   by_cases h1 : j = pre.length
   ·subst h1; simp
   ·have hb : (j == pre.length) = false := by simpa using h1
    rw [hb, Bool.false_or, decide_eq_decide]; omega
  have hp := frame_put hok (a0 := a0) (v := v) (v' := v) (L := fun j => decide (j < pre.length)) ho (fun _ _ => rfl)
  rw [e] at hp
  show putAll v (pre.length + 1) l ((frame ops a0 v (fun j => decide (j < pre.length))).put o.dst (v pre.length)) = _
  rw [hp]
  have := ih (pre ++ [o]) (by rw [h, List.append_assoc]; rfl)
  rw [List.length_append, List.length_singleton] at this ⊢
  exact this
theorem putAll_all (hok : okB ops = true) {a0 : Act} {v : Nat → Value} : frame ops a0 v (fun _ => true) = putAll v 0 ops.toList a0 := by
 have h := putAll_from hok (a0 := a0) (v := v) ops.toList [] rfl
 have e : (fun j : Nat => decide (j < ([] : List Oper).length)) = fun _ => false := by funext j; simp
 rw [e, frame_none] at h
 rw [show ([] : List Oper).length = 0 from rfl] at h
 rw [h]
 exact (frame_all (L := fun j => decide (j < ops.size)) (fun i hi => by simpa using hi)).symm
/-- What is asked of each operation. -/
def Steps (X : Nat → Oper → Prop) : Nat → List Oper → Prop
 | _, [] => True
 | i, o :: l => X i o ∧ Steps X (i + 1) l
theorem Steps.at_ {X : Nat → Oper → Prop} {l : List Oper} {n : Nat} (h : Steps X n l) {i : Nat} {o : Oper} (ho : l[i]? = some o) : X (n + i) o := by
 induction l generalizing n i with
 | nil => simp at ho
 | cons x l ih =>
  cases i with
  | zero => simp at ho; subst ho; exact h.1
  | succ i =>
   have := ih h.2 (i := i) (by simpa using ho)
   rw [show n + 1 + i = n + (i + 1) by omega] at this
   exact this
/-- All slots that are written are there. -/
def fitB (ops : Array Oper) (n : Nat) : Bool := ops.toList.all fun o => match o.dst with
 | some t => decide (t < n)
 | none => true
theorem fit_of {n t j : Nat} (h : fitB ops n = true) (hw : who ops t = some j) : t < n := by
 obtain ⟨o, ho, hd⟩ := who_some hw
 have := List.all_eq_true.1 h o (by rw [← Array.getElem?_toList] at ho; exact List.mem_of_getElem? ho)
 simp only [hd] at this
 exact of_decide_eq_true this
/-- What is asked of an operation's outcome. -/
def Yl (P : Program) (K : Value → World → Prop) : Result Next → Prop
 | .ok (.value v) w => K v w
 | .ok .skip w => K undef w
 | .ok (.enter f args) w => Calls P f args w fun e w' => ∃ v, e = .returned v ∧ K v w'
 | _ => False
theorem yl_value {K : Value → World → Prop} {v : Value} {w : World} : Yl P K (.ok (.value v) w) = K v w := rfl
theorem yl_skip {K : Value → World → Prop} {w : World} : Yl P K (.ok .skip w) = K undef w := rfl
theorem yl_enter {K : Value → World → Prop} {f : FuncId} {args : Array Value} {w : World} : Yl P K (.ok (.enter f args) w) = Calls P f args w fun e w' => ∃ v, e = .returned v ∧ K v w' := rfl
theorem Yl.upon {K : Value → World → Prop} {r : Result Next} (h : Yl P K r) {o : Oper} {a : Act} {K' : Act → World → Prop} (hK : ∀ v w, K v w → K' (a.put o.dst v) w) : o.upon P a K' Q r := by
 cases r with
 | ok n w =>
  cases n with
  | value v => exact hK _ _ h
  | skip => exact hK _ _ h
  | enter f args => exact Calls.mono h fun e w' he => by obtain ⟨v, rfl, h⟩ := he; exact hK _ _ h
  | _ => exact absurd h (fun h => h)
 | halt x w => exact absurd h (fun h => h)
/-- What is asked of operation i: from any state that fits, it yields its value and leaves a state that fits. -/
def Step {G : Type} (P : Program) (ops : Array Oper) (a0 : Act) (v : G → Nat → Value) (C : G → (Nat → Bool) → World → Prop) (i : Nat) (o : Oper) : Prop :=
 ∀ (g : G) (L : Nat → Bool) (w : World) (K : Value → World → Prop) (ρ : Operand → Value),
  (∀ x, ρ (.const x) = x) → (∀ f, ρ (.func f) = .func (.func f) #[] #[]) → (∀ t j, who ops t = some j → L j = true → ρ (.tmp t) = v g j) → (∀ t, who ops t = none → ρ (.tmp t) = a0.eval (.tmp t)) →
  L i = false → (∀ e ∈ o.after, Region.binds .any e = true → L e.on = true) → C g L w →
  (∀ g' w', C g' (fun j => j == i || L j) w' → (∀ j, L j = true → v g' j = v g j) → K (v g' i) w') → Yl P K ((execOp ρ o).run P w)
theorem wp_region_flow {G : Type} {id : Nat} {l : List Oper} {a0 : Act} {w0 : World} (hm : P.follows .mixedOrders = true) (hlex : lexB l.toArray = true) (hok : okB l.toArray = true) (n : Nat) (hn : a0.tmps.size = n) (hfit : fitB l.toArray n = true)
  (v : G → Nat → Value) (C : G → (Nat → Bool) → World → Prop) (g0 : G) (h0 : C g0 (fun _ => false) w0.drew)
  (hstep : Steps (Step P l.toArray a0 v C) 0 l) (hdone : ∀ g L w, (∀ i, i < l.toArray.size → L i = true) → C g L w → Q .normal (frame l.toArray a0 (v g) (fun _ => true)) w) :
  (Code.region id l.toArray true).wp P Q a0 w0 := by
 refine wp_region_any hm ?_
 refine wpAny_inv (fun L a w => ∃ g, a = frame l.toArray a0 (v g) (fun i => L.getD i false) ∧ C g (fun i => L.getD i false) w) ?_ ?_ _ _ _ _ (by simp) ?_ ?_
 ·rintro L a w i o hs ⟨g, rfl, hC⟩ ho hi hd
  have hst := hstep.at_ (i := i) (o := o) (by simpa using ho)
  rw [Nat.zero_add] at hst
  have hin : i < L.size := by rw [hs]; exact (Array.getElem?_eq_some_iff.1 ho).1
  have hi' : L.getD i false = false := by rw [getD_in hin false true]; exact hi
  have hfun : (fun j => (L.setIfInBounds i true).getD j false) = fun j => j == i || L.getD j false := by
   funext j
   by_cases hj : j = i
   ·subst hj
    simp [Array.getD, hin]
   ·have hb : (j == i) = false := by simpa using hj
    rw [hb, Bool.false_or]
    simp only [Array.getD_eq_getD_getElem?, Array.getElem?_setIfInBounds]
    rw [if_neg (fun e => hj e.symm)]
  unfold wpOp
  rw [ho]
  simp only
  rw [if_pos (by simp [Region.wanted, (lex_of hlex ho).1])]
  refine .inl (Yl.upon (hst g _ w (fun u w' => ∃ g', u = v g' i ∧ C g' (fun j => j == i || L.getD j false) w' ∧ ∀ j, L.getD j false = true → v g' j = v g j) _ (fun _ => rfl) (fun _ => rfl) (fun t j h1 h2 => frame_dst h1 (by rw [hn]; exact fit_of hfit h1) h2) (fun t h1 => frame_old h1) hi' hd hC (fun g' w' h1 h2 => ⟨g', rfl, h1, h2⟩)) ?_)
  rintro u w' ⟨g', rfl, hC', hv⟩
  refine ⟨g', ?_, ?_⟩
  ·rw [hfun]; exact frame_put hok ho hv
  ·rw [hfun]; exact hC'
 ·rintro L a w hs ⟨g, rfl, hC⟩ hr
  have hall := all_of_ready hlex hs hr
  rw [frame_all hall]
  exact hdone g _ w hall hC
 ·refine ⟨g0, ?_, ?_⟩
  ·have : (fun i => (Array.replicate l.toArray.size false).getD i false) = fun _ => false := by
    funext i
    simp [Array.getD]
   rw [this, frame_none]
  ·have : (fun i => (Array.replicate l.toArray.size false).getD i false) = fun _ => false := by
    funext i
    simp [Array.getD]
   rw [this]
   exact h0
 ·unfold left
  simp only [Array.toList_replicate]
  exact Nat.le_trans List.countP_le_length (by simp)
/-- The same, the frame behind it put by put. -/
theorem wp_region_flow' {G : Type} {id : Nat} {l : List Oper} {a0 : Act} {w0 : World} (hm : P.follows .mixedOrders = true) (hlex : lexB l.toArray = true) (hok : okB l.toArray = true) (n : Nat) (hn : a0.tmps.size = n) (hfit : fitB l.toArray n = true)
  (v : G → Nat → Value) (C : G → (Nat → Bool) → World → Prop) (g0 : G) (h0 : C g0 (fun _ => false) w0.drew)
  (hstep : Steps (Step P l.toArray a0 v C) 0 l) (hdone : ∀ g L w, (∀ i, i < l.length → L i = true) → C g L w → Q .normal (putAll (v g) 0 l a0) w) :
  (Code.region id l.toArray true).wp P Q a0 w0 :=
 wp_region_flow hm hlex hok n hn hfit v C g0 h0 hstep fun g L w hL hC => by
  rw [putAll_all hok]
  exact hdone g L w (fun i hi => hL i (by simpa using hi)) hC
end
end Go.Proofs.YtfefpcdgflgaeaaGreatDoor.Flow
end

section
namespace Go.Proofs.YtfefpcdgflgaeaaGreatDoor.Flow
open Go
section
variable {P : Program} {ops : Array Oper} {Q : Exit → Act → World → Prop} {md : Region.Mode}
/-- What is asked of an operation's outcome, a call's panic let through. -/
def YlP (P : Program) (Z : List PanicEntry → World → Prop) (K : Value → World → Prop) : Result Next → Prop
 | .ok (.value v) w => K v w
 | .ok .skip w => K undef w
 | .ok (.enter f args) w => Calls P f args w fun e w' => (∃ v, e = .returned v ∧ K v w') ∨ ∃ ch, e = .panicked ch ∧ Z ch w'
 | .halt (.panic v) w => Z [{ v, recovered := false }] w
 | _ => False
variable {Z : List PanicEntry → World → Prop}
theorem ylP_value {K : Value → World → Prop} {v : Value} {w : World} : YlP P Z K (.ok (.value v) w) = K v w := rfl
theorem ylP_skip {K : Value → World → Prop} {w : World} : YlP P Z K (.ok .skip w) = K undef w := rfl
theorem ylP_enter {K : Value → World → Prop} {f : FuncId} {args : Array Value} {w : World} : YlP P Z K (.ok (.enter f args) w) = Calls P f args w fun e w' => (∃ v, e = .returned v ∧ K v w') ∨ ∃ ch, e = .panicked ch ∧ Z ch w' := rfl
theorem ylP_panic {K : Value → World → Prop} {v : Value} {w : World} : YlP P Z K (.halt (.panic v) w) = Z [{ v, recovered := false }] w := rfl
theorem YlP.upon {K : Value → World → Prop} {r : Result Next} (h : YlP P Z K r) {o : Oper} {a : Act} {K' : Act → World → Prop} (hK : ∀ v w, K v w → K' (a.put o.dst v) w) (hZ : ∀ ch w, Z ch w → Q (.panic ch) a w) : o.upon P a K' Q r := by
 cases r with
 | ok n w =>
  cases n with
  | value v => exact hK _ _ h
  | skip => exact hK _ _ h
  | enter f args =>
   refine Calls.mono h fun e w' he => ?_
   rcases he with ⟨v, rfl, h⟩ | ⟨ch, rfl, h⟩
   ·exact hK _ _ h
   ·exact hZ _ _ h
  | _ => exact absurd h (fun h => h)
 | halt x w =>
  cases x with
  | panic v => exact hZ _ _ h
  | _ => exact absurd h (fun h => h)
end
end Go.Proofs.YtfefpcdgflgaeaaGreatDoor.Flow
end
