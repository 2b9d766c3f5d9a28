/- errors.As by its contracts, at the target *api.Errno: a nil error, an api.Errno, an *api.At (after the kit's example Toyas).

errors.As at the target *api.Errno: an api.Errno, and an *api.At.

api.Tell, plain.Place and the laws' own two questions, by contracts on what an error is.

What an error is, told once for all: none, an api.Errno, an *api.At; and what api.Tell, plain.Place and the laws' own questions make of it.

vector.Right and VectorRight of the reference say what vright says.

Lists of tokens in memory.

match.Right says what tright says; the law's heavy says something.

A buffer of bytes in a block of the call's own. Any program.

A slice of bytes of the call's own, that grows: its cells, and the string that it turns into. Any program.

vary.Put makes what vput says. -/
import Derived.Test.YtkejlnjnoiidnaaGreatDoorProg
import Derived.Test.YtkejlnjnoiidnaaGreatDoorZ1
import Derived.WalkKit
import Derived.LaidEql
import Derived.Stop.Asserts
import Derived.RowKitTokens
import Derived.RegionTactic
import Derived.Deep.QuietTactic
import Derived.BigQuiet
import Derived.Deep.Cut
import Derived.Deep.DeepCutAuto
import Derived.Deep.CutBlock
import Derived.Laws.IdiomStrings
import Derived.Laws.BytesArg
import Derived.OwnWalk
import Derived.Maps.AppendAt
import Derived.KernelRfl
import Derived.Laws.OwnMore
import Derived.WalkLawsBesides
import Derived.WalkSpells
import Derived.Outline
import Derived.Lib.Hide
import Derived.Laws.BitsAllLaws
section
namespace Go.Proofs.YtkejlnjnoiidnaaGreatDoor.As
open Go.RowKit Go.Extern.Stop Go.Stop Go.Extern
theorem valueOfP (t : Addr) (w : World) : (ReflectliteValue.unpack (.iface 157 (.pointer (some t)))).run Tryz.prog w
  = .ok (.agg #[.pointer (some ⟨5, 157, none⟩), .pointer (some ⟨w.heap.size, 0, none⟩), .int .u64 150]) (w.alloc (.cells #[.pointer (some t)] 157)) := by kernel_rfl
theorem typeP (a : Addr) (w : World) : (ReflectliteValue.methodAny (ReflectliteValue.valueError "reflectlite.Value.Type" 0) (fun t _ _ _ => ReflectliteType.toType t) #[.agg #[.pointer (some ⟨5, 157, none⟩), .pointer (some a), .int .u64 150]]).run Tryz.prog w
  = .ok (.iface 206 (.agg #[.pointer (some ⟨5, 157, none⟩)])) w := by kernel_rfl
theorem methodKind (h : Value) (w : World) : (Go.method 361 206 (.agg #[h]) "Kind").run Tryz.prog w = .ok (189, h) w := by kernel_rfl
theorem kindP (w : World) : ((ReflectliteType.abiMethod fun t => (fun a : Nat => Value.int IntKind.u8 (a : Int)) <$> Rtype.kind t) #[.pointer (some ⟨5, 157, none⟩)]).run Tryz.prog w = .ok (.int .u8 22) w := by kernel_rfl
theorem kindE (w : World) : ((ReflectliteType.abiMethod fun t => (fun a : Nat => Value.int IntKind.u8 (a : Int)) <$> Rtype.kind t) #[.pointer (some ⟨5, 27, none⟩)]).run Tryz.prog w = .ok (.int .u8 2) w := by kernel_rfl
theorem rlm (z : Sem Value) (f : TypeId → Addr → Nat → Nat → Sem Value) (v : Value) :
  ReflectliteValue.method z f #[v] = (do match ← ReflectliteValue.parts v with | none => z | some (t, a, fl) => f t a fl (fl % 32)) := rfl
theorem partsP (a : Addr) (w : World) : (ReflectliteValue.parts (.agg #[.pointer (some ⟨5, 157, none⟩), .pointer (some a), .int .u64 150])).run Tryz.prog w = .ok (some (157, a, 150)) w := by kernel_rfl
theorem isNilP (a p : Addr) (W : World) (ha : W.cell? a = some (.pointer (some p))) :
  (ReflectliteValue.method (ReflectliteValue.valueError "reflectlite.Value.IsNil" 0) ReflectliteValue.isNil #[.agg #[.pointer (some ⟨5, 157, none⟩), .pointer (some a), .int .u64 150]]).run Tryz.prog W = .ok (.bool false) W := by
 rw [rlm]
 simp only [Sem.run_bind, partsP, Result.andThen]
 simp [ReflectliteValue.isNil, loadVar, isAgg, underlying, Tryz.underlying157, ha, Result.andThen]
theorem methodElem (h : Value) (w : World) : (Go.method 361 206 (.agg #[h]) "Elem").run Tryz.prog w = .ok (202, .agg #[h]) w := by kernel_rfl
theorem methodImplements (h : Value) (w : World) : (Go.method 361 206 (.agg #[h]) "Implements").run Tryz.prog w = .ok (203, .agg #[h]) w := by kernel_rfl
theorem methodAssignableTo (h : Value) (w : World) : (Go.method 361 206 (.agg #[h]) "AssignableTo").run Tryz.prog w = .ok (200, .agg #[h]) w := by kernel_rfl
theorem elemP (w : World) : (ReflectliteType.method ReflectliteType.elem #[.agg #[.pointer (some ⟨5, 157, none⟩)]]).run Tryz.prog w = .ok (.iface 206 (.agg #[.pointer (some ⟨5, 27, none⟩)])) w := by kernel_rfl
theorem implementsE (w : World) : (ReflectliteType.relation "Implements" ReflectliteType.implements_ #[.agg #[.pointer (some ⟨5, 27, none⟩)], .iface 206 (.agg #[.pointer (some ⟨5, 33, none⟩)])]).run Tryz.prog w = .ok (.bool true) w := by kernel_rfl
theorem typeOfE (v : Value) (w : World) : (ReflectliteType.typeOf #[.iface 27 v]).run Tryz.prog w = .ok (.iface 206 (.agg #[.pointer (some ⟨5, 27, none⟩)])) w := by kernel_rfl
theorem typeOfA (v : Value) (w : World) : (ReflectliteType.typeOf #[.iface 112 v]).run Tryz.prog w = .ok (.iface 206 (.agg #[.pointer (some ⟨5, 112, none⟩)])) w := by kernel_rfl
theorem assignableE (w : World) : (ReflectliteType.relation "AssignableTo" ReflectliteType.assignableTo #[.agg #[.pointer (some ⟨5, 27, none⟩)], .iface 206 (.agg #[.pointer (some ⟨5, 27, none⟩)])]).run Tryz.prog w = .ok (.bool true) w := by kernel_rfl
theorem assignableA (w : World) : (ReflectliteType.relation "AssignableTo" ReflectliteType.assignableTo #[.agg #[.pointer (some ⟨5, 112, none⟩)], .iface 206 (.agg #[.pointer (some ⟨5, 27, none⟩)])]).run Tryz.prog w = .ok (.bool false) w := by kernel_rfl
theorem valueOfE (e : Int) (w : World) : (ReflectliteValue.unpack (.iface 27 (.int .i64 e))).run Tryz.prog w
  = .ok (.agg #[.pointer (some ⟨5, 27, none⟩), .pointer (some ⟨w.heap.size, 0, none⟩), .int .u64 130]) (w.alloc (.cells #[.int .i64 e] 27)) := by kernel_rfl
theorem elemOfP (w : World) : (Rtype.elem? 157).run Tryz.prog w = .ok (some 27) w := by kernel_rfl
theorem mkE (p : Addr) (w : World) : (ReflectliteValue.mk 27 p ReflectliteValue.flagAddr).run Tryz.prog w = .ok (.agg #[.pointer (some ⟨5, 27, none⟩), .pointer (some p), .int .u64 386]) w := by kernel_rfl
theorem elemV (a p : Addr) (W : World) (ha : W.cell? a = some (.pointer (some p))) :
  (ReflectliteValue.method (ReflectliteValue.valueError "reflectlite.Value.Elem" 0) ReflectliteValue.elem #[.agg #[.pointer (some ⟨5, 157, none⟩), .pointer (some a), .int .u64 150]]).run Tryz.prog W
   = .ok (.agg #[.pointer (some ⟨5, 27, none⟩), .pointer (some p), .int .u64 386]) W := by
 rw [rlm]
 simp only [Sem.run_bind, partsP, Result.andThen]
 simp [ReflectliteValue.elem, loadVar, isAgg, underlying, Tryz.underlying157, ha, Result.andThen, elemOfP, mkE]
theorem rls (v x : Value) : ReflectliteValue.set #[v, x] = (do
  let (some (dst, a, fl), some (src, b, _)) := (← ReflectliteValue.parts v, ← ReflectliteValue.parts x)
   | unsupported (.noEntry "extern/(internal/reflectlite.Value).Set.zeroValue")
  if fl / ReflectliteValue.flagAddr % 2 == 0 then unsupported (.noEntry "extern/(internal/reflectlite.Value).Set.unaddressable")
  let val ← loadVar src b
  if ← Rtype.directlyAssignable dst src then storeVar dst a val
  else if ← Rtype.implements dst src then
   if (← Rtype.kind src) == 20 then
    match val with
    | .nilIface => unsupported (.noEntry "extern/reflectlite: a nil value of one interface type handed on as a value of another")
    | _ => storeVar dst a val
   else storeVar dst a (.iface src val)
  else panicString ("reflectlite.Set: value of type " ++ (← Rtype.spelt src) ++ " is not assignable to type " ++ (← Rtype.spelt dst))
  pure (.tuple #[])) := rfl
theorem partsEa (a : Addr) (w : World) : (ReflectliteValue.parts (.agg #[.pointer (some ⟨5, 27, none⟩), .pointer (some a), .int .u64 386])).run Tryz.prog w = .ok (some (27, a, 386)) w := by kernel_rfl
theorem partsE (a : Addr) (w : World) : (ReflectliteValue.parts (.agg #[.pointer (some ⟨5, 27, none⟩), .pointer (some a), .int .u64 130])).run Tryz.prog w = .ok (some (27, a, 130)) w := by kernel_rfl
theorem directE (w : World) : (Rtype.directlyAssignable 27 27).run Tryz.prog w = .ok true w := by kernel_rfl
theorem setE (ta b : Addr) (e : Int) (old : Value) (W : World) (hb : W.cell? b = some (.int .i64 e)) (ht : W.cell? ta = some old) (hf : W.frozen? ta = false) :
  (ReflectliteValue.set #[.agg #[.pointer (some ⟨5, 27, none⟩), .pointer (some ta), .int .u64 386], .agg #[.pointer (some ⟨5, 27, none⟩), .pointer (some b), .int .u64 130]]).run Tryz.prog W
   = .ok (.tuple #[]) (W.setCell ta (.int .i64 e)) := by
 rw [rls]
 simp only [Sem.run_bind, partsEa, partsE, Result.andThen]
 simp [ReflectliteValue.flagAddr, loadVar, isAgg, underlying, Tryz.underlying27, hb, Result.andThen, directE, storeVar, Value.cells, storeCells, Addr.add]
 rw [run_store Tryz.prog W ta _ _ (by rfl)]
 simp [ht, hf]
theorem noAs (v : Value) (xT : TypeId) (w : World) : (Instr.typeAssert (.iface 112 v) xT 211 true).run Tryz.prog w = .ok (.tuple #[.nilIface, .bool false]) w := run_typeAssert_lacksB Tryz.underlying211 (by kernel_rfl) (by kernel_rfl) v xT w
theorem hasUnwrap (v : Value) (xT : TypeId) (w : World) : (Instr.typeAssert (.iface 112 v) xT 126 true).run Tryz.prog w = .ok (.tuple #[.iface 112 v, .bool true]) w := run_typeAssert_hasB Tryz.underlying126 (by kernel_rfl) v xT w
theorem noUnwrapE (v : Value) (xT : TypeId) (w : World) : (Instr.typeAssert (.iface 27 v) xT 126 true).run Tryz.prog w = .ok (.tuple #[.nilIface, .bool false]) w := run_typeAssert_lacksB Tryz.underlying126 (by kernel_rfl) (by kernel_rfl) v xT w
theorem methodUnwrap (h : Value) (w : World) : (Go.method 361 112 h "Unwrap").run Tryz.prog w = .ok (194, h) w := by kernel_rfl
/-- The variable of package errors that holds the type of 'error'. -/
def Handle (w : World) : Prop := w.cell? ⟨0, 0, none⟩ = some (.iface 206 (.agg #[.pointer (some ⟨5, 33, none⟩)]))
theorem Handle.below {w w' : World} (h : Handle w) (hb : Below w.heap.size w w') : Handle w' := (hb.cell (cell_lt h)).trans h
end Go.Proofs.YtkejlnjnoiidnaaGreatDoor.As
end

section
namespace Go.Proofs.YtkejlnjnoiidnaaGreatDoor.As
open Go.RowKit Go.Extern.Stop Go.Stop Go.Extern
set_option maxHeartbeats 4000000 in
theorem as_errno (e : Int) (t : Addr) (old : Value) (w : World) (hg : Handle w) (ht0 : w.cell? t = some old) (hf0 : w.frozen? t = false) :
  Calls Tryz.prog 110 #[.iface 27 (.int .i64 e), .iface 157 (.pointer (some t))] w fun ev w' => ev = .returned (.bool true) ∧ ∃ w1, w' = w1.setCell t (.int .i64 e) ∧ Below w.heap.size w w1 := by
 have x0 := @run_callFunc_extern Tryz.prog 136 _ (fun args => ReflectliteValue.unpack (args.getD 0 (.tuple #[]))) Tryz.func136 (by kernel_rfl) (by kernel_rfl) (by kernel_rfl) (by kernel_rfl)
 have x1 := @run_callFunc_extern Tryz.prog 137 _ (ReflectliteValue.methodAny (ReflectliteValue.valueError "reflectlite.Value.Type" 0) (fun t _ _ _ => ReflectliteType.toType t)) Tryz.func137 (by kernel_rfl) (by kernel_rfl) (by kernel_rfl) (by kernel_rfl)
 have x2 := @run_callFunc_extern Tryz.prog 138 _ (ReflectliteValue.method (ReflectliteValue.valueError "reflectlite.Value.IsNil" 0) ReflectliteValue.isNil) Tryz.func138 (by kernel_rfl) (by kernel_rfl) (by kernel_rfl) (by kernel_rfl)
 have x3 := @run_callFunc_extern Tryz.prog 189 _ (ReflectliteType.abiMethod fun t => do pure (.int .u8 (← Rtype.kind t))) Tryz.func189 (by kernel_rfl) (by kernel_rfl) (by kernel_rfl) (by kernel_rfl)
 have x4 := @run_callFunc_extern Tryz.prog 202 _ (ReflectliteType.method ReflectliteType.elem) Tryz.func202 (by kernel_rfl) (by kernel_rfl) (by kernel_rfl) (by kernel_rfl)
 have x5 := @run_callFunc_extern Tryz.prog 203 _ (ReflectliteType.relation "Implements" ReflectliteType.implements_) Tryz.func203 (by kernel_rfl) (by kernel_rfl) (by kernel_rfl) (by kernel_rfl)
 have x6 := @run_callFunc_extern Tryz.prog 150 _ (ReflectliteType.typeOf) Tryz.func150 (by kernel_rfl) (by kernel_rfl) (by kernel_rfl) (by kernel_rfl)
 have x7 := @run_callFunc_extern Tryz.prog 200 _ (ReflectliteType.relation "AssignableTo" ReflectliteType.assignableTo) Tryz.func200 (by kernel_rfl) (by kernel_rfl) (by kernel_rfl) (by kernel_rfl)
 have x8 := @run_callFunc_extern Tryz.prog 151 _ (ReflectliteValue.method (ReflectliteValue.valueError "reflectlite.Value.Elem" 0) ReflectliteValue.elem) Tryz.func151 (by kernel_rfl) (by kernel_rfl) (by kernel_rfl) (by kernel_rfl)
 have x9 := @run_callFunc_extern Tryz.prog 152 _ (ReflectliteValue.set) Tryz.func152 (by kernel_rfl) (by kernel_rfl) (by kernel_rfl) (by kernel_rfl)
 have c0 := valueOfP
 have c1 := typeP
 have c2 := methodKind
 have c3 := kindP
 have c4 := kindE
 have c5 := methodElem
 have c6 := methodImplements
 have c7 := methodAssignableTo
 have c8 := elemP
 have c9 := implementsE
 have c10 := typeOfE
 have c11 := assignableE
 have c12 := valueOfE
 have hlt := cell_lt hg
 have htl := cell_lt ht0
 simp only at hlt
 have n8 := isNilP ⟨w.heap.size, 0, none⟩ t ((w.alloc (.cells #[.pointer (some t)] 157)).alloc (.cells #[.pointer (some ⟨5, 157, none⟩), .pointer (some ⟨w.heap.size, 0, none⟩), .int .u64 150] 186)) (by simp)
 have hg2 : ((w.alloc (.cells #[.pointer (some t)] 157)).alloc (.cells #[.pointer (some ⟨5, 157, none⟩), .pointer (some ⟨w.heap.size, 0, none⟩), .int .u64 150] 186)).cell? ⟨0, 0, none⟩ = some (.iface 206 (.agg #[.pointer (some ⟨5, 33, none⟩)])) := by
  rw [World.cell?_alloc_lt _ _ ⟨0, 0, none⟩ (by simp), World.cell?_alloc_lt _ _ ⟨0, 0, none⟩ hlt]; exact hg
 have el := elemV ⟨w.heap.size, 0, none⟩ t (((w.alloc (.cells #[.pointer (some t)] 157)).alloc (.cells #[.pointer (some ⟨5, 157, none⟩), .pointer (some ⟨w.heap.size, 0, none⟩), .int .u64 150] 186)).alloc (.cells #[.pointer (some ⟨5, 157, none⟩), .pointer (some ⟨w.heap.size, 0, none⟩), .int .u64 150] 186)) (by rw [World.cell?_alloc_lt _ _ ⟨w.heap.size, 0, none⟩ (by simp <;> omega)]; simp)
 have st := setE t ⟨w.heap.size + 1 + 1 + 1, 0, none⟩ e old ((((w.alloc (.cells #[.pointer (some t)] 157)).alloc (.cells #[.pointer (some ⟨5, 157, none⟩), .pointer (some ⟨w.heap.size, 0, none⟩), .int .u64 150] 186)).alloc (.cells #[.pointer (some ⟨5, 157, none⟩), .pointer (some ⟨w.heap.size, 0, none⟩), .int .u64 150] 186)).alloc (.cells #[.int .i64 e] 27))
  (by rw [World.cell?_alloc_at _ _ _ _ (by simp)]; rfl)
  (by rw [World.cell?_alloc_lt _ _ t (by simp; omega), World.cell?_alloc_lt _ _ t (by simp; omega), World.cell?_alloc_lt _ _ t (by simp; omega), World.cell?_alloc_lt _ _ t htl]; exact ht0)
  (by rw [World.frozen?_alloc_old _ _ t (by simp; omega), World.frozen?_alloc_old _ _ t (by simp; omega), World.frozen?_alloc_old _ _ t (by simp; omega), World.frozen?_alloc_old _ _ t (Nat.ne_of_lt htl)]; exact hf0)
 unfold Handle at hg
 go_enter Tryz.func110, Tryz.ntmps110
 go_wp2
 refine wp_loop_rounds 1 ?_
 rw [rounds_succ]
 go_wp2
 go_ret
 exact ⟨rfl, _, rfl, ((((Below.refl _ _).alloc (Nat.le_refl _) _).alloc (by simp) _).alloc (by simp; omega) _).alloc (by simp; omega) _⟩
set_option maxHeartbeats 4000000 in
theorem as_at (e : Int) (a : Addr) (t : Addr) (old : Value) (w : World) (hg : Handle w) (ha : w.cell? a = some (.int .i64 e)) (ht0 : w.cell? t = some old) (hf0 : w.frozen? t = false) :
  Calls Tryz.prog 110 #[.iface 112 (.pointer (some a)), .iface 157 (.pointer (some t))] w fun ev w' => ev = .returned (.bool true) ∧ ∃ w1, w' = w1.setCell t (.int .i64 e) ∧ Below w.heap.size w w1 := by
 have x0 := @run_callFunc_extern Tryz.prog 136 _ (fun args => ReflectliteValue.unpack (args.getD 0 (.tuple #[]))) Tryz.func136 (by kernel_rfl) (by kernel_rfl) (by kernel_rfl) (by kernel_rfl)
 have x1 := @run_callFunc_extern Tryz.prog 137 _ (ReflectliteValue.methodAny (ReflectliteValue.valueError "reflectlite.Value.Type" 0) (fun t _ _ _ => ReflectliteType.toType t)) Tryz.func137 (by kernel_rfl) (by kernel_rfl) (by kernel_rfl) (by kernel_rfl)
 have x2 := @run_callFunc_extern Tryz.prog 138 _ (ReflectliteValue.method (ReflectliteValue.valueError "reflectlite.Value.IsNil" 0) ReflectliteValue.isNil) Tryz.func138 (by kernel_rfl) (by kernel_rfl) (by kernel_rfl) (by kernel_rfl)
 have x3 := @run_callFunc_extern Tryz.prog 189 _ (ReflectliteType.abiMethod fun t => do pure (.int .u8 (← Rtype.kind t))) Tryz.func189 (by kernel_rfl) (by kernel_rfl) (by kernel_rfl) (by kernel_rfl)
 have x4 := @run_callFunc_extern Tryz.prog 202 _ (ReflectliteType.method ReflectliteType.elem) Tryz.func202 (by kernel_rfl) (by kernel_rfl) (by kernel_rfl) (by kernel_rfl)
 have x5 := @run_callFunc_extern Tryz.prog 203 _ (ReflectliteType.relation "Implements" ReflectliteType.implements_) Tryz.func203 (by kernel_rfl) (by kernel_rfl) (by kernel_rfl) (by kernel_rfl)
 have x6 := @run_callFunc_extern Tryz.prog 150 _ (ReflectliteType.typeOf) Tryz.func150 (by kernel_rfl) (by kernel_rfl) (by kernel_rfl) (by kernel_rfl)
 have x7 := @run_callFunc_extern Tryz.prog 200 _ (ReflectliteType.relation "AssignableTo" ReflectliteType.assignableTo) Tryz.func200 (by kernel_rfl) (by kernel_rfl) (by kernel_rfl) (by kernel_rfl)
 have x8 := @run_callFunc_extern Tryz.prog 151 _ (ReflectliteValue.method (ReflectliteValue.valueError "reflectlite.Value.Elem" 0) ReflectliteValue.elem) Tryz.func151 (by kernel_rfl) (by kernel_rfl) (by kernel_rfl) (by kernel_rfl)
 have x9 := @run_callFunc_extern Tryz.prog 152 _ (ReflectliteValue.set) Tryz.func152 (by kernel_rfl) (by kernel_rfl) (by kernel_rfl) (by kernel_rfl)
 have c0 := valueOfP
 have c1 := typeP
 have c2 := methodKind
 have c3 := kindP
 have c4 := kindE
 have c5 := methodElem
 have c6 := methodImplements
 have c7 := methodAssignableTo
 have c8 := elemP
 have c9 := implementsE
 have c10 := typeOfE
 have c11 := assignableE
 have c12 := valueOfE
 have c13 := typeOfA
 have c14 := assignableA
 have c15 := noAs
 have c16 := hasUnwrap
 have c17 := methodUnwrap
 have hlt := cell_lt hg
 have htl := cell_lt ht0
 simp only at hlt
 have n8 := isNilP ⟨w.heap.size, 0, none⟩ t ((w.alloc (.cells #[.pointer (some t)] 157)).alloc (.cells #[.pointer (some ⟨5, 157, none⟩), .pointer (some ⟨w.heap.size, 0, none⟩), .int .u64 150] 186)) (by simp)
 have hg2 : ((w.alloc (.cells #[.pointer (some t)] 157)).alloc (.cells #[.pointer (some ⟨5, 157, none⟩), .pointer (some ⟨w.heap.size, 0, none⟩), .int .u64 150] 186)).cell? ⟨0, 0, none⟩ = some (.iface 206 (.agg #[.pointer (some ⟨5, 33, none⟩)])) := by
  rw [World.cell?_alloc_lt _ _ ⟨0, 0, none⟩ (by simp), World.cell?_alloc_lt _ _ ⟨0, 0, none⟩ hlt]; exact hg
 have el := elemV ⟨w.heap.size, 0, none⟩ t (((w.alloc (.cells #[.pointer (some t)] 157)).alloc (.cells #[.pointer (some ⟨5, 157, none⟩), .pointer (some ⟨w.heap.size, 0, none⟩), .int .u64 150] 186)).alloc (.cells #[.pointer (some ⟨5, 157, none⟩), .pointer (some ⟨w.heap.size, 0, none⟩), .int .u64 150] 186)) (by rw [World.cell?_alloc_lt _ _ ⟨w.heap.size, 0, none⟩ (by simp <;> omega)]; simp)
 have st := setE t ⟨w.heap.size + 1 + 1 + 1, 0, none⟩ e old ((((w.alloc (.cells #[.pointer (some t)] 157)).alloc (.cells #[.pointer (some ⟨5, 157, none⟩), .pointer (some ⟨w.heap.size, 0, none⟩), .int .u64 150] 186)).alloc (.cells #[.pointer (some ⟨5, 157, none⟩), .pointer (some ⟨w.heap.size, 0, none⟩), .int .u64 150] 186)).alloc (.cells #[.int .i64 e] 27))
  (by rw [World.cell?_alloc_at _ _ _ _ (by simp)]; rfl)
  (by rw [World.cell?_alloc_lt _ _ t (by simp; omega), World.cell?_alloc_lt _ _ t (by simp; omega), World.cell?_alloc_lt _ _ t (by simp; omega), World.cell?_alloc_lt _ _ t htl]; exact ht0)
  (by rw [World.frozen?_alloc_old _ _ t (by simp; omega), World.frozen?_alloc_old _ _ t (by simp; omega), World.frozen?_alloc_old _ _ t (by simp; omega), World.frozen?_alloc_old _ _ t (Nat.ne_of_lt htl)]; exact hf0)
 unfold Handle at hg
 have hal := cell_lt ha
 have ha2 : (((w.alloc (.cells #[.pointer (some t)] 157)).alloc (.cells #[.pointer (some ⟨5, 157, none⟩), .pointer (some ⟨w.heap.size, 0, none⟩), .int .u64 150] 186)).alloc (.cells #[.pointer (some ⟨5, 157, none⟩), .pointer (some ⟨w.heap.size, 0, none⟩), .int .u64 150] 186)).cell? a = some (.int .i64 e) := by rw [World.cell?_alloc_lt _ _ a (by simp; omega), World.cell?_alloc_lt _ _ a (by simp; omega), World.cell?_alloc_lt _ _ a hal]; exact ha
 go_enter Tryz.func110, Tryz.ntmps110
 go_wp2
 refine wp_loop_rounds 2 ?_
 rw [rounds_succ]
 go_wp2
 rw [rounds_succ]
 go_wp2
 go_ret
 exact ⟨rfl, _, rfl, ((((Below.refl _ _).alloc (Nat.le_refl _) _).alloc (by simp) _).alloc (by simp; omega) _).alloc (by simp; omega) _⟩

end Go.Proofs.YtkejlnjnoiidnaaGreatDoor.As
end

section
namespace Go.Proofs.YtkejlnjnoiidnaaGreatDoor.As
open Go.RowKit Go.Extern.Stop Go.Stop Go.Extern
theorem below1 (w : World) (o : Obj) : Below w.heap.size w (w.alloc o) := (Below.refl _ _).alloc (Nat.le_refl _) o
/-- Tell's three answers. -/
theorem tell_nil (w : World) : Calls Tryz.prog 61 #[.nilIface] w fun e w' => e = .returned (.int .i64 0) ∧ w = w' := by
 go_enter Tryz.func61, Tryz.ntmps61
 go_wp2
 go_ret
 exact ⟨rfl, rfl⟩
theorem tell_errno (e : Int) (w : World) (hg : Handle w) : Calls Tryz.prog 61 #[.iface 27 (.int .i64 e)] w fun r w' => r = .returned (.int .i64 e) ∧ Below w.heap.size w w' := by
 go_enter Tryz.func61, Tryz.ntmps61
 go_wp2_with fail
 refine (as_errno e _ _ _ (hg.below ((Below.refl _ _).alloc (Nat.le_refl _) _)) (World.cell?_alloc_at _ _ _ _ rfl) (by simp)).mono ?_
 rintro r w' ⟨rfl, w1, rfl, hb⟩
 have hz := hb.size
 have hc : w1.cell? ⟨w.heap.size, 0, none⟩ = some (.int .i64 0) := (hb.cell (p := ⟨w.heap.size, 0, none⟩) (by simp)).trans (by rw [World.cell?_alloc_at _ _ _ _ rfl]; rfl)
 have hc2 : (w1.setCell ⟨w.heap.size, 0, none⟩ (.int .i64 e)).cell? ⟨w.heap.size, 0, none⟩ = some (.int .i64 e) := World.cell?_setCell_same _ _ _ hc
 simp at hz
 go_wp2_with fail
 go_ret
 exact ⟨rfl, ((below1 _ _).trans (hb.mono (by simp))).setCell (by simp) _⟩
theorem tell_at (e : Int) (a : Addr) (w : World) (hg : Handle w) (ha : w.cell? a = some (.int .i64 e)) : Calls Tryz.prog 61 #[.iface 112 (.pointer (some a))] w fun r w' => r = .returned (.int .i64 e) ∧ Below w.heap.size w w' := by
 go_enter Tryz.func61, Tryz.ntmps61
 go_wp2_with fail
 refine (as_at e a _ _ _ (hg.below ((Below.refl _ _).alloc (Nat.le_refl _) _)) (by rw [World.cell?_alloc_lt _ _ a (cell_lt ha)]; exact ha) (World.cell?_alloc_at _ _ _ _ rfl) (by simp)).mono ?_
 rintro r w' ⟨rfl, w1, rfl, hb⟩
 have hz := hb.size
 have hc : w1.cell? ⟨w.heap.size, 0, none⟩ = some (.int .i64 0) := (hb.cell (p := ⟨w.heap.size, 0, none⟩) (by simp)).trans (by rw [World.cell?_alloc_at _ _ _ _ rfl]; rfl)
 have hc2 : (w1.setCell ⟨w.heap.size, 0, none⟩ (.int .i64 e)).cell? ⟨w.heap.size, 0, none⟩ = some (.int .i64 e) := World.cell?_setCell_same _ _ _ hc
 simp at hz
 go_wp2_with fail
 go_ret
 exact ⟨rfl, ((below1 _ _).trans (hb.mono (by simp))).setCell (by simp) _⟩
end Go.Proofs.YtkejlnjnoiidnaaGreatDoor.As
end

section
namespace Go.Proofs.YtkejlnjnoiidnaaGreatDoor
open Go.RowKit Go.Extern.Stop Go.Stop Go.Extern As
/-- v is the error e with the place p: 0, -1: none. -/
inductive ErrIs (w : World) : Value → Int → Int → Prop
 | none : ErrIs w .nilIface 0 (-1)
 | bare (e : Int) (he : e ≠ 0) : ErrIs w (.iface 27 (.int .i64 e)) e (-1)
 | at_ (b o : Nat) (e p : Int) (he : e ≠ 0) (h0 : w.cell? ⟨b, o, none⟩ = some (.int .i64 e)) (h1 : w.cell? ⟨b, o + 1, none⟩ = some (.int .i64 p)) : ErrIs w (.iface 112 (.pointer (some ⟨b, o, none⟩))) e p
theorem ErrIs.below {w w' : World} {v : Value} {e p : Int} (h : ErrIs w v e p) (hb : Below w.heap.size w w') : ErrIs w' v e p := by
 cases h with
 | none => exact .none
 | bare _ he => exact .bare _ he
 | at_ b o _ _ he h0 h1 => exact .at_ b o _ _ he ((hb.cell (cell_lt h0)).trans h0) ((hb.cell (cell_lt h1)).trans h1)
theorem ErrIs.drewN {w : World} {v : Value} {e p : Int} (h : ErrIs w v e p) (n : Nat) : ErrIs (w.drewN n) v e p := h.below (below_drewN (Below.refl _ _) n)
theorem ErrIs.zero {w : World} {v : Value} {p : Int} (h : ErrIs w v 0 p) : v = .nilIface ∧ p = -1 := by
 generalize he : (0 : Int) = e at h
 cases h with
 | none => exact ⟨rfl, rfl⟩
 | bare _ h => exact absurd he.symm h
 | at_ _ _ _ _ h => exact absurd he.symm h
/-- An error without a place, as a value. -/
def errV (e : Int) : Value := if e = 0 then .nilIface else .iface 27 (.int .i64 e)
theorem errV_zero : errV 0 = .nilIface := rfl
theorem errV_of {e : Int} (h : e ≠ 0) : errV e = .iface 27 (.int .i64 e) := by unfold errV; rw [if_neg h]
theorem errV_is (w : World) (e : Int) : ErrIs w (errV e) e (-1) := by
 by_cases h : e = 0
 ·subst h; exact .none
 ·rw [errV_of h]; exact .bare e h
theorem tell_any {v : Value} {e p : Int} {w : World} (h : ErrIs w v e p) (hg : Handle w) : Calls Tryz.prog 61 #[v] w fun r w' => r = .returned (.int .i64 e) ∧ Below w.heap.size w w' := by
 cases h with
 | none => exact (tell_nil w).mono fun _ _ ⟨a, b⟩ => ⟨a, b ▸ Below.refl _ _⟩
 | bare _ he => exact tell_errno _ w hg
 | at_ b o _ _ he h0 h1 => exact tell_at _ _ w hg h0
theorem isAtE (v : Value) (w : World) : (Instr.typeAssert (.iface 27 v) 33 112 true).run Tryz.prog w = .ok (.tuple #[.pointer none, .bool false]) w := by kernel_rfl
theorem isAtA (v : Value) (w : World) : (Instr.typeAssert (.iface 112 v) 33 112 true).run Tryz.prog w = .ok (.tuple #[v, .bool true]) w := by kernel_rfl
set_option maxHeartbeats 1000000 in
theorem place_any {v : Value} {e p : Int} {w : World} (h : ErrIs w v e p) (hg : Handle w) : Calls Tryz.prog 44 #[v] w fun r w' => r = .returned (.tuple #[.int .i64 e, .int .i64 p]) ∧ Below w.heap.size w w' := by
 cases h with
 | none =>
  go_enter Tryz.func44, Tryz.ntmps44
  go_wp2_with (go_at_call 61; refine (tell_nil w).mono ?_; rintro e w' ⟨rfl, rfl⟩)
  refine wp_loop_rounds 1 ?_
  rw [rounds_succ]
  go_wp2
  go_ret2
  exact ⟨rfl, Below.refl _ _⟩
 | bare _ he =>
  have n1 := noUnwrapE
  have n2 := isAtE
  go_enter Tryz.func44, Tryz.ntmps44
  go_wp2_with (go_at_call 61; refine (tell_errno e w hg).mono ?_; rintro e w' ⟨rfl, hb⟩)
  refine wp_loop_rounds 1 ?_
  rw [rounds_succ]
  go_wp2
  go_ret2
  exact ⟨rfl, hb⟩
 | at_ b o _ _ he h0 h1 =>
  have n2 := isAtA
  go_enter Tryz.func44, Tryz.ntmps44
  go_wp2_with (go_at_call 61; refine (tell_at e _ w hg h0).mono ?_; rintro e w' ⟨rfl, hb⟩)
  have h1' := (hb.cell (cell_lt h1)).trans h1
  refine wp_loop_rounds 1 ?_
  rw [rounds_succ]
  go_wp2
  go_quiet (fail)
  go_wp2
  go_ret2
  exact ⟨rfl, below_drewN hb _⟩
theorem bare_any {v : Value} {e p : Int} {w : World} (h : ErrIs w v e p) (hg : Handle w) (x : Int) : Calls Tryz.prog 24 #[v, .int .i64 x] w fun r w' => r = .returned (.bool (decide (e = x ∧ p = -1))) ∧ Below w.heap.size w w' := by
 go_enter Tryz.func24, Tryz.ntmps24
 go_wp2_with fail
 refine (place_any h hg).mono ?_
 rintro r w' ⟨rfl, hb⟩
 by_cases h1 : e = x <;> by_cases h2 : p = -1 <;> simp only [h1, h2]
 all_goals
  go_wp2_with fail
  go_ret
  exact ⟨by first | rfl | simp [*], hb⟩
theorem placed_any {v : Value} {e p : Int} {w : World} (h : ErrIs w v e p) (hg : Handle w) (x y : Int) : Calls Tryz.prog 13 #[v, .agg #[.int .i64 x, .int .i64 y]] w fun r w' => r = .returned (.bool (decide (e = x ∧ p = y))) ∧ Below w.heap.size w w' := by
 have hb1 := below1 w (.cells #[.int .i64 x, .int .i64 y] 29)
 have hh := h.below hb1
 have hgh := hg.below hb1
 go_enter Tryz.func13, Tryz.ntmps13
 go_wp2_with fail
 refine (place_any hh hgh).mono ?_
 rintro r w' ⟨rfl, hb⟩
 have c0 : w'.cell? ⟨w.heap.size, 0, none⟩ = some (.int .i64 x) := (hb.cell (p := ⟨w.heap.size, 0, none⟩) (by simp)).trans (by rw [World.cell?_alloc_at _ _ _ _ rfl]; rfl)
 have c1 : w'.cell? ⟨w.heap.size, 1, none⟩ = some (.int .i64 y) := (hb.cell (p := ⟨w.heap.size, 1, none⟩) (by simp)).trans (by rw [World.cell?_alloc_at _ _ _ _ rfl]; rfl)
 by_cases h1 : e = x
 ·subst h1
  by_cases h2 : p = y
  ·subst h2
   go_wp2_with fail
   go_ret
   exact ⟨by first | rfl | simp [*], hb1.trans (hb.mono (by simp))⟩
  ·have h2' : (p == y) = false := by simp [h2]
   go_wp2_with fail
   go_ret
   exact ⟨by first | rfl | simp [*], hb1.trans (hb.mono (by simp))⟩
 ·have h1' : (e == x) = false := by simp [h1]
  go_wp2_with fail
  go_ret
  exact ⟨by first | rfl | simp [*], hb1.trans (hb.mono (by simp))⟩
end Go.Proofs.YtkejlnjnoiidnaaGreatDoor
end

section
namespace Go.Proofs.YtkejlnjnoiidnaaGreatDoor
open Go.RowKit As
/-- An error that is what a pair says. -/
abbrev ErrOf (w : World) (v : Value) (f : Int × Int) : Prop := ErrIs w v f.1 f.2
theorem ErrOf.of {w : World} {v : Value} {e p : Int} {f : Int × Int} (h : ErrIs w v e p) (hf : f = (e, p)) : ErrOf w v f := by subst hf; exact h
theorem err_new (w : World) (e p : Int) (he : e ≠ 0) : ErrIs (w.alloc (.cells #[.int .i64 e, .int .i64 p] 114)) (.iface 112 (.pointer (some ⟨w.heap.size, 0, none⟩))) e p :=
 .at_ _ _ _ _ he (by rw [World.cell?_alloc_at _ _ _ _ rfl]; rfl) (by rw [World.cell?_alloc_at _ _ _ _ rfl]; rfl)
theorem err_at (w : World) (n : Nat) (e p : Int) (he : e ≠ 0) (hn : n = w.heap.size) : ErrIs (w.alloc (.cells #[.int .i64 e, .int .i64 p] 114)) (.iface 112 (.pointer (some ⟨n, 0, none⟩))) e p := by
 subst hn; exact err_new w e p he
theorem bad_parts {r t : Int} (h : entBad (r, t)) : (decide (r < 0) = true) ∨ (decide (r < 0) = false ∧ decide (200 < r) = true) ∨ (decide (r < 0) = false ∧ decide (200 < r) = false ∧ decide (t < 1) = true) ∨ (decide (r < 0) = false ∧ decide (200 < r) = false ∧ decide (t < 1) = false ∧ decide (1099511627776 < t) = true) := by
 unfold entBad at h
 simp only at h
 simp only [decide_eq_true_eq, decide_eq_false_iff_not]
 omega
set_option maxHeartbeats 1000000 in
theorem vright_any (w : World) (n c : Nat) (A : Option Addr) (l : List Ent) (hl : Ents w w.heap.size A n l) (hn : n ≤ maxLen) :
  Calls Tryz.prog 79 #[.slice A n c] w fun e w' => ∃ v, e = .returned v ∧ ErrOf w' v (vright l) ∧ Below w.heap.size w w' := by
 unfold maxLen at hn
 have hlen := hl.len
 by_cases hbig : 16 < n
 ·have hv := Lib.hid (vright_big (l := l) (by omega))
  have hd : decide (16 < n) = true := by simpa using hbig
  have hlen := Lib.hid hlen
  clear hl
  go_enter Tryz.func79, Tryz.ntmps79
  go_wp2
  go_ret
  exact ⟨_, rfl, ErrOf.of (.bare 4 (by omega)) hv.out, Below.refl _ _⟩
 ·have hv := Lib.hid (vright_small (l := l) (by omega))
  have hd : decide (16 < n) = false := by simpa using hbig
  have hlen := Lib.hid hlen
  go_enter Tryz.func79, Tryz.ntmps79
  go_wp2
  go_loopw [3, 4, 5, 12] (fun _ _ _ i wr => ∃ k : Nat, k ≤ n ∧ i = .int .i64 k ∧ VAt l k ∧ Below w.heap.size w wr) (fun _ _ _ i _ => n - (intOf i).toNat)
  case atStart => exact ⟨0, by omega, rfl, VAt.zero l, Below.refl _ _⟩
  case round =>
   obtain ⟨k, hk, rfl, hat, hbel⟩ := hrel
   have Hat := Lib.hid hat
   clear hat
   have hsz := hbel.size
   by_cases hlt : k < n
   ·obtain ⟨b, o, r, t, rfl, hb, hx, hf, hc0, hc1⟩ := hl.at_ hlt
    have c0 := (hbel.cell (p := ⟨b, o + k * 2, none⟩) (by simp; omega)).trans hc0
    have c1 := (hbel.cell (p := ⟨b, o + k * 2 + 1, none⟩) (by simp; omega)).trans hc1
    clear hc0 hc1
    have hX := Lib.hid hx
    clear hx
    have hrt := Lib.hid hf
    clear hf
    by_cases hbad : entBad (r, t)
    ·have hres := Lib.hid (Hat.out.bad hX.out hbad)
     have hparts := bad_parts hbad
     clear hbad
     rcases hparts with d0 | ⟨d0, d1⟩ | ⟨d0, d1, d2⟩ | ⟨d0, d1, d2, d3⟩
     all_goals
      go_wp2
      go_ret
      exact ⟨_, rfl, ErrOf.of (err_at _ _ 2 k (by omega) (by simp)) (hv.out.trans hres.out), (hbel.alloc hsz _).alloc (by simp; omega) _⟩
    ·have hok : 0 ≤ r ∧ r ≤ 200 ∧ 1 ≤ t ∧ t ≤ 1099511627776 := by unfold entBad at hbad; simp only at hbad; omega
     obtain ⟨g0, g1, g2, g3⟩ := hok
     have d0 : decide (r < 0) = false := by simpa using g0
     have d1 : decide (200 < r) = false := by simpa using g1
     have d2 : decide (t < 1) = false := by simpa using g2
     have d3 : decide (1099511627776 < t) = false := by simpa using g3
     have Hbad := Lib.hid hbad
     clear hbad
     by_cases hk0 : k = 0
     ·have hz : decide (0 < k) = false := by simp [hk0]
      have hl0 := Lib.hid hk0
      clear hk0
      have hnext := Lib.hid (Hat.out.succ hX.out Hbad.out (by rw [hl0.out, lastAt_zero]; omega))
      go_wp2
      go_quiet (fail)
      go_wp2
      go_roundw
      case rel => exact ⟨k + 1, by omega, by go_num, hnext.out, below_drewN (hbel.alloc hsz _) _⟩
      case measure => simp [intOf]; omega
     ·have hz : decide (0 < k) = true := by simp; omega
      obtain ⟨b', o', r', t', e', hb', hx', hf', hc0', hc1'⟩ := hl.at_ (k := k - 1) (by omega)
      injection e' with e'
      injection e' with e1 e2
      subst e1 e2
      have c2 := (hbel.cell (p := ⟨b, o + (k - 1) * 2, none⟩) (by simp; omega)).trans hc0'
      have hlast := Lib.hid (lastAt_succ l (k - 1) r' t' hx')
      clear hc0' hc1' hx' hf'
      have ek : k - 1 + 1 = k := by omega
      have hk1 : k - 1 < n := by omega
      have hlast2 := Lib.hid ((congrArg (lastAt l) ek).symm.trans hlast.out)
      clear ek hlast
      by_cases ho : r ≤ r'
      ·have hres := Lib.hid (Hat.out.order hX.out Hbad.out (by rw [hlast2.out]; exact ho))
       have d4 : decide (r ≤ r') = true := by simpa using ho
       go_wp2
       have hwr : IntKind.i64.wrap ((k : Int) - 1) = ((k - 1 : Nat) : Int) := by rw [IntWalk.i64_in _ (by omega)]; omega
       have c3 : (wr.alloc (.cells #[.int .i64 r, .int .i64 t] 79)).cell? ⟨b, o + (k - 1) * 2, none⟩ = some (.int .i64 r') := (World.cell?_alloc_lt _ _ ⟨b, o + (k - 1) * 2, none⟩ (by simp; omega)).trans c2
       go_quiet (fail)
       go_wp2
       go_ret
       exact ⟨_, rfl, ErrOf.of (err_at _ _ 10 k (by omega) (by simp)) (hv.out.trans hres.out), (below_drewN (hbel.alloc hsz _) _).alloc (by simp; omega) _⟩
      ·have hnext := Lib.hid (Hat.out.succ hX.out Hbad.out (by rw [hlast2.out]; exact ho))
       have d4 : decide (r ≤ r') = false := by simpa using ho
       go_wp2
       have hwr : IntKind.i64.wrap ((k : Int) - 1) = ((k - 1 : Nat) : Int) := by rw [IntWalk.i64_in _ (by omega)]; omega
       have c3 : (wr.alloc (.cells #[.int .i64 r, .int .i64 t] 79)).cell? ⟨b, o + (k - 1) * 2, none⟩ = some (.int .i64 r') := (World.cell?_alloc_lt _ _ ⟨b, o + (k - 1) * 2, none⟩ (by simp; omega)).trans c2
       go_quiet (fail)
       clear hwr
       go_wp2
       go_roundw
       case rel => exact ⟨k + 1, by omega, by go_num, hnext.out, below_drewN (hbel.alloc hsz _) _⟩
       case measure => simp [intOf]; omega
   ·obtain rfl : k = n := by omega
    have hend := Lib.hid (Hat.out.all (by rw [hlen.out]; exact Nat.le_refl _))
    clear hlt
    go_wp2
    go_ret
    exact ⟨_, rfl, ErrOf.of .none (hv.out.trans hend.out), hbel⟩
/-- within. -/
def inB (n lo hi : Int) : Bool := decide (lo ≤ n ∧ n ≤ hi)
theorem within_any (n lo hi : Int) (w : World) : Calls Tryz.prog 54 #[.int .i64 n, .int .i64 lo, .int .i64 hi] w fun e w' => e = .returned (.bool (inB n lo hi)) ∧ w = w' := by
 by_cases h1 : lo ≤ n
 ·by_cases h2 : n ≤ hi
  ·have hb : inB n lo hi = true := by unfold inB; simp [h1, h2]
   have Hb := Lib.hid hb
   clear hb
   go_enter Tryz.func54, Tryz.ntmps54
   go_wp2
   go_ret
   exact ⟨retB Hb.out.symm, rfl⟩
  ·have hb : inB n lo hi = false := by unfold inB; simp [h1, h2]
   have Hb := Lib.hid hb
   clear hb
   go_enter Tryz.func54, Tryz.ntmps54
   go_wp2
   go_ret
   exact ⟨retB Hb.out.symm, rfl⟩
 ·have hb : inB n lo hi = false := by unfold inB; simp [h1]
  have Hb := Lib.hid hb
  clear hb
  go_enter Tryz.func54, Tryz.ntmps54
  go_wp2
  go_ret
  exact ⟨retB Hb.out.symm, rfl⟩
theorem within_is {n lo hi : Int} {b : Bool} (h : Hid (inB n lo hi = b)) (w : World) : Calls Tryz.prog 54 #[.int .i64 n, .int .i64 lo, .int .i64 hi] w fun e w' => e = .returned (.bool b) ∧ w = w' :=
 (within_any n lo hi w).mono fun _ _ ⟨a, b⟩ => ⟨by rw [a]; exact retB h, b⟩
/-- A fault of the reference. -/
def faultV (f : Int × Int) : Value := .agg #[.int .i64 f.1, .int .i64 f.2]
theorem bareF_any (e : Int) (w : World) : Calls Tryz.prog 47 #[.int .i64 e] w fun r w' => r = .returned (.agg #[.int .i64 e, .int .i64 (-1)]) ∧ Below w.heap.size w w' := by
 go_enter Tryz.func47, Tryz.ntmps47
 go_wp2
 exact bodyPost_ret (v := .agg #[.int .i64 e, .int .i64 (-1)]) (by simp [results, Tryz.results47, go_sem]) rfl ⟨rfl, below1 _ _⟩
theorem good_any (w : World) : Calls Tryz.prog 35 #[] w fun r w' => r = .returned (.agg #[.int .i64 0, .int .i64 (-1)]) ∧ Below w.heap.size w w' := by
 go_enter Tryz.func35, Tryz.ntmps35
 go_wp2
 exact bodyPost_ret (v := .agg #[.int .i64 0, .int .i64 (-1)]) (by simp [results, Tryz.results35, go_sem]) rfl ⟨rfl, below1 _ _⟩
theorem set2 {w : World} {s : Nat} {old0 old1 : Value} (a b : Value) (h0 : w.cell? ⟨s, 0, none⟩ = some old0) (h1 : w.cell? ⟨s, 1, none⟩ = some old1) :
  ((w.setCell ⟨s, 0, none⟩ a).setCell ⟨s, 1, none⟩ b).cell? ⟨s, 0, none⟩ = some a ∧ ((w.setCell ⟨s, 0, none⟩ a).setCell ⟨s, 1, none⟩ b).cell? ⟨s, 1, none⟩ = some b := by
 have h1' : (w.setCell ⟨s, 0, none⟩ a).cell? ⟨s, 1, none⟩ = some old1 := by rw [World.cell?_setCell_other _ _ _ _ (by intro h; injection h with _ h2; cases h2)]; exact h1
 refine ⟨?_, World.cell?_setCell_same _ _ _ h1'⟩
 rw [World.cell?_setCell_other _ _ _ _ (by intro h; injection h with _ h2; cases h2)]
 exact World.cell?_setCell_same _ _ _ h0
theorem set2_alloc {w : World} {s : Nat} {old0 old1 : Value} (a b : Value) (o : Obj) (hs : s < w.heap.size) (h0 : w.cell? ⟨s, 0, none⟩ = some old0) (h1 : w.cell? ⟨s, 1, none⟩ = some old1) :
  (((w.setCell ⟨s, 0, none⟩ a).setCell ⟨s, 1, none⟩ b).alloc o).cell? ⟨s, 0, none⟩ = some a ∧ (((w.setCell ⟨s, 0, none⟩ a).setCell ⟨s, 1, none⟩ b).alloc o).cell? ⟨s, 1, none⟩ = some b :=
 ⟨(World.cell?_alloc_lt _ _ ⟨s, 0, none⟩ (by simpa using hs)).trans (set2 a b h0 h1).1, (World.cell?_alloc_lt _ _ ⟨s, 1, none⟩ (by simpa using hs)).trans (set2 a b h0 h1).2⟩
theorem below_set2 {B : Nat} {a w : World} {s : Nat} (x y : Value) (h : Below B a w) (hs : B ≤ s) : Below B a ((w.setCell ⟨s, 0, none⟩ x).setCell ⟨s, 1, none⟩ y) := (h.setCell hs _).setCell hs _
/-- A new block of two numbers, later on. -/
structure Two (w : World) (s : Nat) (a b : Int) : Prop where
 c0 : w.cell? ⟨s, 0, none⟩ = some (.int .i64 a)
 c1 : w.cell? ⟨s, 1, none⟩ = some (.int .i64 b)
 f0 : w.frozen? ⟨s, 0, none⟩ = false
 f1 : w.frozen? ⟨s, 1, none⟩ = false
theorem Two.new (w : World) (a b : Int) (t : TypeId) : Two (w.alloc (.cells #[.int .i64 a, .int .i64 b] t)) w.heap.size a b :=
 ⟨by rw [World.cell?_alloc_at _ _ _ _ rfl]; rfl, by rw [World.cell?_alloc_at _ _ _ _ rfl]; rfl, by simp, by simp⟩
theorem Two.lt {w : World} {s : Nat} {a b : Int} (h : Two w s a b) : s < w.heap.size := cell_lt h.c0
theorem Two.keep {w w' : World} {s B : Nat} {a b : Int} (h : Two w s a b) (hb : Below B w w') (hs : s < B) : Two w' s a b :=
 ⟨(hb.cell (p := ⟨s, 0, none⟩) hs).trans h.c0, (hb.cell (p := ⟨s, 1, none⟩) hs).trans h.c1, (hb.frozen (p := ⟨s, 0, none⟩) hs).trans h.f0, (hb.frozen (p := ⟨s, 1, none⟩) hs).trans h.f1⟩
theorem Two.below {w w' : World} {s : Nat} {a b : Int} (h : Two w s a b) (hb : Below w.heap.size w w') : Two w' s a b := h.keep hb h.lt
theorem bad_inB {r t : Int} (h : entBad (r, t)) : inB r 0 200 = false ∨ (inB r 0 200 = true ∧ inB t 1 1099511627776 = false) := by
 unfold entBad at h
 unfold inB
 simp only at h
 simp only [decide_eq_true_eq, decide_eq_false_iff_not]
 omega
end Go.Proofs.YtkejlnjnoiidnaaGreatDoor
end

section
namespace Go.Proofs.YtkejlnjnoiidnaaGreatDoor
open Go.RowKit
/-- Fits its kind. -/
def tokFits (x : Tok) : Prop := x.1.size ≤ 140737488351232 ∧ (-9223372036854775808 ≤ x.2.1 ∧ x.2.1 ≤ 9223372036854775807) ∧ (-9223372036854775808 ≤ x.2.2 ∧ x.2.2 ≤ 9223372036854775807)
def Toks (w : World) (B : Nat) (A : Option Addr) (n : Nat) (l : List Tok) : Prop := Sl w B 3 A n (l.flatMap tokCells) ∧ ∀ x ∈ l, tokFits x
section
variable {w w' : World} {B n : Nat} {A : Option Addr} {l : List Tok}
theorem Toks.len (h : Toks w B A n l) : l.length = n := slk_len tokCells 3 (by omega) (fun _ => rfl) h.1
theorem Toks.at_ (h : Toks w B A n l) {k : Nat} (hk : k < n) :
  ∃ b o s r t, A = some ⟨b, o, none⟩ ∧ b < B ∧ l[k]? = some (s, r, t) ∧ tokFits (s, r, t) ∧ w.cell? ⟨b, o + k * 3, none⟩ = some (.string s) ∧ w.cell? ⟨b, o + k * 3 + 1, none⟩ = some (.int .i64 r) ∧ w.cell? ⟨b, o + k * 3 + 2, none⟩ = some (.int .i64 t) := by
 obtain ⟨b, o, x, e, hb, hx, hc⟩ := slk_at tokCells 3 (fun _ => rfl) h.1 h.len hk
 obtain ⟨s, r, t⟩ := x
 exact ⟨b, o, s, r, t, e, hb, hx, h.2 _ (List.mem_of_getElem? hx), hc 0 _ rfl, hc 1 _ rfl, hc 2 _ rfl⟩
theorem Toks.below (h : Toks w B A n l) (hb : Below B w w') : Toks w' B A n l := ⟨h.1.below hb, h.2⟩
theorem Toks.grow (h : Toks w w.heap.size A n l) (hb : Below w.heap.size w w') : Toks w' w'.heap.size A n l := ⟨h.1.grow hb, h.2⟩
end
theorem str_empty (s : ByteArray) : s.toList.isEmpty = decide (s.size = 0) := by
 rw [ByteArray.toList_eq]
 by_cases h : s.size = 0
 ·rw [decide_eq_true h]
  have : s.data.toList = [] := by
   apply List.length_eq_zero_iff.1
   simpa using h
  rw [this]; rfl
 ·rw [decide_eq_false h]
  rw [List.isEmpty_eq_false_iff]
  intro e
  apply h
  have := congrArg List.length e
  simpa using this
theorem str_no {s : ByteArray} (h : s.size = 0) : s.toList.isEmpty = true := by rw [str_empty, decide_eq_true h]
theorem str_yes {s : ByteArray} (h : s.size ≠ 0) : s.toList.isEmpty = false := by rw [str_empty, decide_eq_false h]
end Go.Proofs.YtkejlnjnoiidnaaGreatDoor
end

section
namespace Go.Proofs.YtkejlnjnoiidnaaGreatDoor
open Go.RowKit As
/-- A call that returns yes or no. -/
def IsBool (e : Ending) : Prop := ∃ b, e = .returned (.bool b)
theorem IsBool.of {e : Ending} {b : Bool} (h : e = .returned (.bool b)) : IsBool e := ⟨b, h⟩
set_option maxHeartbeats 2000000 in
set_option maxRecDepth 100000 in
theorem tright_any (w : World) (n c : Nat) (A : Option Addr) (l : List Tok) (hl : Toks w w.heap.size A n l) (hn : n ≤ maxLen) :
  Calls Tryz.prog 130 #[.slice A n c] w fun e w' => ∃ v, e = .returned v ∧ ErrOf w' v (tright l) ∧ Below w.heap.size w w' := by
 unfold maxLen at hn
 have hlen := Lib.hid hl.len
 go_enter Tryz.func130, Tryz.ntmps130
 go_wp2
 go_loopw [3, 4, 5, 6, 7, 10] (fun m _ _ _ _ i wr => ∃ k p : Nat, k ≤ n ∧ i = .int .i64 k ∧ m = .int .i64 p ∧ TAt l k p ∧ Below w.heap.size w wr) (fun _ _ _ _ _ i _ => n - (intOf i).toNat)
 case atStart => exact ⟨0, 0, by omega, rfl, rfl, TAt.zero l, Below.refl _ _⟩
 case round =>
  obtain ⟨k, p, hk, rfl, rfl, hat, hbel⟩ := hrel
  have hp := hat.2
  have Hat := Lib.hid hat
  clear hat
  have hsz := hbel.size
  by_cases hlt : k < n
  ·obtain ⟨b, o, s, r, t, rfl, hb, hx, hf, c0, c1, c2⟩ := hl.at_ hlt
   have c0 := (hbel.cell (p := ⟨b, o + k * 3, none⟩) (by simp; omega)).trans c0
   have c1 := (hbel.cell (p := ⟨b, o + k * 3 + 1, none⟩) (by simp; omega)).trans c1
   have c2 := (hbel.cell (p := ⟨b, o + k * 3 + 2, none⟩) (by simp; omega)).trans c2
   have hX := Lib.hid hx
   obtain ⟨f0, f1, f2⟩ := hf
   simp only at f0 f1 f2
   clear hx
   by_cases ha : tokArg (s, r, t)
   ·have hres := Lib.hid (Hat.out.arg hX.out ha)
    have hparts : (s.toList.isEmpty = true ∧ (t != 0) = false ∧ (r != 0) = false) ∨ (s.toList.isEmpty = false ∧ (t != 0) = true) ∨ (s.toList.isEmpty = false ∧ (t != 0) = false ∧ (r != 0) = true) := by
     unfold tokArg at ha
     simp only at ha
     rw [str_empty]
     simp only [decide_eq_true_eq, decide_eq_false_iff_not, bne_iff_ne, bne_eq_false_iff_eq]
     omega
    clear ha
    rcases hparts with ⟨d0, d1, d2⟩ | ⟨d0, d1⟩ | ⟨d0, d1, d2⟩
    all_goals
     go_wp2
     go_ret
     exact ⟨_, rfl, ErrOf.of (err_at _ _ 1 k (by omega) (by simp)) hres.out, (hbel.alloc hsz _).alloc (by simp; omega) _⟩
   ·by_cases h1 : s.size = 0
    ·have hparts : (s.toList.isEmpty = true ∧ (t != 0) = true) ∨ (s.toList.isEmpty = true ∧ (t != 0) = false ∧ (r != 0) = true) := by
      unfold tokArg at ha
      simp only at ha
      rw [str_empty]
      simp only [decide_eq_true_eq, bne_iff_ne, bne_eq_false_iff_eq]
      omega
     have Ha := Lib.hid ha
     have H1 := Lib.hid h1
     clear ha h1
     by_cases h2 : tokRange (s, r, t)
     ·have hres := Lib.hid (Hat.out.range hX.out Ha.out H1.out h2)
      have hq : (decide (t < 4) = true) ∨ (decide (t < 4) = false ∧ decide (67 < t) = true) ∨ (decide (t < 4) = false ∧ decide (67 < t) = false ∧ decide (r < 1) = true) ∨ (decide (t < 4) = false ∧ decide (67 < t) = false ∧ decide (r < 1) = false ∧ decide (1024 < r) = true) := by
       unfold tokRange at h2
       simp only at h2
       simp only [decide_eq_true_eq, decide_eq_false_iff_not]
       omega
      clear h2
      rcases hparts with ⟨d0, d1⟩ | ⟨d0, d1, d2⟩
      all_goals
       rcases hq with e0 | ⟨e0, e1⟩ | ⟨e0, e1, e2⟩ | ⟨e0, e1, e2, e3⟩
      all_goals
       go_wp2
       go_ret
       exact ⟨_, rfl, ErrOf.of (err_at _ _ 2 k (by omega) (by simp)) hres.out, (hbel.alloc hsz _).alloc (by simp; omega) _⟩
     ·have hq : decide (t < 4) = false ∧ decide (67 < t) = false ∧ decide (r < 1) = false ∧ decide (1024 < r) = false := by
       unfold tokRange at h2
       simp only at h2
       simp only [decide_eq_false_iff_not]
       omega
      obtain ⟨e0, e1, e2, e3⟩ := hq
      have ht : 4 ≤ t ∧ t ≤ 67 ∧ 1 ≤ r ∧ r ≤ 1024 := by unfold tokRange at h2; simp only at h2; omega
      obtain ⟨q0, q1, q2, q3⟩ := ht
      have H2 := Lib.hid h2
      clear h2
      by_cases h3 : (p : Int) < r
      ·have hres := Lib.hid (Hat.out.missing hX.out Ha.out H1.out H2.out h3)
       have e4 : decide ((p : Int) < r) = true := by simpa using h3
       clear h3
       rcases hparts with ⟨d0, d1⟩ | ⟨d0, d1, d2⟩
       all_goals
        go_wp2
        go_ret
        exact ⟨_, rfl, ErrOf.of (err_at _ _ 7 k (by omega) (by simp)) hres.out, (hbel.alloc hsz _).alloc (by simp; omega) _⟩
      ·have e4 : decide ((p : Int) < r) = false := by simpa using h3
       have H3 := Lib.hid h3
       clear h3
       by_cases h4 : 20000 < p + t.toNat
       ·have hres := Lib.hid (Hat.out.big hX.out Ha.out H1.out H2.out H3.out h4)
        have e5 : decide (20000 - (p : Int) < t) = true := by simp; omega
        clear h4
        rcases hparts with ⟨d0, d1⟩ | ⟨d0, d1, d2⟩
        all_goals
         go_wp2
         go_ret
         exact ⟨_, rfl, ErrOf.of (err_at _ _ 4 k (by omega) (by simp)) hres.out, (hbel.alloc hsz _).alloc (by simp; omega) _⟩
       ·have hnext := Lib.hid (Hat.out.next hX.out Ha.out H1.out H2.out H3.out h4)
        have e5 : decide (20000 - (p : Int) < t) = false := by simp; omega
        have H4 := Lib.hid h4
        clear h4
        rcases hparts with ⟨d0, d1⟩ | ⟨d0, d1, d2⟩
        all_goals
         go_wp2
         go_roundw
         case rel => exact ⟨k + 1, p + t.toNat, by omega, by go_num, valI (by omega), hnext.out, hbel.alloc hsz _⟩
         case measure => simp [intOf]; omega
    ·have d0 : s.toList.isEmpty = false := str_yes h1
     have hz : t = 0 ∧ r = 0 := by unfold tokArg at ha; simp only at ha; omega
     obtain ⟨rfl, rfl⟩ := hz
     have Ha := Lib.hid ha
     have H1 := Lib.hid h1
     clear ha h1
     by_cases h2 : 20000 < p + s.size
     ·have hres := Lib.hid (Hat.out.ownBig hX.out Ha.out H1.out h2)
      have e5 : decide (20000 - (p : Int) < (s.size : Int)) = true := by simp; omega
      clear h2
      go_wp2
      go_ret
      exact ⟨_, rfl, ErrOf.of (err_at _ _ 4 k (by omega) (by simp)) hres.out, (hbel.alloc hsz _).alloc (by simp; omega) _⟩
     ·have hnext := Lib.hid (Hat.out.ownNext hX.out Ha.out H1.out h2)
      have e5 : decide (20000 - (p : Int) < (s.size : Int)) = false := by simp; omega
      go_wp2
      go_roundw
      case rel => exact ⟨k + 1, p + s.size, by omega, by go_num, by go_num, hnext.out, hbel.alloc hsz _⟩
      case measure => simp [intOf]; omega
  ·obtain rfl : k = n := by omega
   have hend := Lib.hid (Hat.out.all (by rw [hlen.out]; exact Nat.le_refl _))
   clear hlt
   go_wp2
   go_ret
   exact ⟨_, rfl, ErrOf.of .none hend.out, hbel⟩
end Go.Proofs.YtkejlnjnoiidnaaGreatDoor
end

section
namespace Go.Proofs.YtkejlnjnoiidnaaGreatDoor
open Go.RowKit
/-- Block g begins with the bytes l, none of them frozen. -/
def BytesAt (w : World) (g : Nat) (l : List UInt8) : Prop := ∀ i, i < l.length → w.cell? ⟨g, i, none⟩ = some (.int .u8 (l.getD i 0).toNat) ∧ w.frozen? ⟨g, i, none⟩ = false
theorem getD_at {α : Type} (l : List α) (d : α) (i : Nat) (h : i < l.length) : l.getD i d = l[i] := by simp [List.getD, List.getElem?_eq_getElem h]
theorem BytesAt.set {w : World} {g : Nat} {l : List UInt8} (h : BytesAt w g l) (k : Nat) (b : UInt8) (hk : k < l.length) : BytesAt (w.setCell ⟨g, k, none⟩ (.int .u8 b.toNat)) g (l.set k b) := by
 intro i hi
 rw [List.length_set] at hi
 refine ⟨?_, by rw [World.frozen?_setCell]; exact (h i hi).2⟩
 by_cases e : i = k
 ·subst e
  rw [World.cell?_setCell_same _ _ _ (h i hi).1]
  rw [getD_at _ _ _ (by simpa using hi)]
  simp
 ·rw [World.cell?_setCell_other _ _ _ _ (by intro h'; injection h' with _ h''; exact e h''.symm)]
  rw [(h i hi).1, getD_at l _ _ hi, getD_at (l.set k b) _ _ (by simpa using hi), List.getElem_set_ne (Ne.symm e)]
theorem BytesAt.keep {w w' : World} {g B : Nat} {l : List UInt8} (h : BytesAt w g l) (hb : Below B w w') (hg : g < B) : BytesAt w' g l :=
 fun i hi => ⟨(hb.cell (p := ⟨g, i, none⟩) hg).trans (h i hi).1, (hb.frozen (p := ⟨g, i, none⟩) hg).trans (h i hi).2⟩
theorem BytesAt.drew {w : World} {g : Nat} {l : List UInt8} (h : BytesAt w g l) : BytesAt w.drew g l := h
theorem BytesAt.lt {w : World} {g : Nat} {l : List UInt8} (h : BytesAt w g l) (hl : 0 < l.length) : g < w.heap.size := cell_lt (h 0 hl).1
theorem string_of {P : Program} (w : World) (src e dst : TypeId) (g c : Nat) (l : List UInt8) (hs : P.underlying src = some (.slice e)) (he : P.underlying e = some (.int .u8)) (hd : P.underlying dst = some .string) (h : BytesAt w g l) :
  (convert src dst (.slice (some ⟨g, 0, none⟩) l.length c)).run P w = .ok (.string ⟨l.toArray⟩) w := by
 rw [run_convert_bytes_arg w src e hs he g 0 l.length c (l.map fun b => (b.toNat : Int)) (by simp) (fun i hi => by
  rw [Nat.zero_add, (h i hi).1, getD_at _ _ _ hi]
  simp [List.getD, List.getElem?_eq_getElem hi]) dst hd]
 congr 2
 simp only [strOfNums, List.map_map]
 congr 1
 have e : ((fun n : Int => UInt8.ofNat n.toNat) ∘ fun b : UInt8 => (b.toNat : Int)) = id := by
  funext b
  simp
 rw [e, List.map_id]
end Go.Proofs.YtkejlnjnoiidnaaGreatDoor
end

section
namespace Go.Proofs.YtkejlnjnoiidnaaGreatDoor
open Go.RowKit
abbrev byteV (b : UInt8) : Value := .int .u8 (b.toNat : Int)
abbrev bytesV (l : List UInt8) : List Value := l.map byteV
theorem byteV_of {n : Int} {b : UInt8} (h : n = (b.toNat : Int)) : Value.int .u8 n = byteV b := by rw [h]
theorem string_own {P : Program} {w : World} {base : Nat} {E : TypeId} {A : Option Addr} {n c : Nat} {l : List UInt8} (src e dst : TypeId) (hs : P.underlying src = some (.slice e)) (he : P.underlying e = some (.int .u8)) (hd : P.underlying dst = some .string)
  (h : w.ownsRow base E 1 (.slice A n c) n (bytesV l)) (hl : l.length = n) (hn : 0 < n) : (convert src dst (.slice A n c)).run P w = .ok (.string ⟨l.toArray⟩) w := by
 rcases h.2 with ⟨_, h0⟩ | ⟨g, cap, cur, hv, _, hh, _⟩
 ·omega
 ·have hA : A = some ⟨g, 0, none⟩ := by injection hv
  subst hA
  subst hl
  refine string_of w src e dst g c l hs he hd fun i hi => ⟨?_, h.frozenAt i⟩
  rw [h.cellAt i (by omega), List.getElem?_map, List.getElem?_eq_getElem hi, getD_at l 0 i hi]
  rfl
end Go.Proofs.YtkejlnjnoiidnaaGreatDoor
end

section
namespace Go.Proofs.YtkejlnjnoiidnaaGreatDoor
open Go.RowKit
theorem byteInfo : (Tryz.prog.info? 5).map (fun i => (i.zero, i.size, i.bytes)) = some (some (.int .u8 0), 1, 1) := by kernel_rfl
theorem cells_new1 (w : World) (v : Value) (t : TypeId) : ∀ j u, ([v] : List Value)[j]? = some u → (w.alloc (.cells #[v] t)).cell? ((⟨w.heap.size, 0, none⟩ : Addr).add j) = some u := by
 intro j u hu
 have hadd : (⟨w.heap.size, 0, none⟩ : Addr).add j = ⟨w.heap.size, j, none⟩ := by unfold Addr.add; split <;> simp_all
 rw [hadd, World.cell?_alloc_new]
 simpa using hu
/-- The lowest seven bits, and one more. -/
theorem low7 (n : Nat) : bits BinOp.or IntKind.u8 (IntKind.u8.wrap (n : Int)) 128 = ((UInt8.ofNat (n % 128 + 128)).toNat : Int) := by
 rw [IntKind.wrap_u8']
 have e1 : (n : Int) % 256 = ((n % 256 : Nat) : Int) := by omega
 rw [e1]
 have e := u8_or_nat (n % 256) 128 (by omega) (by omega)
 have e2 : ((128 : Nat) : Int) = 128 := rfl
 rw [e2] at e
 rw [e]
 have e3 : (UInt8.ofNat (n % 128 + 128)).toNat = n % 128 + 128 := by simp; omega
 rw [e3]
 have e4 : n % 256 ||| 128 = n % 128 + 128 := by
  have hs : n % 256 = n % 128 + 128 * (n / 128 % 2) := by omega
  rcases Nat.mod_two_eq_zero_or_one (n / 128) with h0 | h0
  ·rw [h0] at hs
   rw [hs, Nat.mul_zero, Nat.add_zero, Nat.or_comm, nat_join 7 128 (n % 128) (by decide) (by omega), Nat.add_comm]
  ·rw [h0] at hs
   rw [hs, Nat.mul_one, Nat.add_comm, ← nat_join 7 128 (n % 128) (by decide) (by omega), Nat.or_assoc, Nat.or_comm (n % 128) 128, ← Nat.or_assoc, Nat.or_self, nat_join 7 128 (n % 128) (by decide) (by omega)]
 rw [e4]
theorem shr7 (n : Nat) : (n : Int) / 128 = ((n / 128 : Nat) : Int) := by omega
theorem own_snoc {w : World} {base : Nat} {E : TypeId} {v : Value} {l : List UInt8} {b : UInt8} (h : w.ownsRow base E 1 v (l.length + 1) (bytesV l ++ [byteV b])) : w.ownsRow base E 1 v (l ++ [b]).length (bytesV (l ++ [b])) := by
 simpa [bytesV] using h
theorem own_snoc' {w : World} {base : Nat} {E : TypeId} {v : Value} {l : List UInt8} {b : UInt8} (h : w.ownsRow base E 1 v (l.length + 1) (bytesV l ++ [byteV b])) : w.ownsRow base E 1 v (l.length + 1) (bytesV (l ++ [b])) := by
 simpa [bytesV] using h
theorem vput_next {n m : Nat} {l : List UInt8} (h : vput n = l ++ vput m) (hm : ¬ m < 128) : vput n = (l ++ [UInt8.ofNat (m % 128 + 128)]) ++ vput (m / 128) := by rw [h, vput_big hm]; simp
set_option maxHeartbeats 1000000 in
set_option maxRecDepth 100000 in
theorem vput_any (n : Nat) (w : World) (hn : n < 18446744073709551616) :
  Calls Tryz.prog 38 #[.int .u64 (n : Int)] w fun e w' => e = .returned (.string ⟨(vput n).toArray⟩) ∧ Below w.heap.size w w' := by
 obtain ⟨i0, hi, hz0, hz1, hz2⟩ := info_parts byteInfo
 have hlen := vput_len10 hn
 go_enter Tryz.func38, Tryz.ntmps38
 go_wp2
 go_loopw [0, 3] (fun m v wr => ∃ (k : Nat) (l : List UInt8), vput n = l ++ vput k ∧ k < 18446744073709551616 ∧ m = .int .u64 (k : Int) ∧ wr.ownsRow w.heap.size 5 1 v l.length (bytesV l) ∧ Below w.heap.size w wr) (fun m _ _ => (intOf m).toNat)
 case atStart => exact ⟨n, [], rfl, hn, rfl, World.ownsRow_nil _ _ _ _, Below.refl _ _⟩
 case round =>
  obtain ⟨k, l, hv, hk, rfl, hT, hbel⟩ := hrel
  have hB := hbel.size
  have hl10 : l.length ≤ 10 := by rw [hv] at hlen; simp at hlen; omega
  have HV := Lib.hid hv
  clear hv
  by_cases hlt : k < 128
  ·have hd : decide (128 ≤ (k : Int)) = false := by simp; omega
   have hend := Lib.hid (show vput n = l ++ [UInt8.ofNat k] by rw [HV.out, vput_small hlt])
   go_wp2_with (first
    | (at_builtin; refine wpList_append_own _ rfl (.tmp 14) (.tmp 17) 61 rfl w.heap.size 5 i0 (.int .u8 0) 1 1 Tryz.underlying61 hi hz0 hz1 hz2 rfl (by decide) u3 l.length (bytesV l) rfl (hT.alloc _) ⟨wr.heap.size, 0, none⟩ 1 1 [Value.int .u8 (k : Int)] rfl rfl (cells_new1 _ _ _) (by intro u hu; simp at hu; subst hu; rfl) (by unfold maxLen; omega) (by omega) (by simp; omega) ?_; intro v1 w1 hT1 hg1 _; have hb1 := grown_own (hbel.alloc hB _) hg1 (by simp; omega) (hT.alloc _)))
   rw [byteV_of (b := UInt8.ofNat k) (by simp; omega)] at hT1
   obtain ⟨A1, c1, rfl⟩ := own_form hT1
   have hs1 := string_own (P := Tryz.prog) 61 5 9 Tryz.underlying61 Tryz.underlying5 Tryz.underlying9 (own_snoc' hT1) (by simp) (by omega)
   rw [hs1]
   go_wp2
   go_ret
   exact ⟨by rw [hend.out]; rfl, hb1⟩
  ·have hd : decide (128 ≤ (k : Int)) = true := by simp; omega
   have hnext := Lib.hid (vput_next HV.out hlt)
   have hlow := low7 k
   rw [IntKind.wrap_u8'] at hlow
   have hl9 : l.length ≤ 9 := by
    have h1 := hnext.out
    have h2 := vput_pos (k / 128)
    rw [h1] at hlen
    simp at hlen
    omega
   go_wp2_with (first
    | (at_builtin; refine wpList_append_own _ rfl (.tmp 6) (.tmp 10) 61 rfl w.heap.size 5 i0 (.int .u8 0) 1 1 Tryz.underlying61 hi hz0 hz1 hz2 rfl (by decide) u3 l.length (bytesV l) rfl (hT.alloc _) ⟨wr.heap.size, 0, none⟩ 1 1 [byteV (UInt8.ofNat (k % 128 + 128))] rfl rfl (cells_new1 _ _ _) (by intro u hu; simp at hu; subst hu; rfl) (by unfold maxLen; omega) (by omega) (by simp; omega) ?_; intro v1 w1 hT1 hg1 _; have hb1 := grown_own (hbel.alloc hB _) hg1 (by simp; omega) (hT.alloc _); have hT2 := own_snoc hT1))
   go_roundw
   case rel => exact ⟨k / 128, _, hnext.out, by omega, valI (shr7 k), hT2, hb1⟩
   case measure => simp [intOf]; omega
end Go.Proofs.YtkejlnjnoiidnaaGreatDoor
end
