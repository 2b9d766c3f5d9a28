/- errors.As by its contracts, at the target *api.Errno: a nil error, an api.Errno, an *api.At (after the kit's example Toyas).

errors.As at the target *api.Errno: an api.Errno, and an *api.At.

api.Tell, plain.Place and the laws' own two questions, by contracts on what an error is.

What an error is, told once for all: none, an api.Errno, an *api.At; and what api.Tell, plain.Place and the laws' own questions make of it.

write.Right says what wright says. Printed by gen_write.py. -/
import Derived.Test.YtlpkpfpmcppciaaGreatDoorProg
import Derived.Test.YtlpkpfpmcppciaaGreatDoorZ1
import Derived.WalkKit
import Derived.LaidEql
import Derived.Stop.Asserts
import Derived.RowKitTokens
import Derived.RegionTactic
import Derived.Deep.QuietTactic
import Derived.BigQuiet
import Derived.Test.YtlpkpfpmcppciaaGreatDoorZ2
section
namespace Go.Proofs.YtlpkpfpmcppciaaGreatDoor.As
open Go.RowKit Go.Extern.Stop Go.Stop Go.Extern
theorem valueOfP (t : Addr) (w : World) : (ReflectliteValue.unpack (.iface 136 (.pointer (some t)))).run Tryz.prog w
  = .ok (.agg #[.pointer (some ⟨5, 136, none⟩), .pointer (some ⟨w.heap.size, 0, none⟩), .int .u64 150]) (w.alloc (.cells #[.pointer (some t)] 136)) := by kernel_rfl
theorem typeP (a : Addr) (w : World) : (ReflectliteValue.methodAny (ReflectliteValue.valueError "reflectlite.Value.Type" 0) (fun t _ _ _ => ReflectliteType.toType t) #[.agg #[.pointer (some ⟨5, 136, none⟩), .pointer (some a), .int .u64 150]]).run Tryz.prog w
  = .ok (.iface 178 (.agg #[.pointer (some ⟨5, 136, none⟩)])) w := by kernel_rfl
theorem methodKind (h : Value) (w : World) : (Go.method 352 178 (.agg #[h]) "Kind").run Tryz.prog w = .ok (178, h) w := by kernel_rfl
theorem kindP (w : World) : ((ReflectliteType.abiMethod fun t => (fun a : Nat => Value.int IntKind.u8 (a : Int)) <$> Rtype.kind t) #[.pointer (some ⟨5, 136, none⟩)]).run Tryz.prog w = .ok (.int .u8 22) w := by kernel_rfl
theorem kindE (w : World) : ((ReflectliteType.abiMethod fun t => (fun a : Nat => Value.int IntKind.u8 (a : Int)) <$> Rtype.kind t) #[.pointer (some ⟨5, 33, none⟩)]).run Tryz.prog w = .ok (.int .u8 2) w := by kernel_rfl
theorem rlm (z : Sem Value) (f : TypeId → Addr → Nat → Nat → Sem Value) (v : Value) :
  ReflectliteValue.method z f #[v] = (do match ← ReflectliteValue.parts v with | none => z | some (t, a, fl) => f t a fl (fl % 32)) := rfl
theorem partsP (a : Addr) (w : World) : (ReflectliteValue.parts (.agg #[.pointer (some ⟨5, 136, none⟩), .pointer (some a), .int .u64 150])).run Tryz.prog w = .ok (some (136, a, 150)) w := by kernel_rfl
theorem isNilP (a p : Addr) (W : World) (ha : W.cell? a = some (.pointer (some p))) :
  (ReflectliteValue.method (ReflectliteValue.valueError "reflectlite.Value.IsNil" 0) ReflectliteValue.isNil #[.agg #[.pointer (some ⟨5, 136, none⟩), .pointer (some a), .int .u64 150]]).run Tryz.prog W = .ok (.bool false) W := by
 rw [rlm]
 simp only [Sem.run_bind, partsP, Result.andThen]
 simp [ReflectliteValue.isNil, loadVar, isAgg, underlying, Tryz.underlying136, ha, Result.andThen]
theorem methodElem (h : Value) (w : World) : (Go.method 352 178 (.agg #[h]) "Elem").run Tryz.prog w = .ok (190, .agg #[h]) w := by kernel_rfl
theorem methodImplements (h : Value) (w : World) : (Go.method 352 178 (.agg #[h]) "Implements").run Tryz.prog w = .ok (191, .agg #[h]) w := by kernel_rfl
theorem methodAssignableTo (h : Value) (w : World) : (Go.method 352 178 (.agg #[h]) "AssignableTo").run Tryz.prog w = .ok (188, .agg #[h]) w := by kernel_rfl
theorem elemP (w : World) : (ReflectliteType.method ReflectliteType.elem #[.agg #[.pointer (some ⟨5, 136, none⟩)]]).run Tryz.prog w = .ok (.iface 178 (.agg #[.pointer (some ⟨5, 33, none⟩)])) w := by kernel_rfl
theorem implementsE (w : World) : (ReflectliteType.relation "Implements" ReflectliteType.implements_ #[.agg #[.pointer (some ⟨5, 33, none⟩)], .iface 178 (.agg #[.pointer (some ⟨5, 37, none⟩)])]).run Tryz.prog w = .ok (.bool true) w := by kernel_rfl
theorem typeOfE (v : Value) (w : World) : (ReflectliteType.typeOf #[.iface 33 v]).run Tryz.prog w = .ok (.iface 178 (.agg #[.pointer (some ⟨5, 33, none⟩)])) w := by kernel_rfl
theorem typeOfA (v : Value) (w : World) : (ReflectliteType.typeOf #[.iface 92 v]).run Tryz.prog w = .ok (.iface 178 (.agg #[.pointer (some ⟨5, 92, none⟩)])) w := by kernel_rfl
theorem assignableE (w : World) : (ReflectliteType.relation "AssignableTo" ReflectliteType.assignableTo #[.agg #[.pointer (some ⟨5, 33, none⟩)], .iface 178 (.agg #[.pointer (some ⟨5, 33, none⟩)])]).run Tryz.prog w = .ok (.bool true) w := by kernel_rfl
theorem assignableA (w : World) : (ReflectliteType.relation "AssignableTo" ReflectliteType.assignableTo #[.agg #[.pointer (some ⟨5, 92, none⟩)], .iface 178 (.agg #[.pointer (some ⟨5, 33, none⟩)])]).run Tryz.prog w = .ok (.bool false) w := by kernel_rfl
theorem valueOfE (e : Int) (w : World) : (ReflectliteValue.unpack (.iface 33 (.int .i64 e))).run Tryz.prog w
  = .ok (.agg #[.pointer (some ⟨5, 33, none⟩), .pointer (some ⟨w.heap.size, 0, none⟩), .int .u64 130]) (w.alloc (.cells #[.int .i64 e] 33)) := by kernel_rfl
theorem elemOfP (w : World) : (Rtype.elem? 136).run Tryz.prog w = .ok (some 33) w := by kernel_rfl
theorem mkE (p : Addr) (w : World) : (ReflectliteValue.mk 33 p ReflectliteValue.flagAddr).run Tryz.prog w = .ok (.agg #[.pointer (some ⟨5, 33, none⟩), .pointer (some p), .int .u64 386]) w := by kernel_rfl
theorem elemV (a p : Addr) (W : World) (ha : W.cell? a = some (.pointer (some p))) :
  (ReflectliteValue.method (ReflectliteValue.valueError "reflectlite.Value.Elem" 0) ReflectliteValue.elem #[.agg #[.pointer (some ⟨5, 136, none⟩), .pointer (some a), .int .u64 150]]).run Tryz.prog W
   = .ok (.agg #[.pointer (some ⟨5, 33, none⟩), .pointer (some p), .int .u64 386]) W := by
 rw [rlm]
 simp only [Sem.run_bind, partsP, Result.andThen]
 simp [ReflectliteValue.elem, loadVar, isAgg, underlying, Tryz.underlying136, ha, Result.andThen, elemOfP, mkE]
theorem rls (v x : Value) : ReflectliteValue.set #[v, x] = (do
  let (some (dst, a, fl), some (src, b, _)) := (← ReflectliteValue.parts v, ← ReflectliteValue.parts x)
   | unsupported (.noEntry "extern/(internal/reflectlite.Value).Set.zeroValue")
  if fl / ReflectliteValue.flagAddr % 2 == 0 then unsupported (.noEntry "extern/(internal/reflectlite.Value).Set.unaddressable")
  let val ← loadVar src b
  if ← Rtype.directlyAssignable dst src then storeVar dst a val
  else if ← Rtype.implements dst src then
   if (← Rtype.kind src) == 20 then
    match val with
    | .nilIface => unsupported (.noEntry "extern/reflectlite: a nil value of one interface type handed on as a value of another")
    | _ => storeVar dst a val
   else storeVar dst a (.iface src val)
  else panicString ("reflectlite.Set: value of type " ++ (← Rtype.spelt src) ++ " is not assignable to type " ++ (← Rtype.spelt dst))
  pure (.tuple #[])) := rfl
theorem partsEa (a : Addr) (w : World) : (ReflectliteValue.parts (.agg #[.pointer (some ⟨5, 33, none⟩), .pointer (some a), .int .u64 386])).run Tryz.prog w = .ok (some (33, a, 386)) w := by kernel_rfl
theorem partsE (a : Addr) (w : World) : (ReflectliteValue.parts (.agg #[.pointer (some ⟨5, 33, none⟩), .pointer (some a), .int .u64 130])).run Tryz.prog w = .ok (some (33, a, 130)) w := by kernel_rfl
theorem directE (w : World) : (Rtype.directlyAssignable 33 33).run Tryz.prog w = .ok true w := by kernel_rfl
theorem setE (ta b : Addr) (e : Int) (old : Value) (W : World) (hb : W.cell? b = some (.int .i64 e)) (ht : W.cell? ta = some old) (hf : W.frozen? ta = false) :
  (ReflectliteValue.set #[.agg #[.pointer (some ⟨5, 33, none⟩), .pointer (some ta), .int .u64 386], .agg #[.pointer (some ⟨5, 33, none⟩), .pointer (some b), .int .u64 130]]).run Tryz.prog W
   = .ok (.tuple #[]) (W.setCell ta (.int .i64 e)) := by
 rw [rls]
 simp only [Sem.run_bind, partsEa, partsE, Result.andThen]
 simp [ReflectliteValue.flagAddr, loadVar, isAgg, underlying, Tryz.underlying33, hb, Result.andThen, directE, storeVar, Value.cells, storeCells, Addr.add]
 rw [run_store Tryz.prog W ta _ _ (by rfl)]
 simp [ht, hf]
theorem noAs (v : Value) (xT : TypeId) (w : World) : (Instr.typeAssert (.iface 92 v) xT 192 true).run Tryz.prog w = .ok (.tuple #[.nilIface, .bool false]) w := run_typeAssert_lacksB Tryz.underlying192 (by kernel_rfl) (by kernel_rfl) v xT w
theorem hasUnwrap (v : Value) (xT : TypeId) (w : World) : (Instr.typeAssert (.iface 92 v) xT 131 true).run Tryz.prog w = .ok (.tuple #[.iface 92 v, .bool true]) w := run_typeAssert_hasB Tryz.underlying131 (by kernel_rfl) v xT w
theorem noUnwrapE (v : Value) (xT : TypeId) (w : World) : (Instr.typeAssert (.iface 33 v) xT 131 true).run Tryz.prog w = .ok (.tuple #[.nilIface, .bool false]) w := run_typeAssert_lacksB Tryz.underlying131 (by kernel_rfl) (by kernel_rfl) v xT w
theorem methodUnwrap (h : Value) (w : World) : (Go.method 352 92 h "Unwrap").run Tryz.prog w = .ok (183, h) w := by kernel_rfl
/-- The variable of package errors that holds the type of 'error'. -/
def Handle (w : World) : Prop := w.cell? ⟨0, 0, none⟩ = some (.iface 178 (.agg #[.pointer (some ⟨5, 37, none⟩)]))
theorem Handle.below {w w' : World} (h : Handle w) (hb : Below w.heap.size w w') : Handle w' := (hb.cell (cell_lt h)).trans h
end Go.Proofs.YtlpkpfpmcppciaaGreatDoor.As
end

section
namespace Go.Proofs.YtlpkpfpmcppciaaGreatDoor.As
open Go.RowKit Go.Extern.Stop Go.Stop Go.Extern
set_option maxHeartbeats 4000000 in
theorem as_errno (e : Int) (t : Addr) (old : Value) (w : World) (hg : Handle w) (ht0 : w.cell? t = some old) (hf0 : w.frozen? t = false) :
  Calls Tryz.prog 75 #[.iface 33 (.int .i64 e), .iface 136 (.pointer (some t))] w fun ev w' => ev = .returned (.bool true) ∧ ∃ w1, w' = w1.setCell t (.int .i64 e) ∧ Below w.heap.size w w1 := by
 have x0 := @run_callFunc_extern Tryz.prog 86 _ (fun args => ReflectliteValue.unpack (args.getD 0 (.tuple #[]))) Tryz.func86 (by kernel_rfl) (by kernel_rfl) (by kernel_rfl) (by kernel_rfl)
 have x1 := @run_callFunc_extern Tryz.prog 93 _ (ReflectliteValue.methodAny (ReflectliteValue.valueError "reflectlite.Value.Type" 0) (fun t _ _ _ => ReflectliteType.toType t)) Tryz.func93 (by kernel_rfl) (by kernel_rfl) (by kernel_rfl) (by kernel_rfl)
 have x2 := @run_callFunc_extern Tryz.prog 94 _ (ReflectliteValue.method (ReflectliteValue.valueError "reflectlite.Value.IsNil" 0) ReflectliteValue.isNil) Tryz.func94 (by kernel_rfl) (by kernel_rfl) (by kernel_rfl) (by kernel_rfl)
 have x3 := @run_callFunc_extern Tryz.prog 178 _ (ReflectliteType.abiMethod fun t => do pure (.int .u8 (← Rtype.kind t))) Tryz.func178 (by kernel_rfl) (by kernel_rfl) (by kernel_rfl) (by kernel_rfl)
 have x4 := @run_callFunc_extern Tryz.prog 190 _ (ReflectliteType.method ReflectliteType.elem) Tryz.func190 (by kernel_rfl) (by kernel_rfl) (by kernel_rfl) (by kernel_rfl)
 have x5 := @run_callFunc_extern Tryz.prog 191 _ (ReflectliteType.relation "Implements" ReflectliteType.implements_) Tryz.func191 (by kernel_rfl) (by kernel_rfl) (by kernel_rfl) (by kernel_rfl)
 have x6 := @run_callFunc_extern Tryz.prog 130 _ (ReflectliteType.typeOf) Tryz.func130 (by kernel_rfl) (by kernel_rfl) (by kernel_rfl) (by kernel_rfl)
 have x7 := @run_callFunc_extern Tryz.prog 188 _ (ReflectliteType.relation "AssignableTo" ReflectliteType.assignableTo) Tryz.func188 (by kernel_rfl) (by kernel_rfl) (by kernel_rfl) (by kernel_rfl)
 have x8 := @run_callFunc_extern Tryz.prog 131 _ (ReflectliteValue.method (ReflectliteValue.valueError "reflectlite.Value.Elem" 0) ReflectliteValue.elem) Tryz.func131 (by kernel_rfl) (by kernel_rfl) (by kernel_rfl) (by kernel_rfl)
 have x9 := @run_callFunc_extern Tryz.prog 132 _ (ReflectliteValue.set) Tryz.func132 (by kernel_rfl) (by kernel_rfl) (by kernel_rfl) (by kernel_rfl)
 have c0 := valueOfP
 have c1 := typeP
 have c2 := methodKind
 have c3 := kindP
 have c4 := kindE
 have c5 := methodElem
 have c6 := methodImplements
 have c7 := methodAssignableTo
 have c8 := elemP
 have c9 := implementsE
 have c10 := typeOfE
 have c11 := assignableE
 have c12 := valueOfE
 have hlt := cell_lt hg
 have htl := cell_lt ht0
 simp only at hlt
 have n8 := isNilP ⟨w.heap.size, 0, none⟩ t ((w.alloc (.cells #[.pointer (some t)] 136)).alloc (.cells #[.pointer (some ⟨5, 136, none⟩), .pointer (some ⟨w.heap.size, 0, none⟩), .int .u64 150] 148)) (by simp)
 have hg2 : ((w.alloc (.cells #[.pointer (some t)] 136)).alloc (.cells #[.pointer (some ⟨5, 136, none⟩), .pointer (some ⟨w.heap.size, 0, none⟩), .int .u64 150] 148)).cell? ⟨0, 0, none⟩ = some (.iface 178 (.agg #[.pointer (some ⟨5, 37, none⟩)])) := by
  rw [World.cell?_alloc_lt _ _ ⟨0, 0, none⟩ (by simp), World.cell?_alloc_lt _ _ ⟨0, 0, none⟩ hlt]; exact hg
 have el := elemV ⟨w.heap.size, 0, none⟩ t (((w.alloc (.cells #[.pointer (some t)] 136)).alloc (.cells #[.pointer (some ⟨5, 136, none⟩), .pointer (some ⟨w.heap.size, 0, none⟩), .int .u64 150] 148)).alloc (.cells #[.pointer (some ⟨5, 136, none⟩), .pointer (some ⟨w.heap.size, 0, none⟩), .int .u64 150] 148)) (by rw [World.cell?_alloc_lt _ _ ⟨w.heap.size, 0, none⟩ (by simp <;> omega)]; simp)
 have st := setE t ⟨w.heap.size + 1 + 1 + 1, 0, none⟩ e old ((((w.alloc (.cells #[.pointer (some t)] 136)).alloc (.cells #[.pointer (some ⟨5, 136, none⟩), .pointer (some ⟨w.heap.size, 0, none⟩), .int .u64 150] 148)).alloc (.cells #[.pointer (some ⟨5, 136, none⟩), .pointer (some ⟨w.heap.size, 0, none⟩), .int .u64 150] 148)).alloc (.cells #[.int .i64 e] 33))
  (by rw [World.cell?_alloc_at _ _ _ _ (by simp)]; rfl)
  (by rw [World.cell?_alloc_lt _ _ t (by simp; omega), World.cell?_alloc_lt _ _ t (by simp; omega), World.cell?_alloc_lt _ _ t (by simp; omega), World.cell?_alloc_lt _ _ t htl]; exact ht0)
  (by rw [World.frozen?_alloc_old _ _ t (by simp; omega), World.frozen?_alloc_old _ _ t (by simp; omega), World.frozen?_alloc_old _ _ t (by simp; omega), World.frozen?_alloc_old _ _ t (Nat.ne_of_lt htl)]; exact hf0)
 unfold Handle at hg
 go_enter Tryz.func75, Tryz.ntmps75
 go_wp2
 refine wp_loop_rounds 1 ?_
 rw [rounds_succ]
 go_wp2
 go_ret
 exact ⟨rfl, _, rfl, ((((Below.refl _ _).alloc (Nat.le_refl _) _).alloc (by simp) _).alloc (by simp; omega) _).alloc (by simp; omega) _⟩
set_option maxHeartbeats 4000000 in
theorem as_at (e : Int) (a : Addr) (t : Addr) (old : Value) (w : World) (hg : Handle w) (ha : w.cell? a = some (.int .i64 e)) (ht0 : w.cell? t = some old) (hf0 : w.frozen? t = false) :
  Calls Tryz.prog 75 #[.iface 92 (.pointer (some a)), .iface 136 (.pointer (some t))] w fun ev w' => ev = .returned (.bool true) ∧ ∃ w1, w' = w1.setCell t (.int .i64 e) ∧ Below w.heap.size w w1 := by
 have x0 := @run_callFunc_extern Tryz.prog 86 _ (fun args => ReflectliteValue.unpack (args.getD 0 (.tuple #[]))) Tryz.func86 (by kernel_rfl) (by kernel_rfl) (by kernel_rfl) (by kernel_rfl)
 have x1 := @run_callFunc_extern Tryz.prog 93 _ (ReflectliteValue.methodAny (ReflectliteValue.valueError "reflectlite.Value.Type" 0) (fun t _ _ _ => ReflectliteType.toType t)) Tryz.func93 (by kernel_rfl) (by kernel_rfl) (by kernel_rfl) (by kernel_rfl)
 have x2 := @run_callFunc_extern Tryz.prog 94 _ (ReflectliteValue.method (ReflectliteValue.valueError "reflectlite.Value.IsNil" 0) ReflectliteValue.isNil) Tryz.func94 (by kernel_rfl) (by kernel_rfl) (by kernel_rfl) (by kernel_rfl)
 have x3 := @run_callFunc_extern Tryz.prog 178 _ (ReflectliteType.abiMethod fun t => do pure (.int .u8 (← Rtype.kind t))) Tryz.func178 (by kernel_rfl) (by kernel_rfl) (by kernel_rfl) (by kernel_rfl)
 have x4 := @run_callFunc_extern Tryz.prog 190 _ (ReflectliteType.method ReflectliteType.elem) Tryz.func190 (by kernel_rfl) (by kernel_rfl) (by kernel_rfl) (by kernel_rfl)
 have x5 := @run_callFunc_extern Tryz.prog 191 _ (ReflectliteType.relation "Implements" ReflectliteType.implements_) Tryz.func191 (by kernel_rfl) (by kernel_rfl) (by kernel_rfl) (by kernel_rfl)
 have x6 := @run_callFunc_extern Tryz.prog 130 _ (ReflectliteType.typeOf) Tryz.func130 (by kernel_rfl) (by kernel_rfl) (by kernel_rfl) (by kernel_rfl)
 have x7 := @run_callFunc_extern Tryz.prog 188 _ (ReflectliteType.relation "AssignableTo" ReflectliteType.assignableTo) Tryz.func188 (by kernel_rfl) (by kernel_rfl) (by kernel_rfl) (by kernel_rfl)
 have x8 := @run_callFunc_extern Tryz.prog 131 _ (ReflectliteValue.method (ReflectliteValue.valueError "reflectlite.Value.Elem" 0) ReflectliteValue.elem) Tryz.func131 (by kernel_rfl) (by kernel_rfl) (by kernel_rfl) (by kernel_rfl)
 have x9 := @run_callFunc_extern Tryz.prog 132 _ (ReflectliteValue.set) Tryz.func132 (by kernel_rfl) (by kernel_rfl) (by kernel_rfl) (by kernel_rfl)
 have c0 := valueOfP
 have c1 := typeP
 have c2 := methodKind
 have c3 := kindP
 have c4 := kindE
 have c5 := methodElem
 have c6 := methodImplements
 have c7 := methodAssignableTo
 have c8 := elemP
 have c9 := implementsE
 have c10 := typeOfE
 have c11 := assignableE
 have c12 := valueOfE
 have c13 := typeOfA
 have c14 := assignableA
 have c15 := noAs
 have c16 := hasUnwrap
 have c17 := methodUnwrap
 have hlt := cell_lt hg
 have htl := cell_lt ht0
 simp only at hlt
 have n8 := isNilP ⟨w.heap.size, 0, none⟩ t ((w.alloc (.cells #[.pointer (some t)] 136)).alloc (.cells #[.pointer (some ⟨5, 136, none⟩), .pointer (some ⟨w.heap.size, 0, none⟩), .int .u64 150] 148)) (by simp)
 have hg2 : ((w.alloc (.cells #[.pointer (some t)] 136)).alloc (.cells #[.pointer (some ⟨5, 136, none⟩), .pointer (some ⟨w.heap.size, 0, none⟩), .int .u64 150] 148)).cell? ⟨0, 0, none⟩ = some (.iface 178 (.agg #[.pointer (some ⟨5, 37, none⟩)])) := by
  rw [World.cell?_alloc_lt _ _ ⟨0, 0, none⟩ (by simp), World.cell?_alloc_lt _ _ ⟨0, 0, none⟩ hlt]; exact hg
 have el := elemV ⟨w.heap.size, 0, none⟩ t (((w.alloc (.cells #[.pointer (some t)] 136)).alloc (.cells #[.pointer (some ⟨5, 136, none⟩), .pointer (some ⟨w.heap.size, 0, none⟩), .int .u64 150] 148)).alloc (.cells #[.pointer (some ⟨5, 136, none⟩), .pointer (some ⟨w.heap.size, 0, none⟩), .int .u64 150] 148)) (by rw [World.cell?_alloc_lt _ _ ⟨w.heap.size, 0, none⟩ (by simp <;> omega)]; simp)
 have st := setE t ⟨w.heap.size + 1 + 1 + 1, 0, none⟩ e old ((((w.alloc (.cells #[.pointer (some t)] 136)).alloc (.cells #[.pointer (some ⟨5, 136, none⟩), .pointer (some ⟨w.heap.size, 0, none⟩), .int .u64 150] 148)).alloc (.cells #[.pointer (some ⟨5, 136, none⟩), .pointer (some ⟨w.heap.size, 0, none⟩), .int .u64 150] 148)).alloc (.cells #[.int .i64 e] 33))
  (by rw [World.cell?_alloc_at _ _ _ _ (by simp)]; rfl)
  (by rw [World.cell?_alloc_lt _ _ t (by simp; omega), World.cell?_alloc_lt _ _ t (by simp; omega), World.cell?_alloc_lt _ _ t (by simp; omega), World.cell?_alloc_lt _ _ t htl]; exact ht0)
  (by rw [World.frozen?_alloc_old _ _ t (by simp; omega), World.frozen?_alloc_old _ _ t (by simp; omega), World.frozen?_alloc_old _ _ t (by simp; omega), World.frozen?_alloc_old _ _ t (Nat.ne_of_lt htl)]; exact hf0)
 unfold Handle at hg
 have hal := cell_lt ha
 have ha2 : (((w.alloc (.cells #[.pointer (some t)] 136)).alloc (.cells #[.pointer (some ⟨5, 136, none⟩), .pointer (some ⟨w.heap.size, 0, none⟩), .int .u64 150] 148)).alloc (.cells #[.pointer (some ⟨5, 136, none⟩), .pointer (some ⟨w.heap.size, 0, none⟩), .int .u64 150] 148)).cell? a = some (.int .i64 e) := by rw [World.cell?_alloc_lt _ _ a (by simp; omega), World.cell?_alloc_lt _ _ a (by simp; omega), World.cell?_alloc_lt _ _ a hal]; exact ha
 go_enter Tryz.func75, Tryz.ntmps75
 go_wp2
 refine wp_loop_rounds 2 ?_
 rw [rounds_succ]
 go_wp2
 rw [rounds_succ]
 go_wp2
 go_ret
 exact ⟨rfl, _, rfl, ((((Below.refl _ _).alloc (Nat.le_refl _) _).alloc (by simp) _).alloc (by simp; omega) _).alloc (by simp; omega) _⟩

end Go.Proofs.YtlpkpfpmcppciaaGreatDoor.As
end

section
namespace Go.Proofs.YtlpkpfpmcppciaaGreatDoor.As
open Go.RowKit Go.Extern.Stop Go.Stop Go.Extern
theorem below1 (w : World) (o : Obj) : Below w.heap.size w (w.alloc o) := (Below.refl _ _).alloc (Nat.le_refl _) o
/-- Tell's three answers. -/
theorem tell_nil (w : World) : Calls Tryz.prog 36 #[.nilIface] w fun e w' => e = .returned (.int .i64 0) ∧ w = w' := by
 go_enter Tryz.func36, Tryz.ntmps36
 go_wp2
 go_ret
 exact ⟨rfl, rfl⟩
theorem tell_errno (e : Int) (w : World) (hg : Handle w) : Calls Tryz.prog 36 #[.iface 33 (.int .i64 e)] w fun r w' => r = .returned (.int .i64 e) ∧ Below w.heap.size w w' := by
 go_enter Tryz.func36, Tryz.ntmps36
 go_wp2_with fail
 refine (as_errno e _ _ _ (hg.below ((Below.refl _ _).alloc (Nat.le_refl _) _)) (World.cell?_alloc_at _ _ _ _ rfl) (by simp)).mono ?_
 rintro r w' ⟨rfl, w1, rfl, hb⟩
 have hz := hb.size
 have hc : w1.cell? ⟨w.heap.size, 0, none⟩ = some (.int .i64 0) := (hb.cell (p := ⟨w.heap.size, 0, none⟩) (by simp)).trans (by rw [World.cell?_alloc_at _ _ _ _ rfl]; rfl)
 have hc2 : (w1.setCell ⟨w.heap.size, 0, none⟩ (.int .i64 e)).cell? ⟨w.heap.size, 0, none⟩ = some (.int .i64 e) := World.cell?_setCell_same _ _ _ hc
 simp at hz
 go_wp2_with fail
 go_ret
 exact ⟨rfl, ((below1 _ _).trans (hb.mono (by simp))).setCell (by simp) _⟩
theorem tell_at (e : Int) (a : Addr) (w : World) (hg : Handle w) (ha : w.cell? a = some (.int .i64 e)) : Calls Tryz.prog 36 #[.iface 92 (.pointer (some a))] w fun r w' => r = .returned (.int .i64 e) ∧ Below w.heap.size w w' := by
 go_enter Tryz.func36, Tryz.ntmps36
 go_wp2_with fail
 refine (as_at e a _ _ _ (hg.below ((Below.refl _ _).alloc (Nat.le_refl _) _)) (by rw [World.cell?_alloc_lt _ _ a (cell_lt ha)]; exact ha) (World.cell?_alloc_at _ _ _ _ rfl) (by simp)).mono ?_
 rintro r w' ⟨rfl, w1, rfl, hb⟩
 have hz := hb.size
 have hc : w1.cell? ⟨w.heap.size, 0, none⟩ = some (.int .i64 0) := (hb.cell (p := ⟨w.heap.size, 0, none⟩) (by simp)).trans (by rw [World.cell?_alloc_at _ _ _ _ rfl]; rfl)
 have hc2 : (w1.setCell ⟨w.heap.size, 0, none⟩ (.int .i64 e)).cell? ⟨w.heap.size, 0, none⟩ = some (.int .i64 e) := World.cell?_setCell_same _ _ _ hc
 simp at hz
 go_wp2_with fail
 go_ret
 exact ⟨rfl, ((below1 _ _).trans (hb.mono (by simp))).setCell (by simp) _⟩
end Go.Proofs.YtlpkpfpmcppciaaGreatDoor.As
end

section
namespace Go.Proofs.YtlpkpfpmcppciaaGreatDoor
open Go.RowKit Go.Extern.Stop Go.Stop Go.Extern As
/-- v is the error e with the place p: 0, -1: none. -/
inductive ErrIs (w : World) : Value → Int → Int → Prop
 | none : ErrIs w .nilIface 0 (-1)
 | bare (e : Int) (he : e ≠ 0) : ErrIs w (.iface 33 (.int .i64 e)) e (-1)
 | at_ (b o : Nat) (e p : Int) (he : e ≠ 0) (h0 : w.cell? ⟨b, o, none⟩ = some (.int .i64 e)) (h1 : w.cell? ⟨b, o + 1, none⟩ = some (.int .i64 p)) : ErrIs w (.iface 92 (.pointer (some ⟨b, o, none⟩))) e p
theorem ErrIs.below {w w' : World} {v : Value} {e p : Int} (h : ErrIs w v e p) (hb : Below w.heap.size w w') : ErrIs w' v e p := by
 cases h with
 | none => exact .none
 | bare _ he => exact .bare _ he
 | at_ b o _ _ he h0 h1 => exact .at_ b o _ _ he ((hb.cell (cell_lt h0)).trans h0) ((hb.cell (cell_lt h1)).trans h1)
theorem ErrIs.drewN {w : World} {v : Value} {e p : Int} (h : ErrIs w v e p) (n : Nat) : ErrIs (w.drewN n) v e p := h.below (below_drewN (Below.refl _ _) n)
theorem ErrIs.zero {w : World} {v : Value} {p : Int} (h : ErrIs w v 0 p) : v = .nilIface ∧ p = -1 := by
 generalize he : (0 : Int) = e at h
 cases h with
 | none => exact ⟨rfl, rfl⟩
 | bare _ h => exact absurd he.symm h
 | at_ _ _ _ _ h => exact absurd he.symm h
/-- An error without a place, as a value. -/
def errV (e : Int) : Value := if e = 0 then .nilIface else .iface 33 (.int .i64 e)
theorem errV_zero : errV 0 = .nilIface := rfl
theorem errV_of {e : Int} (h : e ≠ 0) : errV e = .iface 33 (.int .i64 e) := by unfold errV; rw [if_neg h]
theorem tell_any {v : Value} {e p : Int} {w : World} (h : ErrIs w v e p) (hg : Handle w) : Calls Tryz.prog 36 #[v] w fun r w' => r = .returned (.int .i64 e) ∧ Below w.heap.size w w' := by
 cases h with
 | none => exact (tell_nil w).mono fun _ _ ⟨a, b⟩ => ⟨a, b ▸ Below.refl _ _⟩
 | bare _ he => exact tell_errno _ w hg
 | at_ b o _ _ he h0 h1 => exact tell_at _ _ w hg h0
theorem isAtE (v : Value) (w : World) : (Instr.typeAssert (.iface 33 v) 37 92 true).run Tryz.prog w = .ok (.tuple #[.pointer none, .bool false]) w := by kernel_rfl
theorem isAtA (v : Value) (w : World) : (Instr.typeAssert (.iface 92 v) 37 92 true).run Tryz.prog w = .ok (.tuple #[v, .bool true]) w := by kernel_rfl
set_option maxHeartbeats 1000000 in
theorem place_any {v : Value} {e p : Int} {w : World} (h : ErrIs w v e p) (hg : Handle w) : Calls Tryz.prog 33 #[v] w fun r w' => r = .returned (.tuple #[.int .i64 e, .int .i64 p]) ∧ Below w.heap.size w w' := by
 cases h with
 | none =>
  go_enter Tryz.func33, Tryz.ntmps33
  go_wp2_with (go_at_call 36; refine (tell_nil w).mono ?_; rintro e w' ⟨rfl, rfl⟩)
  refine wp_loop_rounds 1 ?_
  rw [rounds_succ]
  go_wp2
  go_ret2
  exact ⟨rfl, Below.refl _ _⟩
 | bare _ he =>
  have n1 := noUnwrapE
  have n2 := isAtE
  go_enter Tryz.func33, Tryz.ntmps33
  go_wp2_with (go_at_call 36; refine (tell_errno e w hg).mono ?_; rintro e w' ⟨rfl, hb⟩)
  refine wp_loop_rounds 1 ?_
  rw [rounds_succ]
  go_wp2
  go_ret2
  exact ⟨rfl, hb⟩
 | at_ b o _ _ he h0 h1 =>
  have n2 := isAtA
  go_enter Tryz.func33, Tryz.ntmps33
  go_wp2_with (go_at_call 36; refine (tell_at e _ w hg h0).mono ?_; rintro e w' ⟨rfl, hb⟩)
  have h1' := (hb.cell (cell_lt h1)).trans h1
  refine wp_loop_rounds 1 ?_
  rw [rounds_succ]
  go_wp2
  go_quiet (fail)
  go_wp2
  go_ret2
  exact ⟨rfl, below_drewN hb _⟩
theorem bare_any {v : Value} {e p : Int} {w : World} (h : ErrIs w v e p) (hg : Handle w) (x : Int) : Calls Tryz.prog 8 #[v, .int .i64 x] w fun r w' => r = .returned (.bool (decide (e = x ∧ p = -1))) ∧ Below w.heap.size w w' := by
 go_enter Tryz.func8, Tryz.ntmps8
 go_wp2_with fail
 refine (place_any h hg).mono ?_
 rintro r w' ⟨rfl, hb⟩
 by_cases h1 : e = x <;> by_cases h2 : p = -1 <;> simp only [h1, h2]
 all_goals
  go_wp2_with fail
  go_ret
  exact ⟨by first | rfl | simp [*], hb⟩
theorem placed_any {v : Value} {e p : Int} {w : World} (h : ErrIs w v e p) (hg : Handle w) (x y : Int) : Calls Tryz.prog 11 #[v, .agg #[.int .i64 x, .int .i64 y]] w fun r w' => r = .returned (.bool (decide (e = x ∧ p = y))) ∧ Below w.heap.size w w' := by
 have hb1 := below1 w (.cells #[.int .i64 x, .int .i64 y] 44)
 have hh := h.below hb1
 have hgh := hg.below hb1
 go_enter Tryz.func11, Tryz.ntmps11
 go_wp2_with fail
 refine (place_any hh hgh).mono ?_
 rintro r w' ⟨rfl, hb⟩
 have c0 : w'.cell? ⟨w.heap.size, 0, none⟩ = some (.int .i64 x) := (hb.cell (p := ⟨w.heap.size, 0, none⟩) (by simp)).trans (by rw [World.cell?_alloc_at _ _ _ _ rfl]; rfl)
 have c1 : w'.cell? ⟨w.heap.size, 1, none⟩ = some (.int .i64 y) := (hb.cell (p := ⟨w.heap.size, 1, none⟩) (by simp)).trans (by rw [World.cell?_alloc_at _ _ _ _ rfl]; rfl)
 by_cases h1 : e = x
 ·subst h1
  by_cases h2 : p = y
  ·subst h2
   go_wp2_with fail
   go_ret
   exact ⟨by first | rfl | simp [*], hb1.trans (hb.mono (by simp))⟩
  ·have h2' : (p == y) = false := by simp [h2]
   go_wp2_with fail
   go_ret
   exact ⟨by first | rfl | simp [*], hb1.trans (hb.mono (by simp))⟩
 ·have h1' : (e == x) = false := by simp [h1]
  go_wp2_with fail
  go_ret
  exact ⟨by first | rfl | simp [*], hb1.trans (hb.mono (by simp))⟩
end Go.Proofs.YtlpkpfpmcppciaaGreatDoor
end

section
namespace Go.Proofs.YtlpkpfpmcppciaaGreatDoor
set_option linter.unusedSimpArgs false
open Go.RowKit As
def wrightC (k : Int) (i : Bool) (x y : Nat) (n : Int) : Int :=
 if k < 1 ∨ 4 < k then 1
 else if i = false then 2
 else if 40 < x ∨ 300 < y then 4
 else if (k ≠ 1 ∧ k ≠ 4 ∧ y ≠ 0) ∨ (k ≠ 3 ∧ k ≠ 4 ∧ n ≠ 0) then 3
 else if k = 3 ∧ (n < -1125899906842624 ∨ 1125899906842624 < n) ∨ k = 4 ∧ (n < 0 ∨ 1000 < n) then 2 else 0
theorem wright_is (a b c f : Int) (d e : ByteArray) : wright (a, b, c, d, e, f) = wrightC c (idRight (a, b)) d.size e.size f := rfl
abbrev wrV (a b c : Int) (d e : ByteArray) (f : Int) : Value := .agg #[.int .i64 a, .int .i64 b, .int .i64 c, .string d, .string e, .int .i64 f]
abbrev wrO (a b c : Int) (d e : ByteArray) (f : Int) : Obj := .cells #[.int .i64 a, .int .i64 b, .int .i64 c, .string d, .string e, .int .i64 f] 32
/-- The write's cells, later on. -/
structure WrAt (w : World) (B : Nat) (a b c : Int) (d e : ByteArray) (f : Int) : Prop where
 c0 : w.cell? ⟨B, 0, none⟩ = some (.int .i64 a)
 c1 : w.cell? ⟨B, 1, none⟩ = some (.int .i64 b)
 c2 : w.cell? ⟨B, 2, none⟩ = some (.int .i64 c)
 c3 : w.cell? ⟨B, 3, none⟩ = some (.string d)
 c4 : w.cell? ⟨B, 4, none⟩ = some (.string e)
 c5 : w.cell? ⟨B, 5, none⟩ = some (.int .i64 f)
theorem WrAt.new (w : World) (a b c : Int) (d e : ByteArray) (f : Int) : WrAt (w.alloc (wrO a b c d e f)) w.heap.size a b c d e f := by
 refine ⟨?_, ?_, ?_, ?_, ?_, ?_⟩ <;> (rw [World.cell?_alloc_new]; rfl)
theorem WrAt.drewN {w : World} {B : Nat} {a b c f : Int} {d e : ByteArray} (h : WrAt w B a b c d e f) (q : Nat) : WrAt (w.drewN q) B a b c d e f := ⟨h.c0, h.c1, h.c2, h.c3, h.c4, h.c5⟩
theorem WrAt.below {w w' : World} {B : Nat} {a b c f : Int} {d e : ByteArray} (h : WrAt w B a b c d e f) (hb : Below w.heap.size w w') : WrAt w' B a b c d e f :=
 ⟨(hb.cell (cell_lt h.c0)).trans h.c0, (hb.cell (cell_lt h.c1)).trans h.c1, (hb.cell (cell_lt h.c2)).trans h.c2, (hb.cell (cell_lt h.c3)).trans h.c3, (hb.cell (cell_lt h.c4)).trans h.c4, (hb.cell (cell_lt h.c5)).trans h.c5⟩
set_option maxHeartbeats 2000000 in
set_option maxRecDepth 100000 in
theorem wright1 (a b f : Int) (d e : ByteArray) (w : World) : Calls Tryz.prog 34 #[wrV a b (1) d e f] w fun r w' => r = .returned (errV (wright (a, b, 1, d, e, f))) ∧ Below w.heap.size w w' := by
 rw [wright_is]
 have hW := WrAt.new w a b (1) d e f
 cases hidv : idRight (a, b) with
 | false =>
  have hid := Lib.hid hidv
  clear hidv
  have hr := Lib.hid (show wrightC 1 false d.size e.size f = 2 by unfold wrightC; rw [if_neg (by omega), if_pos rfl])
  go_enter Tryz.func34, Tryz.ntmps34
  go_wp2_with fail
  go_quiet (fail)
  go_wp2_with fail
  refine (idright_any a b _).mono ?_
  rintro r w1 ⟨rfl, hb1⟩
  rw [hid.out]
  obtain ⟨c0, c1, c2, c3, c4, c5⟩ := (hW.drewN nq).below hb1
  have hbl : Below w.heap.size w w1 := (below_drewN (below1 w _) nq).trans (hb1.mono (by simp))
  go_wp2
  go_ret
  exact ⟨by rw [hr.out]; rfl, hbl⟩
 | true =>
  have hid := Lib.hid hidv
  clear hidv
  by_cases h1 : 40 < d.size
  ·have hr := Lib.hid (show wrightC 1 true d.size e.size f = 4 by unfold wrightC; rw [if_neg (by omega), if_neg (by simp), if_pos (by omega)])
   have s0 : decide (40 < d.size) = true := by simp only [decide_eq_true_eq, decide_eq_false_iff_not]; omega
   have t0 : decide (40 < (d.size : Int)) = true := by simp only [decide_eq_true_eq, decide_eq_false_iff_not]; omega
   clear h1
   go_enter Tryz.func34, Tryz.ntmps34
   go_wp2_with fail
   go_quiet (fail)
   go_wp2_with fail
   refine (idright_any a b _).mono ?_
   rintro r w1 ⟨rfl, hb1⟩
   rw [hid.out]
   obtain ⟨c0, c1, c2, c3, c4, c5⟩ := (hW.drewN nq).below hb1
   have hbl : Below w.heap.size w w1 := (below_drewN (below1 w _) nq).trans (hb1.mono (by simp))
   go_wp2
   go_ret
   exact ⟨by rw [hr.out]; rfl, hbl⟩
  ·by_cases h2 : 300 < e.size
   ·have hr := Lib.hid (show wrightC 1 true d.size e.size f = 4 by unfold wrightC; rw [if_neg (by omega), if_neg (by simp), if_pos (by omega)])
    have s0 : decide (40 < d.size) = false := by simp only [decide_eq_true_eq, decide_eq_false_iff_not]; omega
    have t0 : decide (40 < (d.size : Int)) = false := by simp only [decide_eq_true_eq, decide_eq_false_iff_not]; omega
    have s1 : decide (300 < e.size) = true := by simp only [decide_eq_true_eq, decide_eq_false_iff_not]; omega
    have t1 : decide (300 < (e.size : Int)) = true := by simp only [decide_eq_true_eq, decide_eq_false_iff_not]; omega
    clear h1 h2
    go_enter Tryz.func34, Tryz.ntmps34
    go_wp2_with fail
    go_quiet (fail)
    go_wp2_with fail
    refine (idright_any a b _).mono ?_
    rintro r w1 ⟨rfl, hb1⟩
    rw [hid.out]
    obtain ⟨c0, c1, c2, c3, c4, c5⟩ := (hW.drewN nq).below hb1
    have hbl : Below w.heap.size w w1 := (below_drewN (below1 w _) nq).trans (hb1.mono (by simp))
    go_wp2
    go_ret
    exact ⟨by rw [hr.out]; rfl, hbl⟩
   ·have hz := str_empty' e
    have s0 : decide (40 < d.size) = false := by simp only [decide_eq_true_eq, decide_eq_false_iff_not]; omega
    have t0 : decide (40 < (d.size : Int)) = false := by simp only [decide_eq_true_eq, decide_eq_false_iff_not]; omega
    have s1 : decide (300 < e.size) = false := by simp only [decide_eq_true_eq, decide_eq_false_iff_not]; omega
    have t1 : decide (300 < (e.size : Int)) = false := by simp only [decide_eq_true_eq, decide_eq_false_iff_not]; omega
    have HZ := Lib.hid hz
    clear hz
    by_cases h3 : f = 0
    ·skip
     have hr := Lib.hid (show wrightC 1 true d.size e.size f = 0 by unfold wrightC; rw [if_neg (by omega), if_neg (by simp), if_neg (by omega), if_neg (by omega), if_neg (by omega)])
     have q0 : (f != 0) = false := by simp only [bne_iff_ne, bne_eq_false_iff_eq, ne_eq]; omega
     clear h1 h2 h3
     go_enter Tryz.func34, Tryz.ntmps34
     go_wp2_with fail
     go_quiet (fail)
     go_wp2_with fail
     refine (idright_any a b _).mono ?_
     rintro r w1 ⟨rfl, hb1⟩
     rw [hid.out]
     obtain ⟨c0, c1, c2, c3, c4, c5⟩ := (hW.drewN nq).below hb1
     have hbl : Below w.heap.size w w1 := (below_drewN (below1 w _) nq).trans (hb1.mono (by simp))
     go_wp2
     go_ret
     exact ⟨by rw [hr.out]; rfl, hbl⟩
    ·skip
     have hr := Lib.hid (show wrightC 1 true d.size e.size f = 3 by unfold wrightC; rw [if_neg (by omega), if_neg (by simp), if_neg (by omega), if_pos (by omega)])
     have q0 : (f != 0) = true := by simp only [bne_iff_ne, bne_eq_false_iff_eq, ne_eq]; omega
     clear h1 h2 h3
     go_enter Tryz.func34, Tryz.ntmps34
     go_wp2_with fail
     go_quiet (fail)
     go_wp2_with fail
     refine (idright_any a b _).mono ?_
     rintro r w1 ⟨rfl, hb1⟩
     rw [hid.out]
     obtain ⟨c0, c1, c2, c3, c4, c5⟩ := (hW.drewN nq).below hb1
     have hbl : Below w.heap.size w w1 := (below_drewN (below1 w _) nq).trans (hb1.mono (by simp))
     go_wp2
     go_ret
     exact ⟨by rw [hr.out]; rfl, hbl⟩
set_option maxHeartbeats 2000000 in
set_option maxRecDepth 100000 in
theorem wright2 (a b f : Int) (d e : ByteArray) (w : World) : Calls Tryz.prog 34 #[wrV a b (2) d e f] w fun r w' => r = .returned (errV (wright (a, b, 2, d, e, f))) ∧ Below w.heap.size w w' := by
 rw [wright_is]
 have hW := WrAt.new w a b (2) d e f
 cases hidv : idRight (a, b) with
 | false =>
  have hid := Lib.hid hidv
  clear hidv
  have hr := Lib.hid (show wrightC 2 false d.size e.size f = 2 by unfold wrightC; rw [if_neg (by omega), if_pos rfl])
  go_enter Tryz.func34, Tryz.ntmps34
  go_wp2_with fail
  go_quiet (fail)
  go_wp2_with fail
  refine (idright_any a b _).mono ?_
  rintro r w1 ⟨rfl, hb1⟩
  rw [hid.out]
  obtain ⟨c0, c1, c2, c3, c4, c5⟩ := (hW.drewN nq).below hb1
  have hbl : Below w.heap.size w w1 := (below_drewN (below1 w _) nq).trans (hb1.mono (by simp))
  go_wp2
  go_ret
  exact ⟨by rw [hr.out]; rfl, hbl⟩
 | true =>
  have hid := Lib.hid hidv
  clear hidv
  by_cases h1 : 40 < d.size
  ·have hr := Lib.hid (show wrightC 2 true d.size e.size f = 4 by unfold wrightC; rw [if_neg (by omega), if_neg (by simp), if_pos (by omega)])
   have s0 : decide (40 < d.size) = true := by simp only [decide_eq_true_eq, decide_eq_false_iff_not]; omega
   have t0 : decide (40 < (d.size : Int)) = true := by simp only [decide_eq_true_eq, decide_eq_false_iff_not]; omega
   clear h1
   go_enter Tryz.func34, Tryz.ntmps34
   go_wp2_with fail
   go_quiet (fail)
   go_wp2_with fail
   refine (idright_any a b _).mono ?_
   rintro r w1 ⟨rfl, hb1⟩
   rw [hid.out]
   obtain ⟨c0, c1, c2, c3, c4, c5⟩ := (hW.drewN nq).below hb1
   have hbl : Below w.heap.size w w1 := (below_drewN (below1 w _) nq).trans (hb1.mono (by simp))
   go_wp2
   go_ret
   exact ⟨by rw [hr.out]; rfl, hbl⟩
  ·by_cases h2 : 300 < e.size
   ·have hr := Lib.hid (show wrightC 2 true d.size e.size f = 4 by unfold wrightC; rw [if_neg (by omega), if_neg (by simp), if_pos (by omega)])
    have s0 : decide (40 < d.size) = false := by simp only [decide_eq_true_eq, decide_eq_false_iff_not]; omega
    have t0 : decide (40 < (d.size : Int)) = false := by simp only [decide_eq_true_eq, decide_eq_false_iff_not]; omega
    have s1 : decide (300 < e.size) = true := by simp only [decide_eq_true_eq, decide_eq_false_iff_not]; omega
    have t1 : decide (300 < (e.size : Int)) = true := by simp only [decide_eq_true_eq, decide_eq_false_iff_not]; omega
    clear h1 h2
    go_enter Tryz.func34, Tryz.ntmps34
    go_wp2_with fail
    go_quiet (fail)
    go_wp2_with fail
    refine (idright_any a b _).mono ?_
    rintro r w1 ⟨rfl, hb1⟩
    rw [hid.out]
    obtain ⟨c0, c1, c2, c3, c4, c5⟩ := (hW.drewN nq).below hb1
    have hbl : Below w.heap.size w w1 := (below_drewN (below1 w _) nq).trans (hb1.mono (by simp))
    go_wp2
    go_ret
    exact ⟨by rw [hr.out]; rfl, hbl⟩
   ·have hz := str_empty' e
    have s0 : decide (40 < d.size) = false := by simp only [decide_eq_true_eq, decide_eq_false_iff_not]; omega
    have t0 : decide (40 < (d.size : Int)) = false := by simp only [decide_eq_true_eq, decide_eq_false_iff_not]; omega
    have s1 : decide (300 < e.size) = false := by simp only [decide_eq_true_eq, decide_eq_false_iff_not]; omega
    have t1 : decide (300 < (e.size : Int)) = false := by simp only [decide_eq_true_eq, decide_eq_false_iff_not]; omega
    have HZ := Lib.hid hz
    clear hz
    by_cases h3 : e.size = 0
    ·by_cases h4 : f = 0
     ·skip
      have hr := Lib.hid (show wrightC 2 true d.size e.size f = 0 by unfold wrightC; rw [if_neg (by omega), if_neg (by simp), if_neg (by omega), if_neg (by omega), if_neg (by omega)])
      have q0 : e.toList.isEmpty = true := by rw [HZ.out]; simp only [decide_eq_true_eq, decide_eq_false_iff_not]; omega
      have q1 : (f != 0) = false := by simp only [bne_iff_ne, bne_eq_false_iff_eq, ne_eq]; omega
      clear h1 h2 h3 h4
      go_enter Tryz.func34, Tryz.ntmps34
      go_wp2_with fail
      go_quiet (fail)
      go_wp2_with fail
      refine (idright_any a b _).mono ?_
      rintro r w1 ⟨rfl, hb1⟩
      rw [hid.out]
      obtain ⟨c0, c1, c2, c3, c4, c5⟩ := (hW.drewN nq).below hb1
      have hbl : Below w.heap.size w w1 := (below_drewN (below1 w _) nq).trans (hb1.mono (by simp))
      go_wp2
      go_ret
      exact ⟨by rw [hr.out]; rfl, hbl⟩
     ·skip
      have hr := Lib.hid (show wrightC 2 true d.size e.size f = 3 by unfold wrightC; rw [if_neg (by omega), if_neg (by simp), if_neg (by omega), if_pos (by omega)])
      have q0 : e.toList.isEmpty = true := by rw [HZ.out]; simp only [decide_eq_true_eq, decide_eq_false_iff_not]; omega
      have q1 : (f != 0) = true := by simp only [bne_iff_ne, bne_eq_false_iff_eq, ne_eq]; omega
      clear h1 h2 h3 h4
      go_enter Tryz.func34, Tryz.ntmps34
      go_wp2_with fail
      go_quiet (fail)
      go_wp2_with fail
      refine (idright_any a b _).mono ?_
      rintro r w1 ⟨rfl, hb1⟩
      rw [hid.out]
      obtain ⟨c0, c1, c2, c3, c4, c5⟩ := (hW.drewN nq).below hb1
      have hbl : Below w.heap.size w w1 := (below_drewN (below1 w _) nq).trans (hb1.mono (by simp))
      go_wp2
      go_ret
      exact ⟨by rw [hr.out]; rfl, hbl⟩
    ·skip
     have hr := Lib.hid (show wrightC 2 true d.size e.size f = 3 by unfold wrightC; rw [if_neg (by omega), if_neg (by simp), if_neg (by omega), if_pos (by omega)])
     have q0 : e.toList.isEmpty = false := by rw [HZ.out]; simp only [decide_eq_true_eq, decide_eq_false_iff_not]; omega
     clear h1 h2 h3
     go_enter Tryz.func34, Tryz.ntmps34
     go_wp2_with fail
     go_quiet (fail)
     go_wp2_with fail
     refine (idright_any a b _).mono ?_
     rintro r w1 ⟨rfl, hb1⟩
     rw [hid.out]
     obtain ⟨c0, c1, c2, c3, c4, c5⟩ := (hW.drewN nq).below hb1
     have hbl : Below w.heap.size w w1 := (below_drewN (below1 w _) nq).trans (hb1.mono (by simp))
     go_wp2
     go_ret
     exact ⟨by rw [hr.out]; rfl, hbl⟩
set_option maxHeartbeats 2000000 in
set_option maxRecDepth 100000 in
theorem wright3 (a b f : Int) (d e : ByteArray) (w : World) : Calls Tryz.prog 34 #[wrV a b (3) d e f] w fun r w' => r = .returned (errV (wright (a, b, 3, d, e, f))) ∧ Below w.heap.size w w' := by
 rw [wright_is]
 have hW := WrAt.new w a b (3) d e f
 cases hidv : idRight (a, b) with
 | false =>
  have hid := Lib.hid hidv
  clear hidv
  have hr := Lib.hid (show wrightC 3 false d.size e.size f = 2 by unfold wrightC; rw [if_neg (by omega), if_pos rfl])
  go_enter Tryz.func34, Tryz.ntmps34
  go_wp2_with fail
  go_quiet (fail)
  go_wp2_with fail
  refine (idright_any a b _).mono ?_
  rintro r w1 ⟨rfl, hb1⟩
  rw [hid.out]
  obtain ⟨c0, c1, c2, c3, c4, c5⟩ := (hW.drewN nq).below hb1
  have hbl : Below w.heap.size w w1 := (below_drewN (below1 w _) nq).trans (hb1.mono (by simp))
  go_wp2
  go_ret
  exact ⟨by rw [hr.out]; rfl, hbl⟩
 | true =>
  have hid := Lib.hid hidv
  clear hidv
  by_cases h1 : 40 < d.size
  ·have hr := Lib.hid (show wrightC 3 true d.size e.size f = 4 by unfold wrightC; rw [if_neg (by omega), if_neg (by simp), if_pos (by omega)])
   have s0 : decide (40 < d.size) = true := by simp only [decide_eq_true_eq, decide_eq_false_iff_not]; omega
   have t0 : decide (40 < (d.size : Int)) = true := by simp only [decide_eq_true_eq, decide_eq_false_iff_not]; omega
   clear h1
   go_enter Tryz.func34, Tryz.ntmps34
   go_wp2_with fail
   go_quiet (fail)
   go_wp2_with fail
   refine (idright_any a b _).mono ?_
   rintro r w1 ⟨rfl, hb1⟩
   rw [hid.out]
   obtain ⟨c0, c1, c2, c3, c4, c5⟩ := (hW.drewN nq).below hb1
   have hbl : Below w.heap.size w w1 := (below_drewN (below1 w _) nq).trans (hb1.mono (by simp))
   go_wp2
   go_ret
   exact ⟨by rw [hr.out]; rfl, hbl⟩
  ·by_cases h2 : 300 < e.size
   ·have hr := Lib.hid (show wrightC 3 true d.size e.size f = 4 by unfold wrightC; rw [if_neg (by omega), if_neg (by simp), if_pos (by omega)])
    have s0 : decide (40 < d.size) = false := by simp only [decide_eq_true_eq, decide_eq_false_iff_not]; omega
    have t0 : decide (40 < (d.size : Int)) = false := by simp only [decide_eq_true_eq, decide_eq_false_iff_not]; omega
    have s1 : decide (300 < e.size) = true := by simp only [decide_eq_true_eq, decide_eq_false_iff_not]; omega
    have t1 : decide (300 < (e.size : Int)) = true := by simp only [decide_eq_true_eq, decide_eq_false_iff_not]; omega
    clear h1 h2
    go_enter Tryz.func34, Tryz.ntmps34
    go_wp2_with fail
    go_quiet (fail)
    go_wp2_with fail
    refine (idright_any a b _).mono ?_
    rintro r w1 ⟨rfl, hb1⟩
    rw [hid.out]
    obtain ⟨c0, c1, c2, c3, c4, c5⟩ := (hW.drewN nq).below hb1
    have hbl : Below w.heap.size w w1 := (below_drewN (below1 w _) nq).trans (hb1.mono (by simp))
    go_wp2
    go_ret
    exact ⟨by rw [hr.out]; rfl, hbl⟩
   ·have hz := str_empty' e
    have s0 : decide (40 < d.size) = false := by simp only [decide_eq_true_eq, decide_eq_false_iff_not]; omega
    have t0 : decide (40 < (d.size : Int)) = false := by simp only [decide_eq_true_eq, decide_eq_false_iff_not]; omega
    have s1 : decide (300 < e.size) = false := by simp only [decide_eq_true_eq, decide_eq_false_iff_not]; omega
    have t1 : decide (300 < (e.size : Int)) = false := by simp only [decide_eq_true_eq, decide_eq_false_iff_not]; omega
    have HZ := Lib.hid hz
    clear hz
    by_cases h3 : e.size = 0
    ·by_cases h4 : f < -1125899906842624
     ·skip
      have hr := Lib.hid (show wrightC 3 true d.size e.size f = 2 by unfold wrightC; rw [if_neg (by omega), if_neg (by simp), if_neg (by omega), if_neg (by omega), if_pos (by omega)])
      have q0 : e.toList.isEmpty = true := by rw [HZ.out]; simp only [decide_eq_true_eq, decide_eq_false_iff_not]; omega
      have q1 : decide (f < -1125899906842624) = true := by simp only [decide_eq_true_eq, decide_eq_false_iff_not]; omega
      clear h1 h2 h3 h4
      go_enter Tryz.func34, Tryz.ntmps34
      go_wp2_with fail
      go_quiet (fail)
      go_wp2_with fail
      refine (idright_any a b _).mono ?_
      rintro r w1 ⟨rfl, hb1⟩
      rw [hid.out]
      obtain ⟨c0, c1, c2, c3, c4, c5⟩ := (hW.drewN nq).below hb1
      have hbl : Below w.heap.size w w1 := (below_drewN (below1 w _) nq).trans (hb1.mono (by simp))
      go_wp2
      go_ret
      exact ⟨by rw [hr.out]; rfl, hbl⟩
     ·by_cases h5 : 1125899906842624 < f
      ·skip
       have hr := Lib.hid (show wrightC 3 true d.size e.size f = 2 by unfold wrightC; rw [if_neg (by omega), if_neg (by simp), if_neg (by omega), if_neg (by omega), if_pos (by omega)])
       have q0 : e.toList.isEmpty = true := by rw [HZ.out]; simp only [decide_eq_true_eq, decide_eq_false_iff_not]; omega
       have q1 : decide (f < -1125899906842624) = false := by simp only [decide_eq_true_eq, decide_eq_false_iff_not]; omega
       have q2 : decide (1125899906842624 < f) = true := by simp only [decide_eq_true_eq, decide_eq_false_iff_not]; omega
       clear h1 h2 h3 h4 h5
       go_enter Tryz.func34, Tryz.ntmps34
       go_wp2_with fail
       go_quiet (fail)
       go_wp2_with fail
       refine (idright_any a b _).mono ?_
       rintro r w1 ⟨rfl, hb1⟩
       rw [hid.out]
       obtain ⟨c0, c1, c2, c3, c4, c5⟩ := (hW.drewN nq).below hb1
       have hbl : Below w.heap.size w w1 := (below_drewN (below1 w _) nq).trans (hb1.mono (by simp))
       go_wp2
       go_ret
       exact ⟨by rw [hr.out]; rfl, hbl⟩
      ·skip
       have hr := Lib.hid (show wrightC 3 true d.size e.size f = 0 by unfold wrightC; rw [if_neg (by omega), if_neg (by simp), if_neg (by omega), if_neg (by omega), if_neg (by omega)])
       have q0 : e.toList.isEmpty = true := by rw [HZ.out]; simp only [decide_eq_true_eq, decide_eq_false_iff_not]; omega
       have q1 : decide (f < -1125899906842624) = false := by simp only [decide_eq_true_eq, decide_eq_false_iff_not]; omega
       have q2 : decide (1125899906842624 < f) = false := by simp only [decide_eq_true_eq, decide_eq_false_iff_not]; omega
       clear h1 h2 h3 h4 h5
       go_enter Tryz.func34, Tryz.ntmps34
       go_wp2_with fail
       go_quiet (fail)
       go_wp2_with fail
       refine (idright_any a b _).mono ?_
       rintro r w1 ⟨rfl, hb1⟩
       rw [hid.out]
       obtain ⟨c0, c1, c2, c3, c4, c5⟩ := (hW.drewN nq).below hb1
       have hbl : Below w.heap.size w w1 := (below_drewN (below1 w _) nq).trans (hb1.mono (by simp))
       go_wp2
       go_ret
       exact ⟨by rw [hr.out]; rfl, hbl⟩
    ·skip
     have hr := Lib.hid (show wrightC 3 true d.size e.size f = 3 by unfold wrightC; rw [if_neg (by omega), if_neg (by simp), if_neg (by omega), if_pos (by omega)])
     have q0 : e.toList.isEmpty = false := by rw [HZ.out]; simp only [decide_eq_true_eq, decide_eq_false_iff_not]; omega
     clear h1 h2 h3
     go_enter Tryz.func34, Tryz.ntmps34
     go_wp2_with fail
     go_quiet (fail)
     go_wp2_with fail
     refine (idright_any a b _).mono ?_
     rintro r w1 ⟨rfl, hb1⟩
     rw [hid.out]
     obtain ⟨c0, c1, c2, c3, c4, c5⟩ := (hW.drewN nq).below hb1
     have hbl : Below w.heap.size w w1 := (below_drewN (below1 w _) nq).trans (hb1.mono (by simp))
     go_wp2
     go_ret
     exact ⟨by rw [hr.out]; rfl, hbl⟩
set_option maxHeartbeats 2000000 in
set_option maxRecDepth 100000 in
theorem wright4 (a b f : Int) (d e : ByteArray) (w : World) : Calls Tryz.prog 34 #[wrV a b (4) d e f] w fun r w' => r = .returned (errV (wright (a, b, 4, d, e, f))) ∧ Below w.heap.size w w' := by
 rw [wright_is]
 have hW := WrAt.new w a b (4) d e f
 cases hidv : idRight (a, b) with
 | false =>
  have hid := Lib.hid hidv
  clear hidv
  have hr := Lib.hid (show wrightC 4 false d.size e.size f = 2 by unfold wrightC; rw [if_neg (by omega), if_pos rfl])
  go_enter Tryz.func34, Tryz.ntmps34
  go_wp2_with fail
  go_quiet (fail)
  go_wp2_with fail
  refine (idright_any a b _).mono ?_
  rintro r w1 ⟨rfl, hb1⟩
  rw [hid.out]
  obtain ⟨c0, c1, c2, c3, c4, c5⟩ := (hW.drewN nq).below hb1
  have hbl : Below w.heap.size w w1 := (below_drewN (below1 w _) nq).trans (hb1.mono (by simp))
  go_wp2
  go_ret
  exact ⟨by rw [hr.out]; rfl, hbl⟩
 | true =>
  have hid := Lib.hid hidv
  clear hidv
  by_cases h1 : 40 < d.size
  ·have hr := Lib.hid (show wrightC 4 true d.size e.size f = 4 by unfold wrightC; rw [if_neg (by omega), if_neg (by simp), if_pos (by omega)])
   have s0 : decide (40 < d.size) = true := by simp only [decide_eq_true_eq, decide_eq_false_iff_not]; omega
   have t0 : decide (40 < (d.size : Int)) = true := by simp only [decide_eq_true_eq, decide_eq_false_iff_not]; omega
   clear h1
   go_enter Tryz.func34, Tryz.ntmps34
   go_wp2_with fail
   go_quiet (fail)
   go_wp2_with fail
   refine (idright_any a b _).mono ?_
   rintro r w1 ⟨rfl, hb1⟩
   rw [hid.out]
   obtain ⟨c0, c1, c2, c3, c4, c5⟩ := (hW.drewN nq).below hb1
   have hbl : Below w.heap.size w w1 := (below_drewN (below1 w _) nq).trans (hb1.mono (by simp))
   go_wp2
   go_ret
   exact ⟨by rw [hr.out]; rfl, hbl⟩
  ·by_cases h2 : 300 < e.size
   ·have hr := Lib.hid (show wrightC 4 true d.size e.size f = 4 by unfold wrightC; rw [if_neg (by omega), if_neg (by simp), if_pos (by omega)])
    have s0 : decide (40 < d.size) = false := by simp only [decide_eq_true_eq, decide_eq_false_iff_not]; omega
    have t0 : decide (40 < (d.size : Int)) = false := by simp only [decide_eq_true_eq, decide_eq_false_iff_not]; omega
    have s1 : decide (300 < e.size) = true := by simp only [decide_eq_true_eq, decide_eq_false_iff_not]; omega
    have t1 : decide (300 < (e.size : Int)) = true := by simp only [decide_eq_true_eq, decide_eq_false_iff_not]; omega
    clear h1 h2
    go_enter Tryz.func34, Tryz.ntmps34
    go_wp2_with fail
    go_quiet (fail)
    go_wp2_with fail
    refine (idright_any a b _).mono ?_
    rintro r w1 ⟨rfl, hb1⟩
    rw [hid.out]
    obtain ⟨c0, c1, c2, c3, c4, c5⟩ := (hW.drewN nq).below hb1
    have hbl : Below w.heap.size w w1 := (below_drewN (below1 w _) nq).trans (hb1.mono (by simp))
    go_wp2
    go_ret
    exact ⟨by rw [hr.out]; rfl, hbl⟩
   ·have hz := str_empty' e
    have s0 : decide (40 < d.size) = false := by simp only [decide_eq_true_eq, decide_eq_false_iff_not]; omega
    have t0 : decide (40 < (d.size : Int)) = false := by simp only [decide_eq_true_eq, decide_eq_false_iff_not]; omega
    have s1 : decide (300 < e.size) = false := by simp only [decide_eq_true_eq, decide_eq_false_iff_not]; omega
    have t1 : decide (300 < (e.size : Int)) = false := by simp only [decide_eq_true_eq, decide_eq_false_iff_not]; omega
    have HZ := Lib.hid hz
    clear hz
    by_cases h4 : f < 0
    ·skip
     have hr := Lib.hid (show wrightC 4 true d.size e.size f = 2 by unfold wrightC; rw [if_neg (by omega), if_neg (by simp), if_neg (by omega), if_neg (by omega), if_pos (by omega)])
     have q0 : decide (f < 0) = true := by simp only [decide_eq_true_eq, decide_eq_false_iff_not]; omega
     clear h1 h2 h4
     go_enter Tryz.func34, Tryz.ntmps34
     go_wp2_with fail
     go_quiet (fail)
     go_wp2_with fail
     refine (idright_any a b _).mono ?_
     rintro r w1 ⟨rfl, hb1⟩
     rw [hid.out]
     obtain ⟨c0, c1, c2, c3, c4, c5⟩ := (hW.drewN nq).below hb1
     have hbl : Below w.heap.size w w1 := (below_drewN (below1 w _) nq).trans (hb1.mono (by simp))
     go_wp2
     go_ret
     exact ⟨by rw [hr.out]; rfl, hbl⟩
    ·by_cases h5 : 1000 < f
     ·skip
      have hr := Lib.hid (show wrightC 4 true d.size e.size f = 2 by unfold wrightC; rw [if_neg (by omega), if_neg (by simp), if_neg (by omega), if_neg (by omega), if_pos (by omega)])
      have q0 : decide (f < 0) = false := by simp only [decide_eq_true_eq, decide_eq_false_iff_not]; omega
      have q1 : decide (1000 < f) = true := by simp only [decide_eq_true_eq, decide_eq_false_iff_not]; omega
      clear h1 h2 h4 h5
      go_enter Tryz.func34, Tryz.ntmps34
      go_wp2_with fail
      go_quiet (fail)
      go_wp2_with fail
      refine (idright_any a b _).mono ?_
      rintro r w1 ⟨rfl, hb1⟩
      rw [hid.out]
      obtain ⟨c0, c1, c2, c3, c4, c5⟩ := (hW.drewN nq).below hb1
      have hbl : Below w.heap.size w w1 := (below_drewN (below1 w _) nq).trans (hb1.mono (by simp))
      go_wp2
      go_ret
      exact ⟨by rw [hr.out]; rfl, hbl⟩
     ·skip
      have hr := Lib.hid (show wrightC 4 true d.size e.size f = 0 by unfold wrightC; rw [if_neg (by omega), if_neg (by simp), if_neg (by omega), if_neg (by omega), if_neg (by omega)])
      have q0 : decide (f < 0) = false := by simp only [decide_eq_true_eq, decide_eq_false_iff_not]; omega
      have q1 : decide (1000 < f) = false := by simp only [decide_eq_true_eq, decide_eq_false_iff_not]; omega
      clear h1 h2 h4 h5
      go_enter Tryz.func34, Tryz.ntmps34
      go_wp2_with fail
      go_quiet (fail)
      go_wp2_with fail
      refine (idright_any a b _).mono ?_
      rintro r w1 ⟨rfl, hb1⟩
      rw [hid.out]
      obtain ⟨c0, c1, c2, c3, c4, c5⟩ := (hW.drewN nq).below hb1
      have hbl : Below w.heap.size w w1 := (below_drewN (below1 w _) nq).trans (hb1.mono (by simp))
      go_wp2
      go_ret
      exact ⟨by rw [hr.out]; rfl, hbl⟩
set_option maxHeartbeats 2000000 in
set_option maxRecDepth 100000 in
theorem wright0 (a b c f : Int) (d e : ByteArray) (w : World) (hc : c < 1 ∨ 4 < c) : Calls Tryz.prog 34 #[wrV a b (c) d e f] w fun r w' => r = .returned (errV (wright (a, b, c, d, e, f))) ∧ Below w.heap.size w w' := by
 rw [wright_is]
 have hW := WrAt.new w a b (c) d e f
 have hr := Lib.hid (show wrightC c (idRight (a, b)) d.size e.size f = 1 by unfold wrightC; rw [if_pos hc])
 have k1 : (c == 1) = false := by rw [beq_eq_false_iff_ne]; omega
 have k3 : (c == 3) = false := by rw [beq_eq_false_iff_ne]; omega
 have k4 : (c == 4) = false := by rw [beq_eq_false_iff_ne]; omega
 by_cases h : c < 1
 ·have q0 : decide (c < 1) = true := by simp only [decide_eq_true_eq, decide_eq_false_iff_not]; omega
  clear h hc
  go_enter Tryz.func34, Tryz.ntmps34
  go_wp2_with fail
  go_quiet (fail)
  go_wp2_with fail
  go_ret
  exact ⟨by rw [hr.out]; rfl, below_drewN (below1 w _) nq⟩
 ·have q0 : decide (c < 1) = false := by simp only [decide_eq_true_eq, decide_eq_false_iff_not]; omega
  have q1 : decide (4 < c) = true := by simp only [decide_eq_true_eq]; omega
  clear h hc
  go_enter Tryz.func34, Tryz.ntmps34
  go_wp2_with fail
  go_quiet (fail)
  go_wp2_with fail
  go_ret
  exact ⟨by rw [hr.out]; rfl, below_drewN (below1 w _) nq⟩
theorem wright_any (x : Wr) (w : World) : Calls Tryz.prog 34 #[wrV x.1 x.2.1 x.2.2.1 x.2.2.2.1 x.2.2.2.2.1 x.2.2.2.2.2] w fun r w' => r = .returned (errV (wright x)) ∧ Below w.heap.size w w' := by
 obtain ⟨a, b, c, d, e, f⟩ := x
 by_cases h : c < 1 ∨ 4 < c
 ·exact wright0 a b c f d e w h
 ·rcases (by omega : c = 1 ∨ c = 2 ∨ c = 3 ∨ c = 4) with rfl | rfl | rfl | rfl
  ·exact wright1 a b f d e w
  ·exact wright2 a b f d e w
  ·exact wright3 a b f d e w
  ·exact wright4 a b f d e w
end Go.Proofs.YtlpkpfpmcppciaaGreatDoor
end
