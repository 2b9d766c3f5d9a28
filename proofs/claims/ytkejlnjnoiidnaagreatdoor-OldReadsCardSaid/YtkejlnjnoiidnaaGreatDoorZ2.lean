/- errors.As at the target *api.Errno: an api.Errno, and an *api.At.

api.Tell, plain.Place and the laws' own two questions, by contracts on what an error is.

What an error is, told once for all: none, an api.Errno, an *api.At; and what api.Tell, plain.Place and the laws' own questions make of it.

vector.Right and VectorRight of the reference say what vright says.

Lists of tokens in memory.

match.Right says what tright says; the law's heavy says something.

A buffer of bytes in a block of the call's own. Any program.

A slice of bytes of the call's own, that grows: its cells, and the string that it turns into. Any program.

vary.Put makes what vput says.

match.Text makes what ttext says.

Plain facts on the sum of a text: a table-free sum byte by byte is the sum bit by bit. No program in sight.

A text with its sum behind, and without, in plain Lean. No program in sight.

lz.Write says what twrite says.

TokensRight of the reference says what tright says.

(Fault).Is of the reference.

Text of the reference makes what ttext says.

How many bytes a number needs, and which they are, in plain Lean. No program in sight.

Vary of the reference makes what vput says. -/
import Derived.Test.YtkejlnjnoiidnaaGreatDoorZ1
import Derived.RegionTactic
import Derived.Deep.QuietTactic
import Derived.BigQuiet
import Derived.Deep.Cut
import Derived.Deep.DeepCutAuto
import Derived.Deep.CutBlock
import Derived.Laws.IdiomStrings
import Derived.Laws.BytesArg
import Derived.OwnWalk
import Derived.Maps.AppendAt
import Derived.KernelRfl
import Derived.Laws.OwnMore
import Derived.WalkKit
import Derived.WalkLawsBesides
import Derived.WalkSpells
import Derived.Outline
import Derived.Lib.Hide
import Derived.Laws.BitsAllLaws
import Derived.Lib.AppendStr
import Derived.Deep.RegionWith
import Derived.Lib.BitFns
import Derived.Test.YtkejlnjnoiidnaaGreatDoorShelfLen
section
namespace Go.Proofs.YtkejlnjnoiidnaaGreatDoor.As
open Go.RowKit Go.Extern.Stop Go.Stop Go.Extern
set_option maxHeartbeats 4000000 in
theorem as_errno (e : Int) (t : Addr) (old : Value) (w : World) (hg : Handle w) (ht0 : w.cell? t = some old) (hf0 : w.frozen? t = false) :
  Calls Tryz.prog 110 #[.iface 27 (.int .i64 e), .iface 157 (.pointer (some t))] w fun ev w' => ev = .returned (.bool true) ∧ ∃ w1, w' = w1.setCell t (.int .i64 e) ∧ Below w.heap.size w w1 := by
 have x0 := @run_callFunc_extern Tryz.prog 136 _ (fun args => ReflectliteValue.unpack (args.getD 0 (.tuple #[]))) Tryz.func136 (by kernel_rfl) (by kernel_rfl) (by kernel_rfl) (by kernel_rfl)
 have x1 := @run_callFunc_extern Tryz.prog 137 _ (ReflectliteValue.methodAny (ReflectliteValue.valueError "reflectlite.Value.Type" 0) (fun t _ _ _ => ReflectliteType.toType t)) Tryz.func137 (by kernel_rfl) (by kernel_rfl) (by kernel_rfl) (by kernel_rfl)
 have x2 := @run_callFunc_extern Tryz.prog 138 _ (ReflectliteValue.method (ReflectliteValue.valueError "reflectlite.Value.IsNil" 0) ReflectliteValue.isNil) Tryz.func138 (by kernel_rfl) (by kernel_rfl) (by kernel_rfl) (by kernel_rfl)
 have x3 := @run_callFunc_extern Tryz.prog 189 _ (ReflectliteType.abiMethod fun t => do pure (.int .u8 (← Rtype.kind t))) Tryz.func189 (by kernel_rfl) (by kernel_rfl) (by kernel_rfl) (by kernel_rfl)
 have x4 := @run_callFunc_extern Tryz.prog 202 _ (ReflectliteType.method ReflectliteType.elem) Tryz.func202 (by kernel_rfl) (by kernel_rfl) (by kernel_rfl) (by kernel_rfl)
 have x5 := @run_callFunc_extern Tryz.prog 203 _ (ReflectliteType.relation "Implements" ReflectliteType.implements_) Tryz.func203 (by kernel_rfl) (by kernel_rfl) (by kernel_rfl) (by kernel_rfl)
 have x6 := @run_callFunc_extern Tryz.prog 150 _ (ReflectliteType.typeOf) Tryz.func150 (by kernel_rfl) (by kernel_rfl) (by kernel_rfl) (by kernel_rfl)
 have x7 := @run_callFunc_extern Tryz.prog 200 _ (ReflectliteType.relation "AssignableTo" ReflectliteType.assignableTo) Tryz.func200 (by kernel_rfl) (by kernel_rfl) (by kernel_rfl) (by kernel_rfl)
 have x8 := @run_callFunc_extern Tryz.prog 151 _ (ReflectliteValue.method (ReflectliteValue.valueError "reflectlite.Value.Elem" 0) ReflectliteValue.elem) Tryz.func151 (by kernel_rfl) (by kernel_rfl) (by kernel_rfl) (by kernel_rfl)
 have x9 := @run_callFunc_extern Tryz.prog 152 _ (ReflectliteValue.set) Tryz.func152 (by kernel_rfl) (by kernel_rfl) (by kernel_rfl) (by kernel_rfl)
 have c0 := valueOfP
 have c1 := typeP
 have c2 := methodKind
 have c3 := kindP
 have c4 := kindE
 have c5 := methodElem
 have c6 := methodImplements
 have c7 := methodAssignableTo
 have c8 := elemP
 have c9 := implementsE
 have c10 := typeOfE
 have c11 := assignableE
 have c12 := valueOfE
 have hlt := cell_lt hg
 have htl := cell_lt ht0
 simp only at hlt
 have n8 := isNilP ⟨w.heap.size, 0, none⟩ t ((w.alloc (.cells #[.pointer (some t)] 157)).alloc (.cells #[.pointer (some ⟨5, 157, none⟩), .pointer (some ⟨w.heap.size, 0, none⟩), .int .u64 150] 186)) (by simp)
 have hg2 : ((w.alloc (.cells #[.pointer (some t)] 157)).alloc (.cells #[.pointer (some ⟨5, 157, none⟩), .pointer (some ⟨w.heap.size, 0, none⟩), .int .u64 150] 186)).cell? ⟨0, 0, none⟩ = some (.iface 206 (.agg #[.pointer (some ⟨5, 33, none⟩)])) := by
  rw [World.cell?_alloc_lt _ _ ⟨0, 0, none⟩ (by simp), World.cell?_alloc_lt _ _ ⟨0, 0, none⟩ hlt]; exact hg
 have el := elemV ⟨w.heap.size, 0, none⟩ t (((w.alloc (.cells #[.pointer (some t)] 157)).alloc (.cells #[.pointer (some ⟨5, 157, none⟩), .pointer (some ⟨w.heap.size, 0, none⟩), .int .u64 150] 186)).alloc (.cells #[.pointer (some ⟨5, 157, none⟩), .pointer (some ⟨w.heap.size, 0, none⟩), .int .u64 150] 186)) (by rw [World.cell?_alloc_lt _ _ ⟨w.heap.size, 0, none⟩ (by simp <;> omega)]; simp)
 have st := setE t ⟨w.heap.size + 1 + 1 + 1, 0, none⟩ e old ((((w.alloc (.cells #[.pointer (some t)] 157)).alloc (.cells #[.pointer (some ⟨5, 157, none⟩), .pointer (some ⟨w.heap.size, 0, none⟩), .int .u64 150] 186)).alloc (.cells #[.pointer (some ⟨5, 157, none⟩), .pointer (some ⟨w.heap.size, 0, none⟩), .int .u64 150] 186)).alloc (.cells #[.int .i64 e] 27))
  (by rw [World.cell?_alloc_at _ _ _ _ (by simp)]; rfl)
  (by rw [World.cell?_alloc_lt _ _ t (by simp; omega), World.cell?_alloc_lt _ _ t (by simp; omega), World.cell?_alloc_lt _ _ t (by simp; omega), World.cell?_alloc_lt _ _ t htl]; exact ht0)
  (by rw [World.frozen?_alloc_old _ _ t (by simp; omega), World.frozen?_alloc_old _ _ t (by simp; omega), World.frozen?_alloc_old _ _ t (by simp; omega), World.frozen?_alloc_old _ _ t (Nat.ne_of_lt htl)]; exact hf0)
 unfold Handle at hg
 go_enter Tryz.func110, Tryz.ntmps110
 go_wp2
 refine wp_loop_rounds 1 ?_
 rw [rounds_succ]
 go_wp2
 go_ret
 exact ⟨rfl, _, rfl, ((((Below.refl _ _).alloc (Nat.le_refl _) _).alloc (by simp) _).alloc (by simp; omega) _).alloc (by simp; omega) _⟩
set_option maxHeartbeats 4000000 in
theorem as_at (e : Int) (a : Addr) (t : Addr) (old : Value) (w : World) (hg : Handle w) (ha : w.cell? a = some (.int .i64 e)) (ht0 : w.cell? t = some old) (hf0 : w.frozen? t = false) :
  Calls Tryz.prog 110 #[.iface 112 (.pointer (some a)), .iface 157 (.pointer (some t))] w fun ev w' => ev = .returned (.bool true) ∧ ∃ w1, w' = w1.setCell t (.int .i64 e) ∧ Below w.heap.size w w1 := by
 have x0 := @run_callFunc_extern Tryz.prog 136 _ (fun args => ReflectliteValue.unpack (args.getD 0 (.tuple #[]))) Tryz.func136 (by kernel_rfl) (by kernel_rfl) (by kernel_rfl) (by kernel_rfl)
 have x1 := @run_callFunc_extern Tryz.prog 137 _ (ReflectliteValue.methodAny (ReflectliteValue.valueError "reflectlite.Value.Type" 0) (fun t _ _ _ => ReflectliteType.toType t)) Tryz.func137 (by kernel_rfl) (by kernel_rfl) (by kernel_rfl) (by kernel_rfl)
 have x2 := @run_callFunc_extern Tryz.prog 138 _ (ReflectliteValue.method (ReflectliteValue.valueError "reflectlite.Value.IsNil" 0) ReflectliteValue.isNil) Tryz.func138 (by kernel_rfl) (by kernel_rfl) (by kernel_rfl) (by kernel_rfl)
 have x3 := @run_callFunc_extern Tryz.prog 189 _ (ReflectliteType.abiMethod fun t => do pure (.int .u8 (← Rtype.kind t))) Tryz.func189 (by kernel_rfl) (by kernel_rfl) (by kernel_rfl) (by kernel_rfl)
 have x4 := @run_callFunc_extern Tryz.prog 202 _ (ReflectliteType.method ReflectliteType.elem) Tryz.func202 (by kernel_rfl) (by kernel_rfl) (by kernel_rfl) (by kernel_rfl)
 have x5 := @run_callFunc_extern Tryz.prog 203 _ (ReflectliteType.relation "Implements" ReflectliteType.implements_) Tryz.func203 (by kernel_rfl) (by kernel_rfl) (by kernel_rfl) (by kernel_rfl)
 have x6 := @run_callFunc_extern Tryz.prog 150 _ (ReflectliteType.typeOf) Tryz.func150 (by kernel_rfl) (by kernel_rfl) (by kernel_rfl) (by kernel_rfl)
 have x7 := @run_callFunc_extern Tryz.prog 200 _ (ReflectliteType.relation "AssignableTo" ReflectliteType.assignableTo) Tryz.func200 (by kernel_rfl) (by kernel_rfl) (by kernel_rfl) (by kernel_rfl)
 have x8 := @run_callFunc_extern Tryz.prog 151 _ (ReflectliteValue.method (ReflectliteValue.valueError "reflectlite.Value.Elem" 0) ReflectliteValue.elem) Tryz.func151 (by kernel_rfl) (by kernel_rfl) (by kernel_rfl) (by kernel_rfl)
 have x9 := @run_callFunc_extern Tryz.prog 152 _ (ReflectliteValue.set) Tryz.func152 (by kernel_rfl) (by kernel_rfl) (by kernel_rfl) (by kernel_rfl)
 have c0 := valueOfP
 have c1 := typeP
 have c2 := methodKind
 have c3 := kindP
 have c4 := kindE
 have c5 := methodElem
 have c6 := methodImplements
 have c7 := methodAssignableTo
 have c8 := elemP
 have c9 := implementsE
 have c10 := typeOfE
 have c11 := assignableE
 have c12 := valueOfE
 have c13 := typeOfA
 have c14 := assignableA
 have c15 := noAs
 have c16 := hasUnwrap
 have c17 := methodUnwrap
 have hlt := cell_lt hg
 have htl := cell_lt ht0
 simp only at hlt
 have n8 := isNilP ⟨w.heap.size, 0, none⟩ t ((w.alloc (.cells #[.pointer (some t)] 157)).alloc (.cells #[.pointer (some ⟨5, 157, none⟩), .pointer (some ⟨w.heap.size, 0, none⟩), .int .u64 150] 186)) (by simp)
 have hg2 : ((w.alloc (.cells #[.pointer (some t)] 157)).alloc (.cells #[.pointer (some ⟨5, 157, none⟩), .pointer (some ⟨w.heap.size, 0, none⟩), .int .u64 150] 186)).cell? ⟨0, 0, none⟩ = some (.iface 206 (.agg #[.pointer (some ⟨5, 33, none⟩)])) := by
  rw [World.cell?_alloc_lt _ _ ⟨0, 0, none⟩ (by simp), World.cell?_alloc_lt _ _ ⟨0, 0, none⟩ hlt]; exact hg
 have el := elemV ⟨w.heap.size, 0, none⟩ t (((w.alloc (.cells #[.pointer (some t)] 157)).alloc (.cells #[.pointer (some ⟨5, 157, none⟩), .pointer (some ⟨w.heap.size, 0, none⟩), .int .u64 150] 186)).alloc (.cells #[.pointer (some ⟨5, 157, none⟩), .pointer (some ⟨w.heap.size, 0, none⟩), .int .u64 150] 186)) (by rw [World.cell?_alloc_lt _ _ ⟨w.heap.size, 0, none⟩ (by simp <;> omega)]; simp)
 have st := setE t ⟨w.heap.size + 1 + 1 + 1, 0, none⟩ e old ((((w.alloc (.cells #[.pointer (some t)] 157)).alloc (.cells #[.pointer (some ⟨5, 157, none⟩), .pointer (some ⟨w.heap.size, 0, none⟩), .int .u64 150] 186)).alloc (.cells #[.pointer (some ⟨5, 157, none⟩), .pointer (some ⟨w.heap.size, 0, none⟩), .int .u64 150] 186)).alloc (.cells #[.int .i64 e] 27))
  (by rw [World.cell?_alloc_at _ _ _ _ (by simp)]; rfl)
  (by rw [World.cell?_alloc_lt _ _ t (by simp; omega), World.cell?_alloc_lt _ _ t (by simp; omega), World.cell?_alloc_lt _ _ t (by simp; omega), World.cell?_alloc_lt _ _ t htl]; exact ht0)
  (by rw [World.frozen?_alloc_old _ _ t (by simp; omega), World.frozen?_alloc_old _ _ t (by simp; omega), World.frozen?_alloc_old _ _ t (by simp; omega), World.frozen?_alloc_old _ _ t (Nat.ne_of_lt htl)]; exact hf0)
 unfold Handle at hg
 have hal := cell_lt ha
 have ha2 : (((w.alloc (.cells #[.pointer (some t)] 157)).alloc (.cells #[.pointer (some ⟨5, 157, none⟩), .pointer (some ⟨w.heap.size, 0, none⟩), .int .u64 150] 186)).alloc (.cells #[.pointer (some ⟨5, 157, none⟩), .pointer (some ⟨w.heap.size, 0, none⟩), .int .u64 150] 186)).cell? a = some (.int .i64 e) := by rw [World.cell?_alloc_lt _ _ a (by simp; omega), World.cell?_alloc_lt _ _ a (by simp; omega), World.cell?_alloc_lt _ _ a hal]; exact ha
 go_enter Tryz.func110, Tryz.ntmps110
 go_wp2
 refine wp_loop_rounds 2 ?_
 rw [rounds_succ]
 go_wp2
 rw [rounds_succ]
 go_wp2
 go_ret
 exact ⟨rfl, _, rfl, ((((Below.refl _ _).alloc (Nat.le_refl _) _).alloc (by simp) _).alloc (by simp; omega) _).alloc (by simp; omega) _⟩

end Go.Proofs.YtkejlnjnoiidnaaGreatDoor.As
end

section
namespace Go.Proofs.YtkejlnjnoiidnaaGreatDoor.As
open Go.RowKit Go.Extern.Stop Go.Stop Go.Extern
theorem below1 (w : World) (o : Obj) : Below w.heap.size w (w.alloc o) := (Below.refl _ _).alloc (Nat.le_refl _) o
/-- Tell's three answers. -/
theorem tell_nil (w : World) : Calls Tryz.prog 61 #[.nilIface] w fun e w' => e = .returned (.int .i64 0) ∧ w = w' := by
 go_enter Tryz.func61, Tryz.ntmps61
 go_wp2
 go_ret
 exact ⟨rfl, rfl⟩
theorem tell_errno (e : Int) (w : World) (hg : Handle w) : Calls Tryz.prog 61 #[.iface 27 (.int .i64 e)] w fun r w' => r = .returned (.int .i64 e) ∧ Below w.heap.size w w' := by
 go_enter Tryz.func61, Tryz.ntmps61
 go_wp2_with fail
 refine (as_errno e _ _ _ (hg.below ((Below.refl _ _).alloc (Nat.le_refl _) _)) (World.cell?_alloc_at _ _ _ _ rfl) (by simp)).mono ?_
 rintro r w' ⟨rfl, w1, rfl, hb⟩
 have hz := hb.size
 have hc : w1.cell? ⟨w.heap.size, 0, none⟩ = some (.int .i64 0) := (hb.cell (p := ⟨w.heap.size, 0, none⟩) (by simp)).trans (by rw [World.cell?_alloc_at _ _ _ _ rfl]; rfl)
 have hc2 : (w1.setCell ⟨w.heap.size, 0, none⟩ (.int .i64 e)).cell? ⟨w.heap.size, 0, none⟩ = some (.int .i64 e) := World.cell?_setCell_same _ _ _ hc
 simp at hz
 go_wp2_with fail
 go_ret
 exact ⟨rfl, ((below1 _ _).trans (hb.mono (by simp))).setCell (by simp) _⟩
theorem tell_at (e : Int) (a : Addr) (w : World) (hg : Handle w) (ha : w.cell? a = some (.int .i64 e)) : Calls Tryz.prog 61 #[.iface 112 (.pointer (some a))] w fun r w' => r = .returned (.int .i64 e) ∧ Below w.heap.size w w' := by
 go_enter Tryz.func61, Tryz.ntmps61
 go_wp2_with fail
 refine (as_at e a _ _ _ (hg.below ((Below.refl _ _).alloc (Nat.le_refl _) _)) (by rw [World.cell?_alloc_lt _ _ a (cell_lt ha)]; exact ha) (World.cell?_alloc_at _ _ _ _ rfl) (by simp)).mono ?_
 rintro r w' ⟨rfl, w1, rfl, hb⟩
 have hz := hb.size
 have hc : w1.cell? ⟨w.heap.size, 0, none⟩ = some (.int .i64 0) := (hb.cell (p := ⟨w.heap.size, 0, none⟩) (by simp)).trans (by rw [World.cell?_alloc_at _ _ _ _ rfl]; rfl)
 have hc2 : (w1.setCell ⟨w.heap.size, 0, none⟩ (.int .i64 e)).cell? ⟨w.heap.size, 0, none⟩ = some (.int .i64 e) := World.cell?_setCell_same _ _ _ hc
 simp at hz
 go_wp2_with fail
 go_ret
 exact ⟨rfl, ((below1 _ _).trans (hb.mono (by simp))).setCell (by simp) _⟩
end Go.Proofs.YtkejlnjnoiidnaaGreatDoor.As
end

section
namespace Go.Proofs.YtkejlnjnoiidnaaGreatDoor
open Go.RowKit Go.Extern.Stop Go.Stop Go.Extern As
/-- v is the error e with the place p: 0, -1: none. -/
inductive ErrIs (w : World) : Value → Int → Int → Prop
 | none : ErrIs w .nilIface 0 (-1)
 | bare (e : Int) (he : e ≠ 0) : ErrIs w (.iface 27 (.int .i64 e)) e (-1)
 | at_ (b o : Nat) (e p : Int) (he : e ≠ 0) (h0 : w.cell? ⟨b, o, none⟩ = some (.int .i64 e)) (h1 : w.cell? ⟨b, o + 1, none⟩ = some (.int .i64 p)) : ErrIs w (.iface 112 (.pointer (some ⟨b, o, none⟩))) e p
theorem ErrIs.below {w w' : World} {v : Value} {e p : Int} (h : ErrIs w v e p) (hb : Below w.heap.size w w') : ErrIs w' v e p := by
 cases h with
 | none => exact .none
 | bare _ he => exact .bare _ he
 | at_ b o _ _ he h0 h1 => exact .at_ b o _ _ he ((hb.cell (cell_lt h0)).trans h0) ((hb.cell (cell_lt h1)).trans h1)
theorem ErrIs.drewN {w : World} {v : Value} {e p : Int} (h : ErrIs w v e p) (n : Nat) : ErrIs (w.drewN n) v e p := h.below (below_drewN (Below.refl _ _) n)
theorem ErrIs.zero {w : World} {v : Value} {p : Int} (h : ErrIs w v 0 p) : v = .nilIface ∧ p = -1 := by
 generalize he : (0 : Int) = e at h
 cases h with
 | none => exact ⟨rfl, rfl⟩
 | bare _ h => exact absurd he.symm h
 | at_ _ _ _ _ h => exact absurd he.symm h
/-- An error without a place, as a value. -/
def errV (e : Int) : Value := if e = 0 then .nilIface else .iface 27 (.int .i64 e)
theorem errV_zero : errV 0 = .nilIface := rfl
theorem errV_of {e : Int} (h : e ≠ 0) : errV e = .iface 27 (.int .i64 e) := by unfold errV; rw [if_neg h]
theorem errV_is (w : World) (e : Int) : ErrIs w (errV e) e (-1) := by
 by_cases h : e = 0
 ·subst h; exact .none
 ·rw [errV_of h]; exact .bare e h
theorem tell_any {v : Value} {e p : Int} {w : World} (h : ErrIs w v e p) (hg : Handle w) : Calls Tryz.prog 61 #[v] w fun r w' => r = .returned (.int .i64 e) ∧ Below w.heap.size w w' := by
 cases h with
 | none => exact (tell_nil w).mono fun _ _ ⟨a, b⟩ => ⟨a, b ▸ Below.refl _ _⟩
 | bare _ he => exact tell_errno _ w hg
 | at_ b o _ _ he h0 h1 => exact tell_at _ _ w hg h0
theorem isAtE (v : Value) (w : World) : (Instr.typeAssert (.iface 27 v) 33 112 true).run Tryz.prog w = .ok (.tuple #[.pointer none, .bool false]) w := by kernel_rfl
theorem isAtA (v : Value) (w : World) : (Instr.typeAssert (.iface 112 v) 33 112 true).run Tryz.prog w = .ok (.tuple #[v, .bool true]) w := by kernel_rfl
set_option maxHeartbeats 1000000 in
theorem place_any {v : Value} {e p : Int} {w : World} (h : ErrIs w v e p) (hg : Handle w) : Calls Tryz.prog 44 #[v] w fun r w' => r = .returned (.tuple #[.int .i64 e, .int .i64 p]) ∧ Below w.heap.size w w' := by
 cases h with
 | none =>
  go_enter Tryz.func44, Tryz.ntmps44
  go_wp2_with (go_at_call 61; refine (tell_nil w).mono ?_; rintro e w' ⟨rfl, rfl⟩)
  refine wp_loop_rounds 1 ?_
  rw [rounds_succ]
  go_wp2
  go_ret2
  exact ⟨rfl, Below.refl _ _⟩
 | bare _ he =>
  have n1 := noUnwrapE
  have n2 := isAtE
  go_enter Tryz.func44, Tryz.ntmps44
  go_wp2_with (go_at_call 61; refine (tell_errno e w hg).mono ?_; rintro e w' ⟨rfl, hb⟩)
  refine wp_loop_rounds 1 ?_
  rw [rounds_succ]
  go_wp2
  go_ret2
  exact ⟨rfl, hb⟩
 | at_ b o _ _ he h0 h1 =>
  have n2 := isAtA
  go_enter Tryz.func44, Tryz.ntmps44
  go_wp2_with (go_at_call 61; refine (tell_at e _ w hg h0).mono ?_; rintro e w' ⟨rfl, hb⟩)
  have h1' := (hb.cell (cell_lt h1)).trans h1
  refine wp_loop_rounds 1 ?_
  rw [rounds_succ]
  go_wp2
  go_quiet (fail)
  go_wp2
  go_ret2
  exact ⟨rfl, below_drewN hb _⟩
theorem placed_any {v : Value} {e p : Int} {w : World} (h : ErrIs w v e p) (hg : Handle w) (x y : Int) : Calls Tryz.prog 13 #[v, .agg #[.int .i64 x, .int .i64 y]] w fun r w' => r = .returned (.bool (decide (e = x ∧ p = y))) ∧ Below w.heap.size w w' := by
 have hb1 := below1 w (.cells #[.int .i64 x, .int .i64 y] 29)
 have hh := h.below hb1
 have hgh := hg.below hb1
 go_enter Tryz.func13, Tryz.ntmps13
 go_wp2_with fail
 refine (place_any hh hgh).mono ?_
 rintro r w' ⟨rfl, hb⟩
 have c0 : w'.cell? ⟨w.heap.size, 0, none⟩ = some (.int .i64 x) := (hb.cell (p := ⟨w.heap.size, 0, none⟩) (by simp)).trans (by rw [World.cell?_alloc_at _ _ _ _ rfl]; rfl)
 have c1 : w'.cell? ⟨w.heap.size, 1, none⟩ = some (.int .i64 y) := (hb.cell (p := ⟨w.heap.size, 1, none⟩) (by simp)).trans (by rw [World.cell?_alloc_at _ _ _ _ rfl]; rfl)
 by_cases h1 : e = x
 ·subst h1
  by_cases h2 : p = y
  ·subst h2
   go_wp2_with fail
   go_ret
   exact ⟨by first | rfl | simp [*], hb1.trans (hb.mono (by simp))⟩
  ·have h2' : (p == y) = false := by simp [h2]
   go_wp2_with fail
   go_ret
   exact ⟨by first | rfl | simp [*], hb1.trans (hb.mono (by simp))⟩
 ·have h1' : (e == x) = false := by simp [h1]
  go_wp2_with fail
  go_ret
  exact ⟨by first | rfl | simp [*], hb1.trans (hb.mono (by simp))⟩
end Go.Proofs.YtkejlnjnoiidnaaGreatDoor
end

section
namespace Go.Proofs.YtkejlnjnoiidnaaGreatDoor
open Go.RowKit As
/-- An error that is what a pair says. -/
abbrev ErrOf (w : World) (v : Value) (f : Int × Int) : Prop := ErrIs w v f.1 f.2
theorem ErrOf.of {w : World} {v : Value} {e p : Int} {f : Int × Int} (h : ErrIs w v e p) (hf : f = (e, p)) : ErrOf w v f := by subst hf; exact h
theorem err_new (w : World) (e p : Int) (he : e ≠ 0) : ErrIs (w.alloc (.cells #[.int .i64 e, .int .i64 p] 114)) (.iface 112 (.pointer (some ⟨w.heap.size, 0, none⟩))) e p :=
 .at_ _ _ _ _ he (by rw [World.cell?_alloc_at _ _ _ _ rfl]; rfl) (by rw [World.cell?_alloc_at _ _ _ _ rfl]; rfl)
theorem err_at (w : World) (n : Nat) (e p : Int) (he : e ≠ 0) (hn : n = w.heap.size) : ErrIs (w.alloc (.cells #[.int .i64 e, .int .i64 p] 114)) (.iface 112 (.pointer (some ⟨n, 0, none⟩))) e p := by
 subst hn; exact err_new w e p he
theorem bad_parts {r t : Int} (h : entBad (r, t)) : (decide (r < 0) = true) ∨ (decide (r < 0) = false ∧ decide (200 < r) = true) ∨ (decide (r < 0) = false ∧ decide (200 < r) = false ∧ decide (t < 1) = true) ∨ (decide (r < 0) = false ∧ decide (200 < r) = false ∧ decide (t < 1) = false ∧ decide (1099511627776 < t) = true) := by
 unfold entBad at h
 simp only at h
 simp only [decide_eq_true_eq, decide_eq_false_iff_not]
 omega
set_option maxHeartbeats 1000000 in
theorem vright_any (w : World) (n c : Nat) (A : Option Addr) (l : List Ent) (hl : Ents w w.heap.size A n l) (hn : n ≤ maxLen) :
  Calls Tryz.prog 79 #[.slice A n c] w fun e w' => ∃ v, e = .returned v ∧ ErrOf w' v (vright l) ∧ Below w.heap.size w w' := by
 unfold maxLen at hn
 have hlen := hl.len
 by_cases hbig : 16 < n
 ·have hv := Lib.hid (vright_big (l := l) (by omega))
  have hd : decide (16 < n) = true := by simpa using hbig
  have hlen := Lib.hid hlen
  clear hl
  go_enter Tryz.func79, Tryz.ntmps79
  go_wp2
  go_ret
  exact ⟨_, rfl, ErrOf.of (.bare 4 (by omega)) hv.out, Below.refl _ _⟩
 ·have hv := Lib.hid (vright_small (l := l) (by omega))
  have hd : decide (16 < n) = false := by simpa using hbig
  have hlen := Lib.hid hlen
  go_enter Tryz.func79, Tryz.ntmps79
  go_wp2
  go_loopw [3, 4, 5, 12] (fun _ _ _ i wr => ∃ k : Nat, k ≤ n ∧ i = .int .i64 k ∧ VAt l k ∧ Below w.heap.size w wr) (fun _ _ _ i _ => n - (intOf i).toNat)
  case atStart => exact ⟨0, by omega, rfl, VAt.zero l, Below.refl _ _⟩
  case round =>
   obtain ⟨k, hk, rfl, hat, hbel⟩ := hrel
   have Hat := Lib.hid hat
   clear hat
   have hsz := hbel.size
   by_cases hlt : k < n
   ·obtain ⟨b, o, r, t, rfl, hb, hx, hf, hc0, hc1⟩ := hl.at_ hlt
    have c0 := (hbel.cell (p := ⟨b, o + k * 2, none⟩) (by simp; omega)).trans hc0
    have c1 := (hbel.cell (p := ⟨b, o + k * 2 + 1, none⟩) (by simp; omega)).trans hc1
    clear hc0 hc1
    have hX := Lib.hid hx
    clear hx
    have hrt := Lib.hid hf
    clear hf
    by_cases hbad : entBad (r, t)
    ·have hres := Lib.hid (Hat.out.bad hX.out hbad)
     have hparts := bad_parts hbad
     clear hbad
     rcases hparts with d0 | ⟨d0, d1⟩ | ⟨d0, d1, d2⟩ | ⟨d0, d1, d2, d3⟩
     all_goals
      go_wp2
      go_ret
      exact ⟨_, rfl, ErrOf.of (err_at _ _ 2 k (by omega) (by simp)) (hv.out.trans hres.out), (hbel.alloc hsz _).alloc (by simp; omega) _⟩
    ·have hok : 0 ≤ r ∧ r ≤ 200 ∧ 1 ≤ t ∧ t ≤ 1099511627776 := by unfold entBad at hbad; simp only at hbad; omega
     obtain ⟨g0, g1, g2, g3⟩ := hok
     have d0 : decide (r < 0) = false := by simpa using g0
     have d1 : decide (200 < r) = false := by simpa using g1
     have d2 : decide (t < 1) = false := by simpa using g2
     have d3 : decide (1099511627776 < t) = false := by simpa using g3
     have Hbad := Lib.hid hbad
     clear hbad
     by_cases hk0 : k = 0
     ·have hz : decide (0 < k) = false := by simp [hk0]
      have hl0 := Lib.hid hk0
      clear hk0
      have hnext := Lib.hid (Hat.out.succ hX.out Hbad.out (by rw [hl0.out, lastAt_zero]; omega))
      go_wp2
      go_quiet (fail)
      go_wp2
      go_roundw
      case rel => exact ⟨k + 1, by omega, by go_num, hnext.out, below_drewN (hbel.alloc hsz _) _⟩
      case measure => simp [intOf]; omega
     ·have hz : decide (0 < k) = true := by simp; omega
      obtain ⟨b', o', r', t', e', hb', hx', hf', hc0', hc1'⟩ := hl.at_ (k := k - 1) (by omega)
      injection e' with e'
      injection e' with e1 e2
      subst e1 e2
      have c2 := (hbel.cell (p := ⟨b, o + (k - 1) * 2, none⟩) (by simp; omega)).trans hc0'
      have hlast := Lib.hid (lastAt_succ l (k - 1) r' t' hx')
      clear hc0' hc1' hx' hf'
      have ek : k - 1 + 1 = k := by omega
      have hk1 : k - 1 < n := by omega
      have hlast2 := Lib.hid ((congrArg (lastAt l) ek).symm.trans hlast.out)
      clear ek hlast
      by_cases ho : r ≤ r'
      ·have hres := Lib.hid (Hat.out.order hX.out Hbad.out (by rw [hlast2.out]; exact ho))
       have d4 : decide (r ≤ r') = true := by simpa using ho
       go_wp2
       have hwr : IntKind.i64.wrap ((k : Int) - 1) = ((k - 1 : Nat) : Int) := by rw [IntWalk.i64_in _ (by omega)]; omega
       have c3 : (wr.alloc (.cells #[.int .i64 r, .int .i64 t] 79)).cell? ⟨b, o + (k - 1) * 2, none⟩ = some (.int .i64 r') := (World.cell?_alloc_lt _ _ ⟨b, o + (k - 1) * 2, none⟩ (by simp; omega)).trans c2
       go_quiet (fail)
       go_wp2
       go_ret
       exact ⟨_, rfl, ErrOf.of (err_at _ _ 10 k (by omega) (by simp)) (hv.out.trans hres.out), (below_drewN (hbel.alloc hsz _) _).alloc (by simp; omega) _⟩
      ·have hnext := Lib.hid (Hat.out.succ hX.out Hbad.out (by rw [hlast2.out]; exact ho))
       have d4 : decide (r ≤ r') = false := by simpa using ho
       go_wp2
       have hwr : IntKind.i64.wrap ((k : Int) - 1) = ((k - 1 : Nat) : Int) := by rw [IntWalk.i64_in _ (by omega)]; omega
       have c3 : (wr.alloc (.cells #[.int .i64 r, .int .i64 t] 79)).cell? ⟨b, o + (k - 1) * 2, none⟩ = some (.int .i64 r') := (World.cell?_alloc_lt _ _ ⟨b, o + (k - 1) * 2, none⟩ (by simp; omega)).trans c2
       go_quiet (fail)
       clear hwr
       go_wp2
       go_roundw
       case rel => exact ⟨k + 1, by omega, by go_num, hnext.out, below_drewN (hbel.alloc hsz _) _⟩
       case measure => simp [intOf]; omega
   ·obtain rfl : k = n := by omega
    have hend := Lib.hid (Hat.out.all (by rw [hlen.out]; exact Nat.le_refl _))
    clear hlt
    go_wp2
    go_ret
    exact ⟨_, rfl, ErrOf.of .none (hv.out.trans hend.out), hbel⟩
/-- within. -/
def inB (n lo hi : Int) : Bool := decide (lo ≤ n ∧ n ≤ hi)
theorem within_any (n lo hi : Int) (w : World) : Calls Tryz.prog 54 #[.int .i64 n, .int .i64 lo, .int .i64 hi] w fun e w' => e = .returned (.bool (inB n lo hi)) ∧ w = w' := by
 by_cases h1 : lo ≤ n
 ·by_cases h2 : n ≤ hi
  ·have hb : inB n lo hi = true := by unfold inB; simp [h1, h2]
   have Hb := Lib.hid hb
   clear hb
   go_enter Tryz.func54, Tryz.ntmps54
   go_wp2
   go_ret
   exact ⟨retB Hb.out.symm, rfl⟩
  ·have hb : inB n lo hi = false := by unfold inB; simp [h1, h2]
   have Hb := Lib.hid hb
   clear hb
   go_enter Tryz.func54, Tryz.ntmps54
   go_wp2
   go_ret
   exact ⟨retB Hb.out.symm, rfl⟩
 ·have hb : inB n lo hi = false := by unfold inB; simp [h1]
  have Hb := Lib.hid hb
  clear hb
  go_enter Tryz.func54, Tryz.ntmps54
  go_wp2
  go_ret
  exact ⟨retB Hb.out.symm, rfl⟩
theorem within_is {n lo hi : Int} {b : Bool} (h : Hid (inB n lo hi = b)) (w : World) : Calls Tryz.prog 54 #[.int .i64 n, .int .i64 lo, .int .i64 hi] w fun e w' => e = .returned (.bool b) ∧ w = w' :=
 (within_any n lo hi w).mono fun _ _ ⟨a, b⟩ => ⟨by rw [a]; exact retB h, b⟩
/-- A fault of the reference. -/
def faultV (f : Int × Int) : Value := .agg #[.int .i64 f.1, .int .i64 f.2]
theorem bareF_any (e : Int) (w : World) : Calls Tryz.prog 47 #[.int .i64 e] w fun r w' => r = .returned (.agg #[.int .i64 e, .int .i64 (-1)]) ∧ Below w.heap.size w w' := by
 go_enter Tryz.func47, Tryz.ntmps47
 go_wp2
 exact bodyPost_ret (v := .agg #[.int .i64 e, .int .i64 (-1)]) (by simp [results, Tryz.results47, go_sem]) rfl ⟨rfl, below1 _ _⟩
theorem good_any (w : World) : Calls Tryz.prog 35 #[] w fun r w' => r = .returned (.agg #[.int .i64 0, .int .i64 (-1)]) ∧ Below w.heap.size w w' := by
 go_enter Tryz.func35, Tryz.ntmps35
 go_wp2
 exact bodyPost_ret (v := .agg #[.int .i64 0, .int .i64 (-1)]) (by simp [results, Tryz.results35, go_sem]) rfl ⟨rfl, below1 _ _⟩
theorem set2 {w : World} {s : Nat} {old0 old1 : Value} (a b : Value) (h0 : w.cell? ⟨s, 0, none⟩ = some old0) (h1 : w.cell? ⟨s, 1, none⟩ = some old1) :
  ((w.setCell ⟨s, 0, none⟩ a).setCell ⟨s, 1, none⟩ b).cell? ⟨s, 0, none⟩ = some a ∧ ((w.setCell ⟨s, 0, none⟩ a).setCell ⟨s, 1, none⟩ b).cell? ⟨s, 1, none⟩ = some b := by
 have h1' : (w.setCell ⟨s, 0, none⟩ a).cell? ⟨s, 1, none⟩ = some old1 := by rw [World.cell?_setCell_other _ _ _ _ (by intro h; injection h with _ h2; cases h2)]; exact h1
 refine ⟨?_, World.cell?_setCell_same _ _ _ h1'⟩
 rw [World.cell?_setCell_other _ _ _ _ (by intro h; injection h with _ h2; cases h2)]
 exact World.cell?_setCell_same _ _ _ h0
theorem set2_alloc {w : World} {s : Nat} {old0 old1 : Value} (a b : Value) (o : Obj) (hs : s < w.heap.size) (h0 : w.cell? ⟨s, 0, none⟩ = some old0) (h1 : w.cell? ⟨s, 1, none⟩ = some old1) :
  (((w.setCell ⟨s, 0, none⟩ a).setCell ⟨s, 1, none⟩ b).alloc o).cell? ⟨s, 0, none⟩ = some a ∧ (((w.setCell ⟨s, 0, none⟩ a).setCell ⟨s, 1, none⟩ b).alloc o).cell? ⟨s, 1, none⟩ = some b :=
 ⟨(World.cell?_alloc_lt _ _ ⟨s, 0, none⟩ (by simpa using hs)).trans (set2 a b h0 h1).1, (World.cell?_alloc_lt _ _ ⟨s, 1, none⟩ (by simpa using hs)).trans (set2 a b h0 h1).2⟩
theorem below_set2 {B : Nat} {a w : World} {s : Nat} (x y : Value) (h : Below B a w) (hs : B ≤ s) : Below B a ((w.setCell ⟨s, 0, none⟩ x).setCell ⟨s, 1, none⟩ y) := (h.setCell hs _).setCell hs _
/-- A new block of two numbers, later on. -/
structure Two (w : World) (s : Nat) (a b : Int) : Prop where
 c0 : w.cell? ⟨s, 0, none⟩ = some (.int .i64 a)
 c1 : w.cell? ⟨s, 1, none⟩ = some (.int .i64 b)
 f0 : w.frozen? ⟨s, 0, none⟩ = false
 f1 : w.frozen? ⟨s, 1, none⟩ = false
theorem Two.new (w : World) (a b : Int) (t : TypeId) : Two (w.alloc (.cells #[.int .i64 a, .int .i64 b] t)) w.heap.size a b :=
 ⟨by rw [World.cell?_alloc_at _ _ _ _ rfl]; rfl, by rw [World.cell?_alloc_at _ _ _ _ rfl]; rfl, by simp, by simp⟩
theorem Two.lt {w : World} {s : Nat} {a b : Int} (h : Two w s a b) : s < w.heap.size := cell_lt h.c0
theorem Two.keep {w w' : World} {s B : Nat} {a b : Int} (h : Two w s a b) (hb : Below B w w') (hs : s < B) : Two w' s a b :=
 ⟨(hb.cell (p := ⟨s, 0, none⟩) hs).trans h.c0, (hb.cell (p := ⟨s, 1, none⟩) hs).trans h.c1, (hb.frozen (p := ⟨s, 0, none⟩) hs).trans h.f0, (hb.frozen (p := ⟨s, 1, none⟩) hs).trans h.f1⟩
theorem Two.below {w w' : World} {s : Nat} {a b : Int} (h : Two w s a b) (hb : Below w.heap.size w w') : Two w' s a b := h.keep hb h.lt
theorem bad_inB {r t : Int} (h : entBad (r, t)) : inB r 0 200 = false ∨ (inB r 0 200 = true ∧ inB t 1 1099511627776 = false) := by
 unfold entBad at h
 unfold inB
 simp only at h
 simp only [decide_eq_true_eq, decide_eq_false_iff_not]
 omega
end Go.Proofs.YtkejlnjnoiidnaaGreatDoor
end

section
namespace Go.Proofs.YtkejlnjnoiidnaaGreatDoor
open Go.RowKit
/-- Fits its kind. -/
def tokFits (x : Tok) : Prop := x.1.size ≤ 140737488351232 ∧ (-9223372036854775808 ≤ x.2.1 ∧ x.2.1 ≤ 9223372036854775807) ∧ (-9223372036854775808 ≤ x.2.2 ∧ x.2.2 ≤ 9223372036854775807)
def Toks (w : World) (B : Nat) (A : Option Addr) (n : Nat) (l : List Tok) : Prop := Sl w B 3 A n (l.flatMap tokCells) ∧ ∀ x ∈ l, tokFits x
section
variable {w w' : World} {B n : Nat} {A : Option Addr} {l : List Tok}
theorem Toks.len (h : Toks w B A n l) : l.length = n := slk_len tokCells 3 (by omega) (fun _ => rfl) h.1
theorem Toks.at_ (h : Toks w B A n l) {k : Nat} (hk : k < n) :
  ∃ b o s r t, A = some ⟨b, o, none⟩ ∧ b < B ∧ l[k]? = some (s, r, t) ∧ tokFits (s, r, t) ∧ w.cell? ⟨b, o + k * 3, none⟩ = some (.string s) ∧ w.cell? ⟨b, o + k * 3 + 1, none⟩ = some (.int .i64 r) ∧ w.cell? ⟨b, o + k * 3 + 2, none⟩ = some (.int .i64 t) := by
 obtain ⟨b, o, x, e, hb, hx, hc⟩ := slk_at tokCells 3 (fun _ => rfl) h.1 h.len hk
 obtain ⟨s, r, t⟩ := x
 exact ⟨b, o, s, r, t, e, hb, hx, h.2 _ (List.mem_of_getElem? hx), hc 0 _ rfl, hc 1 _ rfl, hc 2 _ rfl⟩
theorem Toks.below (h : Toks w B A n l) (hb : Below B w w') : Toks w' B A n l := ⟨h.1.below hb, h.2⟩
theorem Toks.grow (h : Toks w w.heap.size A n l) (hb : Below w.heap.size w w') : Toks w' w'.heap.size A n l := ⟨h.1.grow hb, h.2⟩
end
end Go.Proofs.YtkejlnjnoiidnaaGreatDoor
end

section
namespace Go.Proofs.YtkejlnjnoiidnaaGreatDoor
open Go.RowKit As
/-- A call that returns yes or no. -/
def IsBool (e : Ending) : Prop := ∃ b, e = .returned (.bool b)
theorem IsBool.of {e : Ending} {b : Bool} (h : e = .returned (.bool b)) : IsBool e := ⟨b, h⟩
end Go.Proofs.YtkejlnjnoiidnaaGreatDoor
end

section
namespace Go.Proofs.YtkejlnjnoiidnaaGreatDoor
open Go.RowKit
/-- Block g begins with the bytes l, none of them frozen. -/
def BytesAt (w : World) (g : Nat) (l : List UInt8) : Prop := ∀ i, i < l.length → w.cell? ⟨g, i, none⟩ = some (.int .u8 (l.getD i 0).toNat) ∧ w.frozen? ⟨g, i, none⟩ = false
theorem getD_at {α : Type} (l : List α) (d : α) (i : Nat) (h : i < l.length) : l.getD i d = l[i] := by simp [List.getD, List.getElem?_eq_getElem h]
theorem BytesAt.set {w : World} {g : Nat} {l : List UInt8} (h : BytesAt w g l) (k : Nat) (b : UInt8) (hk : k < l.length) : BytesAt (w.setCell ⟨g, k, none⟩ (.int .u8 b.toNat)) g (l.set k b) := by
 intro i hi
 rw [List.length_set] at hi
 refine ⟨?_, by rw [World.frozen?_setCell]; exact (h i hi).2⟩
 by_cases e : i = k
 ·subst e
  rw [World.cell?_setCell_same _ _ _ (h i hi).1]
  rw [getD_at _ _ _ (by simpa using hi)]
  simp
 ·rw [World.cell?_setCell_other _ _ _ _ (by intro h'; injection h' with _ h''; exact e h''.symm)]
  rw [(h i hi).1, getD_at l _ _ hi, getD_at (l.set k b) _ _ (by simpa using hi), List.getElem_set_ne (Ne.symm e)]
theorem BytesAt.keep {w w' : World} {g B : Nat} {l : List UInt8} (h : BytesAt w g l) (hb : Below B w w') (hg : g < B) : BytesAt w' g l :=
 fun i hi => ⟨(hb.cell (p := ⟨g, i, none⟩) hg).trans (h i hi).1, (hb.frozen (p := ⟨g, i, none⟩) hg).trans (h i hi).2⟩
theorem BytesAt.drew {w : World} {g : Nat} {l : List UInt8} (h : BytesAt w g l) : BytesAt w.drew g l := h
theorem BytesAt.lt {w : World} {g : Nat} {l : List UInt8} (h : BytesAt w g l) (hl : 0 < l.length) : g < w.heap.size := cell_lt (h 0 hl).1
theorem string_of {P : Program} (w : World) (src e dst : TypeId) (g c : Nat) (l : List UInt8) (hs : P.underlying src = some (.slice e)) (he : P.underlying e = some (.int .u8)) (hd : P.underlying dst = some .string) (h : BytesAt w g l) :
  (convert src dst (.slice (some ⟨g, 0, none⟩) l.length c)).run P w = .ok (.string ⟨l.toArray⟩) w := by
 rw [run_convert_bytes_arg w src e hs he g 0 l.length c (l.map fun b => (b.toNat : Int)) (by simp) (fun i hi => by
  rw [Nat.zero_add, (h i hi).1, getD_at _ _ _ hi]
  simp [List.getD, List.getElem?_eq_getElem hi]) dst hd]
 congr 2
 simp only [strOfNums, List.map_map]
 congr 1
 have e : ((fun n : Int => UInt8.ofNat n.toNat) ∘ fun b : UInt8 => (b.toNat : Int)) = id := by
  funext b
  simp
 rw [e, List.map_id]
end Go.Proofs.YtkejlnjnoiidnaaGreatDoor
end

section
namespace Go.Proofs.YtkejlnjnoiidnaaGreatDoor
open Go.RowKit
abbrev byteV (b : UInt8) : Value := .int .u8 (b.toNat : Int)
end Go.Proofs.YtkejlnjnoiidnaaGreatDoor
end

section
namespace Go.Proofs.YtkejlnjnoiidnaaGreatDoor
open Go.RowKit
theorem cells_new1 (w : World) (v : Value) (t : TypeId) : ∀ j u, ([v] : List Value)[j]? = some u → (w.alloc (.cells #[v] t)).cell? ((⟨w.heap.size, 0, none⟩ : Addr).add j) = some u := by
 intro j u hu
 have hadd : (⟨w.heap.size, 0, none⟩ : Addr).add j = ⟨w.heap.size, j, none⟩ := by unfold Addr.add; split <;> simp_all
 rw [hadd, World.cell?_alloc_new]
 simpa using hu
end Go.Proofs.YtkejlnjnoiidnaaGreatDoor
end

section
namespace Go.Proofs.YtkejlnjnoiidnaaGreatDoor
open Go.RowKit As
theorem TOk.le {l : List Tok} {n : Nat} (h : TOk l n) : n ≤ 20000 := by
 cases l with
 | nil => exact h
 | cons t l => rcases h with ⟨_, _, _, a, _⟩ | ⟨_, _, _, _, _, _, a, _⟩ <;> omega
end Go.Proofs.YtkejlnjnoiidnaaGreatDoor
end

section
namespace Go.Proofs.YtkejlnjnoiidnaaGreatDoor.Crc

def poly : Nat := 2197175160
/-- One bit's step. -/
def stp (n : Nat) : Nat := if n % 2 = 1 then (n / 2) ^^^ poly else n / 2
def iter : Nat → Nat → Nat
 | 0, n => n
 | k + 1, n => iter k (stp n)
def one (n : Nat) : Nat := iter 8 n
/-- A byte's step, as the program takes it. -/
def byteStep (n b : Nat) : Nat := one ((n % 256) ^^^ b) ^^^ (n / 256)
/-- All bytes' steps. -/
def run (n : Nat) (l : List UInt8) : Nat := l.foldl (fun n b => byteStep n b.toNat) n
/-- A bit taken in. -/
def bitStep (n bit : Nat) : Nat := stp (n ^^^ bit)
def bits8 : Nat → Nat → Nat → Nat
 | 0, n, _ => n
 | k + 1, n, b => bits8 k (bitStep n (b % 2)) (b / 2)

theorem xor_half (a b : Nat) : (a ^^^ b) / 2 = (a / 2) ^^^ (b / 2) := Nat.xor_div_two
theorem xor_low (a b : Nat) : (a ^^^ b) % 2 = (a % 2 + b % 2) % 2 := by
 have h := Nat.xor_mod_two_pow (a := a) (b := b) (n := 1)
 simp only [Nat.pow_one] at h
 rw [h]
 rcases Nat.mod_two_eq_zero_or_one a with ha | ha <;> rcases Nat.mod_two_eq_zero_or_one b with hb | hb <;> rw [ha, hb] <;> decide
theorem stp_xor (a b : Nat) : stp (a ^^^ b) = stp a ^^^ stp b := by
 unfold stp
 rw [xor_half, xor_low]
 rcases Nat.mod_two_eq_zero_or_one a with ha | ha <;> rcases Nat.mod_two_eq_zero_or_one b with hb | hb <;> simp [ha, hb]
 ·rw [Nat.xor_assoc]
 ·rw [Nat.xor_assoc, Nat.xor_assoc, Nat.xor_comm poly (b / 2)]
 ·rw [Nat.xor_assoc (a / 2) poly, ← Nat.xor_assoc poly, Nat.xor_comm poly (b / 2), Nat.xor_assoc (b / 2), Nat.xor_self, Nat.xor_zero]
theorem stp_double (b : Nat) : stp (2 * b) = b := by unfold stp; rw [if_neg (by omega)]; omega
theorem iter_xor (k a b : Nat) : iter k (a ^^^ b) = iter k a ^^^ iter k b := by
 induction k generalizing a b with
 | zero => rfl
 | succ k ih => show iter k (stp (a ^^^ b)) = iter k (stp a) ^^^ iter k (stp b); rw [stp_xor, ih]
theorem iter_shift (k b : Nat) : iter k (2 ^ k * b) = b := by
 induction k with
 | zero => simp [iter]
 | succ k ih =>
  show iter k (stp (2 ^ (k + 1) * b)) = b
  have e : 2 ^ (k + 1) * b = 2 * (2 ^ k * b) := by rw [Nat.pow_succ, Nat.mul_comm (2 ^ k) 2, Nat.mul_assoc]
  rw [e, stp_double, ih]
theorem xor_split (k n : Nat) : n = (n % 2 ^ k) ^^^ (2 ^ k * (n / 2 ^ k)) := by
 apply Nat.eq_of_testBit_eq
 intro i
 rw [Nat.testBit_xor, Nat.testBit_mod_two_pow, Nat.testBit_two_pow_mul, Nat.testBit_div_two_pow]
 by_cases h : i < k
 ·have h2 : ¬ k ≤ i := by omega
  simp [h, h2]
 ·have h2 : k ≤ i := by omega
  simp [h, h2]
theorem bits8_eq (k n b : Nat) : bits8 k n b = iter k (n ^^^ (b % 2 ^ k)) := by
 induction k generalizing n b with
 | zero => simp [bits8, iter, Nat.mod_one]
 | succ k ih =>
  show bits8 k (bitStep n (b % 2)) (b / 2) = iter k (stp (n ^^^ (b % 2 ^ (k + 1))))
  rw [ih]
  congr 1
  have e : b % 2 ^ (k + 1) = (b % 2) ^^^ (2 * (b / 2 % 2 ^ k)) := by
   have h := xor_split 1 (b % 2 ^ (k + 1))
   simp only [Nat.pow_one] at h
   rw [h]
   have h1 : b % 2 ^ (k + 1) % 2 = b % 2 := by
    rw [Nat.pow_succ, Nat.mod_mul_left_mod]
   have h2 : b % 2 ^ (k + 1) / 2 = b / 2 % 2 ^ k := by
    rw [Nat.pow_succ, Nat.mul_comm, Nat.mod_mul_right_div_self]
   rw [h1, h2]
  rw [e, ← Nat.xor_assoc, stp_xor (n ^^^ (b % 2)), stp_double]
  rfl
theorem byteStep_eq (n b : Nat) (hb : b < 256) : byteStep n b = bits8 8 n b := by
 rw [bits8_eq]
 have hb' : b % 2 ^ 8 = b := Nat.mod_eq_of_lt hb
 rw [hb']
 have h := xor_split 8 n
 have e : n ^^^ b = ((n % 256) ^^^ b) ^^^ (2 ^ 8 * (n / 256)) := by
  rw [Nat.xor_assoc, Nat.xor_comm b, ← Nat.xor_assoc]
  congr 1
 rw [e, iter_xor, iter_shift]
 rfl
theorem poly_lt : poly < 4294967296 := by decide
theorem stp_lt {n : Nat} (h : n < 4294967296) : stp n < 4294967296 := by
 unfold stp
 split
 ·exact Nat.xor_lt_two_pow (n := 32) (by omega) poly_lt
 ·omega
theorem iter_lt (k : Nat) {n : Nat} (h : n < 4294967296) : iter k n < 4294967296 := by
 induction k generalizing n with
 | zero => exact h
 | succ k ih => exact ih (stp_lt h)
theorem iter_succ (k n : Nat) : iter (k + 1) n = stp (iter k n) := by
 induction k generalizing n with
 | zero => rfl
 | succ k ih => show iter (k + 1) (stp n) = stp (iter k (stp n)); exact ih (stp n)
theorem byteStep_lt {n b : Nat} (h : n < 4294967296) (hb : b < 256) : byteStep n b < 4294967296 := by
 unfold byteStep
 refine Nat.xor_lt_two_pow (n := 32) (iter_lt 8 ?_) (by omega)
 have := Nat.xor_lt_two_pow (n := 8) (x := n % 256) (y := b) (by omega) hb
 omega
theorem run_lt {n : Nat} (h : n < 4294967296) (l : List UInt8) : run n l < 4294967296 := by
 induction l generalizing n with
 | nil => exact h
 | cons b l ih => exact ih (byteStep_lt h b.toNat_lt)
theorem run_snoc (n : Nat) (l : List UInt8) (b : UInt8) : run n (l ++ [b]) = byteStep (run n l) b.toNat := by simp [run, List.foldl_append]

/-- After i bits of a text: bit i % 8 of byte i / 8 is taken next. -/
def carried (n : Nat) (l : List UInt8) (i : Nat) : Nat := bits8 (i % 8) (run n (l.take (i / 8))) (l.getD (i / 8) 0).toNat
theorem bits8_snoc (k n b : Nat) : bits8 (k + 1) n b = bitStep (bits8 k n b) (b / 2 ^ k % 2) := by
 induction k generalizing n b with
 | zero => simp [bits8]
 | succ k ih =>
  show bits8 (k + 1) (bitStep n (b % 2)) (b / 2) = _
  rw [ih]
  have e : b / 2 / 2 ^ k = b / 2 ^ (k + 1) := by rw [Nat.div_div_eq_div_mul, Nat.pow_succ, Nat.mul_comm 2]
  rw [e]
  rfl
theorem carried_zero (n : Nat) (l : List UInt8) : carried n l 0 = n := by simp [carried, bits8, run]
theorem carried_succ (n : Nat) (l : List UInt8) (i : Nat) (h : i < 8 * l.length) :
  carried n l (i + 1) = bitStep (carried n l i) ((l.getD (i / 8) 0).toNat / 2 ^ (i % 8) % 2) := by
 unfold carried
 have hi : i / 8 < l.length := by omega
 have hg : l.getD (i / 8) 0 = l[i / 8] := by simp [List.getD, hi]
 rcases Nat.lt_or_ge (i % 8) 7 with h7 | h7
 ·have e1 : (i + 1) % 8 = i % 8 + 1 := by omega
  have e2 : (i + 1) / 8 = i / 8 := by omega
  rw [e1, e2, bits8_snoc]
 ·have e0 : i % 8 = 7 := by omega
  have e1 : (i + 1) % 8 = 0 := by omega
  have e2 : (i + 1) / 8 = i / 8 + 1 := by omega
  rw [e1, e2, e0, ← bits8_snoc]
  rw [List.take_succ_eq_append_getElem hi, run_snoc, byteStep_eq _ _ (UInt8.toNat_lt _), hg]
  rfl
theorem carried_end (n : Nat) (l : List UInt8) : carried n l (8 * l.length) = run n l := by
 unfold carried
 have e1 : 8 * l.length % 8 = 0 := by omega
 have e2 : 8 * l.length / 8 = l.length := by omega
 rw [e1, e2, List.take_length]
 rfl
theorem bitStep_lt {n b : Nat} (h : n < 4294967296) (hb : b < 2) : bitStep n b < 4294967296 :=
 stp_lt (Nat.xor_lt_two_pow (n := 32) h (by omega))
theorem bits8_lt (k : Nat) {n b : Nat} (h : n < 4294967296) : bits8 k n b < 4294967296 := by
 induction k generalizing n b with
 | zero => exact h
 | succ k ih => exact ih (bitStep_lt h (by omega))
theorem carried_lt {n : Nat} (h : n < 4294967296) (l : List UInt8) (i : Nat) : carried n l i < 4294967296 := bits8_lt _ (run_lt h _)
/-- A bit taken in, as the reference does it. -/
theorem bitStep_ref (n b : Nat) (hb : b < 2) : bitStep n b = if ((n % 2) ^^^ b) = 1 then (n / 2) ^^^ poly else n / 2 := by
 unfold bitStep stp
 rw [xor_half, xor_low]
 have h0 : b / 2 = 0 := by omega
 rw [h0, Nat.xor_zero]
 rcases Nat.mod_two_eq_zero_or_one n with ha | ha <;> rcases (by omega : b = 0 ∨ b = 1) with rfl | rfl <;> simp [ha]
end Go.Proofs.YtkejlnjnoiidnaaGreatDoor.Crc
end

section
namespace Go.Proofs.YtkejlnjnoiidnaaGreatDoor
def crcOf (s : ByteArray) : Nat := 4294967295 - Crc.run 4294967295 s.data.toList
theorem crcOf_lt (s : ByteArray) : crcOf s < 4294967296 := by unfold crcOf; omega
/-- k bytes of a number, the lowest first. -/
def lowB : Nat → Nat → List UInt8
 | 0, _ => []
 | k + 1, n => UInt8.ofNat (n % 256) :: lowB k (n / 256)
theorem lowB_len (k n : Nat) : (lowB k n).length = k := by
 induction k generalizing n with
 | zero => rfl
 | succ k ih => simp [lowB, ih]
theorem lowB_snoc (k n : Nat) : lowB (k + 1) n = lowB k n ++ [UInt8.ofNat (n / 256 ^ k % 256)] := by
 induction k generalizing n with
 | zero => simp [lowB]
 | succ k ih =>
  rw [lowB, ih (n / 256), lowB, Nat.div_div_eq_div_mul, Nat.pow_succ, Nat.mul_comm 256]
  rfl
theorem lowB_four (n : Nat) : lowB 4 n = [UInt8.ofNat (n % 256), UInt8.ofNat (n / 256 % 256), UInt8.ofNat (n / 65536 % 256), UInt8.ofNat (n / 16777216 % 256)] := by
 simp [lowB, Nat.div_div_eq_div_mul]
abbrev four (n : Nat) : ByteArray := strOf (lowB 4 n)
theorem strOf_len (l : List UInt8) : (strOf l).size = l.length := by show l.toArray.size = _; simp
theorem strOf_add (a b : List UInt8) : strOf (a ++ b) = strOf a ++ strOf b := by
 apply ByteArray.ext
 show (a ++ b).toArray = (strOf a ++ strOf b).data
 rw [ByteArray.data_append]
 simp
theorem strOf_nil (s : ByteArray) : s ++ strOf [] = s := by
 apply ByteArray.ext
 rw [ByteArray.data_append]
 simp
theorem str_assoc (a b c : ByteArray) : a ++ b ++ c = a ++ (b ++ c) := by
 apply ByteArray.ext
 simp only [ByteArray.data_append, Array.append_assoc]
def sealOf (s : ByteArray) : ByteArray := s ++ four (crcOf s)
theorem four_size (n : Nat) : (four n).size = 4 := by rw [strOf_len, lowB_len]
/-- A text without its sum; what is wrong. -/
def openOf (s : ByteArray) : ByteArray × Int := if s.size < 4 then (strOf [], 7) else if sealOf (s.extract 0 (s.size - 4)) = s then (s.extract 0 (s.size - 4), 0) else (strOf [], 15)
theorem open_short {s : ByteArray} (h : s.size < 4) : openOf s = (strOf [], 7) := by unfold openOf; rw [if_pos h]
theorem open_good {s : ByteArray} (h : ¬ s.size < 4) (h2 : sealOf (s.extract 0 (s.size - 4)) = s) : openOf s = (s.extract 0 (s.size - 4), 0) := by unfold openOf; rw [if_neg h, if_pos h2]
theorem open_bad {s : ByteArray} (h : ¬ s.size < 4) (h2 : ¬ sealOf (s.extract 0 (s.size - 4)) = s) : openOf s = (strOf [], 15) := by unfold openOf; rw [if_neg h, if_neg h2]
end Go.Proofs.YtkejlnjnoiidnaaGreatDoor
end

section
namespace Go.Proofs.YtkejlnjnoiidnaaGreatDoor
open Go.RowKit As
end Go.Proofs.YtkejlnjnoiidnaaGreatDoor
end

section
namespace Go.Proofs.YtkejlnjnoiidnaaGreatDoor
open Go.RowKit As
end Go.Proofs.YtkejlnjnoiidnaaGreatDoor
end

section
namespace Go.Proofs.YtkejlnjnoiidnaaGreatDoor
open Go.RowKit As
theorem is_any (f : Int × Int) (w : World) : Calls Tryz.prog 27 #[.agg #[.int .i64 f.1, .int .i64 f.2]] w fun r w' => r = .returned (.bool (f.1 == 0)) ∧ Below w.heap.size w w' := by
 go_enter Tryz.func27, Tryz.ntmps27
 go_wp2
 go_ret
 exact ⟨rfl, below1 _ _⟩
end Go.Proofs.YtkejlnjnoiidnaaGreatDoor
end

section
namespace Go.Proofs.YtkejlnjnoiidnaaGreatDoor
open Go.RowKit As
end Go.Proofs.YtkejlnjnoiidnaaGreatDoor
end

section
namespace Go.Proofs.YtkejlnjnoiidnaaGreatDoor
end Go.Proofs.YtkejlnjnoiidnaaGreatDoor
end

section
namespace Go.Proofs.YtkejlnjnoiidnaaGreatDoor
open Go.RowKit
end Go.Proofs.YtkejlnjnoiidnaaGreatDoor
end
