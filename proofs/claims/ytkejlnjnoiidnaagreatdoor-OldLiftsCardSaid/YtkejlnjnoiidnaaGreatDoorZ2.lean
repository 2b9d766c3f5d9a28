/- errors.As at the target *api.Errno: an api.Errno, and an *api.At. -/
import Derived.Test.YtkejlnjnoiidnaaGreatDoorZ1
import Derived.RegionTactic
import Derived.Deep.QuietTactic
import Derived.BigQuiet
import Derived.Deep.Cut
import Derived.Deep.DeepCutAuto
import Derived.Deep.CutBlock
import Derived.Laws.IdiomStrings
import Derived.Laws.BytesArg
import Derived.OwnWalk
import Derived.Maps.AppendAt
import Derived.KernelRfl
import Derived.Laws.OwnMore
import Derived.WalkKit
import Derived.WalkLawsBesides
import Derived.WalkSpells
import Derived.Outline
import Derived.Lib.Hide
import Derived.Laws.BitsAllLaws
import Derived.Lib.AppendStr
set_option linter.unusedSimpArgs false
set_option linter.unusedVariables false
section
namespace Go.Proofs.YtkejlnjnoiidnaaGreatDoor.As
open Go.RowKit Go.Extern.Stop Go.Stop Go.Extern
set_option maxHeartbeats 4000000 in
theorem ygx (e : Int) (t : Addr) (old : Value) (w : World) (hg : zbh w) (ht0 : w.cell? t = some old) (hf0 : w.frozen? t = false) :
  Calls Tryz.prog 110 #[.iface 27 (.int .i64 e), .iface 157 (.pointer (some t))] w fun ev w' => ev = .returned (.bool true) ∧ ∃ w1, w' = w1.setCell t (.int .i64 e) ∧ Below w.heap.size w w1 := by
 have x0 := @run_callFunc_extern Tryz.prog 136 _ (fun args => ReflectliteValue.unpack (args.getD 0 (.tuple #[]))) Tryz.func136 (by kernel_rfl) (by kernel_rfl) (by kernel_rfl) (by kernel_rfl);have x1 := @run_callFunc_extern Tryz.prog 137 _ (ReflectliteValue.methodAny (ReflectliteValue.valueError "reflectlite.Value.Type" 0) (fun t _ _ _ => ReflectliteType.toType t)) Tryz.func137 (by kernel_rfl) (by kernel_rfl) (by kernel_rfl) (by kernel_rfl);have x2 := @run_callFunc_extern Tryz.prog 138 _ (ReflectliteValue.method (ReflectliteValue.valueError "reflectlite.Value.IsNil" 0) ReflectliteValue.isNil) Tryz.func138 (by kernel_rfl) (by kernel_rfl) (by kernel_rfl) (by kernel_rfl);have x3 := @run_callFunc_extern Tryz.prog 189 _ (ReflectliteType.abiMethod fun t => do pure (.int .u8 (← Rtype.kind t))) Tryz.func189 (by kernel_rfl) (by kernel_rfl) (by kernel_rfl) (by kernel_rfl);have x4 := @run_callFunc_extern Tryz.prog 202 _ (ReflectliteType.method ReflectliteType.elem) Tryz.func202 (by kernel_rfl) (by kernel_rfl) (by kernel_rfl) (by kernel_rfl);have x5 := @run_callFunc_extern Tryz.prog 203 _ (ReflectliteType.relation "Implements" ReflectliteType.implements_) Tryz.func203 (by kernel_rfl) (by kernel_rfl) (by kernel_rfl) (by kernel_rfl);have x6 := @run_callFunc_extern Tryz.prog 150 _ (ReflectliteType.typeOf) Tryz.func150 (by kernel_rfl) (by kernel_rfl) (by kernel_rfl) (by kernel_rfl);have x7 := @run_callFunc_extern Tryz.prog 200 _ (ReflectliteType.relation "AssignableTo" ReflectliteType.assignableTo) Tryz.func200 (by kernel_rfl) (by kernel_rfl) (by kernel_rfl) (by kernel_rfl);have x8 := @run_callFunc_extern Tryz.prog 151 _ (ReflectliteValue.method (ReflectliteValue.valueError "reflectlite.Value.Elem" 0) ReflectliteValue.elem) Tryz.func151 (by kernel_rfl) (by kernel_rfl) (by kernel_rfl) (by kernel_rfl);have x9 := @run_callFunc_extern Tryz.prog 152 _ (ReflectliteValue.set) Tryz.func152 (by kernel_rfl) (by kernel_rfl) (by kernel_rfl) (by kernel_rfl);have c0 := zwz;have c1 := ynt;have c2 := methodKind;have c3 := ynl;have c4 := yoa;have c5 := methodElem;have c6 := methodImplements;have c7 := methodAssignableTo;have c8 := yns;have c9 := zng;have c10 := yej;have c11 := znn;have c12 := zxg;have hlt := cell_lt hg;have htl := cell_lt ht0;simp only at hlt;have n8 := yja ⟨w.heap.size, 0, none⟩ t ((w.alloc (.cells #[.pointer (some t)] 157)).alloc (.cells #[.pointer (some ⟨5, 157, none⟩), .pointer (some ⟨w.heap.size, 0, none⟩), .int .u64 150] 186)) (by simp);have hg2 : ((w.alloc (.cells #[.pointer (some t)] 157)).alloc (.cells #[.pointer (some ⟨5, 157, none⟩), .pointer (some ⟨w.heap.size, 0, none⟩), .int .u64 150] 186)).cell? ⟨0, 0, none⟩ = some (.iface 206 (.agg #[.pointer (some ⟨5, 33, none⟩)])) := by
  rw [World.cell?_alloc_lt _ _ ⟨0, 0, none⟩ (by simp), World.cell?_alloc_lt _ _ ⟨0, 0, none⟩ hlt]; exact hg
 have el := elemV ⟨w.heap.size, 0, none⟩ t (((w.alloc (.cells #[.pointer (some t)] 157)).alloc (.cells #[.pointer (some ⟨5, 157, none⟩), .pointer (some ⟨w.heap.size, 0, none⟩), .int .u64 150] 186)).alloc (.cells #[.pointer (some ⟨5, 157, none⟩), .pointer (some ⟨w.heap.size, 0, none⟩), .int .u64 150] 186)) (by rw [World.cell?_alloc_lt _ _ ⟨w.heap.size, 0, none⟩ (by simp <;> omega)]; simp);have st := setE t ⟨w.heap.size + 1 + 1 + 1, 0, none⟩ e old ((((w.alloc (.cells #[.pointer (some t)] 157)).alloc (.cells #[.pointer (some ⟨5, 157, none⟩), .pointer (some ⟨w.heap.size, 0, none⟩), .int .u64 150] 186)).alloc (.cells #[.pointer (some ⟨5, 157, none⟩), .pointer (some ⟨w.heap.size, 0, none⟩), .int .u64 150] 186)).alloc (.cells #[.int .i64 e] 27))
  (by rw [World.cell?_alloc_at _ _ _ _ (by simp)]; rfl)
  (by rw [World.cell?_alloc_lt _ _ t (by simp; omega), World.cell?_alloc_lt _ _ t (by simp; omega), World.cell?_alloc_lt _ _ t (by simp; omega), World.cell?_alloc_lt _ _ t htl]; exact ht0)
  (by rw [World.frozen?_alloc_old _ _ t (by simp; omega), World.frozen?_alloc_old _ _ t (by simp; omega), World.frozen?_alloc_old _ _ t (by simp; omega), World.frozen?_alloc_old _ _ t (Nat.ne_of_lt htl)]; exact hf0)
 unfold zbh at hg;go_enter Tryz.func110, Tryz.ntmps110;go_wp2;refine wp_loop_rounds 1 ?_;rw [rounds_succ];go_wp2;go_ret;exact ⟨rfl, _, rfl, ((((Below.refl _ _).alloc (Nat.le_refl _) _).alloc (by simp) _).alloc (by simp; omega) _).alloc (by simp; omega) _⟩
set_option maxHeartbeats 4000000 in
theorem yoj (e : Int) (a : Addr) (t : Addr) (old : Value) (w : World) (hg : zbh w) (ha : w.cell? a = some (.int .i64 e)) (ht0 : w.cell? t = some old) (hf0 : w.frozen? t = false) :
  Calls Tryz.prog 110 #[.iface 112 (.pointer (some a)), .iface 157 (.pointer (some t))] w fun ev w' => ev = .returned (.bool true) ∧ ∃ w1, w' = w1.setCell t (.int .i64 e) ∧ Below w.heap.size w w1 := by
 have x0 := @run_callFunc_extern Tryz.prog 136 _ (fun args => ReflectliteValue.unpack (args.getD 0 (.tuple #[]))) Tryz.func136 (by kernel_rfl) (by kernel_rfl) (by kernel_rfl) (by kernel_rfl);have x1 := @run_callFunc_extern Tryz.prog 137 _ (ReflectliteValue.methodAny (ReflectliteValue.valueError "reflectlite.Value.Type" 0) (fun t _ _ _ => ReflectliteType.toType t)) Tryz.func137 (by kernel_rfl) (by kernel_rfl) (by kernel_rfl) (by kernel_rfl);have x2 := @run_callFunc_extern Tryz.prog 138 _ (ReflectliteValue.method (ReflectliteValue.valueError "reflectlite.Value.IsNil" 0) ReflectliteValue.isNil) Tryz.func138 (by kernel_rfl) (by kernel_rfl) (by kernel_rfl) (by kernel_rfl);have x3 := @run_callFunc_extern Tryz.prog 189 _ (ReflectliteType.abiMethod fun t => do pure (.int .u8 (← Rtype.kind t))) Tryz.func189 (by kernel_rfl) (by kernel_rfl) (by kernel_rfl) (by kernel_rfl);have x4 := @run_callFunc_extern Tryz.prog 202 _ (ReflectliteType.method ReflectliteType.elem) Tryz.func202 (by kernel_rfl) (by kernel_rfl) (by kernel_rfl) (by kernel_rfl);have x5 := @run_callFunc_extern Tryz.prog 203 _ (ReflectliteType.relation "Implements" ReflectliteType.implements_) Tryz.func203 (by kernel_rfl) (by kernel_rfl) (by kernel_rfl) (by kernel_rfl);have x6 := @run_callFunc_extern Tryz.prog 150 _ (ReflectliteType.typeOf) Tryz.func150 (by kernel_rfl) (by kernel_rfl) (by kernel_rfl) (by kernel_rfl);have x7 := @run_callFunc_extern Tryz.prog 200 _ (ReflectliteType.relation "AssignableTo" ReflectliteType.assignableTo) Tryz.func200 (by kernel_rfl) (by kernel_rfl) (by kernel_rfl) (by kernel_rfl);have x8 := @run_callFunc_extern Tryz.prog 151 _ (ReflectliteValue.method (ReflectliteValue.valueError "reflectlite.Value.Elem" 0) ReflectliteValue.elem) Tryz.func151 (by kernel_rfl) (by kernel_rfl) (by kernel_rfl) (by kernel_rfl);have x9 := @run_callFunc_extern Tryz.prog 152 _ (ReflectliteValue.set) Tryz.func152 (by kernel_rfl) (by kernel_rfl) (by kernel_rfl) (by kernel_rfl);have c0 := zwz;have c1 := ynt;have c2 := methodKind;have c3 := ynl;have c4 := yoa;have c5 := methodElem;have c6 := methodImplements;have c7 := methodAssignableTo;have c8 := yns;have c9 := zng;have c10 := yej;have c11 := znn;have c12 := zxg;have c13 := yll;have c14 := zvq;have c15 := noAs;have c16 := yau;have c17 := methodUnwrap;have hlt := cell_lt hg;have htl := cell_lt ht0;simp only at hlt;have n8 := yja ⟨w.heap.size, 0, none⟩ t ((w.alloc (.cells #[.pointer (some t)] 157)).alloc (.cells #[.pointer (some ⟨5, 157, none⟩), .pointer (some ⟨w.heap.size, 0, none⟩), .int .u64 150] 186)) (by simp);have hg2 : ((w.alloc (.cells #[.pointer (some t)] 157)).alloc (.cells #[.pointer (some ⟨5, 157, none⟩), .pointer (some ⟨w.heap.size, 0, none⟩), .int .u64 150] 186)).cell? ⟨0, 0, none⟩ = some (.iface 206 (.agg #[.pointer (some ⟨5, 33, none⟩)])) := by
  rw [World.cell?_alloc_lt _ _ ⟨0, 0, none⟩ (by simp), World.cell?_alloc_lt _ _ ⟨0, 0, none⟩ hlt]; exact hg
 have el := elemV ⟨w.heap.size, 0, none⟩ t (((w.alloc (.cells #[.pointer (some t)] 157)).alloc (.cells #[.pointer (some ⟨5, 157, none⟩), .pointer (some ⟨w.heap.size, 0, none⟩), .int .u64 150] 186)).alloc (.cells #[.pointer (some ⟨5, 157, none⟩), .pointer (some ⟨w.heap.size, 0, none⟩), .int .u64 150] 186)) (by rw [World.cell?_alloc_lt _ _ ⟨w.heap.size, 0, none⟩ (by simp <;> omega)]; simp);have st := setE t ⟨w.heap.size + 1 + 1 + 1, 0, none⟩ e old ((((w.alloc (.cells #[.pointer (some t)] 157)).alloc (.cells #[.pointer (some ⟨5, 157, none⟩), .pointer (some ⟨w.heap.size, 0, none⟩), .int .u64 150] 186)).alloc (.cells #[.pointer (some ⟨5, 157, none⟩), .pointer (some ⟨w.heap.size, 0, none⟩), .int .u64 150] 186)).alloc (.cells #[.int .i64 e] 27))
  (by rw [World.cell?_alloc_at _ _ _ _ (by simp)]; rfl)
  (by rw [World.cell?_alloc_lt _ _ t (by simp; omega), World.cell?_alloc_lt _ _ t (by simp; omega), World.cell?_alloc_lt _ _ t (by simp; omega), World.cell?_alloc_lt _ _ t htl]; exact ht0)
  (by rw [World.frozen?_alloc_old _ _ t (by simp; omega), World.frozen?_alloc_old _ _ t (by simp; omega), World.frozen?_alloc_old _ _ t (by simp; omega), World.frozen?_alloc_old _ _ t (Nat.ne_of_lt htl)]; exact hf0)
 unfold zbh at hg;have hal := cell_lt ha;have ha2 : (((w.alloc (.cells #[.pointer (some t)] 157)).alloc (.cells #[.pointer (some ⟨5, 157, none⟩), .pointer (some ⟨w.heap.size, 0, none⟩), .int .u64 150] 186)).alloc (.cells #[.pointer (some ⟨5, 157, none⟩), .pointer (some ⟨w.heap.size, 0, none⟩), .int .u64 150] 186)).cell? a = some (.int .i64 e) := by rw [World.cell?_alloc_lt _ _ a (by simp; omega), World.cell?_alloc_lt _ _ a (by simp; omega), World.cell?_alloc_lt _ _ a hal]; exact ha
 go_enter Tryz.func110, Tryz.ntmps110;go_wp2;refine wp_loop_rounds 2 ?_;rw [rounds_succ];go_wp2;rw [rounds_succ];go_wp2;go_ret;exact ⟨rfl, _, rfl, ((((Below.refl _ _).alloc (Nat.le_refl _) _).alloc (by simp) _).alloc (by simp; omega) _).alloc (by simp; omega) _⟩
end Go.Proofs.YtkejlnjnoiidnaaGreatDoor.As
end

section
namespace Go.Proofs.YtkejlnjnoiidnaaGreatDoor.As
open Go.RowKit Go.Extern.Stop Go.Stop Go.Extern
theorem zaa (w : World) (o : Obj) : Below w.heap.size w (w.alloc o) := (Below.refl _ _).alloc (Nat.le_refl _) o
theorem zlw (w : World) : Calls Tryz.prog 61 #[.nilIface] w fun e w' => e = .returned (.int .i64 0) ∧ w = w' := by
 go_enter Tryz.func61, Tryz.ntmps61;go_wp2;go_ret;exact ⟨rfl, rfl⟩
theorem zkx (e : Int) (w : World) (hg : zbh w) : Calls Tryz.prog 61 #[.iface 27 (.int .i64 e)] w fun r w' => r = .returned (.int .i64 e) ∧ Below w.heap.size w w' := by
 go_enter Tryz.func61, Tryz.ntmps61;go_wp2_with fail;refine (ygx e _ _ _ (hg.below ((Below.refl _ _).alloc (Nat.le_refl _) _)) (World.cell?_alloc_at _ _ _ _ rfl) (by simp)).mono ?_;rintro r w' ⟨rfl, w1, rfl, hb⟩;have hz := hb.size;have hc : w1.cell? ⟨w.heap.size, 0, none⟩ = some (.int .i64 0) := (hb.cell (p := ⟨w.heap.size, 0, none⟩) (by simp)).trans (by rw [World.cell?_alloc_at _ _ _ _ rfl]; rfl);have hc2 : (w1.setCell ⟨w.heap.size, 0, none⟩ (.int .i64 e)).cell? ⟨w.heap.size, 0, none⟩ = some (.int .i64 e) := World.cell?_setCell_same _ _ _ hc;simp at hz;go_wp2_with fail;go_ret;exact ⟨rfl, ((zaa _ _).trans (hb.mono (by simp))).setCell (by simp) _⟩
theorem yer (e : Int) (a : Addr) (w : World) (hg : zbh w) (ha : w.cell? a = some (.int .i64 e)) : Calls Tryz.prog 61 #[.iface 112 (.pointer (some a))] w fun r w' => r = .returned (.int .i64 e) ∧ Below w.heap.size w w' := by
 go_enter Tryz.func61, Tryz.ntmps61;go_wp2_with fail;refine (yoj e a _ _ _ (hg.below ((Below.refl _ _).alloc (Nat.le_refl _) _)) (by rw [World.cell?_alloc_lt _ _ a (cell_lt ha)]; exact ha) (World.cell?_alloc_at _ _ _ _ rfl) (by simp)).mono ?_;rintro r w' ⟨rfl, w1, rfl, hb⟩;have hz := hb.size;have hc : w1.cell? ⟨w.heap.size, 0, none⟩ = some (.int .i64 0) := (hb.cell (p := ⟨w.heap.size, 0, none⟩) (by simp)).trans (by rw [World.cell?_alloc_at _ _ _ _ rfl]; rfl);have hc2 : (w1.setCell ⟨w.heap.size, 0, none⟩ (.int .i64 e)).cell? ⟨w.heap.size, 0, none⟩ = some (.int .i64 e) := World.cell?_setCell_same _ _ _ hc;simp at hz;go_wp2_with fail;go_ret;exact ⟨rfl, ((zaa _ _).trans (hb.mono (by simp))).setCell (by simp) _⟩
end Go.Proofs.YtkejlnjnoiidnaaGreatDoor.As
end

section
namespace Go.Proofs.YtkejlnjnoiidnaaGreatDoor
open Go.RowKit Go.Extern.Stop Go.Stop Go.Extern As
inductive zbo (w : World) : Value → Int → Int → Prop
 | none : zbo w .nilIface 0 (-1)
 | bare (e : Int) (he : e ≠ 0) : zbo w (.iface 27 (.int .i64 e)) e (-1)
 | at_ (b o : Nat) (e p : Int) (he : e ≠ 0) (h0 : w.cell? ⟨b, o, none⟩ = some (.int .i64 e)) (h1 : w.cell? ⟨b, o + 1, none⟩ = some (.int .i64 p)) : zbo w (.iface 112 (.pointer (some ⟨b, o, none⟩))) e p
theorem zbo.below {w w' : World} {v : Value} {e p : Int} (h : zbo w v e p) (hb : Below w.heap.size w w') : zbo w' v e p := by
 cases h with
 | none => exact .none
 | bare _ he => exact .bare _ he
 | at_ b o _ _ he h0 h1 => exact .at_ b o _ _ he ((hb.cell (cell_lt h0)).trans h0) ((hb.cell (cell_lt h1)).trans h1)
theorem zbo.drewN {w : World} {v : Value} {e p : Int} (h : zbo w v e p) (n : Nat) : zbo (w.drewN n) v e p := h.below (below_drewN (Below.refl _ _) n)
theorem zbo.zero {w : World} {v : Value} {p : Int} (h : zbo w v 0 p) : v = .nilIface ∧ p = -1 := by
 generalize he : (0 : Int) = e at h;cases h with
 | none => exact ⟨rfl, rfl⟩
 | bare _ h => exact absurd he.symm h
 | at_ _ _ _ _ h => exact absurd he.symm h
def errV (e : Int) : Value := if e = 0 then .nilIface else .iface 27 (.int .i64 e)
theorem zak : errV 0 = .nilIface := rfl
theorem zau {e : Int} (h : e ≠ 0) : errV e = .iface 27 (.int .i64 e) := by unfold errV; rw [if_neg h]
theorem zfz (w : World) (e : Int) : zbo w (errV e) e (-1) := by
 by_cases h : e = 0
 ·subst h; exact .none
 ·rw [zau h]; exact .bare e h
theorem zde {v : Value} {e p : Int} {w : World} (h : zbo w v e p) (hg : zbh w) : Calls Tryz.prog 61 #[v] w fun r w' => r = .returned (.int .i64 e) ∧ Below w.heap.size w w' := by
 cases h with
 | none => exact (zlw w).mono fun _ _ ⟨a, b⟩ => ⟨a, b ▸ Below.refl _ _⟩
 | bare _ he => exact zkx _ w hg
 | at_ b o _ _ he h0 h1 => exact yer _ _ w hg h0
theorem yoi (v : Value) (w : World) : (Instr.typeAssert (.iface 27 v) 33 112 true).run Tryz.prog w = .ok (.tuple #[.pointer none, .bool false]) w := by kernel_rfl
theorem ymf (v : Value) (w : World) : (Instr.typeAssert (.iface 112 v) 33 112 true).run Tryz.prog w = .ok (.tuple #[v, .bool true]) w := by kernel_rfl
set_option maxHeartbeats 1000000 in
theorem yfa {v : Value} {e p : Int} {w : World} (h : zbo w v e p) (hg : zbh w) : Calls Tryz.prog 44 #[v] w fun r w' => r = .returned (.tuple #[.int .i64 e, .int .i64 p]) ∧ Below w.heap.size w w' := by
 cases h with
 | none =>
  go_enter Tryz.func44, Tryz.ntmps44;go_wp2_with (go_at_call 61; refine (zlw w).mono ?_; rintro e w' ⟨rfl, rfl⟩);refine wp_loop_rounds 1 ?_;rw [rounds_succ];go_wp2;go_ret2;exact ⟨rfl, Below.refl _ _⟩
 | bare _ he =>
  have n1 := noUnwrapE;have n2 := yoi;go_enter Tryz.func44, Tryz.ntmps44;go_wp2_with (go_at_call 61; refine (zkx e w hg).mono ?_; rintro e w' ⟨rfl, hb⟩);refine wp_loop_rounds 1 ?_;rw [rounds_succ];go_wp2;go_ret2;exact ⟨rfl, hb⟩
 | at_ b o _ _ he h0 h1 =>
  have n2 := ymf;go_enter Tryz.func44, Tryz.ntmps44;go_wp2_with (go_at_call 61; refine (yer e _ w hg h0).mono ?_; rintro e w' ⟨rfl, hb⟩);have h1' := (hb.cell (cell_lt h1)).trans h1;refine wp_loop_rounds 1 ?_;rw [rounds_succ];go_wp2;go_quiet (fail)
  go_wp2;go_ret2;exact ⟨rfl, below_drewN hb _⟩
theorem zhz {v : Value} {e p : Int} {w : World} (h : zbo w v e p) (hg : zbh w) (x y : Int) : Calls Tryz.prog 13 #[v, .agg #[.int .i64 x, .int .i64 y]] w fun r w' => r = .returned (.bool (decide (e = x ∧ p = y))) ∧ Below w.heap.size w w' := by
 have hb1 := zaa w (.cells #[.int .i64 x, .int .i64 y] 29);have hh := h.below hb1;have hgh := hg.below hb1;go_enter Tryz.func13, Tryz.ntmps13;go_wp2_with fail;refine (yfa hh hgh).mono ?_;rintro r w' ⟨rfl, hb⟩;have c0 : w'.cell? ⟨w.heap.size, 0, none⟩ = some (.int .i64 x) := (hb.cell (p := ⟨w.heap.size, 0, none⟩) (by simp)).trans (by rw [World.cell?_alloc_at _ _ _ _ rfl]; rfl);have c1 : w'.cell? ⟨w.heap.size, 1, none⟩ = some (.int .i64 y) := (hb.cell (p := ⟨w.heap.size, 1, none⟩) (by simp)).trans (by rw [World.cell?_alloc_at _ _ _ _ rfl]; rfl);by_cases h1 : e = x
 ·subst h1;by_cases h2 : p = y
  ·subst h2;go_wp2_with fail;go_ret;exact ⟨by first | rfl | simp [*], hb1.trans (hb.mono (by simp))⟩
  ·have h2' : (p == y) = false := by simp [h2]
   go_wp2_with fail;go_ret;exact ⟨by first | rfl | simp [*], hb1.trans (hb.mono (by simp))⟩
 ·have h1' : (e == x) = false := by simp [h1]
  go_wp2_with fail;go_ret;exact ⟨by first | rfl | simp [*], hb1.trans (hb.mono (by simp))⟩
end Go.Proofs.YtkejlnjnoiidnaaGreatDoor
end

section
namespace Go.Proofs.YtkejlnjnoiidnaaGreatDoor
open Go.RowKit As
abbrev zck (w : World) (v : Value) (f : Int × Int) : Prop := zbo w v f.1 f.2
theorem zck.of {w : World} {v : Value} {e p : Int} {f : Int × Int} (h : zbo w v e p) (hf : f = (e, p)) : zck w v f := by subst hf; exact h
theorem ylg (w : World) (e p : Int) (he : e ≠ 0) : zbo (w.alloc (.cells #[.int .i64 e, .int .i64 p] 114)) (.iface 112 (.pointer (some ⟨w.heap.size, 0, none⟩))) e p :=
 .at_ _ _ _ _ he (by rw [World.cell?_alloc_at _ _ _ _ rfl]; rfl) (by rw [World.cell?_alloc_at _ _ _ _ rfl]; rfl)
theorem zft (w : World) (n : Nat) (e p : Int) (he : e ≠ 0) (hn : n = w.heap.size) : zbo (w.alloc (.cells #[.int .i64 e, .int .i64 p] 114)) (.iface 112 (.pointer (some ⟨n, 0, none⟩))) e p := by
 subst hn; exact ylg w e p he
theorem ybc {r t : Int} (h : zeh (r, t)) : (decide (r < 0) = true) ∨ (decide (r < 0) = false ∧ decide (200 < r) = true) ∨ (decide (r < 0) = false ∧ decide (200 < r) = false ∧ decide (t < 1) = true) ∨ (decide (r < 0) = false ∧ decide (200 < r) = false ∧ decide (t < 1) = false ∧ decide (1099511627776 < t) = true) := by
 unfold zeh at h;simp only at h;simp only [decide_eq_true_eq, decide_eq_false_iff_not];omega
set_option maxHeartbeats 1000000 in
theorem zcn (w : World) (n c : Nat) (A : Option Addr) (l : List Ent) (hl : Ents w w.heap.size A n l) (hn : n ≤ maxLen) :
  Calls Tryz.prog 79 #[.slice A n c] w fun e w' => ∃ v, e = .returned v ∧ zck w' v (zaf l) ∧ Below w.heap.size w w' := by
 unfold maxLen at hn;have hlen := hl.len;by_cases hbig : 16 < n
 ·have hv := Lib.hid (zla (l := l) (by omega));have hd : decide (16 < n) = true := by simpa using hbig
  have hlen := Lib.hid hlen;clear hl;go_enter Tryz.func79, Tryz.ntmps79;go_wp2;go_ret;exact ⟨_, rfl, zck.of (.bare 4 (by omega)) hv.out, Below.refl _ _⟩
 ·have hv := Lib.hid (zhs (l := l) (by omega));have hd : decide (16 < n) = false := by simpa using hbig
  have hlen := Lib.hid hlen;go_enter Tryz.func79, Tryz.ntmps79;go_wp2;go_loopw [3, 4, 5, 12] (fun _ _ _ i wr => ∃ k : Nat, k ≤ n ∧ i = .int .i64 k ∧ VAt l k ∧ Below w.heap.size w wr) (fun _ _ _ i _ => n - (intOf i).toNat)
  case atStart => exact ⟨0, by omega, rfl, VAt.zero l, Below.refl _ _⟩
  case round =>
   obtain ⟨k, hk, rfl, hat, hbel⟩ := hrel;have Hat := Lib.hid hat;clear hat;have hsz := hbel.size;by_cases hlt : k < n
   ·obtain ⟨b, o, r, t, rfl, hb, hx, hf, hc0, hc1⟩ := hl.at_ hlt;have c0 := (hbel.cell (p := ⟨b, o + k * 2, none⟩) (by simp; omega)).trans hc0;have c1 := (hbel.cell (p := ⟨b, o + k * 2 + 1, none⟩) (by simp; omega)).trans hc1;clear hc0 hc1;have hX := Lib.hid hx;clear hx;have hrt := Lib.hid hf;clear hf;by_cases hbad : zeh (r, t)
    ·have hres := Lib.hid (Hat.out.bad hX.out hbad);have hparts := ybc hbad;clear hbad;rcases hparts with d0 | ⟨d0, d1⟩ | ⟨d0, d1, d2⟩ | ⟨d0, d1, d2, d3⟩
     all_goals
      go_wp2;go_ret;exact ⟨_, rfl, zck.of (zft _ _ 2 k (by omega) (by simp)) (hv.out.trans hres.out), (hbel.alloc hsz _).alloc (by simp; omega) _⟩
    ·have hok : 0 ≤ r ∧ r ≤ 200 ∧ 1 ≤ t ∧ t ≤ 1099511627776 := by unfold zeh at hbad; simp only at hbad; omega
     obtain ⟨g0, g1, g2, g3⟩ := hok;have d0 : decide (r < 0) = false := by simpa using g0
     have d1 : decide (200 < r) = false := by simpa using g1
     have d2 : decide (t < 1) = false := by simpa using g2
     have d3 : decide (1099511627776 < t) = false := by simpa using g3
     have Hbad := Lib.hid hbad;clear hbad;by_cases hk0 : k = 0
     ·have hz : decide (0 < k) = false := by simp [hk0]
      have hl0 := Lib.hid hk0;clear hk0;have hnext := Lib.hid (Hat.out.succ hX.out Hbad.out (by rw [hl0.out, zul]; omega));go_wp2;go_quiet (fail)
      go_wp2;go_roundw
      case rel => exact ⟨k + 1, by omega, by go_num, hnext.out, below_drewN (hbel.alloc hsz _) _⟩
      case measure => simp [intOf]; omega
     ·have hz : decide (0 < k) = true := by simp; omega
      obtain ⟨b', o', r', t', e', hb', hx', hf', hc0', hc1'⟩ := hl.at_ (k := k - 1) (by omega);injection e' with e'
      injection e' with e1 e2
      subst e1 e2;have c2 := (hbel.cell (p := ⟨b, o + (k - 1) * 2, none⟩) (by simp; omega)).trans hc0';have hlast := Lib.hid (zjf l (k - 1) r' t' hx');clear hc0' hc1' hx' hf';have ek : k - 1 + 1 = k := by omega
      have hk1 : k - 1 < n := by omega
      have hlast2 := Lib.hid ((congrArg (zkk l) ek).symm.trans hlast.out);clear ek hlast;by_cases ho : r ≤ r'
      ·have hres := Lib.hid (Hat.out.order hX.out Hbad.out (by rw [hlast2.out]; exact ho));have d4 : decide (r ≤ r') = true := by simpa using ho
       go_wp2;have hwr : IntKind.i64.wrap ((k : Int) - 1) = ((k - 1 : Nat) : Int) := by rw [IntWalk.i64_in _ (by omega)]; omega
       have c3 : (wr.alloc (.cells #[.int .i64 r, .int .i64 t] 79)).cell? ⟨b, o + (k - 1) * 2, none⟩ = some (.int .i64 r') := (World.cell?_alloc_lt _ _ ⟨b, o + (k - 1) * 2, none⟩ (by simp; omega)).trans c2;go_quiet (fail)
       go_wp2;go_ret;exact ⟨_, rfl, zck.of (zft _ _ 10 k (by omega) (by simp)) (hv.out.trans hres.out), (below_drewN (hbel.alloc hsz _) _).alloc (by simp; omega) _⟩
      ·have hnext := Lib.hid (Hat.out.succ hX.out Hbad.out (by rw [hlast2.out]; exact ho));have d4 : decide (r ≤ r') = false := by simpa using ho
       go_wp2;have hwr : IntKind.i64.wrap ((k : Int) - 1) = ((k - 1 : Nat) : Int) := by rw [IntWalk.i64_in _ (by omega)]; omega
       have c3 : (wr.alloc (.cells #[.int .i64 r, .int .i64 t] 79)).cell? ⟨b, o + (k - 1) * 2, none⟩ = some (.int .i64 r') := (World.cell?_alloc_lt _ _ ⟨b, o + (k - 1) * 2, none⟩ (by simp; omega)).trans c2;go_quiet (fail)
       clear hwr;go_wp2;go_roundw
       case rel => exact ⟨k + 1, by omega, by go_num, hnext.out, below_drewN (hbel.alloc hsz _) _⟩
       case measure => simp [intOf]; omega
   ·obtain rfl : k = n := by omega
    have hend := Lib.hid (Hat.out.all (by rw [hlen.out]; exact Nat.le_refl _));clear hlt;go_wp2;go_ret;exact ⟨_, rfl, zck.of .none (hv.out.trans hend.out), hbel⟩
def inB (n lo hi : Int) : Bool := decide (lo ≤ n ∧ n ≤ hi)
theorem zfd (n lo hi : Int) (w : World) : Calls Tryz.prog 54 #[.int .i64 n, .int .i64 lo, .int .i64 hi] w fun e w' => e = .returned (.bool (inB n lo hi)) ∧ w = w' := by
 by_cases h1 : lo ≤ n
 ·by_cases h2 : n ≤ hi
  ·have hb : inB n lo hi = true := by unfold inB; simp [h1, h2]
   have Hb := Lib.hid hb;clear hb;go_enter Tryz.func54, Tryz.ntmps54;go_wp2;go_ret;exact ⟨retB Hb.out.symm, rfl⟩
  ·have hb : inB n lo hi = false := by unfold inB; simp [h1, h2]
   have Hb := Lib.hid hb;clear hb;go_enter Tryz.func54, Tryz.ntmps54;go_wp2;go_ret;exact ⟨retB Hb.out.symm, rfl⟩
 ·have hb : inB n lo hi = false := by unfold inB; simp [h1]
  have Hb := Lib.hid hb;clear hb;go_enter Tryz.func54, Tryz.ntmps54;go_wp2;go_ret;exact ⟨retB Hb.out.symm, rfl⟩
theorem zad {n lo hi : Int} {b : Bool} (h : Hid (inB n lo hi = b)) (w : World) : Calls Tryz.prog 54 #[.int .i64 n, .int .i64 lo, .int .i64 hi] w fun e w' => e = .returned (.bool b) ∧ w = w' :=
 (zfd n lo hi w).mono fun _ _ ⟨a, b⟩ => ⟨by rw [a]; exact retB h, b⟩
def zba (f : Int × Int) : Value := .agg #[.int .i64 f.1, .int .i64 f.2]
theorem zbi (e : Int) (w : World) : Calls Tryz.prog 47 #[.int .i64 e] w fun r w' => r = .returned (.agg #[.int .i64 e, .int .i64 (-1)]) ∧ Below w.heap.size w w' := by
 go_enter Tryz.func47, Tryz.ntmps47;go_wp2;exact bodyPost_ret (v := .agg #[.int .i64 e, .int .i64 (-1)]) (by simp [results, Tryz.results47, go_sem]) rfl ⟨rfl, zaa _ _⟩
theorem zdy (w : World) : Calls Tryz.prog 35 #[] w fun r w' => r = .returned (.agg #[.int .i64 0, .int .i64 (-1)]) ∧ Below w.heap.size w w' := by
 go_enter Tryz.func35, Tryz.ntmps35;go_wp2;exact bodyPost_ret (v := .agg #[.int .i64 0, .int .i64 (-1)]) (by simp [results, Tryz.results35, go_sem]) rfl ⟨rfl, zaa _ _⟩
theorem set2 {w : World} {s : Nat} {old0 old1 : Value} (a b : Value) (h0 : w.cell? ⟨s, 0, none⟩ = some old0) (h1 : w.cell? ⟨s, 1, none⟩ = some old1) :
  ((w.setCell ⟨s, 0, none⟩ a).setCell ⟨s, 1, none⟩ b).cell? ⟨s, 0, none⟩ = some a ∧ ((w.setCell ⟨s, 0, none⟩ a).setCell ⟨s, 1, none⟩ b).cell? ⟨s, 1, none⟩ = some b := by
 have h1' : (w.setCell ⟨s, 0, none⟩ a).cell? ⟨s, 1, none⟩ = some old1 := by rw [World.cell?_setCell_other _ _ _ _ (by intro h; injection h with _ h2; cases h2)]; exact h1
 refine ⟨?_, World.cell?_setCell_same _ _ _ h1'⟩;rw [World.cell?_setCell_other _ _ _ _ (by intro h; injection h with _ h2; cases h2)];exact World.cell?_setCell_same _ _ _ h0
theorem zen {w : World} {s : Nat} {old0 old1 : Value} (a b : Value) (o : Obj) (hs : s < w.heap.size) (h0 : w.cell? ⟨s, 0, none⟩ = some old0) (h1 : w.cell? ⟨s, 1, none⟩ = some old1) :
  (((w.setCell ⟨s, 0, none⟩ a).setCell ⟨s, 1, none⟩ b).alloc o).cell? ⟨s, 0, none⟩ = some a ∧ (((w.setCell ⟨s, 0, none⟩ a).setCell ⟨s, 1, none⟩ b).alloc o).cell? ⟨s, 1, none⟩ = some b :=
 ⟨(World.cell?_alloc_lt _ _ ⟨s, 0, none⟩ (by simpa using hs)).trans (set2 a b h0 h1).1, (World.cell?_alloc_lt _ _ ⟨s, 1, none⟩ (by simpa using hs)).trans (set2 a b h0 h1).2⟩
theorem zai {B : Nat} {a w : World} {s : Nat} (x y : Value) (h : Below B a w) (hs : B ≤ s) : Below B a ((w.setCell ⟨s, 0, none⟩ x).setCell ⟨s, 1, none⟩ y) := (h.setCell hs _).setCell hs _
structure Two (w : World) (s : Nat) (a b : Int) : Prop where
 c0 : w.cell? ⟨s, 0, none⟩ = some (.int .i64 a)
 c1 : w.cell? ⟨s, 1, none⟩ = some (.int .i64 b)
 f0 : w.frozen? ⟨s, 0, none⟩ = false
 f1 : w.frozen? ⟨s, 1, none⟩ = false
theorem Two.new (w : World) (a b : Int) (t : TypeId) : Two (w.alloc (.cells #[.int .i64 a, .int .i64 b] t)) w.heap.size a b :=
 ⟨by rw [World.cell?_alloc_at _ _ _ _ rfl]; rfl, by rw [World.cell?_alloc_at _ _ _ _ rfl]; rfl, by simp, by simp⟩
theorem Two.lt {w : World} {s : Nat} {a b : Int} (h : Two w s a b) : s < w.heap.size := cell_lt h.c0
theorem Two.keep {w w' : World} {s B : Nat} {a b : Int} (h : Two w s a b) (hb : Below B w w') (hs : s < B) : Two w' s a b :=
 ⟨(hb.cell (p := ⟨s, 0, none⟩) hs).trans h.c0, (hb.cell (p := ⟨s, 1, none⟩) hs).trans h.c1, (hb.frozen (p := ⟨s, 0, none⟩) hs).trans h.f0, (hb.frozen (p := ⟨s, 1, none⟩) hs).trans h.f1⟩
theorem Two.below {w w' : World} {s : Nat} {a b : Int} (h : Two w s a b) (hb : Below w.heap.size w w') : Two w' s a b := h.keep hb h.lt
theorem yld {r t : Int} (h : zeh (r, t)) : inB r 0 200 = false ∨ (inB r 0 200 = true ∧ inB t 1 1099511627776 = false) := by
 unfold zeh at h;unfold inB;simp only at h;simp only [decide_eq_true_eq, decide_eq_false_iff_not];omega
end Go.Proofs.YtkejlnjnoiidnaaGreatDoor
end

section
namespace Go.Proofs.YtkejlnjnoiidnaaGreatDoor
open Go.RowKit
def zji (x : Tok) : Prop := x.1.size ≤ 140737488351232 ∧ (-9223372036854775808 ≤ x.2.1 ∧ x.2.1 ≤ 9223372036854775807) ∧ (-9223372036854775808 ≤ x.2.2 ∧ x.2.2 ≤ 9223372036854775807)
def Toks (w : World) (B : Nat) (A : Option Addr) (n : Nat) (l : List Tok) : Prop := Sl w B 3 A n (l.flatMap zeq) ∧ ∀ x ∈ l, zji x
section
variable {w w' : World} {B n : Nat} {A : Option Addr} {l : List Tok}
theorem Toks.len (h : Toks w B A n l) : l.length = n := zfx zeq 3 (by omega) (fun _ => rfl) h.1
theorem Toks.at_ (h : Toks w B A n l) {k : Nat} (hk : k < n) :
  ∃ b o s r t, A = some ⟨b, o, none⟩ ∧ b < B ∧ l[k]? = some (s, r, t) ∧ zji (s, r, t) ∧ w.cell? ⟨b, o + k * 3, none⟩ = some (.string s) ∧ w.cell? ⟨b, o + k * 3 + 1, none⟩ = some (.int .i64 r) ∧ w.cell? ⟨b, o + k * 3 + 2, none⟩ = some (.int .i64 t) := by
 obtain ⟨b, o, x, e, hb, hx, hc⟩ := zob zeq 3 (fun _ => rfl) h.1 h.len hk;obtain ⟨s, r, t⟩ := x;exact ⟨b, o, s, r, t, e, hb, hx, h.2 _ (List.mem_of_getElem? hx), hc 0 _ rfl, hc 1 _ rfl, hc 2 _ rfl⟩
theorem Toks.below (h : Toks w B A n l) (hb : Below B w w') : Toks w' B A n l := ⟨h.1.below hb, h.2⟩
theorem Toks.grow (h : Toks w w.heap.size A n l) (hb : Below w.heap.size w w') : Toks w' w'.heap.size A n l := ⟨h.1.grow hb, h.2⟩
end
theorem zge (s : ByteArray) : s.toList.isEmpty = decide (s.size = 0) := by
 rw [ByteArray.toList_eq];by_cases h : s.size = 0
 ·rw [decide_eq_true h];have : s.data.toList = [] := by
   apply List.length_eq_zero_iff.1;simpa using h
  rw [this]; rfl
 ·rw [decide_eq_false h];rw [List.isEmpty_eq_false_iff];intro e;apply h;have := congrArg List.length e;simpa using this
theorem yne {s : ByteArray} (h : s.size = 0) : s.toList.isEmpty = true := by rw [zge, decide_eq_true h]
theorem zve {s : ByteArray} (h : s.size ≠ 0) : s.toList.isEmpty = false := by rw [zge, decide_eq_false h]
end Go.Proofs.YtkejlnjnoiidnaaGreatDoor
end

section
namespace Go.Proofs.YtkejlnjnoiidnaaGreatDoor
open Go.RowKit As
def yiw (e : Ending) : Prop := ∃ b, e = .returned (.bool b)
theorem yiw.of {e : Ending} {b : Bool} (h : e = .returned (.bool b)) : yiw e := ⟨b, h⟩
set_option maxHeartbeats 2000000 in
set_option maxRecDepth 100000 in
theorem zgh (w : World) (n c : Nat) (A : Option Addr) (l : List Tok) (hl : Toks w w.heap.size A n l) (hn : n ≤ maxLen) :
  Calls Tryz.prog 130 #[.slice A n c] w fun e w' => ∃ v, e = .returned v ∧ zck w' v (zaz l) ∧ Below w.heap.size w w' := by
 unfold maxLen at hn;have hlen := Lib.hid hl.len;go_enter Tryz.func130, Tryz.ntmps130;go_wp2;go_loopw [3, 4, 5, 6, 7, 10] (fun m _ _ _ _ i wr => ∃ k p : Nat, k ≤ n ∧ i = .int .i64 k ∧ m = .int .i64 p ∧ TAt l k p ∧ Below w.heap.size w wr) (fun _ _ _ _ _ i _ => n - (intOf i).toNat)
 case atStart => exact ⟨0, 0, by omega, rfl, rfl, TAt.zero l, Below.refl _ _⟩
 case round =>
  obtain ⟨k, p, hk, rfl, rfl, hat, hbel⟩ := hrel;have hp := hat.2;have Hat := Lib.hid hat;clear hat;have hsz := hbel.size;by_cases hlt : k < n
  ·obtain ⟨b, o, s, r, t, rfl, hb, hx, hf, c0, c1, c2⟩ := hl.at_ hlt;have c0 := (hbel.cell (p := ⟨b, o + k * 3, none⟩) (by simp; omega)).trans c0;have c1 := (hbel.cell (p := ⟨b, o + k * 3 + 1, none⟩) (by simp; omega)).trans c1;have c2 := (hbel.cell (p := ⟨b, o + k * 3 + 2, none⟩) (by simp; omega)).trans c2;have hX := Lib.hid hx;obtain ⟨f0, f1, f2⟩ := hf;simp only at f0 f1 f2;clear hx;by_cases ha : zdq (s, r, t)
   ·have hres := Lib.hid (Hat.out.arg hX.out ha);have hparts : (s.toList.isEmpty = true ∧ (t != 0) = false ∧ (r != 0) = false) ∨ (s.toList.isEmpty = false ∧ (t != 0) = true) ∨ (s.toList.isEmpty = false ∧ (t != 0) = false ∧ (r != 0) = true) := by
     unfold zdq at ha;simp only at ha;rw [zge];simp only [decide_eq_true_eq, decide_eq_false_iff_not, bne_iff_ne, bne_eq_false_iff_eq];omega
    clear ha;rcases hparts with ⟨d0, d1, d2⟩ | ⟨d0, d1⟩ | ⟨d0, d1, d2⟩
    all_goals
     go_wp2;go_ret;exact ⟨_, rfl, zck.of (zft _ _ 1 k (by omega) (by simp)) hres.out, (hbel.alloc hsz _).alloc (by simp; omega) _⟩
   ·by_cases h1 : s.size = 0
    ·have hparts : (s.toList.isEmpty = true ∧ (t != 0) = true) ∨ (s.toList.isEmpty = true ∧ (t != 0) = false ∧ (r != 0) = true) := by
      unfold zdq at ha;simp only at ha;rw [zge];simp only [decide_eq_true_eq, bne_iff_ne, bne_eq_false_iff_eq];omega
     have Ha := Lib.hid ha;have H1 := Lib.hid h1;clear ha h1;by_cases h2 : zcs (s, r, t)
     ·have hres := Lib.hid (Hat.out.range hX.out Ha.out H1.out h2);have hq : (decide (t < 4) = true) ∨ (decide (t < 4) = false ∧ decide (67 < t) = true) ∨ (decide (t < 4) = false ∧ decide (67 < t) = false ∧ decide (r < 1) = true) ∨ (decide (t < 4) = false ∧ decide (67 < t) = false ∧ decide (r < 1) = false ∧ decide (1024 < r) = true) := by
       unfold zcs at h2;simp only at h2;simp only [decide_eq_true_eq, decide_eq_false_iff_not];omega
      clear h2;rcases hparts with ⟨d0, d1⟩ | ⟨d0, d1, d2⟩
      all_goals
       rcases hq with e0 | ⟨e0, e1⟩ | ⟨e0, e1, e2⟩ | ⟨e0, e1, e2, e3⟩
      all_goals
       go_wp2;go_ret;exact ⟨_, rfl, zck.of (zft _ _ 2 k (by omega) (by simp)) hres.out, (hbel.alloc hsz _).alloc (by simp; omega) _⟩
     ·have hq : decide (t < 4) = false ∧ decide (67 < t) = false ∧ decide (r < 1) = false ∧ decide (1024 < r) = false := by
       unfold zcs at h2;simp only at h2;simp only [decide_eq_false_iff_not];omega
      obtain ⟨e0, e1, e2, e3⟩ := hq;have ht : 4 ≤ t ∧ t ≤ 67 ∧ 1 ≤ r ∧ r ≤ 1024 := by unfold zcs at h2; simp only at h2; omega
      obtain ⟨q0, q1, q2, q3⟩ := ht;have H2 := Lib.hid h2;clear h2;by_cases h3 : (p : Int) < r
      ·have hres := Lib.hid (Hat.out.missing hX.out Ha.out H1.out H2.out h3);have e4 : decide ((p : Int) < r) = true := by simpa using h3
       clear h3;rcases hparts with ⟨d0, d1⟩ | ⟨d0, d1, d2⟩
       all_goals
        go_wp2;go_ret;exact ⟨_, rfl, zck.of (zft _ _ 7 k (by omega) (by simp)) hres.out, (hbel.alloc hsz _).alloc (by simp; omega) _⟩
      ·have e4 : decide ((p : Int) < r) = false := by simpa using h3
       have H3 := Lib.hid h3;clear h3;by_cases h4 : 20000 < p + t.toNat
       ·have hres := Lib.hid (Hat.out.big hX.out Ha.out H1.out H2.out H3.out h4);have e5 : decide (20000 - (p : Int) < t) = true := by simp; omega
        clear h4;rcases hparts with ⟨d0, d1⟩ | ⟨d0, d1, d2⟩
        all_goals
         go_wp2;go_ret;exact ⟨_, rfl, zck.of (zft _ _ 4 k (by omega) (by simp)) hres.out, (hbel.alloc hsz _).alloc (by simp; omega) _⟩
       ·have hnext := Lib.hid (Hat.out.next hX.out Ha.out H1.out H2.out H3.out h4);have e5 : decide (20000 - (p : Int) < t) = false := by simp; omega
        have H4 := Lib.hid h4;clear h4;rcases hparts with ⟨d0, d1⟩ | ⟨d0, d1, d2⟩
        all_goals
         go_wp2;go_roundw
         case rel => exact ⟨k + 1, p + t.toNat, by omega, by go_num, valI (by omega), hnext.out, hbel.alloc hsz _⟩
         case measure => simp [intOf]; omega
    ·have d0 : s.toList.isEmpty = false := zve h1;have hz : t = 0 ∧ r = 0 := by unfold zdq at ha; simp only at ha; omega
     obtain ⟨rfl, rfl⟩ := hz;have Ha := Lib.hid ha;have H1 := Lib.hid h1;clear ha h1;by_cases h2 : 20000 < p + s.size
     ·have hres := Lib.hid (Hat.out.yiy hX.out Ha.out H1.out h2);have e5 : decide (20000 - (p : Int) < (s.size : Int)) = true := by simp; omega
      clear h2;go_wp2;go_ret;exact ⟨_, rfl, zck.of (zft _ _ 4 k (by omega) (by simp)) hres.out, (hbel.alloc hsz _).alloc (by simp; omega) _⟩
     ·have hnext := Lib.hid (Hat.out.yfj hX.out Ha.out H1.out h2);have e5 : decide (20000 - (p : Int) < (s.size : Int)) = false := by simp; omega
      go_wp2;go_roundw
      case rel => exact ⟨k + 1, p + s.size, by omega, by go_num, by go_num, hnext.out, hbel.alloc hsz _⟩
      case measure => simp [intOf]; omega
  ·obtain rfl : k = n := by omega
   have hend := Lib.hid (Hat.out.all (by rw [hlen.out]; exact Nat.le_refl _));clear hlt;go_wp2;go_ret;exact ⟨_, rfl, zck.of .none hend.out, hbel⟩
end Go.Proofs.YtkejlnjnoiidnaaGreatDoor
end

section
namespace Go.Proofs.YtkejlnjnoiidnaaGreatDoor
open Go.RowKit
def BytesAt (w : World) (g : Nat) (l : List UInt8) : Prop := ∀ i, i < l.length → w.cell? ⟨g, i, none⟩ = some (.int .u8 (l.getD i 0).toNat) ∧ w.frozen? ⟨g, i, none⟩ = false
theorem getD_at {α : Type} (l : List α) (d : α) (i : Nat) (h : i < l.length) : l.getD i d = l[i] := by simp [List.getD, List.getElem?_eq_getElem h]
theorem BytesAt.set {w : World} {g : Nat} {l : List UInt8} (h : BytesAt w g l) (k : Nat) (b : UInt8) (hk : k < l.length) : BytesAt (w.setCell ⟨g, k, none⟩ (.int .u8 b.toNat)) g (l.set k b) := by
 intro i hi;rw [List.length_set] at hi;refine ⟨?_, by rw [World.frozen?_setCell]; exact (h i hi).2⟩;by_cases e : i = k
 ·subst e;rw [World.cell?_setCell_same _ _ _ (h i hi).1];rw [getD_at _ _ _ (by simpa using hi)];simp
 ·rw [World.cell?_setCell_other _ _ _ _ (by intro h'; injection h' with _ h''; exact e h''.symm)];rw [(h i hi).1, getD_at l _ _ hi, getD_at (l.set k b) _ _ (by simpa using hi), List.getElem_set_ne (Ne.symm e)]
theorem BytesAt.keep {w w' : World} {g B : Nat} {l : List UInt8} (h : BytesAt w g l) (hb : Below B w w') (hg : g < B) : BytesAt w' g l :=
 fun i hi => ⟨(hb.cell (p := ⟨g, i, none⟩) hg).trans (h i hi).1, (hb.frozen (p := ⟨g, i, none⟩) hg).trans (h i hi).2⟩
theorem BytesAt.drew {w : World} {g : Nat} {l : List UInt8} (h : BytesAt w g l) : BytesAt w.drew g l := h
theorem BytesAt.lt {w : World} {g : Nat} {l : List UInt8} (h : BytesAt w g l) (hl : 0 < l.length) : g < w.heap.size := cell_lt (h 0 hl).1
theorem zjn {P : Program} (w : World) (src e dst : TypeId) (g c : Nat) (l : List UInt8) (hs : P.underlying src = some (.slice e)) (he : P.underlying e = some (.int .u8)) (hd : P.underlying dst = some .string) (h : BytesAt w g l) :
  (convert src dst (.slice (some ⟨g, 0, none⟩) l.length c)).run P w = .ok (.string ⟨l.toArray⟩) w := by
 rw [run_convert_bytes_arg w src e hs he g 0 l.length c (l.map fun b => (b.toNat : Int)) (by simp) (fun i hi => by
  rw [Nat.zero_add, (h i hi).1, getD_at _ _ _ hi];simp [List.getD, List.getElem?_eq_getElem hi]) dst hd]
 congr 2;simp only [strOfNums, List.map_map];congr 1;have e : ((fun n : Int => UInt8.ofNat n.toNat) ∘ fun b : UInt8 => (b.toNat : Int)) = id := by
  funext b;simp
 rw [e, List.map_id]
end Go.Proofs.YtkejlnjnoiidnaaGreatDoor
end

section
namespace Go.Proofs.YtkejlnjnoiidnaaGreatDoor
open Go.RowKit
abbrev zit (b : UInt8) : Value := .int .u8 (b.toNat : Int)
abbrev bytesV (l : List UInt8) : List Value := l.map zit
theorem yhh {n : Int} {b : UInt8} (h : n = (b.toNat : Int)) : Value.int .u8 n = zit b := by rw [h]
theorem zoh {P : Program} {w : World} {base : Nat} {E : TypeId} {A : Option Addr} {n c : Nat} {l : List UInt8} (src e dst : TypeId) (hs : P.underlying src = some (.slice e)) (he : P.underlying e = some (.int .u8)) (hd : P.underlying dst = some .string)
  (h : w.ownsRow base E 1 (.slice A n c) n (bytesV l)) (hl : l.length = n) (hn : 0 < n) : (convert src dst (.slice A n c)).run P w = .ok (.string ⟨l.toArray⟩) w := by
 rcases h.2 with ⟨_, h0⟩ | ⟨g, cap, cur, hv, _, hh, _⟩
 ·omega
 ·have hA : A = some ⟨g, 0, none⟩ := by injection hv
  subst hA;subst hl;refine zjn w src e dst g c l hs he hd fun i hi => ⟨?_, h.frozenAt i⟩
  rw [h.cellAt i (by omega), List.getElem?_map, List.getElem?_eq_getElem hi, getD_at l 0 i hi];rfl
end Go.Proofs.YtkejlnjnoiidnaaGreatDoor
end

section
namespace Go.Proofs.YtkejlnjnoiidnaaGreatDoor
open Go.RowKit
theorem zqb : (Tryz.prog.info? 5).map (fun i => (i.zero, i.size, i.bytes)) = some (some (.int .u8 0), 1, 1) := by kernel_rfl
theorem zby (w : World) (v : Value) (t : TypeId) : ∀ j u, ([v] : List Value)[j]? = some u → (w.alloc (.cells #[v] t)).cell? ((⟨w.heap.size, 0, none⟩ : Addr).add j) = some u := by
 intro j u hu;have hadd : (⟨w.heap.size, 0, none⟩ : Addr).add j = ⟨w.heap.size, j, none⟩ := by unfold Addr.add; split <;> simp_all
 rw [hadd, World.cell?_alloc_new];simpa using hu
theorem low7 (n : Nat) : bits BinOp.or IntKind.u8 (IntKind.u8.wrap (n : Int)) 128 = ((UInt8.ofNat (n % 128 + 128)).toNat : Int) := by
 rw [IntKind.wrap_u8'];have e1 : (n : Int) % 256 = ((n % 256 : Nat) : Int) := by omega
 rw [e1];have e := u8_or_nat (n % 256) 128 (by omega) (by omega);have e2 : ((128 : Nat) : Int) = 128 := rfl;rw [e2] at e;rw [e];have e3 : (UInt8.ofNat (n % 128 + 128)).toNat = n % 128 + 128 := by simp; omega
 rw [e3];have e4 : n % 256 ||| 128 = n % 128 + 128 := by
  have hs : n % 256 = n % 128 + 128 * (n / 128 % 2) := by omega
  rcases Nat.mod_two_eq_zero_or_one (n / 128) with h0 | h0
  ·rw [h0] at hs;rw [hs, Nat.mul_zero, Nat.add_zero, Nat.or_comm, nat_join 7 128 (n % 128) (by decide) (by omega), Nat.add_comm]
  ·rw [h0] at hs;rw [hs, Nat.mul_one, Nat.add_comm, ← nat_join 7 128 (n % 128) (by decide) (by omega), Nat.or_assoc, Nat.or_comm (n % 128) 128, ← Nat.or_assoc, Nat.or_self, nat_join 7 128 (n % 128) (by decide) (by omega)]
 rw [e4]
theorem shr7 (n : Nat) : (n : Int) / 128 = ((n / 128 : Nat) : Int) := by omega
theorem zyo {w : World} {base : Nat} {E : TypeId} {v : Value} {l : List UInt8} {b : UInt8} (h : w.ownsRow base E 1 v (l.length + 1) (bytesV l ++ [zit b])) : w.ownsRow base E 1 v (l ++ [b]).length (bytesV (l ++ [b])) := by
 simpa [bytesV] using h
theorem ycn {w : World} {base : Nat} {E : TypeId} {v : Value} {l : List UInt8} {b : UInt8} (h : w.ownsRow base E 1 v (l.length + 1) (bytesV l ++ [zit b])) : w.ownsRow base E 1 v (l.length + 1) (bytesV (l ++ [b])) := by
 simpa [bytesV] using h
theorem yca {n m : Nat} {l : List UInt8} (h : vput n = l ++ vput m) (hm : ¬ m < 128) : vput n = (l ++ [UInt8.ofNat (m % 128 + 128)]) ++ vput (m / 128) := by rw [h, zid hm]; simp
set_option maxHeartbeats 1000000 in
set_option maxRecDepth 100000 in
theorem zbm (n : Nat) (w : World) (hn : n < 18446744073709551616) :
  Calls Tryz.prog 38 #[.int .u64 (n : Int)] w fun e w' => e = .returned (.string ⟨(vput n).toArray⟩) ∧ Below w.heap.size w w' := by
 obtain ⟨i0, hi, hz0, hz1, hz2⟩ := info_parts zqb;have hlen := zae hn;go_enter Tryz.func38, Tryz.ntmps38;go_wp2;go_loopw [0, 3] (fun m v wr => ∃ (k : Nat) (l : List UInt8), vput n = l ++ vput k ∧ k < 18446744073709551616 ∧ m = .int .u64 (k : Int) ∧ wr.ownsRow w.heap.size 5 1 v l.length (bytesV l) ∧ Below w.heap.size w wr) (fun m _ _ => (intOf m).toNat)
 case atStart => exact ⟨n, [], rfl, hn, rfl, World.ownsRow_nil _ _ _ _, Below.refl _ _⟩
 case round =>
  obtain ⟨k, l, hv, hk, rfl, hT, hbel⟩ := hrel;have hB := hbel.size;have hl10 : l.length ≤ 10 := by rw [hv] at hlen; simp at hlen; omega
  have HV := Lib.hid hv;clear hv;by_cases hlt : k < 128
  ·have hd : decide (128 ≤ (k : Int)) = false := by simp; omega
   have hend := Lib.hid (show vput n = l ++ [UInt8.ofNat k] by rw [HV.out, zec hlt]);go_wp2_with (first
    | (at_builtin; refine wpList_append_own _ rfl (.tmp 14) (.tmp 17) 61 rfl w.heap.size 5 i0 (.int .u8 0) 1 1 Tryz.underlying61 hi hz0 hz1 hz2 rfl (by decide) u3 l.length (bytesV l) rfl (hT.alloc _) ⟨wr.heap.size, 0, none⟩ 1 1 [Value.int .u8 (k : Int)] rfl rfl (zby _ _ _) (by intro u hu; simp at hu; subst hu; rfl) (by unfold maxLen; omega) (by omega) (by simp; omega) ?_; intro v1 w1 hT1 hg1 _; have hb1 := zaj (hbel.alloc hB _) hg1 (by simp; omega) (hT.alloc _)))
   rw [yhh (b := UInt8.ofNat k) (by simp; omega)] at hT1;obtain ⟨A1, c1, rfl⟩ := zah hT1;have hs1 := zoh (P := Tryz.prog) 61 5 9 Tryz.underlying61 Tryz.underlying5 Tryz.underlying9 (ycn hT1) (by simp) (by omega);rw [hs1];go_wp2;go_ret;exact ⟨by rw [hend.out]; rfl, hb1⟩
  ·have hd : decide (128 ≤ (k : Int)) = true := by simp; omega
   have hnext := Lib.hid (yca HV.out hlt);have hlow := low7 k;rw [IntKind.wrap_u8'] at hlow;have hl9 : l.length ≤ 9 := by
    have h1 := hnext.out;have h2 := zpw (k / 128);rw [h1] at hlen;simp at hlen;omega
   go_wp2_with (first
    | (at_builtin; refine wpList_append_own _ rfl (.tmp 6) (.tmp 10) 61 rfl w.heap.size 5 i0 (.int .u8 0) 1 1 Tryz.underlying61 hi hz0 hz1 hz2 rfl (by decide) u3 l.length (bytesV l) rfl (hT.alloc _) ⟨wr.heap.size, 0, none⟩ 1 1 [zit (UInt8.ofNat (k % 128 + 128))] rfl rfl (zby _ _ _) (by intro u hu; simp at hu; subst hu; rfl) (by unfold maxLen; omega) (by omega) (by simp; omega) ?_; intro v1 w1 hT1 hg1 _; have hb1 := zaj (hbel.alloc hB _) hg1 (by simp; omega) (hT.alloc _); have hT2 := zyo hT1))
   go_roundw
   case rel => exact ⟨k / 128, _, hnext.out, by omega, valI (shr7 k), hT2, hb1⟩
   case measure => simp [intOf]; omega
end Go.Proofs.YtkejlnjnoiidnaaGreatDoor
end

section
namespace Go.Proofs.YtkejlnjnoiidnaaGreatDoor
open Go.RowKit As
theorem ziw (s : ByteArray) : Lib.strCells s = bytesV s.data.toList := rfl
theorem zjq (s : ByteArray) : s.data.toList.length = s.size := by simp
theorem zjm {w : World} {B : Nat} {e : TypeId} {size : Nat} {v : Value} {n : Nat} {xs : List Value} (h : w.ownsRow B e size v n xs) (hn : 0 < n) : ∃ g c, v = .slice (some ⟨g, 0, none⟩) n c ∧ B ≤ g ∧ g < w.heap.size := by
 rcases h.2 with ⟨_, h0⟩ | ⟨g, cap, cur, hv, hb, hh, _⟩
 ·omega
 ·exact ⟨g, cap, hv, hb, (Array.getElem?_eq_some_iff.1 hh).1⟩
def zcr (l : List Tok) (k : Nat) : List UInt8 := (l.take k).foldl zny []
theorem znh {l : List Tok} {k : Nat} {t : Tok} (h : l[k]? = some t) : zcr l (k + 1) = zny (zcr l k) t := by
 obtain ⟨hk, e⟩ := List.getElem?_eq_some_iff.1 h;unfold zcr;rw [List.take_succ_eq_append_getElem hk, e, List.foldl_append]; rfl
theorem zrd {l : List Tok} {k n : Nat} {t : Tok} (h : TOk (l.drop k) n) (hx : l[k]? = some t) (h1 : t.1.size ≠ 0) : t.2.1 = 0 ∧ t.2.2 = 0 ∧ n + t.1.size ≤ 20000 ∧ TOk (l.drop (k + 1)) (n + t.1.size) := by
 rw [zqo hx] at h;rcases h with ⟨_, a, b, c, d⟩ | ⟨a, _⟩
 ·exact ⟨a, b, c, d⟩
 ·exact absurd a h1
theorem zqg {l : List Tok} {k n : Nat} {t : Tok} (h : TOk (l.drop k) n) (hx : l[k]? = some t) (h1 : t.1.size = 0) : 4 ≤ t.2.2 ∧ t.2.2 ≤ 67 ∧ 1 ≤ t.2.1 ∧ t.2.1 ≤ (n : Int) ∧ n + t.2.2.toNat ≤ 20000 ∧ TOk (l.drop (k + 1)) (n + t.2.2.toNat) := by
 rw [zqo hx] at h;rcases h with ⟨a, _⟩ | ⟨_, a, b, c, _, d, e, f⟩
 ·exact absurd h1 a
 ·exact ⟨a, b, c, d, e, f⟩
theorem TOk.le {l : List Tok} {n : Nat} (h : TOk l n) : n ≤ 20000 := by
 cases l with
 | nil => exact h
 | cons t l => rcases h with ⟨_, _, _, a, _⟩ | ⟨_, _, _, _, _, _, a, _⟩ <;> omega
theorem zqk {w : World} {base : Nat} {E : TypeId} {v : Value} {n m : Nat} {l l' : List UInt8} (h : w.ownsRow base E 1 v n (bytesV l)) (hn : n = m) (hl : l = l') : w.ownsRow base E 1 v m (bytesV l') := by subst hn hl; exact h
theorem zov (a b : List UInt8) : bytesV a ++ bytesV b = bytesV (a ++ b) := by simp [bytesV]
theorem ydn (w : World) (o : Obj) : (w.alloc o).heap[w.heap.size]? = some o := by simp only [World.alloc, Array.getElem?_push_size]
theorem ycq {w : World} {B : Nat} {o : Obj} (h : w.heap[B]? = some o) : B < w.heap.size := (Array.getElem?_eq_some_iff.1 h).1
theorem yeg {w w' : World} {B : Nat} {o : Obj} (h : w.heap[B]? = some o) (hb : Below w.heap.size w w') : w'.heap[B]? = some o := (hb.block B (ycq h)).trans h
theorem zpy {w w' : World} {B base : Nat} {cs : Array Value} {t e : TypeId} {fz : Nat × Nat} {size n : Nat} {v : Value} {xs : List Value} (h : w.heap[B]? = some (.cells cs t fz)) (hT : w.ownsRow base e size v n xs) (hne : t ≠ e) (hg : w.grownBy w' v.ownBlock) : w'.heap[B]? = some (.cells cs t fz) := by
 refine (hg.block B (ycq h) fun e0 => ?_).trans h;rcases hT.2 with ⟨rfl, _⟩ | ⟨g, cap, cur, rfl, _, hh, _⟩
 ·simp [Value.ownBlock] at e0
 ·simp only [Value.ownBlock, Option.some.injEq] at e0;subst e0;rw [hh] at h;injection h with h
  injection h with _ h2
  exact hne h2.symm
theorem zib {w : World} {B j : Nat} {cs : Array Value} {t : TypeId} {fz : Nat × Nat} {u : Value} (h : w.heap[B]? = some (.cells cs t fz)) (hu : cs[j]? = some u) : w.cell? ⟨B, j, none⟩ = some u := by
 simp only [World.cell?, h]; exact hu
theorem zvm {P : Program} {w : World} {base : Nat} {E : TypeId} {v : Value} {l : List UInt8} (src e dst : TypeId) (hs : P.underlying src = some (.slice e)) (he : P.underlying e = some (.int .u8)) (hd : P.underlying dst = some .string)
  (h : w.ownsRow base E 1 v l.length (bytesV l)) : (convert src dst v).run P w = .ok (.string ⟨l.toArray⟩) w := by
 rcases h.2 with ⟨rfl, h0⟩ | ⟨g, cap, cur, rfl, _, hh, _⟩
 ·obtain rfl : l = [] := List.length_eq_zero_iff.1 h0;exact run_convert_bytes_nil w src e hs he 0 0 dst hd
 ·refine zjn w src e dst g cap l hs he hd fun i hi => ⟨?_, h.frozenAt i⟩
  rw [h.cellAt i (by omega), List.getElem?_map, List.getElem?_eq_getElem hi, getD_at l 0 i hi];rfl
set_option maxHeartbeats 2000000 in
set_option maxRecDepth 100000 in
theorem yhw (w : World) (n c : Nat) (A : Option Addr) (l : List Tok) (hl : Toks w w.heap.size A n l) (hn : n ≤ maxLen) :
  Calls Tryz.prog 115 #[.slice A n c] w fun e w' => ∃ v, e = .returned (.tuple #[.string (textOf l).1, v]) ∧ zck w' v (textOf l).2 ∧ Below w.heap.size w w' := by
 obtain ⟨i0, hi, hz0, hz1, hz2⟩ := info_parts zqb;have hlen := Lib.hid hl.len;by_cases hbad : (zaz l).1 ≠ 0
 ·have HB := Lib.hid hbad;clear hbad;go_enter Tryz.func115, Tryz.ntmps115;go_wp2_with fail;refine (zgh w n c A l hl hn).mono ?_;rintro e w1 ⟨v, rfl, hv, hb⟩;unfold zck at hv;have hR := Lib.hid (zxf HB.out);have hbad := HB.out;generalize hF : zaz l = f at *;obtain ⟨e1, p1⟩ := f;simp only at hv hbad;have HV := Lib.hid hv;clear hF;cases hv with
  | none => exact absurd rfl hbad
  | bare _ he =>
   clear hbad he;go_wp2;go_ret2;rw [hR.out];exact ⟨_, rfl, HV.out, hb⟩
  | at_ b o _ _ he h0 h1 =>
   clear hbad he h0 h1;go_wp2;go_ret2;rw [hR.out];exact ⟨_, rfl, HV.out, hb⟩
 ·have h0 : (zaz l).1 = 0 := by omega
  have hok := Lib.hid (zhu h0);have hpl := zfr h0;have hR := Lib.hid (zrm h0);have hP := Lib.hid hpl;clear hbad h0 hpl;unfold maxLen at hn;go_enter Tryz.func115, Tryz.ntmps115;go_wp2_with fail;refine (zgh w n c A l hl hn).mono ?_;rintro e w1 ⟨v, rfl, hv, hb⟩;rw [hP.out] at hv;obtain ⟨rfl, _⟩ := zbo.zero hv;have hl1 := hl.grow hb;clear hv;go_wp2;go_loopw [5, 7, 15] (fun v _ i wr => ∃ k : Nat, k ≤ n ∧ i = .int .i64 k ∧ TOk (l.drop k) (zcr l k).length ∧ wr.ownsRow w1.heap.size 5 1 v (zcr l k).length (bytesV (zcr l k)) ∧ Below w1.heap.size w1 wr) (fun _ _ i _ => n - (intOf i).toNat)
  case atStart => exact ⟨0, by omega, rfl, hok.out, World.ownsRow_nil _ _ _ _, Below.refl _ _⟩
  case round =>
   obtain ⟨k, hk, rfl, hto, hT, hbel⟩ := hrel;have hB := hbel.size;by_cases hlt : k < n
   ·obtain ⟨b, o, s, r, t, rfl, hb', hx, hf, c0, c1, c2⟩ := hl1.at_ hlt;have c0 := (hbel.cell (p := ⟨b, o + k * 3, none⟩) (by simp; omega)).trans c0;have c1 := (hbel.cell (p := ⟨b, o + k * 3 + 1, none⟩) (by simp; omega)).trans c1;have c2 := (hbel.cell (p := ⟨b, o + k * 3 + 2, none⟩) (by simp; omega)).trans c2;have hsf := Lib.hid (znh hx);by_cases h1 : s.size = 0
    ·obtain ⟨q0, q1, q2, q3, q4, q5⟩ := zqg hto hx h1;simp only at q0 q1 q2 q3 q4 q5;have hst := Lib.hid (show zcr l (k + 1) = rep (zcr l k) r.toNat t.toNat by rw [hsf.out]; unfold zny; rw [if_neg (by simpa using h1)]);obtain ⟨z, rfl⟩ := Int.eq_ofNat_of_zero_le (show 0 ≤ t by omega);obtain ⟨y, rfl⟩ := Int.eq_ofNat_of_zero_le (show 0 ≤ r by omega);rw [Int.toNat_natCast, Int.toNat_natCast] at hst;rw [Int.toNat_natCast] at q4 q5;have Q5 := Lib.hid q5;have X := Lib.hid hx;have hs0 : s = ⟨#[]⟩ := by
      apply ByteArray.ext;apply Array.eq_empty_of_size_eq_zero;simpa using h1
     subst hs0;have hlr := Lib.hid (zqs (zcr l k) y);have z0 : (⟨#[]⟩ : ByteArray).size = 0 := rfl;clear hto hx hf h1 q5 hsf;generalize hacc : zcr l k = acc at *;have HA := Lib.hid hacc;clear hacc;go_wp2_with (first
      | (at_builtin; refine Lib.wpList_append_own_string _ rfl (.tmp 19) (.tmp 21) 61 9 rfl w1.heap.size 5 i0 Tryz.underlying61 Tryz.underlying9 hi hz0 hz1 hz2 u5 acc.length (bytesV acc) rfl (hT.alloc _) ⟨#[]⟩ rfl (by unfold maxLen; omega) (by omega) (by simp; omega) ?_; intro v1 w2 hT1 hg1 _; have hb1 := zaj (hbel.alloc hB _) hg1 (by simp; omega) (hT.alloc _); have hk1 := zpy (ydn wr _) (hT.alloc _) (by decide) hg1; have d1 := zib (j := 1) hk1 rfl; have d2 := zib (j := 2) hk1 rfl))
     rw [ziw, zov] at hT1;have hT2 : w2.ownsRow w1.heap.size 5 1 v1 (rep acc y 0).length (bytesV (rep acc y 0)) := zqk hT1 (by rw [z0]; rfl) (by simp [rep]);clear hT1 hT;have hB1 := hb1.size;clear hg1 hbel c0 c1 c2 hB;generalize hBB : wr.heap.size = B at *;clear hBB wr;go_loopw [5, 25] (fun v i wx => ∃ j : Nat, j ≤ z ∧ i = .int .i64 j ∧ wx.ownsRow w1.heap.size 5 1 v (rep acc y j).length (bytesV (rep acc y j)) ∧ wx.heap[B]? = some (.cells #[.string ⟨#[]⟩, .int .i64 y, .int .i64 z] 174 (0, 0)) ∧ Below w1.heap.size w1 wx) (fun _ i _ => z - (intOf i).toNat)
     case atStart => exact ⟨0, by omega, rfl, hT2, hk1, hb1⟩
     case round =>
      clear hT2 hk1 d1 d2 hb1;obtain ⟨j, hj, rfl, hT, hk1, hb1⟩ := hrel;have hB2 := hb1.size;have d1 := zib (j := 1) hk1 rfl;have d2 := zib (j := 2) hk1 rfl;have hL := hlr.out j;by_cases hlt2 : j < z
      ·have hstep := Lib.hid (show rep acc y (j + 1) = rep acc y j ++ [(rep acc y j).getD ((rep acc y j).length - y) 0] from rfl);obtain ⟨x, hx⟩ : ∃ x, x = rep acc y j := ⟨_, rfl⟩;rw [← hx] at hT hL;have HX := Lib.hid hx;clear hx;obtain ⟨g, cp, rfl, hg0, hg1⟩ := zjm hT (by omega);have hin : x.length - y < x.length := by omega
       have e0 : wr.cell? ⟨g, x.length - y, none⟩ = some (zit (x.getD (x.length - y) 0)) := by
        rw [hT.cellAt _ (by omega), List.getElem?_map, List.getElem?_eq_getElem hin, getD_at _ _ _ hin]; rfl
       have hsub : (x.length : Int) - (y : Int) = ((x.length - y : Nat) : Int) := by omega
       have hlb : B < wr.heap.size := ycq hk1;have hxl : y ≤ x.length := by omega
       have hx2 : x.length ≤ 20000 := by omega
       clear hL;generalize hby : x.getD (x.length - y) 0 = by_ at *;have HBY := Lib.hid hby;clear hby;go_wp2_with (first
        | (at_builtin; refine wpList_append_own _ rfl (.tmp 27) (.tmp 36) 61 rfl w1.heap.size 5 i0 (.int .u8 0) 1 1 Tryz.underlying61 hi hz0 hz1 hz2 rfl (by decide) _ x.length (bytesV x) rfl (hT.alloc _) ⟨wr.heap.size, 0, none⟩ 1 1 [zit by_] rfl rfl (zby _ _ _) (by intro u hu; simp at hu; subst hu; rfl) (by unfold maxLen; omega) (by omega) (by simp; omega) ?_; intro v2 w3 hT3 hg3 _; have hb3 := zaj (hb1.alloc hB2 _) hg3 (by simp; omega) (hT.alloc _); have hk3 := zpy (yeg hk1 (zaa wr _)) (hT.alloc _) (by decide) hg3; have hT4 := zyo hT3))
       go_roundw
       case rel => exact ⟨j + 1, by omega, by go_num, zqk hT4 (by rw [hstep.out, ← HX.out, HBY.out]) (by rw [hstep.out, ← HX.out, HBY.out]), hk3, hb3⟩
       case measure => simp [intOf]; omega
      ·obtain rfl : j = z := by omega
       go_wp2;go_roundw
       case rel => exact ⟨k + 1, by omega, by go_num, by rw [hst.out, hL]; exact Q5.out, zqk hT (by rw [hst.out]) (by rw [hst.out]), hb1⟩
       case measure => simp [intOf]; omega
    ·obtain ⟨q0, q1, q2, q3⟩ := zrd hto hx h1;simp only at q0 q1 q2 q3;subst q0 q1;have hst := Lib.hid (show zcr l (k + 1) = zcr l k ++ s.data.toList by rw [hsf.out]; unfold zny; rw [if_pos h1]);have Q3 := Lib.hid q3;have X := Lib.hid hx;clear hto hx hf h1 q3 hsf;generalize hacc : zcr l k = acc at *;have HA := Lib.hid hacc;clear hacc;go_wp2_with (first
      | (at_builtin; refine Lib.wpList_append_own_string _ rfl (.tmp 19) (.tmp 21) 61 9 rfl w1.heap.size 5 i0 Tryz.underlying61 Tryz.underlying9 hi hz0 hz1 hz2 u5 acc.length (bytesV acc) rfl (hT.alloc _) s rfl (by unfold maxLen; omega) (by omega) (by simp; omega) ?_; intro v1 w2 hT1 hg1 _; have hb1 := zaj (hbel.alloc hB _) hg1 (by simp; omega) (hT.alloc _); have hk1 := zpy (ydn wr _) (hT.alloc _) (by decide) hg1; have d1 := zib (j := 1) hk1 rfl; have d2 := zib (j := 2) hk1 rfl))
     rw [ziw, zov] at hT1;go_loopw [5, 25] (fun v i wx => v = v1 ∧ i = .int .i64 0 ∧ wx = w2) (fun _ i _ => 0 - (intOf i).toNat)
     case atStart => exact ⟨rfl, rfl, rfl⟩
     case round =>
      obtain ⟨rfl, rfl, rfl⟩ := hrel;go_wp2;go_roundw
      case rel => exact ⟨k + 1, by omega, by go_num, by rw [hst.out, List.length_append, zjq]; exact Q3.out, zqk hT1 (by rw [hst.out, List.length_append, zjq]) (by rw [hst.out]), hb1⟩
      case measure => simp [intOf]; omega
   ·obtain rfl : k = n := by omega
    have hend := Lib.hid (show zcr l k = ztn l by unfold zcr ztn; rw [List.take_of_length_le (by rw [hlen.out]; exact Nat.le_refl _)]);rw [hend.out] at hT;have hs1 := zvm (P := Tryz.prog) 61 5 9 Tryz.underlying61 Tryz.underlying5 Tryz.underlying9 hT;go_wp2;go_ret2;rw [hR.out];exact ⟨_, rfl, .none, hb.trans (hbel.mono hb.size)⟩
end Go.Proofs.YtkejlnjnoiidnaaGreatDoor
end
