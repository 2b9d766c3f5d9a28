/- Two structs are equal if all their fields are: the model's test, at the types of this program. -/
import Derived.Test.YtnaclpfcldoebaaDoorEqual
import Derived.Laws.StructEq
import Derived.KernelRfl
namespace Go.Proofs.YtnaclpfcldoebaaDoor
open Go.RowKit
/-- Fields by name, type and offset alone. -/
def eqF (P : Program) (d : Nat) (xs ys : Array Value) : List (String × TypeId × Nat) → Sem Bool
  | [] => pure true
  | f :: fs =>
    if f.1 ≠ "_" then do
      let a ← part f.2.1 xs f.2.2
      let b ← part f.2.1 ys f.2.2
      let r ← Op.equalIn d f.2.1 a b
      if (!r) = true then pure false else eqF P d xs ys fs
    else eqF P d xs ys fs
theorem eqFields_eq (P : Program) (d : Nat) (xs ys : Array Value) (fs : List Field) : Op.eqFields d xs ys fs = eqF P d xs ys (fs.map fun f => (f.name, f.type, f.offset)) := by
  induction fs with
  | nil => rfl
  | cons f fs ih => simp only [Op.eqFields, List.map_cons, eqF, ih]
theorem beq_str (s t : ByteArray) : (s.toList == t.toList) = decide (s = t) := by
  by_cases h : s = t
  · subst h; simp
  · have e := toList_ne h
    rw [decide_eq_false h]
    simpa using e
theorem entFields : (Tryd.prog.fieldsOf 35).toList.map (fun f => (f.name, f.type, f.offset)) = [("Replica", 3, 0), ("Time", 3, 1)] := by kernel_rfl
@[go_sem] theorem eqEnt (d : Nat) (r t r' t' : Int) (w : World) : (Op.equalIn (d + 2) 35 (.agg #[.int .i64 r, .int .i64 t]) (.agg #[.int .i64 r', .int .i64 t'])).run Tryd.prog w = .ok (decide ((r, t) = (r', t'))) w := by
  rw [run_equalIn_agg w (d + 1) _ _ _ (by kernel_rfl) (by kernel_rfl), eqFields_eq Tryd.prog, entFields]
  by_cases h1 : r = r' <;> by_cases h2 : t = t' <;> simp [eqF, go_sem, h1, h2]
theorem tokFields : (Tryd.prog.fieldsOf 48).toList.map (fun f => (f.name, f.type, f.offset)) = [("Own", 9, 0), ("Back", 3, 1), ("Size", 3, 2)] := by kernel_rfl
@[go_sem] theorem eqTok (d : Nat) (s s' : ByteArray) (r t r' t' : Int) (w : World) : (Op.equalIn (d + 2) 48 (.agg #[.string s, .int .i64 r, .int .i64 t]) (.agg #[.string s', .int .i64 r', .int .i64 t'])).run Tryd.prog w = .ok (decide ((s, r, t) = (s', r', t'))) w := by
  rw [run_equalIn_agg w (d + 1) _ _ _ (by kernel_rfl) (by kernel_rfl), eqFields_eq Tryd.prog, tokFields]
  by_cases h0 : s = s' <;> by_cases h1 : r = r' <;> by_cases h2 : t = t' <;> simp [eqF, go_sem, beq_str, h0, h1, h2]
theorem eqEnt_no {a1 a2 b1 b2 : Int} (h : ¬ (a1, a2) = (b1, b2)) (w : World) : (Op.equalIn 10000 35 (.agg #[.int .i64 a1, .int .i64 a2]) (.agg #[.int .i64 b1, .int .i64 b2])).run Tryd.prog w = .ok false w :=
  (eqEnt 9998 a1 a2 b1 b2 w).trans (by rw [decide_eq_false h])
theorem eqTok_no {a1 b1 : ByteArray} {a2 a3 b2 b3 : Int} (h : ¬ (a1, a2, a3) = (b1, b2, b3)) (w : World) : (Op.equalIn 10000 48 (.agg #[.string a1, .int .i64 a2, .int .i64 a3]) (.agg #[.string b1, .int .i64 b2, .int .i64 b3])).run Tryd.prog w = .ok false w :=
  (eqTok 9998 a1 b1 a2 a3 b2 b3 w).trans (by rw [decide_eq_false h])
end Go.Proofs.YtnaclpfcldoebaaDoor
