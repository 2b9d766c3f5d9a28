/- Two structs are equal if all their fields are: the model's test, at the types of this program. -/
import Derived.Test.YtoaekpnppinolaaEqual
import Derived.Laws.StructEq
import Derived.KernelRfl
namespace Go.Proofs.Ytoaekpnppinolaa
open Go.RowKit
/-- Fields by name, type and offset alone. -/
def eqF (P : Program) (d : Nat) (xs ys : Array Value) : List (String × TypeId × Nat) → Sem Bool
  | [] => pure true
  | f :: fs =>
    if f.1 ≠ "_" then do
      let a ← part f.2.1 xs f.2.2
      let b ← part f.2.1 ys f.2.2
      let r ← Op.equalIn d f.2.1 a b
      if (!r) = true then pure false else eqF P d xs ys fs
    else eqF P d xs ys fs
theorem eqFields_eq (P : Program) (d : Nat) (xs ys : Array Value) (fs : List Field) : Op.eqFields d xs ys fs = eqF P d xs ys (fs.map fun f => (f.name, f.type, f.offset)) := by
  induction fs with
  | nil => rfl
  | cons f fs ih => simp only [Op.eqFields, List.map_cons, eqF, ih]
theorem beq_str (s t : ByteArray) : (s.toList == t.toList) = decide (s = t) := by
  by_cases h : s = t
  · subst h; simp
  · have e := toList_ne h
    rw [decide_eq_false h]
    simpa using e
theorem entFields : (Try.prog.fieldsOf 69).toList.map (fun f => (f.name, f.type, f.offset)) = [("Replica", 3, 0), ("Time", 3, 1)] := by kernel_rfl
@[go_sem] theorem eqEnt (d : Nat) (r t r' t' : Int) (w : World) : (Op.equalIn (d + 2) 69 (.agg #[.int .i64 r, .int .i64 t]) (.agg #[.int .i64 r', .int .i64 t'])).run Try.prog w = .ok (decide ((r, t) = (r', t'))) w := by
  rw [run_equalIn_agg w (d + 1) _ _ _ (by kernel_rfl) (by kernel_rfl), eqFields_eq Try.prog, entFields]
  by_cases h1 : r = r' <;> by_cases h2 : t = t' <;> simp [eqF, go_sem, h1, h2]
theorem tokFields : (Try.prog.fieldsOf 57).toList.map (fun f => (f.name, f.type, f.offset)) = [("Own", 9, 0), ("Back", 3, 1), ("Size", 3, 2)] := by kernel_rfl
@[go_sem] theorem eqTok (d : Nat) (s s' : ByteArray) (r t r' t' : Int) (w : World) : (Op.equalIn (d + 2) 57 (.agg #[.string s, .int .i64 r, .int .i64 t]) (.agg #[.string s', .int .i64 r', .int .i64 t'])).run Try.prog w = .ok (decide ((s, r, t) = (s', r', t'))) w := by
  rw [run_equalIn_agg w (d + 1) _ _ _ (by kernel_rfl) (by kernel_rfl), eqFields_eq Try.prog, tokFields]
  by_cases h0 : s = s' <;> by_cases h1 : r = r' <;> by_cases h2 : t = t' <;> simp [eqF, go_sem, beq_str, h0, h1, h2]
theorem idFields : (Try.prog.fieldsOf 49).toList.map (fun f => (f.name, f.type, f.offset)) = [("Time", 3, 0), ("Replica", 3, 1)] := by kernel_rfl
@[go_sem] theorem eqId (d : Nat) (r t r' t' : Int) (w : World) : (Op.equalIn (d + 2) 49 (.agg #[.int .i64 r, .int .i64 t]) (.agg #[.int .i64 r', .int .i64 t'])).run Try.prog w = .ok (decide ((r, t) = (r', t'))) w := by
  rw [run_equalIn_agg w (d + 1) _ _ _ (by kernel_rfl) (by kernel_rfl), eqFields_eq Try.prog, idFields]
  by_cases h1 : r = r' <;> by_cases h2 : t = t' <;> simp [eqF, go_sem, h1, h2]
theorem wrFields : (Try.prog.fieldsOf 66).toList.map (fun f => (f.name, f.type, f.offset)) = [("Id", 49, 0), ("Kind", 3, 2), ("Key", 9, 3), ("Value", 9, 4), ("N", 3, 5)] := by kernel_rfl
@[go_sem] theorem eqWr (d : Nat) (a b c a' b' c' n n' : Int) (s t s' t' : ByteArray) (w : World) : (Op.equalIn (d + 3) 66 (.agg #[.int .i64 a, .int .i64 b, .int .i64 c, .string s, .string t, .int .i64 n]) (.agg #[.int .i64 a', .int .i64 b', .int .i64 c', .string s', .string t', .int .i64 n'])).run Try.prog w = .ok (decide ((a, b, c, s, t, n) = (a', b', c', s', t', n'))) w := by
  rw [run_equalIn_agg w (d + 2) _ _ _ (by kernel_rfl) (by kernel_rfl), eqFields_eq Try.prog, wrFields]
  by_cases h0 : a = a'
  · by_cases h1 : b = b'
    · by_cases h2 : c = c'
      · by_cases h3 : s = s'
        · by_cases h4 : t = t'
          · by_cases h5 : n = n' <;> simp [eqF, go_sem, h0, h1, h2, h3, h4, h5]
          · simp [eqF, go_sem, beq_str, h0, h1, h2, h3, h4]
        · simp [eqF, go_sem, beq_str, h0, h1, h2, h3]
      · simp [eqF, go_sem, h0, h1, h2]
    · simp [eqF, go_sem, h0, h1]
  · simp [eqF, go_sem, h0]
theorem eqEnt_no {a1 a2 b1 b2 : Int} (h : ¬ (a1, a2) = (b1, b2)) (w : World) : (Op.equalIn 10000 69 (.agg #[.int .i64 a1, .int .i64 a2]) (.agg #[.int .i64 b1, .int .i64 b2])).run Try.prog w = .ok false w :=
  (eqEnt 9998 a1 a2 b1 b2 w).trans (by rw [decide_eq_false h])
theorem eqTok_no {a1 b1 : ByteArray} {a2 a3 b2 b3 : Int} (h : ¬ (a1, a2, a3) = (b1, b2, b3)) (w : World) : (Op.equalIn 10000 57 (.agg #[.string a1, .int .i64 a2, .int .i64 a3]) (.agg #[.string b1, .int .i64 b2, .int .i64 b3])).run Try.prog w = .ok false w :=
  (eqTok 9998 a1 b1 a2 a3 b2 b3 w).trans (by rw [decide_eq_false h])
theorem eqWr_no {a1 a2 a3 a6 b1 b2 b3 b6 : Int} {a4 a5 b4 b5 : ByteArray} (h : ¬ (a1, a2, a3, a4, a5, a6) = (b1, b2, b3, b4, b5, b6)) (w : World) : (Op.equalIn 10000 66 (.agg #[.int .i64 a1, .int .i64 a2, .int .i64 a3, .string a4, .string a5, .int .i64 a6]) (.agg #[.int .i64 b1, .int .i64 b2, .int .i64 b3, .string b4, .string b5, .int .i64 b6])).run Try.prog w = .ok false w :=
  (eqWr 9997 a1 a2 a3 b1 b2 b3 a6 b6 a4 a5 b4 b5 w).trans (by rw [decide_eq_false h])
end Go.Proofs.Ytoaekpnppinolaa
