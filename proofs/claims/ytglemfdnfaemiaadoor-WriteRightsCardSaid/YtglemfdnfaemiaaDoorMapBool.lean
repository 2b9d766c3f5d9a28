/- A look-up in a map of yes and no that the call made itself, at the operation; what such a map says of a list of keys. Any program. -/
import Derived.Test.YtglemfdnfaemiaaDoorMem
import Derived.Maps.Own
import Derived.Maps.OwnOps
import Derived.Maps.OwnSet
import Derived.Maps.Views
namespace Go.Proofs.YtglemfdnfaemiaaDoor
open Go.RowKit Go.Maps
theorem wpList_lookup_own_bool {P : Program} (w : World) {ops : Array Oper} {rest : List Oper} {o : Oper} {a : Act} {Q : Exit → Act → World → Prop}
    (hg : o.guard = none) (m x : Operand) (t : TypeId) (hop : o.op = Op.lookup t m x false)
    (k e : TypeId) (K : Keyed P k) (ht : P.underlying t = some (.map k e)) (he : P.underlying e = some .bool) (hz : (zeroValue e).run P w = .ok (.bool false) w) (b n : Nat) (D : DataW Unit)
    (hm : a.eval m = .map (some b)) (hown : w.ownsMap P k (plainElem P e) b n D) (key : Value) (kl : Lit) (hx : a.eval x = key) (hkey : keyOf P k key = some kl)
    (c : Bool) (hat : D.atKey kl (.lit (.bool false)) = .lit (.bool c)) (hK : wpList P ops Q rest (a.put o.dst (.bool c)) w) :
    wpList P ops Q (o :: rest) a w := by
  refine wpList_plain hg fun K' hK' => ?_
  obtain ⟨v, ps, hrun, hv⟩ := hown.lookup K ht hz (plainElem_bool he false) hkey
  rw [hat] at hv
  have hvc : v = .bool c := by
    unfold plainElem at hv
    rw [he] at hv
    cases v <;> simp at hv
    rw [hv.1]
  subst hvc
  unfold Oper.wp
  simp [execOp, hop, hm, hx, hrun, Result.andThen]
  exact hK' _ _ hK
theorem lit_str_ne {s t : ByteArray} (h : ¬ s = t) : Lit.string s.data.toList ≠ Lit.string t.data.toList := by
  intro e
  apply h
  injection e with e
  obtain ⟨⟨a⟩⟩ := s
  obtain ⟨⟨b⟩⟩ := t
  simp at e
  rw [e]
/-- The map says yes to these keys alone. -/
def SaysOf (D : DataW Unit) (T : List ByteArray) : Prop := ∀ s : ByteArray, D.atKey (.string s.data.toList) (.lit (.bool false)) = .lit (.bool (decide (s ∈ T)))
theorem SaysOf.nil : SaysOf (.map []) [] := fun _ => rfl
theorem SaysOf.put {D : DataW Unit} {T : List ByteArray} {s : ByteArray} (h : SaysOf D T) (hD : IsMap D) : SaysOf (D.put (.string s.data.toList) (.lit (.bool true))) (T ++ [s]) := by
  intro x
  by_cases hx : x = s
  · subst hx
    rw [atKey_put_same hD (by simp [WideAt.IsKeyLit])]
    simp
  · rw [atKey_put_other (lit_str_ne hx), h x]
    simp [hx]
/-- The map holds the numbers below m, each once. -/
def Upto (D : DataW Unit) (m : Nat) : Prop := Maps.size D = m ∧ (∀ n : Int, Maps.has D (.int .i64 n) = decide (0 ≤ n ∧ n < (m : Int))) ∧ Maps.Tidy D
theorem Upto.nil : Upto (.map []) 0 := ⟨rfl, fun n => (show false = decide (0 ≤ n ∧ n < ((0 : Nat) : Int)) from (decide_eq_false (by omega)).symm), ⟨[], rfl, by simp⟩⟩
theorem Upto.old {D : DataW Unit} {m : Nat} {n : Int} (h : Upto D m) (h0 : 0 ≤ n) (h1 : n < (m : Int)) : Upto (D.put (.int .i64 n) (.lit (.bool true))) m := by
  obtain ⟨a, b, c⟩ := h
  refine ⟨?_, fun x => ?_, c.put (by simp [WideAt.IsKeyLit]) _⟩
  · rw [size_put c, b n, decide_eq_true ⟨h0, h1⟩, if_pos rfl, a]
  · by_cases hx : x = n
    · subst hx
      rw [has_put_same c.isMap (by simp [WideAt.IsKeyLit]), decide_eq_true ⟨h0, h1⟩]
    · rw [has_put_other (by intro e; injection e with _ e; exact hx e), b x]
theorem Upto.new {D : DataW Unit} {m : Nat} (h : Upto D m) : Upto (D.put (.int .i64 (m : Int)) (.lit (.bool true))) (m + 1) := by
  obtain ⟨a, b, c⟩ := h
  refine ⟨?_, fun x => ?_, c.put (by simp [WideAt.IsKeyLit]) _⟩
  · rw [size_put c, b (m : Int), decide_eq_false (by omega), if_neg (by simp), a]
  · by_cases hx : x = (m : Int)
    · subst hx
      rw [has_put_same c.isMap (by simp [WideAt.IsKeyLit]), decide_eq_true (by omega)]
    · rw [has_put_other (by intro e; injection e with _ e; exact hx e), b x, decide_eq_decide]
      omega
end Go.Proofs.YtglemfdnfaemiaaDoor
