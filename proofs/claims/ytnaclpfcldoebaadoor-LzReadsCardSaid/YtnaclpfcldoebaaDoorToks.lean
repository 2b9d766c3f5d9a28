/- Lists of tokens in memory. -/
import Derived.Test.YtnaclpfcldoebaaDoorTextLaw
import Derived.Test.YtnaclpfcldoebaaDoorVecRight
namespace Go.Proofs.YtnaclpfcldoebaaDoor
open Go.RowKit
/-- Fits its kind. -/
def tokFits (x : Tok) : Prop := x.1.size ≤ 140737488351232 ∧ (-9223372036854775808 ≤ x.2.1 ∧ x.2.1 ≤ 9223372036854775807) ∧ (-9223372036854775808 ≤ x.2.2 ∧ x.2.2 ≤ 9223372036854775807)
def Toks (w : World) (B : Nat) (A : Option Addr) (n : Nat) (l : List Tok) : Prop := Sl w B 3 A n (l.flatMap tokCells) ∧ ∀ x ∈ l, tokFits x
section
variable {w w' : World} {B n : Nat} {A : Option Addr} {l : List Tok}
theorem Toks.len (h : Toks w B A n l) : l.length = n := slk_len tokCells 3 (by omega) (fun _ => rfl) h.1
theorem Toks.at_ (h : Toks w B A n l) {k : Nat} (hk : k < n) :
    ∃ b o s r t, A = some ⟨b, o, none⟩ ∧ b < B ∧ l[k]? = some (s, r, t) ∧ tokFits (s, r, t) ∧ w.cell? ⟨b, o + k * 3, none⟩ = some (.string s) ∧ w.cell? ⟨b, o + k * 3 + 1, none⟩ = some (.int .i64 r) ∧ w.cell? ⟨b, o + k * 3 + 2, none⟩ = some (.int .i64 t) := by
  obtain ⟨b, o, x, e, hb, hx, hc⟩ := slk_at tokCells 3 (fun _ => rfl) h.1 h.len hk
  obtain ⟨s, r, t⟩ := x
  exact ⟨b, o, s, r, t, e, hb, hx, h.2 _ (List.mem_of_getElem? hx), hc 0 _ rfl, hc 1 _ rfl, hc 2 _ rfl⟩
theorem Toks.below (h : Toks w B A n l) (hb : Below B w w') : Toks w' B A n l := ⟨h.1.below hb, h.2⟩
theorem Toks.grow (h : Toks w w.heap.size A n l) (hb : Below w.heap.size w w') : Toks w' w'.heap.size A n l := ⟨h.1.grow hb, h.2⟩
end
theorem str_empty (s : ByteArray) : s.toList.isEmpty = decide (s.size = 0) := by
  rw [ByteArray.toList_eq]
  by_cases h : s.size = 0
  · rw [decide_eq_true h]
    have : s.data.toList = [] := by
      apply List.length_eq_zero_iff.1
      simpa using h
    rw [this]; rfl
  · rw [decide_eq_false h]
    rw [List.isEmpty_eq_false_iff]
    intro e
    apply h
    have := congrArg List.length e
    simpa using this
theorem str_no {s : ByteArray} (h : s.size = 0) : s.toList.isEmpty = true := by rw [str_empty, decide_eq_true h]
theorem str_yes {s : ByteArray} (h : s.size ≠ 0) : s.toList.isEmpty = false := by rw [str_empty, decide_eq_false h]
end Go.Proofs.YtnaclpfcldoebaaDoor
