/- Plain facts on tables of keys: each key once, and of each which one it is. No program in sight. -/
import Derived.Test.YtoaekpnppinolaaEqual
import Derived.Maps.Own
import Derived.Maps.OwnOps
import Derived.Maps.OwnSet
import Derived.Maps.Views
namespace Go.Proofs.Ytoaekpnppinolaa.Keys
open Go.RowKit Go.Maps
abbrev Tab := List ByteArray × List Int
def step (t : Tab) (s : ByteArray) : Tab := if s ∈ t.1 then (t.1, t.2 ++ [(t.1.idxOf s : Int)]) else (t.1 ++ [s], t.2 ++ [(t.1.length : Int)])
def tab (l : List ByteArray) : Tab := l.foldl step ([], [])
theorem tab_snoc (l : List ByteArray) (s : ByteArray) : tab (l ++ [s]) = step (tab l) s := by simp [tab, List.foldl_append]
theorem step_in {t : Tab} {s : ByteArray} (h : s ∈ t.1) : step t s = (t.1, t.2 ++ [(t.1.idxOf s : Int)]) := by unfold step; rw [if_pos h]
theorem step_out {t : Tab} {s : ByteArray} (h : ¬ s ∈ t.1) : step t s = (t.1 ++ [s], t.2 ++ [(t.1.length : Int)]) := by unfold step; rw [if_neg h]
theorem tab_take (l : List ByteArray) (k : Nat) (s : ByteArray) (h : l[k]? = some s) : tab (l.take (k + 1)) = step (tab (l.take k)) s := by
  have hk : k < l.length := (List.getElem?_eq_some_iff.1 h).1
  rw [List.take_succ_eq_append_getElem hk, tab_snoc]
  rw [List.getElem?_eq_getElem hk] at h
  injection h with h
  rw [h]
theorem tab_len (l : List ByteArray) : (tab l).1.length ≤ l.length ∧ (tab l).2.length = l.length ∧ (tab l).1.Nodup ∧ ∀ s ∈ (tab l).1, s ∈ l := by
  suffices h : ∀ r : List ByteArray, (tab r.reverse).1.length ≤ r.length ∧ (tab r.reverse).2.length = r.length ∧ (tab r.reverse).1.Nodup ∧ ∀ s ∈ (tab r.reverse).1, s ∈ r by
    have := h l.reverse
    simpa using this
  intro r
  induction r with
  | nil => exact ⟨Nat.le_refl _, rfl, List.nodup_nil, fun s hs => by simp [tab] at hs⟩
  | cons s r ih =>
    obtain ⟨h1, h2, h3, h4⟩ := ih
    rw [List.reverse_cons, tab_snoc]
    by_cases hs : s ∈ (tab r.reverse).1
    · rw [step_in hs]
      exact ⟨by simp; omega, by simp [h2], h3, fun x hx => by simp [h4 x hx]⟩
    · rw [step_out hs]
      refine ⟨by simp; omega, by simp [h2], ?_, fun x hx => ?_⟩
      · rw [List.nodup_append]
        exact ⟨h3, by simp, fun a ha b hb => by simp at hb; subst hb; rintro rfl; exact hs ha⟩
      · simp at hx
        rcases hx with hx | rfl
        · simp [h4 x hx]
        · simp
/-- What the map says of the table. -/
def Tied (D : DataW Unit) (T : List ByteArray) : Prop := ∀ s : ByteArray, Maps.has D (.string s.data.toList) = decide (s ∈ T) ∧ (s ∈ T → D.atKey (.string s.data.toList) (.lit (.int .i64 0)) = .lit (.int .i64 (T.idxOf s : Int)))
theorem lit_ne {s t : ByteArray} (h : ¬ s = t) : Lit.string s.data.toList ≠ Lit.string t.data.toList := by
  intro e
  apply h
  injection e with e
  obtain ⟨⟨a⟩⟩ := s
  obtain ⟨⟨b⟩⟩ := t
  simp at e
  rw [e]
theorem Tied.nil : Tied (.map []) [] := fun s => ⟨by simp [Maps.has], fun h => by simp at h⟩
theorem Tied.put {D : DataW Unit} {T : List ByteArray} {s : ByteArray} (h : Tied D T) (hD : IsMap D) (hs : ¬ s ∈ T) : Tied (D.put (.string s.data.toList) (.lit (.int .i64 (T.length : Int)))) (T ++ [s]) := by
  intro x
  by_cases hx : x = s
  · subst hx
    refine ⟨?_, fun _ => ?_⟩
    · rw [has_put_same hD (by simp [WideAt.IsKeyLit])]
      simp
    · rw [atKey_put_same hD (by simp [WideAt.IsKeyLit])]
      rw [List.idxOf_append, if_neg hs]
      simp
  · refine ⟨?_, fun hm => ?_⟩
    · rw [has_put_other (lit_ne hx), (h x).1]
      simp [hx]
    · rw [atKey_put_other (lit_ne hx)]
      have hm' : x ∈ T := by simpa [hx] using hm
      rw [(h x).2 hm', List.idxOf_append, if_pos hm']
end Go.Proofs.Ytoaekpnppinolaa.Keys
