/- A map of texts by small numbers that the call made itself, told as a function. -/
import Derived.Test.YthodlccjnbadhaaDoorProg
import Derived.Test.YthodlccjnbadhaaDoorMem
import Derived.WalkKit
import Derived.Maps.Own
import Derived.Maps.OwnOps
import Derived.Maps.OwnSet
import Derived.Maps.Views
import Derived.Maps.StringElems
namespace Go.Proofs.YthodlccjnbadhaaDoor
set_option linter.unusedSimpArgs false
set_option linter.unusedVariables false
open Go.RowKit Go.Maps Go.ChangeMaps Go.MapKept
theorem im_under : Tryd.prog.underlying 49 = some (.map 3 9) := by kernel_rfl
theorem im_int : Tryd.prog.underlying 3 = some (.int .i64) := by kernel_rfl
theorem im_str : Tryd.prog.underlying 9 = some .string := by kernel_rfl
theorem im_law : Keyed Tryd.prog 3 := int_keyed im_int
theorem im_zero (w : World) : (zeroValue 9).run Tryd.prog w = .ok (.string ⟨#[]⟩) w := by kernel_rfl
theorem str_of {s t : ByteArray} (h : s.data.toList = t.data.toList) : s = t := by
  obtain ⟨⟨a⟩⟩ := s
  obtain ⟨⟨b⟩⟩ := t
  simp at h
  rw [h]
/-- What the datum says. -/
structure MapIs (D : DataW Unit) (f : Nat → Option ByteArray) : Prop where
  map : IsMap D
  yes : ∀ i s, f i = some s → s.size ≤ maxLen ∧ Maps.has D (.int .i64 (i : Int)) = true ∧ ∀ z, D.atKey (.int .i64 (i : Int)) z = .lit (.string s.data.toList)
  no : ∀ x : Int, (∀ i : Nat, x = (i : Int) → f i = none) → Maps.has D (.int .i64 x) = false
def upd (f : Nat → Option ByteArray) (i : Nat) (s : ByteArray) : Nat → Option ByteArray := fun j => if j = i then some s else f j
theorem upd_same (f : Nat → Option ByteArray) (i : Nat) (s : ByteArray) : upd f i s i = some s := if_pos rfl
theorem upd_other (f : Nat → Option ByteArray) {i j : Nat} (s : ByteArray) (h : j ≠ i) : upd f i s j = f j := if_neg h
theorem MapIs.nil : MapIs (.map []) (fun _ => none) := ⟨isMap_empty, fun i s h => (by cases h), fun x _ => rfl⟩
theorem MapIs.put {D : DataW Unit} {f : Nat → Option ByteArray} (h : MapIs D f) (i : Nat) {s : ByteArray} (hs : s.size ≤ maxLen) : MapIs (D.put (.int .i64 (i : Int)) (.lit (.string s.data.toList))) (upd f i s) := by
  refine ⟨h.map.put _ _, fun j t hj => ?_, fun x hx => ?_⟩
  · by_cases e : j = i
    · subst e
      rw [upd_same] at hj
      injection hj with hj
      subst hj
      exact ⟨hs, has_put_same h.map (by simp [WideAt.IsKeyLit]) _, fun z => atKey_put_same h.map (by simp [WideAt.IsKeyLit]) _ _⟩
    · rw [upd_other f s e] at hj
      obtain ⟨a, b, c⟩ := h.yes j t hj
      have hne : Lit.int .i64 (j : Int) ≠ Lit.int .i64 (i : Int) := by intro q; injection q with _ q; omega
      exact ⟨a, by rw [has_put_other hne]; exact b, fun z => by rw [atKey_put_other hne]; exact c z⟩
  · have e : x ≠ (i : Int) := fun q => by have := hx i q; rw [upd_same] at this; cases this
    have hne : Lit.int .i64 x ≠ Lit.int .i64 (i : Int) := by intro q; injection q with _ q; exact e q
    rw [has_put_other hne]
    refine h.no x (fun j hj => ?_)
    have := hx j hj
    rw [upd_other f s (by intro q; subst q; exact e hj)] at this
    exact this
def IM (w : World) (b n : Nat) (f : Nat → Option ByteArray) : Prop := ∃ D : DataW Unit, w.ownsMap Tryd.prog 3 (plainElem Tryd.prog 9) b n D ∧ MapIs D f
section
variable {w w' : World} {b n : Nat} {f : Nat → Option ByteArray}
theorem IM.made (w : World) : IM (w.alloc (.map #[] 0)) w.heap.size 0 (fun _ => none) := ⟨_, World.ownsMap_made _ _ _ _, .nil⟩
theorem IM.kept {row : Option Nat} (h : IM w b n f) (hg : w.grownBy w' row) (hne : some b ≠ row) : IM w' b n f := by obtain ⟨D, ho, hd⟩ := h; exact ⟨D, ho.kept hg hne, hd⟩
theorem IM.mono (h : IM w b n f) {n' : Nat} (hn : n ≤ n') : IM w b n' f := by obtain ⟨D, ho, hd⟩ := h; exact ⟨D, ho.mono hn, hd⟩
theorem IM.lt (h : IM w b n f) : b < w.heap.size := by obtain ⟨D, ho, hd⟩ := h; exact ho.lt
theorem IM.fits (h : IM w b n f) {i : Nat} {s : ByteArray} (hs : f i = some s) : s.size ≤ maxLen := by obtain ⟨D, ho, hd⟩ := h; exact (hd.yes i s hs).1
theorem key_of (i : Nat) (hi : i ≤ 1000000) : keyOf Tryd.prog 3 (.int .i64 (i : Int)) = some (.int .i64 (i : Int)) := keyOf_int_mk im_int (WalkArith.wf_i64 (by omega))
theorem IM.look_ok (h : IM w b n f) (i : Nat) (hi : i ≤ 1000000) : (Instr.lookup 49 (.map (some b)) (.int .i64 (i : Int)) true).run Tryd.prog w = .ok (.tuple #[.string ((f i).getD ⟨#[]⟩), .bool (f i).isSome]) w := by
  obtain ⟨D, ho, hd⟩ := h
  obtain ⟨v, ps, hrun, hv⟩ := ho.look_ok im_law im_under (im_zero w) (plainElem_string im_str (s := ⟨#[]⟩) (Nat.zero_le _)) (key_of i hi)
  obtain ⟨s, rfl, hz, _⟩ := plainElem_string_inv im_str hv
  rw [hrun]
  have hz' := congrArg Prod.fst hz
  simp only at hz'
  cases hf : f i with
  | none =>
    have hh := hd.no (i : Int) (fun j hj => by have : i = j := by omega
                                               subst this; exact hf)
    rw [atKey_of_not_has hh] at hz'
    simp only [DataW.lit.injEq, Lit.string.injEq] at hz'
    rw [hh, str_of (s := s) (t := ⟨#[]⟩) hz'.symm]
    rfl
  | some t =>
    obtain ⟨_, h2, h3⟩ := hd.yes i t hf
    rw [h3] at hz'
    simp only [DataW.lit.injEq, Lit.string.injEq] at hz'
    rw [h2, str_of hz'.symm]
    rfl
theorem IM.look (h : IM w b n f) (i : Nat) (hi : i ≤ 1000000) {t : ByteArray} (hf : f i = some t) : (Instr.lookup 49 (.map (some b)) (.int .i64 (i : Int)) false).run Tryd.prog w = .ok (.string t) w := by
  obtain ⟨D, ho, hd⟩ := h
  obtain ⟨v, ps, hrun, hv⟩ := ho.lookup im_law im_under (im_zero w) (plainElem_string im_str (s := ⟨#[]⟩) (Nat.zero_le _)) (key_of i hi)
  obtain ⟨s, rfl, hz, _⟩ := plainElem_string_inv im_str hv
  have hz' := congrArg Prod.fst hz
  simp only at hz'
  obtain ⟨_, h2, h3⟩ := hd.yes i t hf
  rw [h3] at hz'
  simp only [DataW.lit.injEq, Lit.string.injEq] at hz'
  rw [hrun, str_of hz'.symm]
theorem IM.put (h : IM w b n f) (i : Nat) (hi : i ≤ 1000000) (hn : n < maxLen) {s : ByteArray} (hs : s.size ≤ maxLen) : ∃ w', (Instr.mapUpdate 49 (.map (some b)) (.int .i64 (i : Int)) (.string s)).run Tryd.prog w = .ok () w' ∧ IM w' b (n + 1) (upd f i s) ∧ w.grownBy w' (some b) := by
  obtain ⟨D, ho, hd⟩ := h
  obtain ⟨w', hrun, ho', hg⟩ := ho.update im_law im_under hn (key_of i hi) (plainElem_string im_str hs)
  exact ⟨w', hrun, ⟨_, ho', hd.put i hs⟩, hg⟩
theorem IM.clear (h : IM w b n f) (ty : TypeId) : ∃ w', (Builtin.clear_ #[49] ty #[.map (some b)]).run Tryd.prog w = .ok (.tuple #[]) w' ∧ IM w' b n (fun _ => none) ∧ w.grownBy w' (some b) := by
  obtain ⟨D, ⟨es, clock, hb, F, hs, hD⟩, hd⟩ := h
  refine ⟨setBlock w b (.map #[] clock), ?_, ⟨.map [], ⟨#[], clock, heap_setBlock_same hb _, ⟨by simp, stamped_empty clock, by simp⟩, Nat.zero_le _, rfl⟩, .nil⟩, ⟨rfl, rfl, rfl, by simp [setBlock], fun i _ hi => heap_setBlock_other hb _ (fun e => hi (by rw [e]))⟩⟩
  simp [Builtin.clear_, run_underlying im_under, MapKept.run_getObj_map hb, MapKept.run_setObj_map _ hb, Result.andThen, setBlock]
end
end Go.Proofs.YthodlccjnbadhaaDoor
