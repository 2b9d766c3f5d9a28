/- slices.Equal over slices of strings and of numbers. -/
import Derived.Test.YthodlccjnbadhaaDoorProg
import Derived.Test.YthodlccjnbadhaaDoorQuiet
import Derived.WalkKit
import Derived.WalkLawsBesides
import Derived.WalkSpells
import Derived.Outline
import Derived.Lib.Hide
namespace Go.Proofs.YthodlccjnbadhaaDoor
open Go.RowKit
theorem toList_ne {x y : ByteArray} (h : ¬ x = y) : (!(x.toList == y.toList)) = true := by
  have e : (x.toList == y.toList) = false := by
    rw [beq_eq_false_iff_ne, ByteArray.toList_eq, ByteArray.toList_eq]
    intro e
    apply h
    obtain ⟨⟨a⟩⟩ := x
    obtain ⟨⟨b⟩⟩ := y
    simp at e
    rw [e]
  rw [e]
  rfl
/-- A slice of strings, of numbers, in memory. -/
abbrev Strs (w : World) (A : Option Addr) (n : Nat) (l : List ByteArray) : Prop := Sl w w.heap.size 1 A n (l.flatMap fun x => [Value.string x])
abbrev Ints (w : World) (A : Option Addr) (n : Nat) (l : List Int) : Prop := Sl w w.heap.size 1 A n (l.flatMap fun x => [Value.int .i64 x])
/-- Element k of a slice whose elements have one cell each. -/
theorem sl1_at {α : Type} (f : α → Value) {w : World} {B n : Nat} {A : Option Addr} {l : List α} (h : Sl w B 1 A n (l.flatMap fun x => [f x])) (hl : l.length = n) {k : Nat} (hk : k < n) :
    ∃ b o x, A = some ⟨b, o, none⟩ ∧ b < B ∧ l[k]? = some x ∧ w.cell? ⟨b, o + k, none⟩ = some (f x) := by
  obtain ⟨b, o, e, hb, hc⟩ := h.2 (by omega)
  have hx : l[k]? = some l[k] := List.getElem?_eq_getElem (by omega)
  refine ⟨b, o, l[k], e, hb, hx, hc k _ ?_⟩
  have := flat_get (fun x => [f x]) 1 (fun _ => rfl) l k 0 _ hx (by omega)
  simpa using this
theorem sl1_len {α : Type} (f : α → Value) {w : World} {B n : Nat} {A : Option Addr} {l : List α} (h : Sl w B 1 A n (l.flatMap fun x => [f x])) : l.length = n := by
  have := h.1; rw [flat_len _ 1 (fun _ => rfl)] at this; omega
theorem flat_map {α : Type} (f : α → Value) (l : List α) : (l.flatMap fun x => [f x]) = l.map f := by induction l <;> simp_all
theorem Strs.of_own {w : World} {base : Nat} {e : TypeId} {A : Option Addr} {n c : Nat} {l : List ByteArray} (h : w.ownsRow base e 1 (.slice A n c) n (l.map Value.string)) : Strs w A n l := by
  have := Sl.of_own h
  rw [← flat_map] at this
  exact this
theorem Ints.of_own {w : World} {base : Nat} {e : TypeId} {A : Option Addr} {n c : Nat} {l : List Int} (h : w.ownsRow base e 1 (.slice A n c) n (l.map (Value.int .i64))) : Ints w A n l := by
  have := Sl.of_own h
  rw [← flat_map] at this
  exact this
theorem Sl.grow {w w' : World} {size n : Nat} {A : Option Addr} {xs : List Value} (h : Sl w w.heap.size size A n xs) (hb : Below w.heap.size w w') : Sl w' w'.heap.size size A n xs := (h.below hb).more hb.size
/-- Alike so far. -/
def Alike {α : Type} (l l' : List α) (k : Nat) : Prop := ∀ j, j < k → l[j]? = l'[j]?
theorem Alike.succ {α : Type} {l l' : List α} {k : Nat} {x : α} (h : Alike l l' k) (h1 : l[k]? = some x) (h2 : l'[k]? = some x) : Alike l l' (k + 1) := by
  intro j hj
  by_cases e : j = k
  · subst e; rw [h1, h2]
  · exact h j (by omega)
theorem Alike.all {α : Type} {l l' : List α} {n : Nat} (h : Alike l l' n) (h1 : l.length = n) (h2 : l'.length = n) : l = l' := by
  apply List.ext_getElem?
  intro j
  by_cases hj : j < n
  · exact h j hj
  · rw [List.getElem?_eq_none (by omega), List.getElem?_eq_none (by omega)]
theorem unlike {α : Type} {l l' : List α} {k : Nat} {x y : α} (h1 : l[k]? = some x) (h2 : l'[k]? = some y) (h : x ≠ y) : ¬ l = l' := by
  rintro rfl; rw [h1] at h2; injection h2 with h2; exact h h2
theorem bool_no {p : Prop} [Decidable p] (h : ¬ p) : Ending.returned (.bool false) = .returned (.bool (decide p)) := by rw [decide_eq_false h]
theorem bool_yes {p : Prop} [Decidable p] (h : p) : Ending.returned (.bool true) = .returned (.bool (decide p)) := by rw [decide_eq_true h]

theorem equal_ints (n n' c c' : Nat) (A A' : Option Addr) (l l' : List Int) (w : World) (h : Sl w w.heap.size 1 A n (l.flatMap fun x => [Value.int .i64 x])) (h' : Sl w w.heap.size 1 A' n' (l'.flatMap fun x => [Value.int .i64 x])) (hn : n ≤ maxLen) (hn' : n' ≤ maxLen) :
    Calls Tryd.prog 14 #[.slice A n c, .slice A' n' c'] w fun e w' => e = .returned (.bool (decide (l = l'))) ∧ ∃ q, w' = w.drewN q := by
  unfold maxLen at hn hn'
  have hl := sl1_len (Value.int .i64) h
  have hl' := sl1_len (Value.int .i64) h'
  by_cases hne : n = n'
  · subst hne
    have hL := Lib.hid hl
    have hL' := Lib.hid hl'
    clear hl hl'
    go_enter Tryd.func14, Tryd.ntmps14
    go_wp2
    go_loopw [5, 13] (fun _ i wr => (∃ k : Nat, k ≤ n ∧ i = .int .i64 k ∧ Alike l l' k) ∧ ∃ q, wr = w.drewN q) (fun _ i _ => n - (intOf i).toNat)
    case atStart => exact ⟨⟨0, by omega, rfl, fun j hj => by omega⟩, 0, rfl⟩
    case round =>
      obtain ⟨⟨k, hk, rfl, hall⟩, q, rfl⟩ := hrel
      by_cases hlt : k < n
      · obtain ⟨b, o, x, rfl, hb, hx, hc⟩ := sl1_at (Value.int .i64) h hL.out hlt
        obtain ⟨b', o', y, rfl, hb', hy, hc'⟩ := sl1_at (Value.int .i64) h' hL'.out hlt
        have hkn : (k : Int) < (n : Int) := by omega
        have hX := Lib.hid hx
        have hY := Lib.hid hy
        clear hx hy
        by_cases hxy : x = y
        · subst hxy
          go_wp2_with fail
          go_quiet (fail)
          go_wp2
          go_roundw
          case rel => exact ⟨⟨k + 1, by omega, by go_num, hall.succ hX.out hY.out⟩, q + nq, by first | rfl | rw [World.drewN_drewN]⟩
          case measure => simp [intOf]; omega
        · have hd := Lib.hid (unlike hX.out hY.out hxy)
          have hne : (x != y) = true := by rw [bne_iff_ne]; exact hxy
          go_wp2_with fail
          go_quiet (fail)
          go_wp2
          go_ret
          exact ⟨bool_no hd.out, q + nq, by first | rfl | rw [World.drewN_drewN]⟩
      · obtain rfl : k = n := by omega
        go_wp2_with fail
        go_ret
        exact ⟨bool_yes (hall.all hL.out hL'.out), q, rfl⟩
  · have hne' : ((n : Int) != (n' : Int)) = true := by rw [bne_iff_ne]; omega
    have hd := Lib.hid (fun e : l = l' => hne (by rw [← hl, ← hl', e]))
    go_enter Tryd.func14, Tryd.ntmps14
    go_wp2
    go_ret
    exact ⟨bool_no hd.out, 0, rfl⟩
end Go.Proofs.YthodlccjnbadhaaDoor
