/- What an error is, told once for all: none, an api.Errno, an *api.At; and what api.Tell, plain.Place and the laws' own questions make of it. -/
import Derived.Test.YthodlccjnbadhaaDoorTell
import Derived.Test.YthodlccjnbadhaaDoorMem
import Derived.RegionTactic
import Derived.Deep.QuietTactic
import Derived.BigQuiet
namespace Go.Proofs.YthodlccjnbadhaaDoor
open Go.RowKit Go.Extern.Stop Go.Stop Go.Extern As
/-- v is the error e with the place p: 0, -1: none. -/
inductive ErrIs (w : World) : Value → Int → Int → Prop
  | none : ErrIs w .nilIface 0 (-1)
  | bare (e : Int) (he : e ≠ 0) : ErrIs w (.iface 29 (.int .i64 e)) e (-1)
  | at_ (b o : Nat) (e p : Int) (he : e ≠ 0) (h0 : w.cell? ⟨b, o, none⟩ = some (.int .i64 e)) (h1 : w.cell? ⟨b, o + 1, none⟩ = some (.int .i64 p)) : ErrIs w (.iface 67 (.pointer (some ⟨b, o, none⟩))) e p
theorem ErrIs.below {w w' : World} {v : Value} {e p : Int} (h : ErrIs w v e p) (hb : Below w.heap.size w w') : ErrIs w' v e p := by
  cases h with
  | none => exact .none
  | bare _ he => exact .bare _ he
  | at_ b o _ _ he h0 h1 => exact .at_ b o _ _ he ((hb.cell (cell_lt h0)).trans h0) ((hb.cell (cell_lt h1)).trans h1)
theorem ErrIs.drewN {w : World} {v : Value} {e p : Int} (h : ErrIs w v e p) (n : Nat) : ErrIs (w.drewN n) v e p := h.below (below_drewN (Below.refl _ _) n)
theorem ErrIs.zero {w : World} {v : Value} {p : Int} (h : ErrIs w v 0 p) : v = .nilIface ∧ p = -1 := by
  generalize he : (0 : Int) = e at h
  cases h with
  | none => exact ⟨rfl, rfl⟩
  | bare _ h => exact absurd he.symm h
  | at_ _ _ _ _ h => exact absurd he.symm h
/-- An error without a place, as a value. -/
def errV (e : Int) : Value := if e = 0 then .nilIface else .iface 29 (.int .i64 e)
theorem errV_zero : errV 0 = .nilIface := rfl
theorem errV_of {e : Int} (h : e ≠ 0) : errV e = .iface 29 (.int .i64 e) := by unfold errV; rw [if_neg h]
theorem errV_is (w : World) (e : Int) : ErrIs w (errV e) e (-1) := by
  by_cases h : e = 0
  · subst h; exact .none
  · rw [errV_of h]; exact .bare e h
theorem tell_any {v : Value} {e p : Int} {w : World} (h : ErrIs w v e p) (hg : Handle w) : Calls Tryd.prog 25 #[v] w fun r w' => r = .returned (.int .i64 e) ∧ Below w.heap.size w w' := by
  cases h with
  | none => exact (tell_nil w).mono fun _ _ ⟨a, b⟩ => ⟨a, b ▸ Below.refl _ _⟩
  | bare _ he => exact tell_errno _ w hg
  | at_ b o _ _ he h0 h1 => exact tell_at _ _ w hg h0
theorem isAtE (v : Value) (w : World) : (Instr.typeAssert (.iface 29 v) 25 67 true).run Tryd.prog w = .ok (.tuple #[.pointer none, .bool false]) w := by kernel_rfl
theorem isAtA (v : Value) (w : World) : (Instr.typeAssert (.iface 67 v) 25 67 true).run Tryd.prog w = .ok (.tuple #[v, .bool true]) w := by kernel_rfl
set_option maxHeartbeats 1000000 in
theorem place_any {v : Value} {e p : Int} {w : World} (h : ErrIs w v e p) (hg : Handle w) : Calls Tryd.prog 18 #[v] w fun r w' => r = .returned (.tuple #[.int .i64 e, .int .i64 p]) ∧ Below w.heap.size w w' := by
  cases h with
  | none =>
    go_enter Tryd.func18, Tryd.ntmps18
    go_wp2_with (go_at_call 25; refine (tell_nil w).mono ?_; rintro e w' ⟨rfl, rfl⟩)
    refine wp_loop_rounds 1 ?_
    rw [rounds_succ]
    go_wp2
    go_ret2
    exact ⟨rfl, Below.refl _ _⟩
  | bare _ he =>
    have n1 := noUnwrapE
    have n2 := isAtE
    go_enter Tryd.func18, Tryd.ntmps18
    go_wp2_with (go_at_call 25; refine (tell_errno e w hg).mono ?_; rintro e w' ⟨rfl, hb⟩)
    refine wp_loop_rounds 1 ?_
    rw [rounds_succ]
    go_wp2
    go_ret2
    exact ⟨rfl, hb⟩
  | at_ b o _ _ he h0 h1 =>
    have n2 := isAtA
    go_enter Tryd.func18, Tryd.ntmps18
    go_wp2_with (go_at_call 25; refine (tell_at e _ w hg h0).mono ?_; rintro e w' ⟨rfl, hb⟩)
    have h1' := (hb.cell (cell_lt h1)).trans h1
    refine wp_loop_rounds 1 ?_
    rw [rounds_succ]
    go_wp2
    go_quiet (fail)
    go_wp2
    go_ret2
    exact ⟨rfl, below_drewN hb _⟩
theorem bare_any {v : Value} {e p : Int} {w : World} (h : ErrIs w v e p) (hg : Handle w) (x : Int) : Calls Tryd.prog 5 #[v, .int .i64 x] w fun r w' => r = .returned (.bool (decide (e = x ∧ p = -1))) ∧ Below w.heap.size w w' := by
  go_enter Tryd.func5, Tryd.ntmps5
  go_wp2_with fail
  refine (place_any h hg).mono ?_
  rintro r w' ⟨rfl, hb⟩
  by_cases h1 : e = x <;> by_cases h2 : p = -1 <;> simp only [h1, h2]
  all_goals
    go_wp2_with fail
    go_ret
    exact ⟨by first | rfl | simp [*], hb⟩
end Go.Proofs.YthodlccjnbadhaaDoor
