/- What an error is, told once for all: none, an api.Errno, an *api.At; and what api.Tell, plain.Place and the laws' own questions make of it.

vector.Right and VectorRight of the reference say what vright says.

VectorRight of the reference says what vright says.

(Fault).Is of the reference. -/
import Derived.Test.YtglemfdnfaemiaaDoorZ3
import Derived.Test.YtglemfdnfaemiaaDoorZ1
import Derived.RegionTactic
import Derived.Deep.QuietTactic
import Derived.BigQuiet
import Derived.Test.YtglemfdnfaemiaaDoorZ2
import Derived.Deep.Cut
import Derived.Deep.DeepCutAuto
import Derived.Deep.CutBlock
section
namespace Go.Proofs.YtglemfdnfaemiaaDoor
open Go.RowKit Go.Extern.Stop Go.Stop Go.Extern As
/-- v is the error e with the place p: 0, -1: none. -/
inductive ErrIs (w : World) : Value → Int → Int → Prop
  | none : ErrIs w .nilIface 0 (-1)
  | bare (e : Int) (he : e ≠ 0) : ErrIs w (.iface 27 (.int .i64 e)) e (-1)
  | at_ (b o : Nat) (e p : Int) (he : e ≠ 0) (h0 : w.cell? ⟨b, o, none⟩ = some (.int .i64 e)) (h1 : w.cell? ⟨b, o + 1, none⟩ = some (.int .i64 p)) : ErrIs w (.iface 136 (.pointer (some ⟨b, o, none⟩))) e p
theorem ErrIs.below {w w' : World} {v : Value} {e p : Int} (h : ErrIs w v e p) (hb : Below w.heap.size w w') : ErrIs w' v e p := by
  cases h with
  | none => exact .none
  | bare _ he => exact .bare _ he
  | at_ b o _ _ he h0 h1 => exact .at_ b o _ _ he ((hb.cell (cell_lt h0)).trans h0) ((hb.cell (cell_lt h1)).trans h1)
theorem ErrIs.drewN {w : World} {v : Value} {e p : Int} (h : ErrIs w v e p) (n : Nat) : ErrIs (w.drewN n) v e p := h.below (below_drewN (Below.refl _ _) n)
theorem ErrIs.zero {w : World} {v : Value} {p : Int} (h : ErrIs w v 0 p) : v = .nilIface ∧ p = -1 := by
  generalize he : (0 : Int) = e at h
  cases h with
  | none => exact ⟨rfl, rfl⟩
  | bare _ h => exact absurd he.symm h
  | at_ _ _ _ _ h => exact absurd he.symm h
/-- An error without a place, as a value. -/
def errV (e : Int) : Value := if e = 0 then .nilIface else .iface 27 (.int .i64 e)
theorem errV_zero : errV 0 = .nilIface := rfl
theorem errV_of {e : Int} (h : e ≠ 0) : errV e = .iface 27 (.int .i64 e) := by unfold errV; rw [if_neg h]
theorem errV_is (w : World) (e : Int) : ErrIs w (errV e) e (-1) := by
  by_cases h : e = 0
  · subst h; exact .none
  · rw [errV_of h]; exact .bare e h
theorem tell_any {v : Value} {e p : Int} {w : World} (h : ErrIs w v e p) (hg : Handle w) : Calls Tryd.prog 98 #[v] w fun r w' => r = .returned (.int .i64 e) ∧ Below w.heap.size w w' := by
  cases h with
  | none => exact (tell_nil w).mono fun _ _ ⟨a, b⟩ => ⟨a, b ▸ Below.refl _ _⟩
  | bare _ he => exact tell_errno _ w hg
  | at_ b o _ _ he h0 h1 => exact tell_at _ _ w hg h0
theorem isAtE (v : Value) (w : World) : (Instr.typeAssert (.iface 27 v) 25 136 true).run Tryd.prog w = .ok (.tuple #[.pointer none, .bool false]) w := by kernel_rfl
theorem isAtA (v : Value) (w : World) : (Instr.typeAssert (.iface 136 v) 25 136 true).run Tryd.prog w = .ok (.tuple #[v, .bool true]) w := by kernel_rfl
set_option maxHeartbeats 1000000 in
theorem place_any {v : Value} {e p : Int} {w : World} (h : ErrIs w v e p) (hg : Handle w) : Calls Tryd.prog 88 #[v] w fun r w' => r = .returned (.tuple #[.int .i64 e, .int .i64 p]) ∧ Below w.heap.size w w' := by
  cases h with
  | none =>
    go_enter Tryd.func88, Tryd.ntmps88
    go_wp2_with (go_at_call 98; refine (tell_nil w).mono ?_; rintro e w' ⟨rfl, rfl⟩)
    refine wp_loop_rounds 1 ?_
    rw [rounds_succ]
    go_wp2
    go_ret2
    exact ⟨rfl, Below.refl _ _⟩
  | bare _ he =>
    have n1 := noUnwrapE
    have n2 := isAtE
    go_enter Tryd.func88, Tryd.ntmps88
    go_wp2_with (go_at_call 98; refine (tell_errno e w hg).mono ?_; rintro e w' ⟨rfl, hb⟩)
    refine wp_loop_rounds 1 ?_
    rw [rounds_succ]
    go_wp2
    go_ret2
    exact ⟨rfl, hb⟩
  | at_ b o _ _ he h0 h1 =>
    have n2 := isAtA
    go_enter Tryd.func88, Tryd.ntmps88
    go_wp2_with (go_at_call 98; refine (tell_at e _ w hg h0).mono ?_; rintro e w' ⟨rfl, hb⟩)
    have h1' := (hb.cell (cell_lt h1)).trans h1
    refine wp_loop_rounds 1 ?_
    rw [rounds_succ]
    go_wp2
    go_quiet (fail)
    go_wp2
    go_ret2
    exact ⟨rfl, below_drewN hb _⟩
theorem bare_any {v : Value} {e p : Int} {w : World} (h : ErrIs w v e p) (hg : Handle w) (x : Int) : Calls Tryd.prog 30 #[v, .int .i64 x] w fun r w' => r = .returned (.bool (decide (e = x ∧ p = -1))) ∧ Below w.heap.size w w' := by
  go_enter Tryd.func30, Tryd.ntmps30
  go_wp2_with fail
  refine (place_any h hg).mono ?_
  rintro r w' ⟨rfl, hb⟩
  by_cases h1 : e = x <;> by_cases h2 : p = -1 <;> simp only [h1, h2]
  all_goals
    go_wp2_with fail
    go_ret
    exact ⟨by first | rfl | simp [*], hb⟩
theorem placed_any {v : Value} {e p : Int} {w : World} (h : ErrIs w v e p) (hg : Handle w) (x y : Int) : Calls Tryd.prog 23 #[v, .agg #[.int .i64 x, .int .i64 y]] w fun r w' => r = .returned (.bool (decide (e = x ∧ p = y))) ∧ Below w.heap.size w w' := by
  have hb1 := below1 w (.cells #[.int .i64 x, .int .i64 y] 29)
  have hh := h.below hb1
  have hgh := hg.below hb1
  go_enter Tryd.func23, Tryd.ntmps23
  go_wp2_with fail
  refine (place_any hh hgh).mono ?_
  rintro r w' ⟨rfl, hb⟩
  have c0 : w'.cell? ⟨w.heap.size, 0, none⟩ = some (.int .i64 x) := (hb.cell (p := ⟨w.heap.size, 0, none⟩) (by simp)).trans (by rw [World.cell?_alloc_at _ _ _ _ rfl]; rfl)
  have c1 : w'.cell? ⟨w.heap.size, 1, none⟩ = some (.int .i64 y) := (hb.cell (p := ⟨w.heap.size, 1, none⟩) (by simp)).trans (by rw [World.cell?_alloc_at _ _ _ _ rfl]; rfl)
  by_cases h1 : e = x
  · subst h1
    by_cases h2 : p = y
    · subst h2
      go_wp2_with fail
      go_ret
      exact ⟨by first | rfl | simp [*], hb1.trans (hb.mono (by simp))⟩
    · have h2' : (p == y) = false := by simp [h2]
      go_wp2_with fail
      go_ret
      exact ⟨by first | rfl | simp [*], hb1.trans (hb.mono (by simp))⟩
  · have h1' : (e == x) = false := by simp [h1]
    go_wp2_with fail
    go_ret
    exact ⟨by first | rfl | simp [*], hb1.trans (hb.mono (by simp))⟩
end Go.Proofs.YtglemfdnfaemiaaDoor
end

section
namespace Go.Proofs.YtglemfdnfaemiaaDoor
open Go.RowKit As
/-- An error that is what a pair says. -/
abbrev ErrOf (w : World) (v : Value) (f : Int × Int) : Prop := ErrIs w v f.1 f.2
theorem ErrOf.of {w : World} {v : Value} {e p : Int} {f : Int × Int} (h : ErrIs w v e p) (hf : f = (e, p)) : ErrOf w v f := by subst hf; exact h
theorem err_new (w : World) (e p : Int) (he : e ≠ 0) : ErrIs (w.alloc (.cells #[.int .i64 e, .int .i64 p] 138)) (.iface 136 (.pointer (some ⟨w.heap.size, 0, none⟩))) e p :=
  .at_ _ _ _ _ he (by rw [World.cell?_alloc_at _ _ _ _ rfl]; rfl) (by rw [World.cell?_alloc_at _ _ _ _ rfl]; rfl)
theorem err_at (w : World) (n : Nat) (e p : Int) (he : e ≠ 0) (hn : n = w.heap.size) : ErrIs (w.alloc (.cells #[.int .i64 e, .int .i64 p] 138)) (.iface 136 (.pointer (some ⟨n, 0, none⟩))) e p := by
  subst hn; exact err_new w e p he
theorem bad_parts {r t : Int} (h : entBad (r, t)) : (decide (r < 0) = true) ∨ (decide (r < 0) = false ∧ decide (200 < r) = true) ∨ (decide (r < 0) = false ∧ decide (200 < r) = false ∧ decide (t < 1) = true) ∨ (decide (r < 0) = false ∧ decide (200 < r) = false ∧ decide (t < 1) = false ∧ decide (1099511627776 < t) = true) := by
  unfold entBad at h
  simp only at h
  simp only [decide_eq_true_eq, decide_eq_false_iff_not]
  omega
set_option maxHeartbeats 1000000 in
theorem vright_any (w : World) (n c : Nat) (A : Option Addr) (l : List Ent) (hl : Ents w w.heap.size A n l) (hn : n ≤ maxLen) :
    Calls Tryd.prog 24 #[.slice A n c] w fun e w' => ∃ v, e = .returned v ∧ ErrOf w' v (vright l) ∧ Below w.heap.size w w' := by
  unfold maxLen at hn
  have hlen := hl.len
  by_cases hbig : 16 < n
  · have hv := Lib.hid (vright_big (l := l) (by omega))
    have hd : decide (16 < n) = true := by simpa using hbig
    have hlen := Lib.hid hlen
    clear hl
    go_enter Tryd.func24, Tryd.ntmps24
    go_wp2
    go_ret
    exact ⟨_, rfl, ErrOf.of (.bare 4 (by omega)) hv.out, Below.refl _ _⟩
  · have hv := Lib.hid (vright_small (l := l) (by omega))
    have hd : decide (16 < n) = false := by simpa using hbig
    have hlen := Lib.hid hlen
    go_enter Tryd.func24, Tryd.ntmps24
    go_wp2
    go_loopw [3, 4, 5, 12] (fun _ _ _ i wr => ∃ k : Nat, k ≤ n ∧ i = .int .i64 k ∧ VAt l k ∧ Below w.heap.size w wr) (fun _ _ _ i _ => n - (intOf i).toNat)
    case atStart => exact ⟨0, by omega, rfl, VAt.zero l, Below.refl _ _⟩
    case round =>
      obtain ⟨k, hk, rfl, hat, hbel⟩ := hrel
      have Hat := Lib.hid hat
      clear hat
      have hsz := hbel.size
      by_cases hlt : k < n
      · obtain ⟨b, o, r, t, rfl, hb, hx, hf, hc0, hc1⟩ := hl.at_ hlt
        have c0 := (hbel.cell (p := ⟨b, o + k * 2, none⟩) (by simp; omega)).trans hc0
        have c1 := (hbel.cell (p := ⟨b, o + k * 2 + 1, none⟩) (by simp; omega)).trans hc1
        clear hc0 hc1
        have hX := Lib.hid hx
        clear hx
        have hrt := Lib.hid hf
        clear hf
        by_cases hbad : entBad (r, t)
        · have hres := Lib.hid (Hat.out.bad hX.out hbad)
          have hparts := bad_parts hbad
          clear hbad
          rcases hparts with d0 | ⟨d0, d1⟩ | ⟨d0, d1, d2⟩ | ⟨d0, d1, d2, d3⟩
          all_goals
            go_wp2
            go_ret
            exact ⟨_, rfl, ErrOf.of (err_at _ _ 2 k (by omega) (by simp)) (hv.out.trans hres.out), (hbel.alloc hsz _).alloc (by simp; omega) _⟩
        · have hok : 0 ≤ r ∧ r ≤ 200 ∧ 1 ≤ t ∧ t ≤ 1099511627776 := by unfold entBad at hbad; simp only at hbad; omega
          obtain ⟨g0, g1, g2, g3⟩ := hok
          have d0 : decide (r < 0) = false := by simpa using g0
          have d1 : decide (200 < r) = false := by simpa using g1
          have d2 : decide (t < 1) = false := by simpa using g2
          have d3 : decide (1099511627776 < t) = false := by simpa using g3
          have Hbad := Lib.hid hbad
          clear hbad
          by_cases hk0 : k = 0
          · have hz : decide (0 < k) = false := by simp [hk0]
            have hl0 := Lib.hid hk0
            clear hk0
            have hnext := Lib.hid (Hat.out.succ hX.out Hbad.out (by rw [hl0.out, lastAt_zero]; omega))
            go_wp2
            go_quiet (fail)
            go_wp2
            go_roundw
            case rel => exact ⟨k + 1, by omega, by go_num, hnext.out, below_drewN (hbel.alloc hsz _) _⟩
            case measure => simp [intOf]; omega
          · have hz : decide (0 < k) = true := by simp; omega
            obtain ⟨b', o', r', t', e', hb', hx', hf', hc0', hc1'⟩ := hl.at_ (k := k - 1) (by omega)
            injection e' with e'
            injection e' with e1 e2
            subst e1 e2
            have c2 := (hbel.cell (p := ⟨b, o + (k - 1) * 2, none⟩) (by simp; omega)).trans hc0'
            have hlast := Lib.hid (lastAt_succ l (k - 1) r' t' hx')
            clear hc0' hc1' hx' hf'
            have ek : k - 1 + 1 = k := by omega
            have hk1 : k - 1 < n := by omega
            have hlast2 := Lib.hid ((congrArg (lastAt l) ek).symm.trans hlast.out)
            clear ek hlast
            by_cases ho : r ≤ r'
            · have hres := Lib.hid (Hat.out.order hX.out Hbad.out (by rw [hlast2.out]; exact ho))
              have d4 : decide (r ≤ r') = true := by simpa using ho
              go_wp2
              have hwr : IntKind.i64.wrap ((k : Int) - 1) = ((k - 1 : Nat) : Int) := by rw [IntWalk.i64_in _ (by omega)]; omega
              have c3 : (wr.alloc (.cells #[.int .i64 r, .int .i64 t] 92)).cell? ⟨b, o + (k - 1) * 2, none⟩ = some (.int .i64 r') := (World.cell?_alloc_lt _ _ ⟨b, o + (k - 1) * 2, none⟩ (by simp; omega)).trans c2
              go_quiet (fail)
              go_wp2
              go_ret
              exact ⟨_, rfl, ErrOf.of (err_at _ _ 10 k (by omega) (by simp)) (hv.out.trans hres.out), (below_drewN (hbel.alloc hsz _) _).alloc (by simp; omega) _⟩
            · have hnext := Lib.hid (Hat.out.succ hX.out Hbad.out (by rw [hlast2.out]; exact ho))
              have d4 : decide (r ≤ r') = false := by simpa using ho
              go_wp2
              have hwr : IntKind.i64.wrap ((k : Int) - 1) = ((k - 1 : Nat) : Int) := by rw [IntWalk.i64_in _ (by omega)]; omega
              have c3 : (wr.alloc (.cells #[.int .i64 r, .int .i64 t] 92)).cell? ⟨b, o + (k - 1) * 2, none⟩ = some (.int .i64 r') := (World.cell?_alloc_lt _ _ ⟨b, o + (k - 1) * 2, none⟩ (by simp; omega)).trans c2
              go_quiet (fail)
              clear hwr
              go_wp2
              go_roundw
              case rel => exact ⟨k + 1, by omega, by go_num, hnext.out, below_drewN (hbel.alloc hsz _) _⟩
              case measure => simp [intOf]; omega
      · obtain rfl : k = n := by omega
        have hend := Lib.hid (Hat.out.all (by rw [hlen.out]; exact Nat.le_refl _))
        clear hlt
        go_wp2
        go_ret
        exact ⟨_, rfl, ErrOf.of .none (hv.out.trans hend.out), hbel⟩
/-- within. -/
def inB (n lo hi : Int) : Bool := decide (lo ≤ n ∧ n ≤ hi)
theorem within_any (n lo hi : Int) (w : World) : Calls Tryd.prog 90 #[.int .i64 n, .int .i64 lo, .int .i64 hi] w fun e w' => e = .returned (.bool (inB n lo hi)) ∧ w = w' := by
  by_cases h1 : lo ≤ n
  · by_cases h2 : n ≤ hi
    · have hb : inB n lo hi = true := by unfold inB; simp [h1, h2]
      have Hb := Lib.hid hb
      clear hb
      go_enter Tryd.func90, Tryd.ntmps90
      go_wp2
      go_ret
      exact ⟨retB Hb.out.symm, rfl⟩
    · have hb : inB n lo hi = false := by unfold inB; simp [h1, h2]
      have Hb := Lib.hid hb
      clear hb
      go_enter Tryd.func90, Tryd.ntmps90
      go_wp2
      go_ret
      exact ⟨retB Hb.out.symm, rfl⟩
  · have hb : inB n lo hi = false := by unfold inB; simp [h1]
    have Hb := Lib.hid hb
    clear hb
    go_enter Tryd.func90, Tryd.ntmps90
    go_wp2
    go_ret
    exact ⟨retB Hb.out.symm, rfl⟩
theorem within_is {n lo hi : Int} {b : Bool} (h : Hid (inB n lo hi = b)) (w : World) : Calls Tryd.prog 90 #[.int .i64 n, .int .i64 lo, .int .i64 hi] w fun e w' => e = .returned (.bool b) ∧ w = w' :=
  (within_any n lo hi w).mono fun _ _ ⟨a, b⟩ => ⟨by rw [a]; exact retB h, b⟩
/-- A fault of the reference. -/
def faultV (f : Int × Int) : Value := .agg #[.int .i64 f.1, .int .i64 f.2]
theorem bareF_any (e : Int) (w : World) : Calls Tryd.prog 89 #[.int .i64 e] w fun r w' => r = .returned (.agg #[.int .i64 e, .int .i64 (-1)]) ∧ Below w.heap.size w w' := by
  go_enter Tryd.func89, Tryd.ntmps89
  go_wp2
  exact bodyPost_ret (v := .agg #[.int .i64 e, .int .i64 (-1)]) (by simp [results, Tryd.results89, go_sem]) rfl ⟨rfl, below1 _ _⟩
theorem good_any (w : World) : Calls Tryd.prog 91 #[] w fun r w' => r = .returned (.agg #[.int .i64 0, .int .i64 (-1)]) ∧ Below w.heap.size w w' := by
  go_enter Tryd.func91, Tryd.ntmps91
  go_wp2
  exact bodyPost_ret (v := .agg #[.int .i64 0, .int .i64 (-1)]) (by simp [results, Tryd.results91, go_sem]) rfl ⟨rfl, below1 _ _⟩
theorem set2 {w : World} {s : Nat} {old0 old1 : Value} (a b : Value) (h0 : w.cell? ⟨s, 0, none⟩ = some old0) (h1 : w.cell? ⟨s, 1, none⟩ = some old1) :
    ((w.setCell ⟨s, 0, none⟩ a).setCell ⟨s, 1, none⟩ b).cell? ⟨s, 0, none⟩ = some a ∧ ((w.setCell ⟨s, 0, none⟩ a).setCell ⟨s, 1, none⟩ b).cell? ⟨s, 1, none⟩ = some b := by
  have h1' : (w.setCell ⟨s, 0, none⟩ a).cell? ⟨s, 1, none⟩ = some old1 := by rw [World.cell?_setCell_other _ _ _ _ (by intro h; injection h with _ h2; cases h2)]; exact h1
  refine ⟨?_, World.cell?_setCell_same _ _ _ h1'⟩
  rw [World.cell?_setCell_other _ _ _ _ (by intro h; injection h with _ h2; cases h2)]
  exact World.cell?_setCell_same _ _ _ h0
theorem set2_alloc {w : World} {s : Nat} {old0 old1 : Value} (a b : Value) (o : Obj) (hs : s < w.heap.size) (h0 : w.cell? ⟨s, 0, none⟩ = some old0) (h1 : w.cell? ⟨s, 1, none⟩ = some old1) :
    (((w.setCell ⟨s, 0, none⟩ a).setCell ⟨s, 1, none⟩ b).alloc o).cell? ⟨s, 0, none⟩ = some a ∧ (((w.setCell ⟨s, 0, none⟩ a).setCell ⟨s, 1, none⟩ b).alloc o).cell? ⟨s, 1, none⟩ = some b :=
  ⟨(World.cell?_alloc_lt _ _ ⟨s, 0, none⟩ (by simpa using hs)).trans (set2 a b h0 h1).1, (World.cell?_alloc_lt _ _ ⟨s, 1, none⟩ (by simpa using hs)).trans (set2 a b h0 h1).2⟩
theorem below_set2 {B : Nat} {a w : World} {s : Nat} (x y : Value) (h : Below B a w) (hs : B ≤ s) : Below B a ((w.setCell ⟨s, 0, none⟩ x).setCell ⟨s, 1, none⟩ y) := (h.setCell hs _).setCell hs _
/-- A new block of two numbers, later on. -/
structure Two (w : World) (s : Nat) (a b : Int) : Prop where
  c0 : w.cell? ⟨s, 0, none⟩ = some (.int .i64 a)
  c1 : w.cell? ⟨s, 1, none⟩ = some (.int .i64 b)
  f0 : w.frozen? ⟨s, 0, none⟩ = false
  f1 : w.frozen? ⟨s, 1, none⟩ = false
theorem Two.new (w : World) (a b : Int) (t : TypeId) : Two (w.alloc (.cells #[.int .i64 a, .int .i64 b] t)) w.heap.size a b :=
  ⟨by rw [World.cell?_alloc_at _ _ _ _ rfl]; rfl, by rw [World.cell?_alloc_at _ _ _ _ rfl]; rfl, by simp, by simp⟩
theorem Two.lt {w : World} {s : Nat} {a b : Int} (h : Two w s a b) : s < w.heap.size := cell_lt h.c0
theorem Two.keep {w w' : World} {s B : Nat} {a b : Int} (h : Two w s a b) (hb : Below B w w') (hs : s < B) : Two w' s a b :=
  ⟨(hb.cell (p := ⟨s, 0, none⟩) hs).trans h.c0, (hb.cell (p := ⟨s, 1, none⟩) hs).trans h.c1, (hb.frozen (p := ⟨s, 0, none⟩) hs).trans h.f0, (hb.frozen (p := ⟨s, 1, none⟩) hs).trans h.f1⟩
theorem Two.below {w w' : World} {s : Nat} {a b : Int} (h : Two w s a b) (hb : Below w.heap.size w w') : Two w' s a b := h.keep hb h.lt
theorem bad_inB {r t : Int} (h : entBad (r, t)) : inB r 0 200 = false ∨ (inB r 0 200 = true ∧ inB t 1 1099511627776 = false) := by
  unfold entBad at h
  unfold inB
  simp only at h
  simp only [decide_eq_true_eq, decide_eq_false_iff_not]
  omega
end Go.Proofs.YtglemfdnfaemiaaDoor
end

section
namespace Go.Proofs.YtglemfdnfaemiaaDoor
open Go.RowKit As
set_option maxHeartbeats 1000000 in
theorem rvright_any (w : World) (n c : Nat) (A : Option Addr) (l : List Ent) (hl : Ents w w.heap.size A n l) (hn : n ≤ maxLen) :
    Calls Tryd.prog 25 #[.slice A n c] w fun e w' => e = .returned (faultV (vright l)) ∧ Below w.heap.size w w' := by
  unfold maxLen at hn
  have hlen := hl.len
  by_cases hbig : 16 < n
  · have hv := Lib.hid (vright_big (l := l) (by omega))
    have hd : decide (16 < n) = true := by simpa using hbig
    have hlen := Lib.hid hlen
    clear hl
    go_enter Tryd.func25, Tryd.ntmps25
    go_wp2_with fail
    refine (bareF_any _ _).mono ?_
    rintro e w' ⟨rfl, hb⟩
    have hz := hb.size
    obtain ⟨c0, c1, f0, f1⟩ := (Two.new w 0 0 29).below hb
    have S := set2 (.int .i64 4) (.int .i64 (-1)) c0 c1
    simp at hz
    go_wp2
    exact bodyPost_ret (v := .agg #[.int .i64 4, .int .i64 (-1)]) (by simp [results, Tryd.results25, go_sem, S.1, S.2]) rfl ⟨by rw [hv.out]; rfl, below_set2 _ _ ((below1 _ _).trans (hb.mono (by simp))) (Nat.le_refl _)⟩
  · have hv := Lib.hid (vright_small (l := l) (by omega))
    have hd : decide (16 < n) = false := by simpa using hbig
    have hlen := Lib.hid hlen
    go_enter Tryd.func25, Tryd.ntmps25
    go_wp2
    go_loopw [3, 4, 5, 12] (fun last _ _ i wr => ∃ k : Nat, k ≤ n ∧ i = .int .i64 k ∧ last = .int .i64 (lastAt l k) ∧ VAt l k ∧ Two wr w.heap.size 0 0 ∧ Below w.heap.size w wr) (fun _ _ _ i _ => n - (intOf i).toNat)
    case atStart => exact ⟨0, by omega, rfl, rfl, VAt.zero l, Two.new _ _ _ _, below1 _ _⟩
    case round =>
      obtain ⟨k, hk, rfl, rfl, hat, hT, hbel⟩ := hrel
      have Hat := Lib.hid hat
      clear hat
      obtain ⟨c0, c1, f0, f1⟩ := hT
      have hs : w.heap.size < wr.heap.size := cell_lt c0
      by_cases hlt : k < n
      · obtain ⟨b, o, r, t, rfl, hb, hx, hf, hc0, hc1⟩ := hl.at_ hlt
        have e0 := (hbel.cell (p := ⟨b, o + k * 2, none⟩) (by simp; omega)).trans hc0
        have e1 := (hbel.cell (p := ⟨b, o + k * 2 + 1, none⟩) (by simp; omega)).trans hc1
        clear hc0 hc1
        have hX := Lib.hid hx
        clear hx
        have hrt := Lib.hid hf
        clear hf
        obtain ⟨last, hla⟩ : ∃ last, last = lastAt l k := ⟨_, rfl⟩
        rw [← hla]
        have hla := Lib.hid hla
        by_cases hbad : entBad (r, t)
        · have hres := Lib.hid (Hat.out.bad hX.out hbad)
          have hparts := bad_inB hbad
          clear hbad
          have S := set2_alloc (.int .i64 2) (.int .i64 (k : Int)) (.cells #[.int .i64 r, .int .i64 t] 92) hs c0 c1
          rcases hparts with B0' | ⟨B0', B1'⟩
          · have B0 := Lib.hid B0'
            clear B0'
            go_wp2_with fail
            refine (within_is B0 _).mono ?_
            rintro e w' ⟨rfl, rfl⟩
            go_wp2
            exact bodyPost_ret (v := .agg #[.int .i64 2, .int .i64 (k : Int)]) (by simp [results, Tryd.results25, go_sem, S.1, S.2]) rfl ⟨by rw [hv.out, hres.out]; rfl, (below_set2 _ _ hbel (Nat.le_refl _)).alloc (by simp; omega) _⟩
          · have B0 := Lib.hid B0'
            have B1 := Lib.hid B1'
            clear B0' B1'
            go_wp2_with fail
            refine (within_is B0 _).mono ?_
            rintro e w' ⟨rfl, rfl⟩
            go_wp2_with fail
            refine (within_is B1 _).mono ?_
            rintro e w' ⟨rfl, rfl⟩
            go_wp2
            exact bodyPost_ret (v := .agg #[.int .i64 2, .int .i64 (k : Int)]) (by simp [results, Tryd.results25, go_sem, S.1, S.2]) rfl ⟨by rw [hv.out, hres.out]; rfl, (below_set2 _ _ hbel (Nat.le_refl _)).alloc (by simp; omega) _⟩
        · have hok : 0 ≤ r ∧ r ≤ 200 ∧ 1 ≤ t ∧ t ≤ 1099511627776 := by unfold entBad at hbad; simp only at hbad; omega
          obtain ⟨g0, g1, g2, g3⟩ := hok
          have B0 := Lib.hid (show inB r 0 200 = true by unfold inB; simp [g0, g1])
          have B1 := Lib.hid (show inB t 1 1099511627776 = true by unfold inB; simp [g2, g3])
          clear g0 g1 g2 g3
          have Hbad := Lib.hid hbad
          clear hbad
          by_cases ho : r ≤ last
          · have hres := Lib.hid (Hat.out.order hX.out Hbad.out (by rw [← hla.out]; exact ho))
            have S := set2_alloc (.int .i64 10) (.int .i64 (k : Int)) (.cells #[.int .i64 r, .int .i64 t] 92) hs c0 c1
            go_wp2_with fail
            refine (within_is B0 _).mono ?_
            rintro e w' ⟨rfl, rfl⟩
            go_wp2_with fail
            refine (within_is B1 _).mono ?_
            rintro e w' ⟨rfl, rfl⟩
            go_wp2
            exact bodyPost_ret (v := .agg #[.int .i64 10, .int .i64 (k : Int)]) (by simp [results, Tryd.results25, go_sem, S.1, S.2]) rfl ⟨by rw [hv.out, hres.out]; rfl, (below_set2 _ _ hbel (Nat.le_refl _)).alloc (by simp; omega) _⟩
          · have hnext := Lib.hid (Hat.out.succ hX.out Hbad.out (by rw [← hla.out]; exact ho))
            have hl2 := Lib.hid (lastAt_succ l k r t hX.out)
            go_wp2_with fail
            refine (within_is B0 _).mono ?_
            rintro e w' ⟨rfl, rfl⟩
            go_wp2_with fail
            refine (within_is B1 _).mono ?_
            rintro e w' ⟨rfl, rfl⟩
            go_wp2
            go_roundw
            case rel => exact ⟨k + 1, by omega, by go_num, by rw [hl2.out], hnext.out, (Two.mk c0 c1 f0 f1).below (below1 _ _), hbel.alloc (by omega) _⟩
            case measure => simp [intOf]; omega
      · obtain rfl : k = n := by omega
        have hend := Lib.hid (Hat.out.all (by rw [hlen.out]; exact Nat.le_refl _))
        clear hlt
        go_wp2_with fail
        refine (good_any _).mono ?_
        rintro e w' ⟨rfl, hb⟩
        have hz := hb.size
        have f0 := (hb.frozen (p := ⟨w.heap.size, 0, none⟩) hs).trans f0
        have f1 := (hb.frozen (p := ⟨w.heap.size, 1, none⟩) hs).trans f1
        have c0 := (hb.cell (p := ⟨w.heap.size, 0, none⟩) hs).trans c0
        have c1 := (hb.cell (p := ⟨w.heap.size, 1, none⟩) hs).trans c1
        have S := set2 (.int .i64 0) (.int .i64 (-1)) c0 c1
        go_wp2
        exact bodyPost_ret (v := .agg #[.int .i64 0, .int .i64 (-1)]) (by simp [results, Tryd.results25, go_sem, S.1, S.2]) rfl ⟨by rw [hv.out, hend.out]; rfl, below_set2 _ _ (hbel.trans (hb.mono (by omega))) (Nat.le_refl _)⟩
end Go.Proofs.YtglemfdnfaemiaaDoor
end

section
namespace Go.Proofs.YtglemfdnfaemiaaDoor
open Go.RowKit As
theorem is_any (f : Int × Int) (w : World) : Calls Tryd.prog 95 #[.agg #[.int .i64 f.1, .int .i64 f.2]] w fun r w' => r = .returned (.bool (f.1 == 0)) ∧ Below w.heap.size w w' := by
  go_enter Tryd.func95, Tryd.ntmps95
  go_wp2
  go_ret
  exact ⟨rfl, below1 _ _⟩
end Go.Proofs.YtglemfdnfaemiaaDoor
end
