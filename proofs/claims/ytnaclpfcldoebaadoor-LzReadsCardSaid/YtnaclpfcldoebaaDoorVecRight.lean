/- vector.Right and VectorRight of the reference say what vright says. -/
import Derived.Test.YtnaclpfcldoebaaDoorVecLaw
import Derived.Test.YtnaclpfcldoebaaDoorErr
import Derived.Deep.Cut
import Derived.Deep.DeepCutAuto
import Derived.Deep.CutBlock
namespace Go.Proofs.YtnaclpfcldoebaaDoor
open Go.RowKit As
/-- An error that is what a pair says. -/
abbrev ErrOf (w : World) (v : Value) (f : Int × Int) : Prop := ErrIs w v f.1 f.2
theorem ErrOf.of {w : World} {v : Value} {e p : Int} {f : Int × Int} (h : ErrIs w v e p) (hf : f = (e, p)) : ErrOf w v f := by subst hf; exact h
theorem err_new (w : World) (e p : Int) (he : e ≠ 0) : ErrIs (w.alloc (.cells #[.int .i64 e, .int .i64 p] 103)) (.iface 101 (.pointer (some ⟨w.heap.size, 0, none⟩))) e p :=
  .at_ _ _ _ _ he (by rw [World.cell?_alloc_at _ _ _ _ rfl]; rfl) (by rw [World.cell?_alloc_at _ _ _ _ rfl]; rfl)
theorem err_at (w : World) (n : Nat) (e p : Int) (he : e ≠ 0) (hn : n = w.heap.size) : ErrIs (w.alloc (.cells #[.int .i64 e, .int .i64 p] 103)) (.iface 101 (.pointer (some ⟨n, 0, none⟩))) e p := by
  subst hn; exact err_new w e p he
theorem bad_parts {r t : Int} (h : entBad (r, t)) : (decide (r < 0) = true) ∨ (decide (r < 0) = false ∧ decide (200 < r) = true) ∨ (decide (r < 0) = false ∧ decide (200 < r) = false ∧ decide (t < 1) = true) ∨ (decide (r < 0) = false ∧ decide (200 < r) = false ∧ decide (t < 1) = false ∧ decide (1099511627776 < t) = true) := by
  unfold entBad at h
  simp only at h
  simp only [decide_eq_true_eq, decide_eq_false_iff_not]
  omega
set_option maxHeartbeats 1000000 in
theorem vright_any (w : World) (n c : Nat) (A : Option Addr) (l : List Ent) (hl : Ents w w.heap.size A n l) (hn : n ≤ maxLen) :
    Calls Tryd.prog 35 #[.slice A n c] w fun e w' => ∃ v, e = .returned v ∧ ErrOf w' v (vright l) ∧ Below w.heap.size w w' := by
  unfold maxLen at hn
  have hlen := hl.len
  by_cases hbig : 16 < n
  · have hv := Lib.hid (vright_big (l := l) (by omega))
    have hd : decide (16 < n) = true := by simpa using hbig
    have hlen := Lib.hid hlen
    clear hl
    go_enter Tryd.func35, Tryd.ntmps35
    go_wp2
    go_ret
    exact ⟨_, rfl, ErrOf.of (.bare 4 (by omega)) hv.out, Below.refl _ _⟩
  · have hv := Lib.hid (vright_small (l := l) (by omega))
    have hd : decide (16 < n) = false := by simpa using hbig
    have hlen := Lib.hid hlen
    go_enter Tryd.func35, Tryd.ntmps35
    go_wp2
    go_loopw [3, 4, 5, 12] (fun _ _ _ i wr => ∃ k : Nat, k ≤ n ∧ i = .int .i64 k ∧ VAt l k ∧ Below w.heap.size w wr) (fun _ _ _ i _ => n - (intOf i).toNat)
    case atStart => exact ⟨0, by omega, rfl, VAt.zero l, Below.refl _ _⟩
    case round =>
      obtain ⟨k, hk, rfl, hat, hbel⟩ := hrel
      have Hat := Lib.hid hat
      clear hat
      have hsz := hbel.size
      by_cases hlt : k < n
      · obtain ⟨b, o, r, t, rfl, hb, hx, hf, hc0, hc1⟩ := hl.at_ hlt
        have c0 := (hbel.cell (p := ⟨b, o + k * 2, none⟩) (by simp; omega)).trans hc0
        have c1 := (hbel.cell (p := ⟨b, o + k * 2 + 1, none⟩) (by simp; omega)).trans hc1
        clear hc0 hc1
        have hX := Lib.hid hx
        clear hx
        have hrt := Lib.hid hf
        clear hf
        by_cases hbad : entBad (r, t)
        · have hres := Lib.hid (Hat.out.bad hX.out hbad)
          have hparts := bad_parts hbad
          clear hbad
          rcases hparts with d0 | ⟨d0, d1⟩ | ⟨d0, d1, d2⟩ | ⟨d0, d1, d2, d3⟩
          all_goals
            go_wp2
            go_ret
            exact ⟨_, rfl, ErrOf.of (err_at _ _ 2 k (by omega) (by simp)) (hv.out.trans hres.out), (hbel.alloc hsz _).alloc (by simp; omega) _⟩
        · have hok : 0 ≤ r ∧ r ≤ 200 ∧ 1 ≤ t ∧ t ≤ 1099511627776 := by unfold entBad at hbad; simp only at hbad; omega
          obtain ⟨g0, g1, g2, g3⟩ := hok
          have d0 : decide (r < 0) = false := by simpa using g0
          have d1 : decide (200 < r) = false := by simpa using g1
          have d2 : decide (t < 1) = false := by simpa using g2
          have d3 : decide (1099511627776 < t) = false := by simpa using g3
          have Hbad := Lib.hid hbad
          clear hbad
          by_cases hk0 : k = 0
          · have hz : decide (0 < k) = false := by simp [hk0]
            have hl0 := Lib.hid hk0
            clear hk0
            have hnext := Lib.hid (Hat.out.succ hX.out Hbad.out (by rw [hl0.out, lastAt_zero]; omega))
            go_wp2
            go_quiet (fail)
            go_wp2
            go_roundw
            case rel => exact ⟨k + 1, by omega, by go_num, hnext.out, below_drewN (hbel.alloc hsz _) _⟩
            case measure => simp [intOf]; omega
          · have hz : decide (0 < k) = true := by simp; omega
            obtain ⟨b', o', r', t', e', hb', hx', hf', hc0', hc1'⟩ := hl.at_ (k := k - 1) (by omega)
            injection e' with e'
            injection e' with e1 e2
            subst e1 e2
            have c2 := (hbel.cell (p := ⟨b, o + (k - 1) * 2, none⟩) (by simp; omega)).trans hc0'
            have hlast := Lib.hid (lastAt_succ l (k - 1) r' t' hx')
            clear hc0' hc1' hx' hf'
            have ek : k - 1 + 1 = k := by omega
            have hk1 : k - 1 < n := by omega
            have hlast2 := Lib.hid ((congrArg (lastAt l) ek).symm.trans hlast.out)
            clear ek hlast
            by_cases ho : r ≤ r'
            · have hres := Lib.hid (Hat.out.order hX.out Hbad.out (by rw [hlast2.out]; exact ho))
              have d4 : decide (r ≤ r') = true := by simpa using ho
              go_wp2
              have hwr : IntKind.i64.wrap ((k : Int) - 1) = ((k - 1 : Nat) : Int) := by rw [IntWalk.i64_in _ (by omega)]; omega
              have c3 : (wr.alloc (.cells #[.int .i64 r, .int .i64 t] 35)).cell? ⟨b, o + (k - 1) * 2, none⟩ = some (.int .i64 r') := (World.cell?_alloc_lt _ _ ⟨b, o + (k - 1) * 2, none⟩ (by simp; omega)).trans c2
              go_quiet (fail)
              go_wp2
              go_ret
              exact ⟨_, rfl, ErrOf.of (err_at _ _ 10 k (by omega) (by simp)) (hv.out.trans hres.out), (below_drewN (hbel.alloc hsz _) _).alloc (by simp; omega) _⟩
            · have hnext := Lib.hid (Hat.out.succ hX.out Hbad.out (by rw [hlast2.out]; exact ho))
              have d4 : decide (r ≤ r') = false := by simpa using ho
              go_wp2
              have hwr : IntKind.i64.wrap ((k : Int) - 1) = ((k - 1 : Nat) : Int) := by rw [IntWalk.i64_in _ (by omega)]; omega
              have c3 : (wr.alloc (.cells #[.int .i64 r, .int .i64 t] 35)).cell? ⟨b, o + (k - 1) * 2, none⟩ = some (.int .i64 r') := (World.cell?_alloc_lt _ _ ⟨b, o + (k - 1) * 2, none⟩ (by simp; omega)).trans c2
              go_quiet (fail)
              clear hwr
              go_wp2
              go_roundw
              case rel => exact ⟨k + 1, by omega, by go_num, hnext.out, below_drewN (hbel.alloc hsz _) _⟩
              case measure => simp [intOf]; omega
      · obtain rfl : k = n := by omega
        have hend := Lib.hid (Hat.out.all (by rw [hlen.out]; exact Nat.le_refl _))
        clear hlt
        go_wp2
        go_ret
        exact ⟨_, rfl, ErrOf.of .none (hv.out.trans hend.out), hbel⟩
/-- within. -/
def inB (n lo hi : Int) : Bool := decide (lo ≤ n ∧ n ≤ hi)
theorem within_any (n lo hi : Int) (w : World) : Calls Tryd.prog 79 #[.int .i64 n, .int .i64 lo, .int .i64 hi] w fun e w' => e = .returned (.bool (inB n lo hi)) ∧ w = w' := by
  by_cases h1 : lo ≤ n
  · by_cases h2 : n ≤ hi
    · have hb : inB n lo hi = true := by unfold inB; simp [h1, h2]
      have Hb := Lib.hid hb
      clear hb
      go_enter Tryd.func79, Tryd.ntmps79
      go_wp2
      go_ret
      exact ⟨retB Hb.out.symm, rfl⟩
    · have hb : inB n lo hi = false := by unfold inB; simp [h1, h2]
      have Hb := Lib.hid hb
      clear hb
      go_enter Tryd.func79, Tryd.ntmps79
      go_wp2
      go_ret
      exact ⟨retB Hb.out.symm, rfl⟩
  · have hb : inB n lo hi = false := by unfold inB; simp [h1]
    have Hb := Lib.hid hb
    clear hb
    go_enter Tryd.func79, Tryd.ntmps79
    go_wp2
    go_ret
    exact ⟨retB Hb.out.symm, rfl⟩
theorem within_is {n lo hi : Int} {b : Bool} (h : Hid (inB n lo hi = b)) (w : World) : Calls Tryd.prog 79 #[.int .i64 n, .int .i64 lo, .int .i64 hi] w fun e w' => e = .returned (.bool b) ∧ w = w' :=
  (within_any n lo hi w).mono fun _ _ ⟨a, b⟩ => ⟨by rw [a]; exact retB h, b⟩
/-- A fault of the reference. -/
def faultV (f : Int × Int) : Value := .agg #[.int .i64 f.1, .int .i64 f.2]
theorem bareF_any (e : Int) (w : World) : Calls Tryd.prog 31 #[.int .i64 e] w fun r w' => r = .returned (.agg #[.int .i64 e, .int .i64 (-1)]) ∧ Below w.heap.size w w' := by
  go_enter Tryd.func31, Tryd.ntmps31
  go_wp2
  exact bodyPost_ret (v := .agg #[.int .i64 e, .int .i64 (-1)]) (by simp [results, Tryd.results31, go_sem]) rfl ⟨rfl, below1 _ _⟩
theorem good_any (w : World) : Calls Tryd.prog 28 #[] w fun r w' => r = .returned (.agg #[.int .i64 0, .int .i64 (-1)]) ∧ Below w.heap.size w w' := by
  go_enter Tryd.func28, Tryd.ntmps28
  go_wp2
  exact bodyPost_ret (v := .agg #[.int .i64 0, .int .i64 (-1)]) (by simp [results, Tryd.results28, go_sem]) rfl ⟨rfl, below1 _ _⟩
theorem set2 {w : World} {s : Nat} {old0 old1 : Value} (a b : Value) (h0 : w.cell? ⟨s, 0, none⟩ = some old0) (h1 : w.cell? ⟨s, 1, none⟩ = some old1) :
    ((w.setCell ⟨s, 0, none⟩ a).setCell ⟨s, 1, none⟩ b).cell? ⟨s, 0, none⟩ = some a ∧ ((w.setCell ⟨s, 0, none⟩ a).setCell ⟨s, 1, none⟩ b).cell? ⟨s, 1, none⟩ = some b := by
  have h1' : (w.setCell ⟨s, 0, none⟩ a).cell? ⟨s, 1, none⟩ = some old1 := by rw [World.cell?_setCell_other _ _ _ _ (by intro h; injection h with _ h2; cases h2)]; exact h1
  refine ⟨?_, World.cell?_setCell_same _ _ _ h1'⟩
  rw [World.cell?_setCell_other _ _ _ _ (by intro h; injection h with _ h2; cases h2)]
  exact World.cell?_setCell_same _ _ _ h0
theorem set2_alloc {w : World} {s : Nat} {old0 old1 : Value} (a b : Value) (o : Obj) (hs : s < w.heap.size) (h0 : w.cell? ⟨s, 0, none⟩ = some old0) (h1 : w.cell? ⟨s, 1, none⟩ = some old1) :
    (((w.setCell ⟨s, 0, none⟩ a).setCell ⟨s, 1, none⟩ b).alloc o).cell? ⟨s, 0, none⟩ = some a ∧ (((w.setCell ⟨s, 0, none⟩ a).setCell ⟨s, 1, none⟩ b).alloc o).cell? ⟨s, 1, none⟩ = some b :=
  ⟨(World.cell?_alloc_lt _ _ ⟨s, 0, none⟩ (by simpa using hs)).trans (set2 a b h0 h1).1, (World.cell?_alloc_lt _ _ ⟨s, 1, none⟩ (by simpa using hs)).trans (set2 a b h0 h1).2⟩
theorem below_set2 {B : Nat} {a w : World} {s : Nat} (x y : Value) (h : Below B a w) (hs : B ≤ s) : Below B a ((w.setCell ⟨s, 0, none⟩ x).setCell ⟨s, 1, none⟩ y) := (h.setCell hs _).setCell hs _
/-- A new block of two numbers, later on. -/
structure Two (w : World) (s : Nat) (a b : Int) : Prop where
  c0 : w.cell? ⟨s, 0, none⟩ = some (.int .i64 a)
  c1 : w.cell? ⟨s, 1, none⟩ = some (.int .i64 b)
  f0 : w.frozen? ⟨s, 0, none⟩ = false
  f1 : w.frozen? ⟨s, 1, none⟩ = false
theorem Two.new (w : World) (a b : Int) (t : TypeId) : Two (w.alloc (.cells #[.int .i64 a, .int .i64 b] t)) w.heap.size a b :=
  ⟨by rw [World.cell?_alloc_at _ _ _ _ rfl]; rfl, by rw [World.cell?_alloc_at _ _ _ _ rfl]; rfl, by simp, by simp⟩
theorem Two.lt {w : World} {s : Nat} {a b : Int} (h : Two w s a b) : s < w.heap.size := cell_lt h.c0
theorem Two.keep {w w' : World} {s B : Nat} {a b : Int} (h : Two w s a b) (hb : Below B w w') (hs : s < B) : Two w' s a b :=
  ⟨(hb.cell (p := ⟨s, 0, none⟩) hs).trans h.c0, (hb.cell (p := ⟨s, 1, none⟩) hs).trans h.c1, (hb.frozen (p := ⟨s, 0, none⟩) hs).trans h.f0, (hb.frozen (p := ⟨s, 1, none⟩) hs).trans h.f1⟩
theorem Two.below {w w' : World} {s : Nat} {a b : Int} (h : Two w s a b) (hb : Below w.heap.size w w') : Two w' s a b := h.keep hb h.lt
theorem bad_inB {r t : Int} (h : entBad (r, t)) : inB r 0 200 = false ∨ (inB r 0 200 = true ∧ inB t 1 1099511627776 = false) := by
  unfold entBad at h
  unfold inB
  simp only at h
  simp only [decide_eq_true_eq, decide_eq_false_iff_not]
  omega
end Go.Proofs.YtnaclpfcldoebaaDoor
