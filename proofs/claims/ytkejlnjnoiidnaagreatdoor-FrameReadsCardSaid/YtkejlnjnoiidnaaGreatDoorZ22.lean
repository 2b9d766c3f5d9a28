/- VectorWrite of the reference says what vwrite says. -/
import Derived.Test.YtkejlnjnoiidnaaGreatDoorZ10b
import Derived.Test.YtkejlnjnoiidnaaGreatDoorZ8
import Derived.Test.YtkejlnjnoiidnaaGreatDoorZ10
import Derived.Test.YtkejlnjnoiidnaaGreatDoorZ3
import Derived.Test.YtkejlnjnoiidnaaGreatDoorZ4
section
namespace Go.Proofs.YtkejlnjnoiidnaaGreatDoor
set_option linter.unusedSimpArgs false
open Go.RowKit As
def vecV (g cap N : Nat) (r t : Int) (u : Value) (q : Nat × Value) : Nat → Value
 | 0 => .slice (some ⟨g, 0, none⟩) (N + 1) cap
 | 1 => .slice (some ⟨g, 0, none⟩) (N + 1) cap
 | 2 => .int .i64 ((N : Int) + 1)
 | 3 => .int .i64 (N : Int)
 | 4 => .slice (some ⟨g, 0, none⟩) (N + 1) cap
 | 5 => .slice (some ⟨g, 0, none⟩) (N + 1) cap
 | 6 => .int .i64 ((N : Int) + 1)
 | 7 => .int .i64 (N : Int)
 | 8 => .pointer (some ⟨g, N, none⟩)
 | 9 => u
 | 10 => .agg #[.int .i64 r, .int .i64 t]
 | 11 => .slice (some ⟨q.1, 0, none⟩) 1 1
 | 12 => q.2
 | 13 => .pointer (some ⟨g, N, none⟩)
 | _ => undef
theorem kk_facts {kk n : Nat} (h : kk + 1 < n) (h2 : n ≤ 16) : (((kk + 1 : Nat) : Int) == 0) = false ∧ wrap64 (((kk + 1 : Nat) : Int) - 1) = (kk : Int) ∧ IntKind.i64.wrap (((kk + 1 : Nat) : Int) - 1) = (kk : Int) ∧ ((0 : Int) ≤ (kk : Int) ∧ (kk : Int) < (n : Int)) ∧ (((kk : Int) + 1) == 0) = false := by
 have e : ((kk + 1 : Nat) : Int) - 1 = (kk : Int) := by omega
 refine ⟨by simp; omega, by rw [e]; exact IntWalk.wrap64_in _ (by omega), by rw [e]; exact IntWalk.i64_in _ (by omega), by omega, by simp; omega⟩
theorem r_facts {r : Int} (h : 0 ≤ r) (h2 : r ≤ 200) : wrap64 (r + 1) = r + 1 ∧ IntKind.i64.wrap (r + 1) = r + 1 := ⟨IntWalk.wrap64_in _ (by omega), IntWalk.i64_in _ (by omega)⟩
theorem n_facts {N : Nat} (h : N ≤ 16) : wrap64 ((N : Int) + 1 - 1) = (N : Int) ∧ IntKind.i64.wrap ((N : Int) + 1 - 1) = (N : Int) ∧ ((0 : Int) ≤ (N : Int) ∧ (N : Int) < (N : Int) + 1) ∧ IntKind.i64.wrap (N : Int) = (N : Int) :=
 ⟨by rw [show (N : Int) + 1 - 1 = (N : Int) by omega]; exact IntWalk.wrap64_in _ (by omega), by rw [show (N : Int) + 1 - 1 = (N : Int) by omega]; exact IntWalk.i64_in _ (by omega), by omega, IntWalk.i64_in _ (by omega)⟩
theorem meas_zero {k n : Nat} (h : k = 0) (hlt : k < n) : n - (1 : Int).toNat < n - ((k : Int)).toNat := by omega
theorem none_some {b : Nat} (e : some b = (Value.slice none 0 0).ownBlock) : False := by
 have e' : some b = (none : Option Nat) := e
 cases e'
theorem meas_one {k n : Nat} (h : k < n) : n - ((k : Int) + 1).toNat < n - ((k : Int)).toNat := by omega
theorem runs_parts {l : List Ent} {k : Nat} {R0 : List (List Ent)} {r : List Ent} (h : runs (l.take k) = R0 ++ [r]) (hk : k ≤ 16) : R0.length ≤ 16 ∧ r.length + 1 ≤ 20 := by
 have h1 := runs_len (l.take k)
 have h2 := congrArg List.length (runs_flat (l.take k))
 rw [h] at h1 h2
 simp only [List.length_append, List.length_singleton, List.length_take, List.flatten_append, List.flatten_cons, List.flatten_nil, List.append_nil] at h1 h2
 omega
theorem runs_parts2 {l : List Ent} {k : Nat} {R0 : List (List Ent)} {r : List Ent} (h : runs (l.take k) = R0 ++ [r]) (hk : k ≤ 16) : (R0 ++ [r]).length ≤ 16 := by
 have h1 := runs_len (l.take k)
 rw [h, List.length_take] at h1
 omega
theorem two_cells_at {w : World} {B : Nat} {a b : Value} (h0 : w.cell? ⟨B, 0, none⟩ = some a) (h1 : w.cell? ⟨B, 1, none⟩ = some b) : ∀ j u, ([a, b] : List Value)[j]? = some u → w.cell? ((⟨B, 0, none⟩ : Addr).add j) = some u := by
 intro j u hu
 have hadd : (⟨B, 0, none⟩ : Addr).add j = ⟨B, j, none⟩ := by unfold Addr.add; split <;> simp_all
 rw [hadd]
 match j, hu with
 | 0, hu => simp at hu; subst hu; exact h0
 | 1, hu => simp at hu; subst hu; exact h1
set_option maxHeartbeats 8000000 in
set_option maxRecDepth 100000 in
theorem rvwrite_any (w : World) (n c : Nat) (A : Option Addr) (l : List Ent) (hl : Ents w w.heap.size A n l) (hn : n ≤ maxLen) :
  Calls Tryz.prog 87 #[.slice A n c] w fun e w' => e = .returned (.tuple #[.string (vwrite l).1, faultV (vwrite l).2]) ∧ Below w.heap.size w w' := by
 obtain ⟨i0, hi, hz0, hz1, hz2⟩ := info_parts rowInfo
 obtain ⟨i1, hj, hy0, hy1, hy2⟩ := info_parts entInfo
 have hT0 := Two.new w 0 0 29
 have b0 := below1 w (.cells #[.int .i64 0, .int .i64 0] 29)
 have hl0 := hl.grow b0
 go_enter Tryz.func87, Tryz.ntmps87
 go_wp2_with fail
 refine (rvright_any _ n c A l hl0 hn).mono ?_
 rintro r w1 ⟨rfl, hb1⟩
 unfold faultV
 go_wp2_with fail
 have hk1 := below1 w1 (.cells #[.int .i64 (vright l).1, .int .i64 (vright l).2] 29)
 have T1 := Two.new w1 (vright l).1 (vright l).2 29
 refine (is_any (vright l) _).mono ?_
 rintro r w2 ⟨rfl, hb2⟩
 obtain ⟨g0, g1, _, _⟩ := T1.below hb2
 have hb11 := hb1.trans (hk1.mono hb1.size)
 have hb12 := hb11.trans (hb2.mono hb11.size)
 have hb02 := b0.trans (hb12.mono b0.size)
 clear hk1 T1 hb2 hb1 hb11
 by_cases h1 : (vright l).1 = 0
 ·have hr := Lib.hid (vwrite_good h1)
  have hris := Lib.hid (rises_of h1)
  have hlen := hl.len
  have h16 := vright_ok_len h1
  have h16n : n ≤ 16 := by rw [← hlen]; exact h16
  have e1 : ((vright l).1 == 0) = true := by simpa using h1
  have hl2 := hl.grow hb02
  have hT2 := hT0.below hb12
  have hs0 := hb02.size
  rw [e1]
  clear e1 g0 g1 h1 hl hl0 hT0 hb12 b0
  go_wp2
  go_loopw [5, 6, 7, 23] (fun v _ _ kv wr => ∃ k : Nat, k ≤ n ∧ kv = .int .i64 k ∧ RunsAt wr w2.heap.size v l k ∧ Below w2.heap.size w2 wr) (fun _ _ _ kv _ => n - (intOf kv).toNat)
  case atStart => exact ⟨0, Nat.zero_le _, rfl, .inl ⟨rfl, rfl⟩, Below.refl _ _⟩
  case round =>
   obtain ⟨k, hk, rfl, hR, hbel⟩ := hrel
   have hB := hbel.size
   by_cases hlt : k < n
   ·obtain ⟨b, o, r, t, rfl, hb, hx, hf, hc0, hc1⟩ := hl2.at_ hlt
    have c0 := (hbel.cell (p := ⟨b, o + k * 2, none⟩) hb).trans hc0
    have c1 := (hbel.cell (p := ⟨b, o + k * 2 + 1, none⟩) hb).trans hc1
    go_wp2_with fail
    -- LOOP1
    have x0 : (wr.alloc (.cells #[.int .i64 r, .int .i64 t] 79)).cell? ⟨wr.heap.size, 0, none⟩ = some (.int .i64 r) := by rw [World.cell?_alloc_new]; rfl
    have x1 : (wr.alloc (.cells #[.int .i64 r, .int .i64 t] 79)).cell? ⟨wr.heap.size, 1, none⟩ = some (.int .i64 t) := by rw [World.cell?_alloc_new]; rfl
    have hbA := hbel.alloc hB (.cells #[.int .i64 r, .int .i64 t] 79)
    have hsA : wr.heap.size < (wr.alloc (.cells #[.int .i64 r, .int .i64 t] 79)).heap.size := by simp
    by_cases hk0 : k = 0
    ·rcases hR with ⟨_, rfl⟩ | ⟨h0, _⟩
     rotate_left
     ·exact absurd hk0 (Nat.ne_of_gt h0)
     have kz : ((k : Int) == 0) = true := by simp [hk0]
     have hNX := Lib.hid (show runs (l.take (k + 1)) = [] ++ [[] ++ [(r, t)]] by rw [runs_new hx (.inl hk0), hk0]; rfl)
     have hX := Lib.hid hx
     have HK := Lib.hid hk0
     have hk2 : k ≤ 16 := Nat.le_trans hk h16n
     clear hx hc0 hc1 c0 c1 hf hk0
     go_quiet (fail)
     have x0 : ((wr.alloc (.cells #[.int .i64 r, .int .i64 t] 79)).drewN nq).cell? ⟨wr.heap.size, 0, none⟩ = some (.int .i64 r) := x0
     have x1 : ((wr.alloc (.cells #[.int .i64 r, .int .i64 t] 79)).drewN nq).cell? ⟨wr.heap.size, 1, none⟩ = some (.int .i64 t) := x1
     have hbW := below_drewN hbA nq
     have hsW : wr.heap.size < ((wr.alloc (.cells #[.int .i64 r, .int .i64 t] 79)).drewN nq).heap.size := hsA
     clear hbA hsA
     generalize (wr.alloc (.cells #[.int .i64 r, .int .i64 t] 79)).drewN nq = W at *
     have hO : W.ownsRow w2.heap.size 22 1 (.slice none 0 0) 0 [] := World.ownsRow_nil _ _ _ _
     go_wp2_with (first
      | (at_builtin; refine wpList_append_own _ rfl (.tmp 42) (.tmp 43) 169 rfl w2.heap.size 22 i0 (.slice none 0 0) 1 24 Tryz.underlying169 hi hz0 hz1 hz2 rfl (by decide) _ 0 [] rfl (hO.alloc _) ⟨W.heap.size, 0, none⟩ 1 1 [.slice none 0 0] rfl rfl (cells_new1 _ _ _) (by intro u hu; simp at hu; subst hu; rfl) (by decide) (by decide) (Nat.le_trans hbW.size (by simp)) ?_; intro v2 wA hT2 hg2 _))
     have hbA2 := grown_own (hbW.alloc hbW.size _) hg2 (Nat.le_trans hbW.size (by simp)) (hO.alloc _)
     have bW := below1 W (.cells #[.slice none 0 0] 22)
     have x0 := hg2.cell ((bW.cell (cell_lt x0)).trans x0) (none_some)
     have x1 := hg2.cell ((bW.cell (cell_lt x1)).trans x1) (none_some)
     obtain ⟨H, R0, vs0, rr, u, hNX, hRun, ra, hrl⟩ : ∃ (H : Nat) (R0 : List (List Ent)) (vs0 : List Value) (rr : List Ent) (u : Value), Hid (runs (l.take (k + 1)) = R0 ++ [rr ++ [(r, t)]]) ∧ Runs wA w2.heap.size H v2 R0 vs0 rr u ∧ R0.length ≤ 16 ∧ rr.length + 1 ≤ 20 := ⟨wA.heap.size, [], [], [], .slice none 0 0, hNX, ⟨rfl, hT2, fun i x y hx => (by simp at hx), World.ownsRow_nil _ _ _ _, hbA2.size, Nat.le_refl _⟩, by decide, by decide⟩
     have hbW := hbA2
     clear hT2 hg2 hbA2 bW hO kz
     obtain ⟨g, cap, hvv, hgB, _, _, _⟩ := hRun.form
     rw [hvv] at hRun
     subst hvv
     obtain ⟨nw1, nw2, nin, nw3⟩ := n_facts (N := R0.length) ra
     refine Flow.wp_region_flow' (by kernel_rfl) (by kernel_rfl) (by kernel_rfl) 117 rfl (by kernel_rfl) (vecV g cap R0.length r t u) (fun q L wx => VI w2 H (.slice (some ⟨g, 0, none⟩) (R0.length + 1) cap) R0 vs0 rr u wr.heap.size r t q (L 9) (L 10) (L 11) (L 12) (L 14) wx) (0, .slice none 0 0) ⟨hbW.drew, fun _ => ⟨hRun.below (Below.refl _ _).drew, x0, x1⟩, fun h => (by cases h), fun h => (by cases h), fun h => (by cases h), fun h => (by cases h), fun h => (by cases h), fun h => (by cases h)⟩ ⟨?_, ?_, ?_, ?_, ?_, ?_, ?_, ?_, ?_, ?_, ?_, ?_, ?_, ?_, ?_, trivial⟩ ?_
     ·intro q L wx K ρ hc0 hf0 hF hO hi hd hC hK
      have e5 : ρ (.tmp 5) = .slice (some ⟨g, 0, none⟩) (R0.length + 1) cap := hO 5 (by kernel_rfl)
      simp [go_sem, Flow.yl_value, Flow.yl_skip, Flow.yl_enter, hc0, hf0, e5]
      exact hK q wx hC (fun _ _ => rfl)
     ·intro q L wx K ρ hc0 hf0 hF hO hi hd hC hK
      have e5 : ρ (.tmp 5) = .slice (some ⟨g, 0, none⟩) (R0.length + 1) cap := hO 5 (by kernel_rfl)
      simp [go_sem, Flow.yl_value, Flow.yl_skip, Flow.yl_enter, hc0, hf0, e5]
      exact hK q wx hC (fun _ _ => rfl)
     ·intro q L wx K ρ hc0 hf0 hF hO hi hd hC hK
      have d1 : L 1 = true := hd ⟨1, .data⟩ (by simp) rfl
      have e46 : ρ (.tmp 46) = .slice (some ⟨g, 0, none⟩) (R0.length + 1) cap := hF 46 1 (by kernel_rfl) d1
      simp [go_sem, Flow.yl_value, Flow.yl_skip, Flow.yl_enter, hc0, hf0, e46]
      exact hK q wx hC (fun _ _ => rfl)
     ·intro q L wx K ρ hc0 hf0 hF hO hi hd hC hK
      have d2 : L 2 = true := hd ⟨2, .data⟩ (by simp) rfl
      have e47 : ρ (.tmp 47) = .int .i64 ((R0.length : Int) + 1) := hF 47 2 (by kernel_rfl) d2
      simp [go_sem, Flow.yl_value, Flow.yl_skip, Flow.yl_enter, hc0, hf0, e47, nw1, nw2, nw3]
      exact hK q wx hC (fun _ _ => rfl)
     ·intro q L wx K ρ hc0 hf0 hF hO hi hd hC hK
      have e5 : ρ (.tmp 5) = .slice (some ⟨g, 0, none⟩) (R0.length + 1) cap := hO 5 (by kernel_rfl)
      simp [go_sem, Flow.yl_value, Flow.yl_skip, Flow.yl_enter, hc0, hf0, e5]
      exact hK q wx hC (fun _ _ => rfl)
     ·intro q L wx K ρ hc0 hf0 hF hO hi hd hC hK
      have e5 : ρ (.tmp 5) = .slice (some ⟨g, 0, none⟩) (R0.length + 1) cap := hO 5 (by kernel_rfl)
      simp [go_sem, Flow.yl_value, Flow.yl_skip, Flow.yl_enter, hc0, hf0, e5]
      exact hK q wx hC (fun _ _ => rfl)
     ·intro q L wx K ρ hc0 hf0 hF hO hi hd hC hK
      have d5 : L 5 = true := hd ⟨5, .data⟩ (by simp) rfl
      have e50 : ρ (.tmp 50) = .slice (some ⟨g, 0, none⟩) (R0.length + 1) cap := hF 50 5 (by kernel_rfl) d5
      simp [go_sem, Flow.yl_value, Flow.yl_skip, Flow.yl_enter, hc0, hf0, e50]
      exact hK q wx hC (fun _ _ => rfl)
     ·intro q L wx K ρ hc0 hf0 hF hO hi hd hC hK
      have d6 : L 6 = true := hd ⟨6, .data⟩ (by simp) rfl
      have e51 : ρ (.tmp 51) = .int .i64 ((R0.length : Int) + 1) := hF 51 6 (by kernel_rfl) d6
      simp [go_sem, Flow.yl_value, Flow.yl_skip, Flow.yl_enter, hc0, hf0, e51, nw1, nw2, nw3]
      exact hK q wx hC (fun _ _ => rfl)
     ·intro q L wx K ρ hc0 hf0 hF hO hi hd hC hK
      have d4 : L 4 = true := hd ⟨4, .data⟩ (by simp) rfl
      have d7 : L 7 = true := hd ⟨7, .data⟩ (by simp) rfl
      have e49 : ρ (.tmp 49) = .slice (some ⟨g, 0, none⟩) (R0.length + 1) cap := hF 49 4 (by kernel_rfl) d4
      have e52 : ρ (.tmp 52) = .int .i64 (R0.length : Int) := hF 52 7 (by kernel_rfl) d7
      simp [go_sem, Flow.yl_value, Flow.yl_skip, Flow.yl_enter, hc0, hf0, e49, e52, nin]
      exact hK q wx hC (fun _ _ => rfl)
     ·intro q L wx K ρ hc0 hf0 hF hO hi hd hC hK
      have d8 : L 8 = true := hd ⟨8, .data⟩ (by simp) rfl
      have e53 : ρ (.tmp 53) = .pointer (some ⟨g, R0.length, none⟩) := hF 53 8 (by kernel_rfl) d8
      have hC' := hC
      rw [hi] at hC'
      obtain ⟨p1, _, _⟩ := hC'.pre hC'.no12
      obtain ⟨gg, cc, ee, _, _, ce, _⟩ := p1.form
      injection ee with ee _ _
      injection ee with ee
      injection ee with ee _ _
      subst ee
      simp [go_sem, Flow.yl_value, Flow.yl_skip, Flow.yl_enter, hc0, hf0, e53, ce]
      exact hK q wx ⟨hC.bel, hC.pre, hC.tmp, hC.mid, hC.fin, fun h => ⟨(hC.o12 h).1, rfl⟩, hC.o11, hC.o14⟩ (fun _ _ => rfl)
     ·intro q L wx K ρ hc0 hf0 hF hO hi hd hC hK
      have e7 : ρ (.tmp 7) = .pointer (some ⟨wr.heap.size, 0, none⟩) := hO 7 (by kernel_rfl)
      have hC' := hC
      rw [hi] at hC'
      obtain ⟨_, p2, p3⟩ := hC'.pre hC'.no12'
      simp [go_sem, Flow.yl_value, Flow.yl_skip, Flow.yl_enter, hc0, hf0, e7, p2, p3]
      exact hK q wx ⟨hC.bel, hC.pre, hC.tmp, hC.mid, hC.fin, hC.o12, fun _ => rfl, hC.o14⟩ (fun _ _ => rfl)
     ·intro q L wx K ρ hc0 hf0 hF hO hi hd hC hK
      have d10 : L 10 = true := hd ⟨10, .data⟩ (by simp) rfl
      have e55 : ρ (.tmp 55) = .agg #[.int .i64 r, .int .i64 t] := hF 55 10 (by kernel_rfl) d10
      have hC' := hC
      rw [hi, d10] at hC'
      have hB := hC'.build
      simp [go_sem, Flow.yl_value, Flow.yl_skip, Flow.yl_enter, hc0, hf0, e55]
      refine hK (wx.heap.size, q.2) _ ?_ ?_
      ·show VI _ _ _ _ _ _ _ _ _ _ _ (L 9) (L 10) true (L 12) (L 14) _
       rw [d10]; exact hB
      ·intro j hj; unfold vecV; split <;> first | rfl | (rw [hi] at hj; cases hj)
     ·intro q L wx K ρ hc0 hf0 hF hO hi hd hC hK
      have d9 : L 9 = true := hd ⟨9, .data⟩ (by simp) rfl
      have d11 : L 11 = true := hd ⟨11, .data⟩ (by simp) rfl
      have e54 : ρ (.tmp 54) = u := hF 54 9 (by kernel_rfl) d9
      have e56 : ρ (.tmp 56) = .slice (some ⟨q.1, 0, none⟩) 1 1 := hF 56 11 (by kernel_rfl) d11
      have hC' := hC
      rw [hi, d11] at hC'
      obtain ⟨p1, p2, p3⟩ := hC'.pre rfl
      obtain ⟨t0, t1⟩ := hC'.tmp rfl rfl
      obtain ⟨v', wn, hrun, ho, hg, _⟩ := run_append_own (P := Tryz.prog) wx H 22 22 79 i1 (.agg #[.int .i64 0, .int .i64 0]) 2 16 Tryz.underlying22 hj hy0 hy1 hy2 rfl (by decide) u rr.length (entV rr) p1.last ⟨q.1, 0, none⟩ 1 1 [.int .i64 r, .int .i64 t] rfl (two_cells_at t0 t1) (by intro u hu; simp at hu; rcases hu with rfl | rfl <;> rfl) (Nat.le_trans hrl (by decide)) (by exact Nat.le_trans (Nat.mul_le_mul_right 16 hrl) (by decide)) p1.top
      have ho' := entV_snoc (x := (r, t)) rfl ho
      obtain ⟨uA, uc, hu⟩ := own_form p1.last
      rw [hu] at e54 hrun
      unfold execOp
      simp only [resolve, invoke, builtin, Sem.run_bind, Sem.run_pure, Result.andThen_ok, List.map_toArray, List.map_cons, List.map_nil, e54, e56, hrun]
      refine hK (q.1, v') wn ?_ ?_
      ·refine ⟨hC.bel.grown hg hC.bel.size (fun k hk => Nat.le_trans p1.le (p1.last.lt k hk).1), fun h => (by cases h), fun _ h => (by cases h), fun _ _ => p1.more hg ho', fun h => ?_, fun _ => ⟨d11, d9⟩, hC.o11, fun _ => rfl⟩
       have h' : L 14 = true := h
       rw [hC'.no14] at h'; cases h'
      ·intro j hj; unfold vecV; split <;> first | rfl | (rw [hi] at hj; cases hj)
     ·intro q L wx K ρ hc0 hf0 hF hO hi hd hC hK
      have d0 : L 0 = true := hd ⟨0, .data⟩ (by simp) rfl
      have d3 : L 3 = true := hd ⟨3, .data⟩ (by simp) rfl
      have e45 : ρ (.tmp 45) = .slice (some ⟨g, 0, none⟩) (R0.length + 1) cap := hF 45 0 (by kernel_rfl) d0
      have e48 : ρ (.tmp 48) = .int .i64 (R0.length : Int) := hF 48 3 (by kernel_rfl) d3
      simp [go_sem, Flow.yl_value, Flow.yl_skip, Flow.yl_enter, hc0, hf0, e45, e48, nin]
      exact hK q wx hC (fun _ _ => rfl)
     ·intro q L wx K ρ hc0 hf0 hF hO hi hd hC hK
      have d13 : L 13 = true := hd ⟨13, .data⟩ (by simp) rfl
      have d12 : L 12 = true := hd ⟨12, .data⟩ (by simp) rfl
      have e58 : ρ (.tmp 58) = .pointer (some ⟨g, R0.length, none⟩) := hF 58 13 (by kernel_rfl) d13
      have e57 : ρ (.tmp 57) = q.2 := hF 57 12 (by kernel_rfl) d12
      have hC' := hC
      rw [hi, d12] at hC'
      have hM := hC'.mid rfl rfl
      obtain ⟨qA, qc, hq⟩ := own_form hM.last
      have oc : wx.cell? ⟨g, R0.length, none⟩ = some u := by rw [hM.own.cellAt _ (by rw [Nat.mul_one]; exact Nat.lt_succ_self _), List.getElem?_append_right (by rw [hM.len]; exact Nat.le_refl _), hM.len, Nat.sub_self]; rfl
      have of : wx.frozen? ⟨g, R0.length, none⟩ = false := hM.own.frozenAt _
      have hS := hM.store
      have hq' : q.2 = .slice qA (rr.length + 1) qc := by rw [hq]; simp
      rw [hq'] at e57
      simp [go_sem, Flow.yl_value, Flow.yl_skip, Flow.yl_enter, hc0, hf0, e58, e57, oc, of]
      refine hK q _ ?_ (fun _ _ => rfl)
      refine ⟨hC.bel.setCell hgB _, fun h => ?_, fun _ h => ?_, fun _ h => (by cases h), fun _ => (by rw [← hq']; exact hS), hC.o12, hC.o11, fun _ => d12⟩
      ·have h' : L 12 = false := h; rw [d12] at h'; cases h'
      ·have h' : L 12 = false := h; rw [d12] at h'; cases h'
     ·intro q L wx hL hC
      have hF := hC.fin (hL 14 (by decide))
      have hbF := hC.bel
      simp only [Flow.putAll, vecV]
      go_wp2
      go_roundw
      case rel => exact ⟨_, hlt, by go_num, .inr ⟨Nat.succ_pos _, H, R0, vs0, _, q.2, hNX.out, hF⟩, hbF⟩
      case measure => first | exact meas_one hlt | exact meas_zero HK.out hlt
    ·obtain ⟨kk, rfl⟩ : ∃ kk, k = kk + 1 := ⟨k - 1, (Nat.succ_pred hk0).symm⟩
     rcases hR with ⟨h0, _⟩ | ⟨_, H, R0, vs0, rr, u, hRR, hRun0⟩
     ·exact absurd h0 hk0
     obtain ⟨b', o', r9, t9, e', _, hx9, _, hd0, _⟩ := hl2.at_ (k := kk) (Nat.lt_of_succ_lt hlt)
     injection e' with e'
     injection e' with e1 e2 _
     subst e1 e2
     have h9 := hris.out.1 _ (List.mem_of_getElem? hx9)
     simp only at h9
     have hlR := runs_parts hRR (Nat.le_trans (Nat.le_of_lt hlt) h16n)
     have d0 := ((below1 wr (.cells #[.int .i64 r, .int .i64 t] 79)).cell (p := ⟨b, o + kk * 2, none⟩) (Nat.lt_of_lt_of_le hb hB)).trans ((hbel.cell (p := ⟨b, o + kk * 2, none⟩) hb).trans hd0)
     have hRun1 := hRun0.alloc (.cells #[.int .i64 r, .int .i64 t] 79)
     obtain ⟨kf0, kf1, kf2, kf3, kf4⟩ := kk_facts (kk := kk) (n := n) hlt h16n
     obtain ⟨rw1, rw2⟩ := r_facts h9.1 h9.2.1
     obtain ⟨ra, rb⟩ := hlR
     by_cases hey : r9 + 1 = r
     ·have hne : (r9 + 1 != r) = false := by simp [hey]
      have hNX := Lib.hid (runs_ext hx hx9 hey hRR)
      have hey' := Lib.hid hey
      have hX := Lib.hid hx
      have hX9 := Lib.hid hx9
      clear hey hx hx9 hd0 hc0 hc1 c0 c1 hf
      go_quiet (fail)
      have hRun := hRun1.below (below_drewN (Below.refl _ _) nq)
      have x0 : ((wr.alloc (.cells #[.int .i64 r, .int .i64 t] 79)).drewN nq).cell? ⟨wr.heap.size, 0, none⟩ = some (.int .i64 r) := x0
      have x1 : ((wr.alloc (.cells #[.int .i64 r, .int .i64 t] 79)).drewN nq).cell? ⟨wr.heap.size, 1, none⟩ = some (.int .i64 t) := x1
      have hbW := below_drewN hbA nq
      have hsW : wr.heap.size < ((wr.alloc (.cells #[.int .i64 r, .int .i64 t] 79)).drewN nq).heap.size := hsA
      clear d0 hne hRun0 hRun1 hbA hsA
      have hrl : rr.length + 1 ≤ 20 := rb
      generalize (wr.alloc (.cells #[.int .i64 r, .int .i64 t] 79)).drewN nq = W at *
      obtain ⟨g, cap, hvv, hgB, _, _, _⟩ := hRun.form
      rw [hvv] at hRun
      subst hvv
      obtain ⟨nw1, nw2, nin, nw3⟩ := n_facts (N := R0.length) ra
      go_wp2_with fail
      refine Flow.wp_region_flow' (by kernel_rfl) (by kernel_rfl) (by kernel_rfl) 117 rfl (by kernel_rfl) (vecV g cap R0.length r t u) (fun q L wx => VI w2 H (.slice (some ⟨g, 0, none⟩) (R0.length + 1) cap) R0 vs0 rr u wr.heap.size r t q (L 9) (L 10) (L 11) (L 12) (L 14) wx) (0, .slice none 0 0) ⟨hbW.drew, fun _ => ⟨hRun.below (Below.refl _ _).drew, x0, x1⟩, fun h => (by cases h), fun h => (by cases h), fun h => (by cases h), fun h => (by cases h), fun h => (by cases h), fun h => (by cases h)⟩ ⟨?_, ?_, ?_, ?_, ?_, ?_, ?_, ?_, ?_, ?_, ?_, ?_, ?_, ?_, ?_, trivial⟩ ?_
      ·intro q L wx K ρ hc0 hf0 hF hO hi hd hC hK
       have e5 : ρ (.tmp 5) = .slice (some ⟨g, 0, none⟩) (R0.length + 1) cap := hO 5 (by kernel_rfl)
       simp [go_sem, Flow.yl_value, Flow.yl_skip, Flow.yl_enter, hc0, hf0, e5]
       exact hK q wx hC (fun _ _ => rfl)
      ·intro q L wx K ρ hc0 hf0 hF hO hi hd hC hK
       have e5 : ρ (.tmp 5) = .slice (some ⟨g, 0, none⟩) (R0.length + 1) cap := hO 5 (by kernel_rfl)
       simp [go_sem, Flow.yl_value, Flow.yl_skip, Flow.yl_enter, hc0, hf0, e5]
       exact hK q wx hC (fun _ _ => rfl)
      ·intro q L wx K ρ hc0 hf0 hF hO hi hd hC hK
       have d1 : L 1 = true := hd ⟨1, .data⟩ (by simp) rfl
       have e46 : ρ (.tmp 46) = .slice (some ⟨g, 0, none⟩) (R0.length + 1) cap := hF 46 1 (by kernel_rfl) d1
       simp [go_sem, Flow.yl_value, Flow.yl_skip, Flow.yl_enter, hc0, hf0, e46]
       exact hK q wx hC (fun _ _ => rfl)
      ·intro q L wx K ρ hc0 hf0 hF hO hi hd hC hK
       have d2 : L 2 = true := hd ⟨2, .data⟩ (by simp) rfl
       have e47 : ρ (.tmp 47) = .int .i64 ((R0.length : Int) + 1) := hF 47 2 (by kernel_rfl) d2
       simp [go_sem, Flow.yl_value, Flow.yl_skip, Flow.yl_enter, hc0, hf0, e47, nw1, nw2, nw3]
       exact hK q wx hC (fun _ _ => rfl)
      ·intro q L wx K ρ hc0 hf0 hF hO hi hd hC hK
       have e5 : ρ (.tmp 5) = .slice (some ⟨g, 0, none⟩) (R0.length + 1) cap := hO 5 (by kernel_rfl)
       simp [go_sem, Flow.yl_value, Flow.yl_skip, Flow.yl_enter, hc0, hf0, e5]
       exact hK q wx hC (fun _ _ => rfl)
      ·intro q L wx K ρ hc0 hf0 hF hO hi hd hC hK
       have e5 : ρ (.tmp 5) = .slice (some ⟨g, 0, none⟩) (R0.length + 1) cap := hO 5 (by kernel_rfl)
       simp [go_sem, Flow.yl_value, Flow.yl_skip, Flow.yl_enter, hc0, hf0, e5]
       exact hK q wx hC (fun _ _ => rfl)
      ·intro q L wx K ρ hc0 hf0 hF hO hi hd hC hK
       have d5 : L 5 = true := hd ⟨5, .data⟩ (by simp) rfl
       have e50 : ρ (.tmp 50) = .slice (some ⟨g, 0, none⟩) (R0.length + 1) cap := hF 50 5 (by kernel_rfl) d5
       simp [go_sem, Flow.yl_value, Flow.yl_skip, Flow.yl_enter, hc0, hf0, e50]
       exact hK q wx hC (fun _ _ => rfl)
      ·intro q L wx K ρ hc0 hf0 hF hO hi hd hC hK
       have d6 : L 6 = true := hd ⟨6, .data⟩ (by simp) rfl
       have e51 : ρ (.tmp 51) = .int .i64 ((R0.length : Int) + 1) := hF 51 6 (by kernel_rfl) d6
       simp [go_sem, Flow.yl_value, Flow.yl_skip, Flow.yl_enter, hc0, hf0, e51, nw1, nw2, nw3]
       exact hK q wx hC (fun _ _ => rfl)
      ·intro q L wx K ρ hc0 hf0 hF hO hi hd hC hK
       have d4 : L 4 = true := hd ⟨4, .data⟩ (by simp) rfl
       have d7 : L 7 = true := hd ⟨7, .data⟩ (by simp) rfl
       have e49 : ρ (.tmp 49) = .slice (some ⟨g, 0, none⟩) (R0.length + 1) cap := hF 49 4 (by kernel_rfl) d4
       have e52 : ρ (.tmp 52) = .int .i64 (R0.length : Int) := hF 52 7 (by kernel_rfl) d7
       simp [go_sem, Flow.yl_value, Flow.yl_skip, Flow.yl_enter, hc0, hf0, e49, e52, nin]
       exact hK q wx hC (fun _ _ => rfl)
      ·intro q L wx K ρ hc0 hf0 hF hO hi hd hC hK
       have d8 : L 8 = true := hd ⟨8, .data⟩ (by simp) rfl
       have e53 : ρ (.tmp 53) = .pointer (some ⟨g, R0.length, none⟩) := hF 53 8 (by kernel_rfl) d8
       have hC' := hC
       rw [hi] at hC'
       obtain ⟨p1, _, _⟩ := hC'.pre hC'.no12
       obtain ⟨gg, cc, ee, _, _, ce, _⟩ := p1.form
       injection ee with ee _ _
       injection ee with ee
       injection ee with ee _ _
       subst ee
       simp [go_sem, Flow.yl_value, Flow.yl_skip, Flow.yl_enter, hc0, hf0, e53, ce]
       exact hK q wx ⟨hC.bel, hC.pre, hC.tmp, hC.mid, hC.fin, fun h => ⟨(hC.o12 h).1, rfl⟩, hC.o11, hC.o14⟩ (fun _ _ => rfl)
      ·intro q L wx K ρ hc0 hf0 hF hO hi hd hC hK
       have e7 : ρ (.tmp 7) = .pointer (some ⟨wr.heap.size, 0, none⟩) := hO 7 (by kernel_rfl)
       have hC' := hC
       rw [hi] at hC'
       obtain ⟨_, p2, p3⟩ := hC'.pre hC'.no12'
       simp [go_sem, Flow.yl_value, Flow.yl_skip, Flow.yl_enter, hc0, hf0, e7, p2, p3]
       exact hK q wx ⟨hC.bel, hC.pre, hC.tmp, hC.mid, hC.fin, hC.o12, fun _ => rfl, hC.o14⟩ (fun _ _ => rfl)
      ·intro q L wx K ρ hc0 hf0 hF hO hi hd hC hK
       have d10 : L 10 = true := hd ⟨10, .data⟩ (by simp) rfl
       have e55 : ρ (.tmp 55) = .agg #[.int .i64 r, .int .i64 t] := hF 55 10 (by kernel_rfl) d10
       have hC' := hC
       rw [hi, d10] at hC'
       have hB := hC'.build
       simp [go_sem, Flow.yl_value, Flow.yl_skip, Flow.yl_enter, hc0, hf0, e55]
       refine hK (wx.heap.size, q.2) _ ?_ ?_
       ·show VI _ _ _ _ _ _ _ _ _ _ _ (L 9) (L 10) true (L 12) (L 14) _
        rw [d10]; exact hB
       ·intro j hj; unfold vecV; split <;> first | rfl | (rw [hi] at hj; cases hj)
      ·intro q L wx K ρ hc0 hf0 hF hO hi hd hC hK
       have d9 : L 9 = true := hd ⟨9, .data⟩ (by simp) rfl
       have d11 : L 11 = true := hd ⟨11, .data⟩ (by simp) rfl
       have e54 : ρ (.tmp 54) = u := hF 54 9 (by kernel_rfl) d9
       have e56 : ρ (.tmp 56) = .slice (some ⟨q.1, 0, none⟩) 1 1 := hF 56 11 (by kernel_rfl) d11
       have hC' := hC
       rw [hi, d11] at hC'
       obtain ⟨p1, p2, p3⟩ := hC'.pre rfl
       obtain ⟨t0, t1⟩ := hC'.tmp rfl rfl
       obtain ⟨v', wn, hrun, ho, hg, _⟩ := run_append_own (P := Tryz.prog) wx H 22 22 79 i1 (.agg #[.int .i64 0, .int .i64 0]) 2 16 Tryz.underlying22 hj hy0 hy1 hy2 rfl (by decide) u rr.length (entV rr) p1.last ⟨q.1, 0, none⟩ 1 1 [.int .i64 r, .int .i64 t] rfl (two_cells_at t0 t1) (by intro u hu; simp at hu; rcases hu with rfl | rfl <;> rfl) (Nat.le_trans hrl (by decide)) (by exact Nat.le_trans (Nat.mul_le_mul_right 16 hrl) (by decide)) p1.top
       have ho' := entV_snoc (x := (r, t)) rfl ho
       obtain ⟨uA, uc, hu⟩ := own_form p1.last
       rw [hu] at e54 hrun
       unfold execOp
       simp only [resolve, invoke, builtin, Sem.run_bind, Sem.run_pure, Result.andThen_ok, List.map_toArray, List.map_cons, List.map_nil, e54, e56, hrun]
       refine hK (q.1, v') wn ?_ ?_
       ·refine ⟨hC.bel.grown hg hC.bel.size (fun k hk => Nat.le_trans p1.le (p1.last.lt k hk).1), fun h => (by cases h), fun _ h => (by cases h), fun _ _ => p1.more hg ho', fun h => ?_, fun _ => ⟨d11, d9⟩, hC.o11, fun _ => rfl⟩
        have h' : L 14 = true := h
        rw [hC'.no14] at h'; cases h'
       ·intro j hj; unfold vecV; split <;> first | rfl | (rw [hi] at hj; cases hj)
      ·intro q L wx K ρ hc0 hf0 hF hO hi hd hC hK
       have d0 : L 0 = true := hd ⟨0, .data⟩ (by simp) rfl
       have d3 : L 3 = true := hd ⟨3, .data⟩ (by simp) rfl
       have e45 : ρ (.tmp 45) = .slice (some ⟨g, 0, none⟩) (R0.length + 1) cap := hF 45 0 (by kernel_rfl) d0
       have e48 : ρ (.tmp 48) = .int .i64 (R0.length : Int) := hF 48 3 (by kernel_rfl) d3
       simp [go_sem, Flow.yl_value, Flow.yl_skip, Flow.yl_enter, hc0, hf0, e45, e48, nin]
       exact hK q wx hC (fun _ _ => rfl)
      ·intro q L wx K ρ hc0 hf0 hF hO hi hd hC hK
       have d13 : L 13 = true := hd ⟨13, .data⟩ (by simp) rfl
       have d12 : L 12 = true := hd ⟨12, .data⟩ (by simp) rfl
       have e58 : ρ (.tmp 58) = .pointer (some ⟨g, R0.length, none⟩) := hF 58 13 (by kernel_rfl) d13
       have e57 : ρ (.tmp 57) = q.2 := hF 57 12 (by kernel_rfl) d12
       have hC' := hC
       rw [hi, d12] at hC'
       have hM := hC'.mid rfl rfl
       obtain ⟨qA, qc, hq⟩ := own_form hM.last
       have oc : wx.cell? ⟨g, R0.length, none⟩ = some u := by rw [hM.own.cellAt _ (by rw [Nat.mul_one]; exact Nat.lt_succ_self _), List.getElem?_append_right (by rw [hM.len]; exact Nat.le_refl _), hM.len, Nat.sub_self]; rfl
       have of : wx.frozen? ⟨g, R0.length, none⟩ = false := hM.own.frozenAt _
       have hS := hM.store
       have hq' : q.2 = .slice qA (rr.length + 1) qc := by rw [hq]; simp
       rw [hq'] at e57
       simp [go_sem, Flow.yl_value, Flow.yl_skip, Flow.yl_enter, hc0, hf0, e58, e57, oc, of]
       refine hK q _ ?_ (fun _ _ => rfl)
       refine ⟨hC.bel.setCell hgB _, fun h => ?_, fun _ h => ?_, fun _ h => (by cases h), fun _ => (by rw [← hq']; exact hS), hC.o12, hC.o11, fun _ => d12⟩
       ·have h' : L 12 = false := h; rw [d12] at h'; cases h'
       ·have h' : L 12 = false := h; rw [d12] at h'; cases h'
      ·intro q L wx hL hC
       have hF := hC.fin (hL 14 (by decide))
       have hbF := hC.bel
       simp only [Flow.putAll, vecV]
       go_wp2
       go_roundw
       case rel => exact ⟨_, hlt, by go_num, .inr ⟨Nat.succ_pos _, H, R0, vs0, _, q.2, hNX.out, hF⟩, hbF⟩
       case measure => first | exact meas_one hlt | exact meas_zero HK.out hlt
     ·have hne : (r9 + 1 != r) = true := by simpa using hey
      have hNX := Lib.hid (show runs (l.take (kk + 1 + 1)) = (R0 ++ [rr]) ++ [[] ++ [(r, t)]] by rw [runs_new hx (.inr ⟨_, hx9, hey⟩), hRR]; rfl)
      have hey' := Lib.hid hey
      have hX := Lib.hid hx
      have hX9 := Lib.hid hx9
      obtain ⟨g0, cap0, hv0, _, hgl0, _, _⟩ := hRun0.form
      have hbx : ∀ e : some wr.heap.size = u5.ownBlock, False := by
       intro e
       rw [hv0] at e
       simp [Value.ownBlock] at e
       omega
      have hN2 := runs_parts2 hRR (Nat.le_trans (Nat.le_of_lt hlt) h16n)
      clear hey hx hx9 hd0 hc0 hc1 c0 c1 hf hgl0
      go_quiet (fail)
      have hRun := hRun1.below (below_drewN (Below.refl _ _) nq)
      have x0 : ((wr.alloc (.cells #[.int .i64 r, .int .i64 t] 79)).drewN nq).cell? ⟨wr.heap.size, 0, none⟩ = some (.int .i64 r) := x0
      have x1 : ((wr.alloc (.cells #[.int .i64 r, .int .i64 t] 79)).drewN nq).cell? ⟨wr.heap.size, 1, none⟩ = some (.int .i64 t) := x1
      have hbW := below_drewN hbA nq
      have hsW : wr.heap.size < ((wr.alloc (.cells #[.int .i64 r, .int .i64 t] 79)).drewN nq).heap.size := hsA
      clear d0 hne hRun0 hRun1 hbA hsA
      generalize (wr.alloc (.cells #[.int .i64 r, .int .i64 t] 79)).drewN nq = W at *
      have hO := hRun.own
      go_wp2_with (first
       | (at_builtin; refine wpList_append_own _ rfl (.tmp 42) (.tmp 43) 169 rfl w2.heap.size 22 i0 (.slice none 0 0) 1 24 Tryz.underlying169 hi hz0 hz1 hz2 rfl (by decide) _ (R0.length + 1) (vs0 ++ [u]) rfl (hO.alloc _) ⟨W.heap.size, 0, none⟩ 1 1 [.slice none 0 0] rfl rfl (cells_new1 _ _ _) (by intro u hu; simp at hu; subst hu; rfl) (Nat.le_trans (Nat.succ_le_succ (Nat.succ_le_succ ra)) (by decide)) (Nat.le_trans (Nat.mul_le_mul_right 24 (Nat.succ_le_succ (Nat.succ_le_succ ra))) (by decide)) (Nat.le_trans hbW.size (by simp)) ?_; intro v2 wA hT2 hg2 _))
      have hbA2 := grown_own (hbW.alloc hbW.size _) hg2 (Nat.le_trans hbW.size (by simp)) (hO.alloc _)
      have bW := below1 W (.cells #[.slice none 0 0] 22)
      have x0 := hg2.cell ((bW.cell (cell_lt x0)).trans x0) (hbx)
      have x1 := hg2.cell ((bW.cell (cell_lt x1)).trans x1) (hbx)
      obtain ⟨H, R0, vs0, rr, u, hNX, hRun, ra, hrl⟩ : ∃ (H : Nat) (R0 : List (List Ent)) (vs0 : List Value) (rr : List Ent) (u : Value), Hid (runs (l.take (kk + 1 + 1)) = R0 ++ [rr ++ [(r, t)]]) ∧ Runs wA w2.heap.size H v2 R0 vs0 rr u ∧ R0.length ≤ 16 ∧ rr.length + 1 ≤ 20 := ⟨wA.heap.size, R0 ++ [rr], vs0 ++ [u], [], .slice none 0 0, hNX, (hRun.alloc _).start hg2 hT2 hbA2.size, hN2, by decide⟩
      have hbW := hbA2
      clear hT2 hg2 hbA2 bW hO
      obtain ⟨g, cap, hvv, hgB, _, _, _⟩ := hRun.form
      rw [hvv] at hRun
      subst hvv
      obtain ⟨nw1, nw2, nin, nw3⟩ := n_facts (N := R0.length) ra
      refine Flow.wp_region_flow' (by kernel_rfl) (by kernel_rfl) (by kernel_rfl) 117 rfl (by kernel_rfl) (vecV g cap R0.length r t u) (fun q L wx => VI w2 H (.slice (some ⟨g, 0, none⟩) (R0.length + 1) cap) R0 vs0 rr u wr.heap.size r t q (L 9) (L 10) (L 11) (L 12) (L 14) wx) (0, .slice none 0 0) ⟨hbW.drew, fun _ => ⟨hRun.below (Below.refl _ _).drew, x0, x1⟩, fun h => (by cases h), fun h => (by cases h), fun h => (by cases h), fun h => (by cases h), fun h => (by cases h), fun h => (by cases h)⟩ ⟨?_, ?_, ?_, ?_, ?_, ?_, ?_, ?_, ?_, ?_, ?_, ?_, ?_, ?_, ?_, trivial⟩ ?_
      ·intro q L wx K ρ hc0 hf0 hF hO hi hd hC hK
       have e5 : ρ (.tmp 5) = .slice (some ⟨g, 0, none⟩) (R0.length + 1) cap := hO 5 (by kernel_rfl)
       simp [go_sem, Flow.yl_value, Flow.yl_skip, Flow.yl_enter, hc0, hf0, e5]
       exact hK q wx hC (fun _ _ => rfl)
      ·intro q L wx K ρ hc0 hf0 hF hO hi hd hC hK
       have e5 : ρ (.tmp 5) = .slice (some ⟨g, 0, none⟩) (R0.length + 1) cap := hO 5 (by kernel_rfl)
       simp [go_sem, Flow.yl_value, Flow.yl_skip, Flow.yl_enter, hc0, hf0, e5]
       exact hK q wx hC (fun _ _ => rfl)
      ·intro q L wx K ρ hc0 hf0 hF hO hi hd hC hK
       have d1 : L 1 = true := hd ⟨1, .data⟩ (by simp) rfl
       have e46 : ρ (.tmp 46) = .slice (some ⟨g, 0, none⟩) (R0.length + 1) cap := hF 46 1 (by kernel_rfl) d1
       simp [go_sem, Flow.yl_value, Flow.yl_skip, Flow.yl_enter, hc0, hf0, e46]
       exact hK q wx hC (fun _ _ => rfl)
      ·intro q L wx K ρ hc0 hf0 hF hO hi hd hC hK
       have d2 : L 2 = true := hd ⟨2, .data⟩ (by simp) rfl
       have e47 : ρ (.tmp 47) = .int .i64 ((R0.length : Int) + 1) := hF 47 2 (by kernel_rfl) d2
       simp [go_sem, Flow.yl_value, Flow.yl_skip, Flow.yl_enter, hc0, hf0, e47, nw1, nw2, nw3]
       exact hK q wx hC (fun _ _ => rfl)
      ·intro q L wx K ρ hc0 hf0 hF hO hi hd hC hK
       have e5 : ρ (.tmp 5) = .slice (some ⟨g, 0, none⟩) (R0.length + 1) cap := hO 5 (by kernel_rfl)
       simp [go_sem, Flow.yl_value, Flow.yl_skip, Flow.yl_enter, hc0, hf0, e5]
       exact hK q wx hC (fun _ _ => rfl)
      ·intro q L wx K ρ hc0 hf0 hF hO hi hd hC hK
       have e5 : ρ (.tmp 5) = .slice (some ⟨g, 0, none⟩) (R0.length + 1) cap := hO 5 (by kernel_rfl)
       simp [go_sem, Flow.yl_value, Flow.yl_skip, Flow.yl_enter, hc0, hf0, e5]
       exact hK q wx hC (fun _ _ => rfl)
      ·intro q L wx K ρ hc0 hf0 hF hO hi hd hC hK
       have d5 : L 5 = true := hd ⟨5, .data⟩ (by simp) rfl
       have e50 : ρ (.tmp 50) = .slice (some ⟨g, 0, none⟩) (R0.length + 1) cap := hF 50 5 (by kernel_rfl) d5
       simp [go_sem, Flow.yl_value, Flow.yl_skip, Flow.yl_enter, hc0, hf0, e50]
       exact hK q wx hC (fun _ _ => rfl)
      ·intro q L wx K ρ hc0 hf0 hF hO hi hd hC hK
       have d6 : L 6 = true := hd ⟨6, .data⟩ (by simp) rfl
       have e51 : ρ (.tmp 51) = .int .i64 ((R0.length : Int) + 1) := hF 51 6 (by kernel_rfl) d6
       simp [go_sem, Flow.yl_value, Flow.yl_skip, Flow.yl_enter, hc0, hf0, e51, nw1, nw2, nw3]
       exact hK q wx hC (fun _ _ => rfl)
      ·intro q L wx K ρ hc0 hf0 hF hO hi hd hC hK
       have d4 : L 4 = true := hd ⟨4, .data⟩ (by simp) rfl
       have d7 : L 7 = true := hd ⟨7, .data⟩ (by simp) rfl
       have e49 : ρ (.tmp 49) = .slice (some ⟨g, 0, none⟩) (R0.length + 1) cap := hF 49 4 (by kernel_rfl) d4
       have e52 : ρ (.tmp 52) = .int .i64 (R0.length : Int) := hF 52 7 (by kernel_rfl) d7
       simp [go_sem, Flow.yl_value, Flow.yl_skip, Flow.yl_enter, hc0, hf0, e49, e52, nin]
       exact hK q wx hC (fun _ _ => rfl)
      ·intro q L wx K ρ hc0 hf0 hF hO hi hd hC hK
       have d8 : L 8 = true := hd ⟨8, .data⟩ (by simp) rfl
       have e53 : ρ (.tmp 53) = .pointer (some ⟨g, R0.length, none⟩) := hF 53 8 (by kernel_rfl) d8
       have hC' := hC
       rw [hi] at hC'
       obtain ⟨p1, _, _⟩ := hC'.pre hC'.no12
       obtain ⟨gg, cc, ee, _, _, ce, _⟩ := p1.form
       injection ee with ee _ _
       injection ee with ee
       injection ee with ee _ _
       subst ee
       simp [go_sem, Flow.yl_value, Flow.yl_skip, Flow.yl_enter, hc0, hf0, e53, ce]
       exact hK q wx ⟨hC.bel, hC.pre, hC.tmp, hC.mid, hC.fin, fun h => ⟨(hC.o12 h).1, rfl⟩, hC.o11, hC.o14⟩ (fun _ _ => rfl)
      ·intro q L wx K ρ hc0 hf0 hF hO hi hd hC hK
       have e7 : ρ (.tmp 7) = .pointer (some ⟨wr.heap.size, 0, none⟩) := hO 7 (by kernel_rfl)
       have hC' := hC
       rw [hi] at hC'
       obtain ⟨_, p2, p3⟩ := hC'.pre hC'.no12'
       simp [go_sem, Flow.yl_value, Flow.yl_skip, Flow.yl_enter, hc0, hf0, e7, p2, p3]
       exact hK q wx ⟨hC.bel, hC.pre, hC.tmp, hC.mid, hC.fin, hC.o12, fun _ => rfl, hC.o14⟩ (fun _ _ => rfl)
      ·intro q L wx K ρ hc0 hf0 hF hO hi hd hC hK
       have d10 : L 10 = true := hd ⟨10, .data⟩ (by simp) rfl
       have e55 : ρ (.tmp 55) = .agg #[.int .i64 r, .int .i64 t] := hF 55 10 (by kernel_rfl) d10
       have hC' := hC
       rw [hi, d10] at hC'
       have hB := hC'.build
       simp [go_sem, Flow.yl_value, Flow.yl_skip, Flow.yl_enter, hc0, hf0, e55]
       refine hK (wx.heap.size, q.2) _ ?_ ?_
       ·show VI _ _ _ _ _ _ _ _ _ _ _ (L 9) (L 10) true (L 12) (L 14) _
        rw [d10]; exact hB
       ·intro j hj; unfold vecV; split <;> first | rfl | (rw [hi] at hj; cases hj)
      ·intro q L wx K ρ hc0 hf0 hF hO hi hd hC hK
       have d9 : L 9 = true := hd ⟨9, .data⟩ (by simp) rfl
       have d11 : L 11 = true := hd ⟨11, .data⟩ (by simp) rfl
       have e54 : ρ (.tmp 54) = u := hF 54 9 (by kernel_rfl) d9
       have e56 : ρ (.tmp 56) = .slice (some ⟨q.1, 0, none⟩) 1 1 := hF 56 11 (by kernel_rfl) d11
       have hC' := hC
       rw [hi, d11] at hC'
       obtain ⟨p1, p2, p3⟩ := hC'.pre rfl
       obtain ⟨t0, t1⟩ := hC'.tmp rfl rfl
       obtain ⟨v', wn, hrun, ho, hg, _⟩ := run_append_own (P := Tryz.prog) wx H 22 22 79 i1 (.agg #[.int .i64 0, .int .i64 0]) 2 16 Tryz.underlying22 hj hy0 hy1 hy2 rfl (by decide) u rr.length (entV rr) p1.last ⟨q.1, 0, none⟩ 1 1 [.int .i64 r, .int .i64 t] rfl (two_cells_at t0 t1) (by intro u hu; simp at hu; rcases hu with rfl | rfl <;> rfl) (Nat.le_trans hrl (by decide)) (by exact Nat.le_trans (Nat.mul_le_mul_right 16 hrl) (by decide)) p1.top
       have ho' := entV_snoc (x := (r, t)) rfl ho
       obtain ⟨uA, uc, hu⟩ := own_form p1.last
       rw [hu] at e54 hrun
       unfold execOp
       simp only [resolve, invoke, builtin, Sem.run_bind, Sem.run_pure, Result.andThen_ok, List.map_toArray, List.map_cons, List.map_nil, e54, e56, hrun]
       refine hK (q.1, v') wn ?_ ?_
       ·refine ⟨hC.bel.grown hg hC.bel.size (fun k hk => Nat.le_trans p1.le (p1.last.lt k hk).1), fun h => (by cases h), fun _ h => (by cases h), fun _ _ => p1.more hg ho', fun h => ?_, fun _ => ⟨d11, d9⟩, hC.o11, fun _ => rfl⟩
        have h' : L 14 = true := h
        rw [hC'.no14] at h'; cases h'
       ·intro j hj; unfold vecV; split <;> first | rfl | (rw [hi] at hj; cases hj)
      ·intro q L wx K ρ hc0 hf0 hF hO hi hd hC hK
       have d0 : L 0 = true := hd ⟨0, .data⟩ (by simp) rfl
       have d3 : L 3 = true := hd ⟨3, .data⟩ (by simp) rfl
       have e45 : ρ (.tmp 45) = .slice (some ⟨g, 0, none⟩) (R0.length + 1) cap := hF 45 0 (by kernel_rfl) d0
       have e48 : ρ (.tmp 48) = .int .i64 (R0.length : Int) := hF 48 3 (by kernel_rfl) d3
       simp [go_sem, Flow.yl_value, Flow.yl_skip, Flow.yl_enter, hc0, hf0, e45, e48, nin]
       exact hK q wx hC (fun _ _ => rfl)
      ·intro q L wx K ρ hc0 hf0 hF hO hi hd hC hK
       have d13 : L 13 = true := hd ⟨13, .data⟩ (by simp) rfl
       have d12 : L 12 = true := hd ⟨12, .data⟩ (by simp) rfl
       have e58 : ρ (.tmp 58) = .pointer (some ⟨g, R0.length, none⟩) := hF 58 13 (by kernel_rfl) d13
       have e57 : ρ (.tmp 57) = q.2 := hF 57 12 (by kernel_rfl) d12
       have hC' := hC
       rw [hi, d12] at hC'
       have hM := hC'.mid rfl rfl
       obtain ⟨qA, qc, hq⟩ := own_form hM.last
       have oc : wx.cell? ⟨g, R0.length, none⟩ = some u := by rw [hM.own.cellAt _ (by rw [Nat.mul_one]; exact Nat.lt_succ_self _), List.getElem?_append_right (by rw [hM.len]; exact Nat.le_refl _), hM.len, Nat.sub_self]; rfl
       have of : wx.frozen? ⟨g, R0.length, none⟩ = false := hM.own.frozenAt _
       have hS := hM.store
       have hq' : q.2 = .slice qA (rr.length + 1) qc := by rw [hq]; simp
       rw [hq'] at e57
       simp [go_sem, Flow.yl_value, Flow.yl_skip, Flow.yl_enter, hc0, hf0, e58, e57, oc, of]
       refine hK q _ ?_ (fun _ _ => rfl)
       refine ⟨hC.bel.setCell hgB _, fun h => ?_, fun _ h => ?_, fun _ h => (by cases h), fun _ => (by rw [← hq']; exact hS), hC.o12, hC.o11, fun _ => d12⟩
       ·have h' : L 12 = false := h; rw [d12] at h'; cases h'
       ·have h' : L 12 = false := h; rw [d12] at h'; cases h'
      ·intro q L wx hL hC
       have hF := hC.fin (hL 14 (by decide))
       have hbF := hC.bel
       simp only [Flow.putAll, vecV]
       go_wp2
       go_roundw
       case rel => exact ⟨_, hlt, by go_num, .inr ⟨Nat.succ_pos _, H, R0, vs0, _, q.2, hNX.out, hF⟩, hbF⟩
       case measure => first | exact meas_one hlt | exact meas_zero HK.out hlt
    -- END1
   ·obtain rfl : k = n := Nat.le_antisymm hk (Nat.not_lt.1 hlt)
    obtain ⟨A5, c5, vs, rfl, hRd⟩ := (show RunsAt wr w2.heap.size u5 l l.length by rw [hlen]; exact hR).read (fun x hx => hl2.2 x hx)
    have hTr := hT2.below hbel
    have hb0r := hb02.trans (hbel.mono hb02.size)
    have hRl : (runs l).length ≤ 16 := Nat.le_trans (runs_len l) h16
    have hD := Lib.hid (fun (X : List UInt8) (E : Int) (h : RAt (runs l) (runs l).length X E) => h.done)
    obtain ⟨N, hN⟩ : ∃ N, N = (runs l).length := ⟨_, rfl⟩
    have U0 := u64_in (G := N) (Nat.le_trans (by rw [hN]; exact hRl) (by decide))
    have hN16 : N ≤ 16 := by rw [hN]; exact hRl
    obtain ⟨jd1, jd2⟩ := lt_no (Nat.lt_irrefl k)
    rw [← hN]
    rw [← hN] at hD hRl
    have HN := Lib.hid hN
    clear hR hN hbel hb02 hT2
    go_wp2_with fail
    refine (rvary_any N _ (Nat.lt_of_le_of_lt hN16 (by decide))).mono ?_
    rintro y w3 ⟨rfl, hb3⟩
    rw [show (⟨(vput N).toArray⟩ : ByteArray) = strOf (vput N) from rfl]
    have hRd3 := hRd.below hb3
    have hT3 := hTr.below hb3
    have hb03 := hb0r.trans (hb3.mono hb0r.size)
    clear hRd hTr hb0r hb3 jd1 jd2
    go_wp2
    go_loopw [8, 9, 11, 12, 14, 66] (fun sv ev _ _ _ iv wx => ∃ (i : Nat) (X : List UInt8) (E : Int), i ≤ N ∧ iv = .int .i64 i ∧ sv = .string (strOf (vput N ++ X)) ∧ ev = .int .i64 E ∧ Hid (RAt (runs l) i X E) ∧ Below w3.heap.size w3 wx) (fun _ _ _ _ _ iv _ => N - (intOf iv).toNat)
    case atStart => exact ⟨0, [], -1, Nat.zero_le _, rfl, by rw [List.append_nil], rfl, Lib.hid (RAt.new _), Below.refl _ _⟩
    case round =>
     obtain ⟨i, X, E, hi, rfl, rfl, rfl, hat, hbx⟩ := hrel
     have hBx := hbx.size
     by_cases hil : i < N
     ·obtain ⟨ob, oo, bi, oi, ci, r, h0, rfl, hr2, q0, q1, q2, q3, q4, q5, q6, q7, q8, q9⟩ := hRd3.at_ hris.out h16 (by rw [← HN.out]; exact hil) hbx
      obtain ⟨hnext, g0, g1⟩ := hat.out.next hris.out h16 hr2
      have hXl := rat_len hat.out h16
      have hElo := hat.out.lo
      have hEhi := hat.out.hi
      rw [q3] at hnext g0 g1
      obtain ⟨G, hG⟩ := Int.eq_ofNat_of_zero_le g0
      rw [hG] at hnext g1
      rw [Int.toNat_natCast] at hnext
      have hGl : G ≤ 200 := Int.ofNat_le.1 g1
      obtain ⟨z1, z2, z3, z4⟩ := gapE_facts q4 q5 hElo hEhi
      obtain ⟨m1, m2, m3⟩ := m_facts q1 q2
      obtain ⟨M, hM⟩ : ∃ M, M = r.length - 1 := ⟨_, rfl⟩
      rw [← hM] at hnext m1 m2 m3 q9
      have hMl : M ≤ 16 := by rw [hM]; exact Nat.le_trans (Nat.sub_le _ 1) q2
      have hMr : M < r.length := by rw [hM]; exact Nat.sub_lt q1 (by decide)
      have HNX := Lib.hid hnext
      have G1 := u64_in (G := G) (Nat.le_trans hGl (by decide))
      have hrt := Lib.hid (run_times hris.out hr2)
      have Q7 := Lib.hid q7
      obtain ⟨lm, hlm⟩ : ∃ lm, lm = lastR r := ⟨_, rfl⟩
      rw [← hlm] at q9 HNX
      have HLM := Lib.hid hlm
      have Hr := Lib.hid hr2
      have iN : (0 : Int) ≤ (i : Int) ∧ (i : Int) < (N : Int) := ⟨Int.natCast_nonneg i, Int.ofNat_lt.2 hil⟩
      have rN : (0 : Int) ≤ (0 : Int) ∧ (0 : Int) < (r.length : Int) := ⟨Int.le_refl _, Int.ofNat_lt.2 q1⟩
      have mN : (0 : Int) ≤ (M : Int) ∧ (M : Int) < (r.length : Int) := ⟨Int.natCast_nonneg M, Int.ofNat_lt.2 hMr⟩
      obtain ⟨id1, id2⟩ := lt_dec hil
      obtain ⟨iw1, iw2⟩ := j_facts (j := i) (Nat.le_trans hi hN16)
      have hE := Lib.hid hat
      have hML := Lib.hid hM
      clear hnext g0 g1 hM q3 q7 hlm hr2 hat
      obtain ⟨m, hm⟩ : ∃ m, m = r.length := ⟨_, rfl⟩
      rw [← hm] at q0 q1 q2 m1 m2 rN mN hMr
      have Hm := Lib.hid hm
      clear hm
      -- LOOP2
      by_cases hneg : E < 0
      ·have n0 := dec_neg hneg
       rw [if_pos hneg] at hG
       subst hG
       have HE := Lib.hid hneg
       clear hneg
       go_wp2_with fail
       refine (rvary_any G _ (Nat.lt_of_le_of_lt hGl (by decide))).mono ?_
       rintro y w4 ⟨rfl, hb4⟩
       have hbx4 := hbx.trans (hb4.mono hBx)
       go_wp2_with fail
       refine (rvary_any M _ (Nat.lt_of_le_of_lt hMl (by decide))).mono ?_
       rintro y w5 ⟨rfl, hb5⟩
       have hbx5 := hbx4.trans (hb5.mono hbx4.size)
       clear hb4 hb5 hbx4 hbx q0 q6
       obtain ⟨S1, hS1⟩ : ∃ S, S = strOf (vput G) := ⟨_, rfl⟩
       obtain ⟨S2, hS2⟩ : ∃ S, S = strOf (vput M) := ⟨_, rfl⟩
       rw [show (⟨(vput M).toArray⟩ : ByteArray) = S2 from hS2.symm, show (⟨(vput G).toArray⟩ : ByteArray) = S1 from hS1.symm]
       obtain ⟨f1, f2, f3, f4⟩ := rstr_facts (N := N) hGl hMl hN16 hS1 hS2 hXl
       obtain ⟨X1, hX1⟩ : ∃ X1, X1 = vput N ++ (X ++ (vput G ++ vput M)) := ⟨_, rfl⟩
       rw [← hX1] at f3 f4
       have HX1 := Lib.hid hX1
       clear hX1 hS1 hS2
       go_wp2_with fail
       try rw [f3]
       clear f1 f2 f3
       go_loopw [8, 14, 96] (fun sv _ jv wy => ∃ j : Nat, j ≤ m ∧ jv = .int .i64 j ∧ sv = .string (strOf (X1 ++ times (r.take j))) ∧ Below w3.heap.size w3 wy) (fun _ _ jv _ => m - (intOf jv).toNat)
       case atStart => exact ⟨0, Nat.zero_le _, rfl, by simp [times], hbx5⟩
       case round =>
        obtain ⟨j, hj, rfl, rfl, hby⟩ := hrel
        have hBy := hby.size
        by_cases hjm : j < m
        ·obtain ⟨y, T, t0, t1, t2, t3, t4⟩ := Q7.out j (by rw [← Hm.out]; exact hjm)
         have t3 := (hby.cell (p := ⟨bi, oi + j * 2, none⟩) t2).trans t3
         have t4 := (hby.cell (p := ⟨bi, oi + j * 2 + 1, none⟩) t2).trans t4
         have U1 := u64_in t1
         have jn : (0 : Int) ≤ (j : Int) ∧ (j : Int) < (m : Int) := ⟨Int.natCast_nonneg j, Int.ofNat_lt.2 hjm⟩
         obtain ⟨jw1, jw2⟩ := j_facts (j := j) (Nat.le_trans hj q2)
         obtain ⟨jd1, jd2⟩ := lt_dec hjm
         have HT0 := Lib.hid t0
         clear t0 t2
         go_wp2_with fail
         refine (rvary_any T _ (Nat.lt_of_le_of_lt t1 (by decide))).mono ?_
         rintro y w6 ⟨rfl, hb6⟩
         have hby6 := (hby.alloc hBy _).trans (hb6.mono (Nat.le_trans hBy (by simp)))
         obtain ⟨f5, f6⟩ := rtime_facts (j := j) hrt.out f4 (Nat.le_trans hj q2) t1 HT0.out
         rw [show (⟨(vput T).toArray⟩ : ByteArray) = strOf (vput T) from rfl]
         go_wp2_with fail
         go_roundw
         case rel => exact ⟨j + 1, hjm, by first | rfl | (congr 1), by first | rfl | rw [f6], hby6⟩
         case measure => exact meas_next hjm
        ·obtain rfl : j = m := Nat.le_antisymm hj (Nat.not_lt.1 hjm)
         have q8' := (hby.cell (p := ⟨bi, oi + M * 2, none⟩) q8).trans q9
         have hfin := Lib.hid (rfin_facts (r := r) HX1.out)
         have hjr := Lib.hid Hm.out
         obtain ⟨jd1, jd2⟩ := lt_no (Nat.lt_irrefl j)
         go_wp2_with fail
         go_roundw
         case rel => exact ⟨i + 1, _, lm, hil, by first | rfl | (congr 1), by rw [← hfin.out, ← hjr.out], rfl, HNX, hby⟩
         case measure => exact meas_next hil
      ·have n0 := dec_nneg hneg
       rw [if_neg hneg] at hG
       have HE := Lib.hid hneg
       clear hneg
       go_wp2_with fail
       refine (rvary_any G _ (Nat.lt_of_le_of_lt hGl (by decide))).mono ?_
       rintro y w4 ⟨rfl, hb4⟩
       have hbx4 := hbx.trans (hb4.mono hBx)
       go_wp2_with fail
       refine (rvary_any M _ (Nat.lt_of_le_of_lt hMl (by decide))).mono ?_
       rintro y w5 ⟨rfl, hb5⟩
       have hbx5 := hbx4.trans (hb5.mono hbx4.size)
       clear hb4 hb5 hbx4 hbx q0 q6
       obtain ⟨S1, hS1⟩ : ∃ S, S = strOf (vput G) := ⟨_, rfl⟩
       obtain ⟨S2, hS2⟩ : ∃ S, S = strOf (vput M) := ⟨_, rfl⟩
       rw [show (⟨(vput M).toArray⟩ : ByteArray) = S2 from hS2.symm, show (⟨(vput G).toArray⟩ : ByteArray) = S1 from hS1.symm]
       obtain ⟨f1, f2, f3, f4⟩ := rstr_facts (N := N) hGl hMl hN16 hS1 hS2 hXl
       obtain ⟨X1, hX1⟩ : ∃ X1, X1 = vput N ++ (X ++ (vput G ++ vput M)) := ⟨_, rfl⟩
       rw [← hX1] at f3 f4
       have HX1 := Lib.hid hX1
       clear hX1 hS1 hS2
       go_wp2_with fail
       try rw [f3]
       clear f1 f2 f3
       go_loopw [8, 14, 96] (fun sv _ jv wy => ∃ j : Nat, j ≤ m ∧ jv = .int .i64 j ∧ sv = .string (strOf (X1 ++ times (r.take j))) ∧ Below w3.heap.size w3 wy) (fun _ _ jv _ => m - (intOf jv).toNat)
       case atStart => exact ⟨0, Nat.zero_le _, rfl, by simp [times], hbx5⟩
       case round =>
        obtain ⟨j, hj, rfl, rfl, hby⟩ := hrel
        have hBy := hby.size
        by_cases hjm : j < m
        ·obtain ⟨y, T, t0, t1, t2, t3, t4⟩ := Q7.out j (by rw [← Hm.out]; exact hjm)
         have t3 := (hby.cell (p := ⟨bi, oi + j * 2, none⟩) t2).trans t3
         have t4 := (hby.cell (p := ⟨bi, oi + j * 2 + 1, none⟩) t2).trans t4
         have U1 := u64_in t1
         have jn : (0 : Int) ≤ (j : Int) ∧ (j : Int) < (m : Int) := ⟨Int.natCast_nonneg j, Int.ofNat_lt.2 hjm⟩
         obtain ⟨jw1, jw2⟩ := j_facts (j := j) (Nat.le_trans hj q2)
         obtain ⟨jd1, jd2⟩ := lt_dec hjm
         have HT0 := Lib.hid t0
         clear t0 t2
         go_wp2_with fail
         refine (rvary_any T _ (Nat.lt_of_le_of_lt t1 (by decide))).mono ?_
         rintro y w6 ⟨rfl, hb6⟩
         have hby6 := (hby.alloc hBy _).trans (hb6.mono (Nat.le_trans hBy (by simp)))
         obtain ⟨f5, f6⟩ := rtime_facts (j := j) hrt.out f4 (Nat.le_trans hj q2) t1 HT0.out
         rw [show (⟨(vput T).toArray⟩ : ByteArray) = strOf (vput T) from rfl]
         go_wp2_with fail
         go_roundw
         case rel => exact ⟨j + 1, hjm, by first | rfl | (congr 1), by first | rfl | rw [f6], hby6⟩
         case measure => exact meas_next hjm
        ·obtain rfl : j = m := Nat.le_antisymm hj (Nat.not_lt.1 hjm)
         have q8' := (hby.cell (p := ⟨bi, oi + M * 2, none⟩) q8).trans q9
         have hfin := Lib.hid (rfin_facts (r := r) HX1.out)
         have hjr := Lib.hid Hm.out
         obtain ⟨jd1, jd2⟩ := lt_no (Nat.lt_irrefl j)
         go_wp2_with fail
         go_roundw
         case rel => exact ⟨i + 1, _, lm, hil, by first | rfl | (congr 1), by rw [← hfin.out, ← hjr.out], rfl, HNX, hby⟩
         case measure => exact meas_next hil
      -- END2
     ·obtain rfl : i = N := Nat.le_antisymm hi (Nat.not_lt.1 hil)
      have hfin := Lib.hid (show vbytes l = vput i ++ X by
       have h := hat.out
       rw [HN.out] at h ⊢
       exact h.done)
      obtain ⟨jd1, jd2⟩ := lt_no (Nat.lt_irrefl i)
      have hb0x := hb03.trans (hbx.mono hb03.size)
      have hTx := hT3.below hbx
      clear hbx hb03 hT3 hRd3
      go_wp2_with fail
      refine (good_any _).mono ?_
      rintro y w4 ⟨rfl, hb4⟩
      have hb04 := hb0x.trans (hb4.mono hb0x.size)
      obtain ⟨t0, t1, t2, t3⟩ := hTx.below hb4
      have S := set2 (.int .i64 0) (.int .i64 (-1)) t0 t1
      go_wp2
      exact bodyPost_ret (v := .tuple #[.string (strOf (vput i ++ X)), .agg #[.int .i64 0, .int .i64 (-1)]]) (by simp [results, Tryz.results87, go_sem, S.1, S.2]) rfl ⟨by rw [hr.out, hfin.out]; rfl, below_set2 _ _ hb04 (Nat.le_refl _)⟩
 ·have hr := Lib.hid (vwrite_bad h1)
  have e1 : ((vright l).1 == 0) = false := by simpa using h1
  obtain ⟨t0, t1, t2, t3⟩ := hT0.below hb12
  rw [e1]
  clear e1 h1
  go_wp2_with fail
  go_region
  have S := set2 (.int .i64 (vright l).1) (.int .i64 (vright l).2) t0 t1
  go_wp2
  exact bodyPost_ret (v := .tuple #[.string ⟨#[]⟩, .agg #[.int .i64 (vright l).1, .int .i64 (vright l).2]]) (by simp [results, Tryz.results87, go_sem, S.1, S.2]) rfl ⟨by rw [hr.out]; rfl, (below_set2 _ _ hb02 (Nat.le_refl _)).drew⟩
end Go.Proofs.YtkejlnjnoiidnaaGreatDoor
end
