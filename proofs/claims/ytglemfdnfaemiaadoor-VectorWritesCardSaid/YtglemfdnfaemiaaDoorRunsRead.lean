/- Slices of slices of entries, once they are done with: read alone. -/
import Derived.Test.YtglemfdnfaemiaaDoorRuns
import Derived.Test.YtglemfdnfaemiaaDoorRunsLaw
import Derived.Test.YtglemfdnfaemiaaDoorVecWrite
namespace Go.Proofs.YtglemfdnfaemiaaDoor
open Go.RowKit As
/-- The outer slice in the reference's first loop. -/
def RunsAt (w : World) (B : Nat) (v : Value) (l : List Ent) (k : Nat) : Prop :=
  (k = 0 ∧ v = .slice none 0 0) ∨ (0 < k ∧ ∃ H R0 vs0 r u, runs (l.take k) = R0 ++ [r] ∧ Runs w B H v R0 vs0 r u)
structure RRd (w : World) (R : List (List Ent)) (A : Option Addr) (vs : List Value) : Prop where
  sl : Sl w w.heap.size 1 A R.length vs
  each : ∀ (i : Nat) r, R[i]? = some r → ∃ Ai ci, vs[i]? = some (.slice Ai r.length ci) ∧ Ents w w.heap.size Ai r.length r
theorem RRd.below {w w' : World} {R : List (List Ent)} {A : Option Addr} {vs : List Value} (h : RRd w R A vs) (hb : Below w.heap.size w w') : RRd w' R A vs :=
  ⟨h.sl.grow hb, fun i r hr => by obtain ⟨Ai, ci, h1, h2⟩ := h.each i r hr; exact ⟨Ai, ci, h1, h2.grow hb⟩⟩
theorem RunsAt.read {w : World} {B : Nat} {v : Value} {l : List Ent} (h : RunsAt w B v l l.length) (hf : ∀ x ∈ l, entFits x) : ∃ A c vs, v = .slice A (runs l).length c ∧ RRd w (runs l) A vs := by
  rcases h with ⟨h0, rfl⟩ | ⟨_, H, R0, vs0, r, u, hR, hRun⟩
  · have : l = [] := List.length_eq_zero_iff.1 h0
    subst this
    exact ⟨none, 0, [], rfl, Sl.nil, fun i r hr => by simp [runs] at hr⟩
  · rw [List.take_length] at hR
    have hlen : (runs l).length = R0.length + 1 := by rw [hR]; simp
    have ho := hRun.own
    obtain ⟨A, c, rfl⟩ := own_form ho
    refine ⟨A, c, vs0 ++ [u], by rw [hlen], by rw [hlen]; exact Sl.of_own ho, fun i x hx => ?_⟩
    have hfit : ∀ y ∈ x, entFits y := fun y hy => hf y (run_mem (List.mem_of_getElem? hx) hy)
    rw [hR, List.getElem?_append] at hx
    rw [List.getElem?_append, hRun.len]
    by_cases hi : i < R0.length
    · rw [if_pos hi] at hx ⊢
      have hi' : i < vs0.length := by rw [hRun.len]; exact hi
      have hy : vs0[i]? = some vs0[i] := List.getElem?_eq_getElem hi'
      have h1 := (hRun.init i x _ hx hy).1
      obtain ⟨Ai, ci, he⟩ := own_form h1
      rw [he] at h1
      exact ⟨Ai, ci, by rw [hy, he], Sl.of_own h1, hfit⟩
    · rw [if_neg hi] at hx ⊢
      have e : i - R0.length = 0 := by
        rcases Nat.eq_zero_or_pos (i - R0.length) with h0 | h0
        · exact h0
        · rw [List.getElem?_eq_none (by simp; omega)] at hx; cases hx
      rw [e] at hx ⊢
      simp at hx
      subst hx
      have h1 := hRun.last
      obtain ⟨Ai, ci, he⟩ := own_form h1
      rw [he] at h1
      exact ⟨Ai, ci, by rw [he]; rfl, Sl.of_own h1, hfit⟩
/-- Run i, later on. -/
theorem RRd.at_ {w wx : World} {l : List Ent} {A : Option Addr} {vs : List Value} {i : Nat} (h : RRd w (runs l) A vs) (hris : Rises 0 l) (h16 : l.length ≤ 16) (hi : i < (runs l).length) (hb : Below w.heap.size w wx) :
    ∃ (ob oo bi oi ci : Nat) (r : List Ent) (h0 : Int), A = some ⟨ob, oo, none⟩ ∧ (runs l)[i]? = some r ∧ wx.cell? ⟨ob, oo + i, none⟩ = some (.slice (some ⟨bi, oi, none⟩) r.length ci) ∧ 1 ≤ r.length ∧ r.length ≤ 16 ∧ headR r = h0 ∧ 0 ≤ h0 ∧ h0 ≤ 200 ∧ wx.cell? ⟨bi, oi, none⟩ = some (.int .i64 h0) ∧
      (∀ j, j < r.length → ∃ (y : Int) (T : Nat), r[j]? = some (y, (T : Int)) ∧ T ≤ 1099511627776 ∧ bi < w.heap.size ∧ w.cell? ⟨bi, oi + j * 2, none⟩ = some (.int .i64 y) ∧ w.cell? ⟨bi, oi + j * 2 + 1, none⟩ = some (.int .i64 (T : Int))) ∧ (bi < w.heap.size ∧ w.cell? ⟨bi, oi + (r.length - 1) * 2, none⟩ = some (.int .i64 (lastR r))) := by
  have hr : (runs l)[i]? = some (runs l)[i] := List.getElem?_eq_getElem hi
  generalize (runs l)[i] = r at hr
  have hmem : r ∈ runs l := List.mem_of_getElem? hr
  have hne := runs_ne l r hmem
  have hlen : 0 < r.length := List.length_pos_iff.2 hne
  have hle : r.length ≤ 16 := by
    have h2 := (List.sublist_flatten_of_mem hmem).length_le
    rw [runs_flat] at h2
    omega
  obtain ⟨Ai, ci, hv, he⟩ := h.each i r hr
  obtain ⟨ob, oo, rfl, hob, hcell⟩ := h.sl.2 (by omega)
  obtain ⟨bi, oi, ra, ta, rfl, hbi, hx0, _, d0, _⟩ := he.at_ (k := 0) hlen
  have b0 := hris.1 _ (run_mem hmem (List.mem_of_getElem? hx0))
  simp only at b0
  refine ⟨ob, oo, bi, oi, ci, r, ra, rfl, hr, (hb.cell (p := ⟨ob, oo + i, none⟩) hob).trans (hcell i _ hv), hlen, hle, ?_, b0.1, b0.2.1, (hb.cell (p := ⟨bi, oi, none⟩) hbi).trans (by simpa using d0), fun j hj => ?_, hbi, ?_⟩
  · unfold headR; rw [List.head?_eq_getElem?, hx0]; rfl
  · obtain ⟨b', o', y, t, e', _, hx, _, c0, c1⟩ := he.at_ hj
    injection e' with e'
    injection e' with e1 e2 _
    subst e1 e2
    have b1 := hris.1 _ (run_mem hmem (List.mem_of_getElem? hx))
    simp only at b1
    obtain ⟨T, rfl⟩ := Int.eq_ofNat_of_zero_le (show 0 ≤ t by omega)
    exact ⟨y, T, hx, by omega, hbi, c0, c1⟩
  · obtain ⟨b', o', y, t, e', _, hx, _, c0, _⟩ := he.at_ (k := r.length - 1) (by omega)
    injection e' with e'
    injection e' with e1 e2 _
    subst e1 e2
    have : lastR r = y := by unfold lastR; rw [List.getLast?_eq_getElem?, hx]; rfl
    rw [this]; exact c0
/-- The head's bounds, the last one's too. -/
theorem gapE_facts {h E : Int} (h0 : 0 ≤ h) (h1 : h ≤ 200) (h2 : -1 ≤ E) (h3 : E ≤ 200) : wrap64 (h - E) = h - E ∧ IntKind.i64.wrap (h - E) = h - E ∧ wrap64 (h - E - 2) = h - E - 2 ∧ IntKind.i64.wrap (h - E - 2) = h - E - 2 :=
  ⟨IntWalk.wrap64_in _ (by omega), IntWalk.i64_in _ (by omega), IntWalk.wrap64_in _ (by omega), IntWalk.i64_in _ (by omega)⟩
theorem rat_len {l : List Ent} {i : Nat} {X : List UInt8} {E : Int} (h : RAt (runs l) i X E) (h16 : l.length ≤ 16) : X.length ≤ 640 := by
  have h1 := h.len
  have h2 : ((runs l).take i).flatten.length ≤ l.length := by
    have h3 := congrArg List.flatten (List.take_append_drop i (runs l))
    rw [List.flatten_append, runs_flat] at h3
    have := congrArg List.length h3
    rw [List.length_append] at this
    omega
  omega
/-- The strings of a round. -/
theorem rstr_facts {G M N : Nat} {S1 S2 : ByteArray} {X : List UInt8} (hG : G ≤ 200) (hM : M ≤ 16) (hN : N ≤ 16) (h1 : S1 = strOf (vput G)) (h2 : S2 = strOf (vput M)) (hX : X.length ≤ 640) :
    ¬ 9223372036854775807 < S1.size + S2.size ∧ ¬ 9223372036854775807 < (strOf (vput N ++ X)).size + (S1 ++ S2).size ∧ strOf (vput N ++ X) ++ (S1 ++ S2) = strOf (vput N ++ (X ++ (vput G ++ vput M))) ∧ (vput N ++ (X ++ (vput G ++ vput M))).length ≤ 670 := by
  have e1 := vput_len10 (n := G) (by omega)
  have e2 := vput_len10 (n := M) (by omega)
  have e3 := vput_len10 (n := N) (by omega)
  subst h1 h2
  refine ⟨cat_not (by rw [strOf_size]; omega) (by rw [strOf_size]; omega), cat_not (by rw [strOf_size, List.length_append]; omega) (by rw [strOf_app, strOf_size, List.length_append]; omega), by rw [strOf_app, strOf_app, List.append_assoc], by simp only [List.length_append]; omega⟩
theorem rtime_facts {r : List Ent} {j T : Nat} {y : Int} {X1 : List UInt8} (hr : ∀ x ∈ r, 1 ≤ x.2 ∧ x.2 ≤ 1099511627776) (hX : X1.length ≤ 670) (hj : j ≤ 16) (hT : T ≤ 1099511627776) (hx : r[j]? = some (y, (T : Int))) :
    ¬ 9223372036854775807 < (strOf (X1 ++ times (r.take j))).size + (strOf (vput T)).size ∧ strOf (X1 ++ times (r.take j)) ++ strOf (vput T) = strOf (X1 ++ times (r.take (j + 1))) := by
  have e1 := vput_len10 (n := T) (by omega)
  have e2 := times_len (r := r.take j) (fun x hx => hr x (List.mem_of_mem_take hx))
  have e3 : (r.take j).length ≤ j := by rw [List.length_take]; omega
  refine ⟨cat_not (by rw [strOf_size, List.length_append]; omega) (by rw [strOf_size]; omega), ?_⟩
  rw [times_next hx, strOf_app, Int.toNat_natCast, List.append_assoc]
theorem rfin_facts {r : List Ent} {G M N : Nat} {X X1 : List UInt8} (h : X1 = vput N ++ (X ++ (vput G ++ vput M))) : X1 ++ times (r.take r.length) = vput N ++ (X ++ (vput G ++ vput M ++ times r)) := by
  rw [List.take_length, h]
  simp only [List.append_assoc]
theorem run_times {l : List Ent} {i : Nat} {r : List Ent} (hris : Rises 0 l) (hr : (runs l)[i]? = some r) : ∀ x ∈ r, 1 ≤ x.2 ∧ x.2 ≤ 1099511627776 := fun x hx => by
  have := hris.1 x (run_mem (List.mem_of_getElem? hr) hx)
  exact ⟨this.2.2.1, this.2.2.2⟩
theorem dec_neg {E : Int} (h : E < 0) : decide (E < 0) = true := by simpa using h
theorem dec_nneg {E : Int} (h : ¬ E < 0) : decide (E < 0) = false := by simpa using h
end Go.Proofs.YtglemfdnfaemiaaDoor
