/- How far a vector's bytes are, run by run, in plain Lean. No program in sight. -/
import Derived.Test.YtglemfdnfaemiaaDoorVecWriteLaw
namespace Go.Proofs.YtglemfdnfaemiaaDoor
/-- The entries of a run that begins at k. -/
def runAt (l : List Ent) (k m : Nat) : List Ent := (l.drop k).take m
structure WAt (l : List Ent) (k : Nat) (X : List UInt8) (q : Nat) (e : Int) : Prop where
  fx : (rbytes (runs (l.take k))).1 = X
  fq : (runs (l.take k)).length = q
  fe : (rbytes (runs (l.take k))).2 + 1 = e
  brk : Brk l k
  len : X.length ≤ 40 * k
  lo : 0 ≤ e
  hi : e ≤ 201
  zero : k = 0 ↔ e = 0
theorem WAt.new (l : List Ent) : WAt l 0 [] 0 0 := ⟨rfl, rfl, rfl, .inl rfl, by simp, by omega, by omega, by simp⟩
theorem runAt_get {l : List Ent} {k m j : Nat} (h : j < m) : (runAt l k m)[j]? = l[k + j]? := by
  unfold runAt
  rw [List.getElem?_take_of_lt h, List.getElem?_drop]
theorem runAt_len {l : List Ent} {k m : Nat} (h : k + m ≤ l.length) : (runAt l k m).length = m := by
  unfold runAt
  rw [List.length_take, List.length_drop]; omega
theorem take_run {l : List Ent} {k m : Nat} : l.take (k + m) = l.take k ++ runAt l k m := by
  unfold runAt
  rw [List.take_add]
theorem times_len {r : List Ent} (h : ∀ x ∈ r, 1 ≤ x.2 ∧ x.2 ≤ 1099511627776) : (times r).length ≤ 10 * r.length := by
  induction r with
  | nil => simp [times]
  | cons x r ih =>
    have h1 := ih fun y hy => h y (by simp [hy])
    have h2 := h x (by simp)
    have h3 := vput_len10 (n := x.2.toNat) (by omega)
    unfold times at h1 ⊢
    simp only [List.flatMap_cons, List.length_append, List.length_cons]
    omega
theorem WAt.next {l : List Ent} {k m : Nat} {X : List UInt8} {q : Nat} {e r t : Int} (h : WAt l k X q e) (hl : Rises 0 l) (hk : l[k]? = some (r, t)) (hm : 0 < m) (hkm : k + m ≤ l.length)
    (hc : ∀ j x, j < m → l[k + j]? = some x → x.1 = r + j) (hb : ∀ y, l[k + m]? = some y → y.1 ≠ r + m) :
    WAt l (k + m) (X ++ (vput (if k = 0 then r - e else r - e - 1).toNat ++ vput (m - 1) ++ times (runAt l k m))) (q + 1) (r + m) ∧ 0 ≤ (if k = 0 then r - e else r - e - 1) ∧ (if k = 0 then r - e else r - e - 1) ≤ 200 := by
  have hlen := runAt_len hkm
  have h0 : (runAt l k m)[0]? = some (r, t) := by rw [runAt_get hm]; exact hk
  have hmem : (r, t) ∈ l := List.mem_of_getElem? hk
  have hr := hl.1 _ hmem
  simp only at hr
  have hchain : Chain (runAt l k m) := by
    intro j x y hx hy
    have hj : j + 1 < m := by have := (List.getElem?_eq_some_iff.1 hy).1; omega
    rw [runAt_get (by omega)] at hx hy
    have h1 := hc j x (by omega) hx
    have h2 := hc (j + 1) y hj hy
    omega
  have hrun : runs (l.take (k + m)) = runs (l.take k) ++ [runAt l k m] := by
    have hg := runs_grow (l.take k) (runAt l k m) m ?_ hchain hm (by omega)
    · rw [List.take_of_length_le (i := m) (l := runAt l k m) (by omega)] at hg
      rw [take_run]; exact hg
    · rw [← take_run, List.length_take, Nat.min_eq_left (by omega)]
      rcases h.brk with h' | ⟨x, hx, hy⟩
      · exact .inl h'
      · by_cases hk0 : k = 0
        · exact .inl hk0
        · refine .inr ⟨x, ?_, fun y hyy => hy y ?_⟩
          · rw [List.getElem?_take_of_lt (by omega)]; exact hx
          · rw [List.getElem?_take_of_lt (by omega)] at hyy; exact hyy
  have hlast : ((runAt l k m).getLast?.getD (0, 0)).1 = r + m - 1 := by
    rw [List.getLast?_eq_getElem?, hlen]
    have hx : (runAt l k m)[m - 1]? = some (runAt l k m)[m - 1] := List.getElem?_eq_getElem (by omega)
    rw [hx]
    rw [runAt_get (by omega)] at hx
    have := hc (m - 1) _ (by omega) hx
    simp only [Option.getD_some]
    rw [this]; omega
  have hhead : ((runAt l k m).head?.getD (0, 0)).1 = r := by
    rw [List.head?_eq_getElem?, h0]; rfl
  have hend : (l[k + m - 1]?).map (·.1) = some (r + m - 1) := by
    have hx : l[k + (m - 1)]? = some l[k + (m - 1)] := List.getElem?_eq_getElem (by omega)
    have := hc (m - 1) _ (by omega) hx
    rw [show k + m - 1 = k + (m - 1) by omega, hx, Option.map_some, this]
    congr 1; omega
  have hbound : r + m - 1 ≤ 200 := by
    have hx : l[k + (m - 1)]? = some l[k + (m - 1)] := List.getElem?_eq_getElem (by omega)
    have h1 := hc (m - 1) _ (by omega) hx
    have h2 := (hl.1 _ (List.mem_of_getElem? hx)).2.1
    omega
  have he := h.fe
  have hz := h.zero
  have hlo := h.lo
  have hgap : (if (rbytes (runs (l.take k))).2 < 0 then r else r - (rbytes (runs (l.take k))).2 - 2) = (if k = 0 then r - e else r - e - 1) := by
    by_cases hk0 : k = 0
    · have := hz.1 hk0
      rw [if_pos hk0, if_pos (by omega)]; omega
    · have : e ≠ 0 := fun e0 => hk0 (hz.2 e0)
      rw [if_neg hk0, if_neg (by omega)]; omega
  have hgood : 0 ≤ (if k = 0 then r - e else r - e - 1) := by
    by_cases hk0 : k = 0
    · have := hz.1 hk0
      rw [if_pos hk0]; omega
    · rw [if_neg hk0]
      rcases h.brk with h' | ⟨x, hx, hy⟩
      · exact absurd h' hk0
      · have hne := hy _ hk
        -- the replica ahead
        have hxe : x.1 + 1 = e := by
          have hl1 : l.take k = l.take (k - 1) ++ [x] := by
            obtain ⟨hk1, ex⟩ := List.getElem?_eq_some_iff.1 hx
            have := List.take_succ_eq_append_getElem hk1
            rw [show k - 1 + 1 = k by omega, ex] at this
            exact this
          rw [← he, hl1]
          obtain ⟨rs, rr, e1, e2⟩ := runs_last (l.take (k - 1)) x
          rw [e1, rbytes_snoc]
          simp only [bstep, e2, Option.getD_some]
        have hlt : x.1 < r := by
          have hp := hl.2
          rw [List.pairwise_iff_getElem] at hp
          obtain ⟨h1, e1⟩ := List.getElem?_eq_some_iff.1 hx
          obtain ⟨h2, e2⟩ := List.getElem?_eq_some_iff.1 hk
          have := hp (k - 1) k h1 h2 (by omega)
          rw [e1, e2] at this
          exact this
        omega
  have hgl := vput_len10 (n := (if k = 0 then r - e else r - e - 1).toNat) (by split <;> omega)
  have hml := vput_len10 (n := m - 1) (by omega)
  have htl := times_len (r := runAt l k m) (fun x hx => by
    have : x ∈ l := List.mem_of_mem_drop (List.mem_of_mem_take hx)
    have := hl.1 x this
    exact ⟨this.2.2.1, this.2.2.2⟩)
  refine ⟨⟨?_, ?_, ?_, ?_, ?_, by omega, by omega, by omega⟩, hgood, by split <;> omega⟩
  · rw [hrun, rbytes_snoc]
    simp only [bstep]
    rw [hhead, hgap, hlen, h.fx]
  · rw [hrun, List.length_append, h.fq]; rfl
  · rw [hrun, rbytes_snoc]
    simp only [bstep]
    rw [hlast]; omega
  · have hx : l[k + m - 1]? = some l[k + m - 1] := List.getElem?_eq_getElem (by omega)
    rw [hx, Option.map_some] at hend
    injection hend with hend
    exact .inr ⟨_, hx, fun y hy => by have := hb y hy; rw [hend]; omega⟩
  · simp only [List.length_append]
    have := h.len
    rw [hlen] at htl
    omega
theorem WAt.done {l : List Ent} {X : List UInt8} {q : Nat} {e : Int} (h : WAt l l.length X q e) : vbytes l = vput q ++ X := by
  have h1 := h.fx
  have h2 := h.fq
  rw [List.take_length] at h1 h2
  unfold vbytes
  rw [h1, h2]
/-- The times of a run, one more. -/
theorem times_next {r : List Ent} {j : Nat} {a t : Int} (h : r[j]? = some (a, t)) : times (r.take (j + 1)) = times (r.take j) ++ vput t.toNat := by
  obtain ⟨hj, e⟩ := List.getElem?_eq_some_iff.1 h
  rw [List.take_succ_eq_append_getElem hj, e]
  simp [times]
end Go.Proofs.YtglemfdnfaemiaaDoor
