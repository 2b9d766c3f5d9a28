/- How far a vector's bytes are, run by run, in plain Lean. No program in sight.

What a right batch gives its writer, and its writes as bytes, one by one. Plain Lean.

vector.Write says what vwrite says. -/
import Derived.Test.YtkejlnjnoiidnaaGreatDoorZ7
import Derived.Test.YtkejlnjnoiidnaaGreatDoorZ2
import Derived.Test.YtkejlnjnoiidnaaGreatDoorZ6
import Derived.Test.YtkejlnjnoiidnaaGreatDoorZ4
import Derived.Deep.Light
section
namespace Go.Proofs.YtkejlnjnoiidnaaGreatDoor
/-- The entries of a run that begins at k. -/
def runAt (l : List Ent) (k m : Nat) : List Ent := (l.drop k).take m
structure WAt (l : List Ent) (k : Nat) (X : List UInt8) (q : Nat) (e : Int) : Prop where
 fx : (rbytes (runs (l.take k))).1 = X
 fq : (runs (l.take k)).length = q
 fe : (rbytes (runs (l.take k))).2 + 1 = e
 brk : Brk l k
 len : X.length ≤ 40 * k
 lo : 0 ≤ e
 hi : e ≤ 201
 zero : k = 0 ↔ e = 0
theorem WAt.new (l : List Ent) : WAt l 0 [] 0 0 := ⟨rfl, rfl, rfl, .inl rfl, by simp, by omega, by omega, by simp⟩
theorem runAt_get {l : List Ent} {k m j : Nat} (h : j < m) : (runAt l k m)[j]? = l[k + j]? := by
 unfold runAt
 rw [List.getElem?_take_of_lt h, List.getElem?_drop]
theorem runAt_len {l : List Ent} {k m : Nat} (h : k + m ≤ l.length) : (runAt l k m).length = m := by
 unfold runAt
 rw [List.length_take, List.length_drop]; omega
theorem take_run {l : List Ent} {k m : Nat} : l.take (k + m) = l.take k ++ runAt l k m := by
 unfold runAt
 rw [List.take_add]
theorem times_len {r : List Ent} (h : ∀ x ∈ r, 1 ≤ x.2 ∧ x.2 ≤ 1099511627776) : (times r).length ≤ 10 * r.length := by
 induction r with
 | nil => simp [times]
 | cons x r ih =>
  have h1 := ih fun y hy => h y (by simp [hy])
  have h2 := h x (by simp)
  have h3 := vput_len10 (n := x.2.toNat) (by omega)
  unfold times at h1 ⊢
  simp only [List.flatMap_cons, List.length_append, List.length_cons]
  omega
theorem WAt.next {l : List Ent} {k m : Nat} {X : List UInt8} {q : Nat} {e r t : Int} (h : WAt l k X q e) (hl : Rises 0 l) (hk : l[k]? = some (r, t)) (hm : 0 < m) (hkm : k + m ≤ l.length)
  (hc : ∀ j x, j < m → l[k + j]? = some x → x.1 = r + j) (hb : ∀ y, l[k + m]? = some y → y.1 ≠ r + m) :
  WAt l (k + m) (X ++ (vput (if k = 0 then r - e else r - e - 1).toNat ++ vput (m - 1) ++ times (runAt l k m))) (q + 1) (r + m) ∧ 0 ≤ (if k = 0 then r - e else r - e - 1) ∧ (if k = 0 then r - e else r - e - 1) ≤ 200 := by
 have hlen := runAt_len hkm
 have h0 : (runAt l k m)[0]? = some (r, t) := by rw [runAt_get hm]; exact hk
 have hmem : (r, t) ∈ l := List.mem_of_getElem? hk
 have hr := hl.1 _ hmem
 simp only at hr
 have hchain : Chain (runAt l k m) := by
  intro j x y hx hy
  have hj : j + 1 < m := by have := (List.getElem?_eq_some_iff.1 hy).1; omega
  rw [runAt_get (by omega)] at hx hy
  have h1 := hc j x (by omega) hx
  have h2 := hc (j + 1) y hj hy
  omega
 have hrun : runs (l.take (k + m)) = runs (l.take k) ++ [runAt l k m] := by
  have hg := runs_grow (l.take k) (runAt l k m) m ?_ hchain hm (by omega)
  ·rw [List.take_of_length_le (i := m) (l := runAt l k m) (by omega)] at hg
   rw [take_run]; exact hg
  ·rw [← take_run, List.length_take, Nat.min_eq_left (by omega)]
   rcases h.brk with h' | ⟨x, hx, hy⟩
   ·exact .inl h'
   ·by_cases hk0 : k = 0
    ·exact .inl hk0
    ·refine .inr ⟨x, ?_, fun y hyy => hy y ?_⟩
     ·rw [List.getElem?_take_of_lt (by omega)]; exact hx
     ·rw [List.getElem?_take_of_lt (by omega)] at hyy; exact hyy
 have hlast : ((runAt l k m).getLast?.getD (0, 0)).1 = r + m - 1 := by
  rw [List.getLast?_eq_getElem?, hlen]
  have hx : (runAt l k m)[m - 1]? = some (runAt l k m)[m - 1] := List.getElem?_eq_getElem (by omega)
  rw [hx]
  rw [runAt_get (by omega)] at hx
  have := hc (m - 1) _ (by omega) hx
  simp only [Option.getD_some]
  rw [this]; omega
 have hhead : ((runAt l k m).head?.getD (0, 0)).1 = r := by
  rw [List.head?_eq_getElem?, h0]; rfl
 have hend : (l[k + m - 1]?).map (·.1) = some (r + m - 1) := by
  have hx : l[k + (m - 1)]? = some l[k + (m - 1)] := List.getElem?_eq_getElem (by omega)
  have := hc (m - 1) _ (by omega) hx
  rw [show k + m - 1 = k + (m - 1) by omega, hx, Option.map_some, this]
  congr 1; omega
 have hbound : r + m - 1 ≤ 200 := by
  have hx : l[k + (m - 1)]? = some l[k + (m - 1)] := List.getElem?_eq_getElem (by omega)
  have h1 := hc (m - 1) _ (by omega) hx
  have h2 := (hl.1 _ (List.mem_of_getElem? hx)).2.1
  omega
 have he := h.fe
 have hz := h.zero
 have hlo := h.lo
 have hgap : (if (rbytes (runs (l.take k))).2 < 0 then r else r - (rbytes (runs (l.take k))).2 - 2) = (if k = 0 then r - e else r - e - 1) := by
  by_cases hk0 : k = 0
  ·have := hz.1 hk0
   rw [if_pos hk0, if_pos (by omega)]; omega
  ·have : e ≠ 0 := fun e0 => hk0 (hz.2 e0)
   rw [if_neg hk0, if_neg (by omega)]; omega
 have hgood : 0 ≤ (if k = 0 then r - e else r - e - 1) := by
  by_cases hk0 : k = 0
  ·have := hz.1 hk0
   rw [if_pos hk0]; omega
  ·rw [if_neg hk0]
   rcases h.brk with h' | ⟨x, hx, hy⟩
   ·exact absurd h' hk0
   ·have hne := hy _ hk
    -- the replica ahead
    have hxe : x.1 + 1 = e := by
     have hl1 : l.take k = l.take (k - 1) ++ [x] := by
      obtain ⟨hk1, ex⟩ := List.getElem?_eq_some_iff.1 hx
      have := List.take_succ_eq_append_getElem hk1
      rw [show k - 1 + 1 = k by omega, ex] at this
      exact this
     rw [← he, hl1]
     obtain ⟨rs, rr, e1, e2⟩ := runs_last (l.take (k - 1)) x
     rw [e1, rbytes_snoc]
     simp only [bstep, e2, Option.getD_some]
    have hlt : x.1 < r := by
     have hp := hl.2
     rw [List.pairwise_iff_getElem] at hp
     obtain ⟨h1, e1⟩ := List.getElem?_eq_some_iff.1 hx
     obtain ⟨h2, e2⟩ := List.getElem?_eq_some_iff.1 hk
     have := hp (k - 1) k h1 h2 (by omega)
     rw [e1, e2] at this
     exact this
    omega
 have hgl := vput_len10 (n := (if k = 0 then r - e else r - e - 1).toNat) (by split <;> omega)
 have hml := vput_len10 (n := m - 1) (by omega)
 have htl := times_len (r := runAt l k m) (fun x hx => by
  have : x ∈ l := List.mem_of_mem_drop (List.mem_of_mem_take hx)
  have := hl.1 x this
  exact ⟨this.2.2.1, this.2.2.2⟩)
 refine ⟨⟨?_, ?_, ?_, ?_, ?_, by omega, by omega, by omega⟩, hgood, by split <;> omega⟩
 ·rw [hrun, rbytes_snoc]
  simp only [bstep]
  rw [hhead, hgap, hlen, h.fx]
 ·rw [hrun, List.length_append, h.fq]; rfl
 ·rw [hrun, rbytes_snoc]
  simp only [bstep]
  rw [hlast]; omega
 ·have hx : l[k + m - 1]? = some l[k + m - 1] := List.getElem?_eq_getElem (by omega)
  rw [hx, Option.map_some] at hend
  injection hend with hend
  exact .inr ⟨_, hx, fun y hy => by have := hb y hy; rw [hend]; omega⟩
 ·simp only [List.length_append]
  have := h.len
  rw [hlen] at htl
  omega
theorem WAt.done {l : List Ent} {X : List UInt8} {q : Nat} {e : Int} (h : WAt l l.length X q e) : vbytes l = vput q ++ X := by
 have h1 := h.fx
 have h2 := h.fq
 rw [List.take_length] at h1 h2
 unfold vbytes
 rw [h1, h2]
/-- The times of a run, one more. -/
theorem times_next {r : List Ent} {j : Nat} {a t : Int} (h : r[j]? = some (a, t)) : times (r.take (j + 1)) = times (r.take j) ++ vput t.toNat := by
 obtain ⟨hj, e⟩ := List.getElem?_eq_some_iff.1 h
 rw [List.take_succ_eq_append_getElem hj, e]
 simp [times]
end Go.Proofs.YtkejlnjnoiidnaaGreatDoor
end

section
namespace Go.Proofs.YtkejlnjnoiidnaaGreatDoor
/-- The time of the write ahead. -/
def prevT (l : List Wr) (k : Nat) : Int := (lastId l k).1
theorem bgo_at {f h : List Ent} {l : List Wr} : ∀ (last : Id) (i : Nat), (bgo f h l last i).1 = 0 → ∀ (k : Nat) w, l[k]? = some w → wright w = 0 ∧ idWithin (wid w) f h = true ∧ (0 < i + k → idCmp (if k = 0 then last else lastId l k) (wid w) < 0) := by
 induction l with
 | nil => intro _ _ _ k w hw; simp at hw
 | cons x l ih =>
  intro last i
  simp only [bgo]
  split
  ·rename_i h1; intro h2; exact absurd h2 h1
  ·rename_i h1
   split
   ·intro h; simp at h
   ·rename_i h2
    split
    ·intro h; simp at h
    ·rename_i h3
     intro h4 k w hw
     cases k with
     | zero =>
      simp at hw
      subst hw
      refine ⟨by omega, by simpa using h3, fun hi => ?_⟩
      rw [if_pos rfl]
      rw [Nat.add_zero] at hi
      have : ¬ 0 ≤ idCmp last (wid x) := fun hc => h2 ⟨hi, hc⟩
      omega
     | succ k =>
      simp at hw
      obtain ⟨a, b, c⟩ := ih _ _ h4 k w hw
      refine ⟨a, b, fun _ => ?_⟩
      have c' := c (by omega)
      rw [if_neg (by omega)]
      by_cases hk : k = 0
      ·subst hk
       rw [if_pos rfl] at c'
       rw [lastId_succ (l := x :: l) (w := x) rfl]
       exact c'
      ·rw [if_neg hk] at c'
       have : lastId (x :: l) (k + 1) = lastId l k := by
        unfold lastId
        rw [if_neg (by omega), if_neg hk]
        congr 1
        rw [show k + 1 - 1 = (k - 1) + 1 by omega]
        simp [List.getD]
       rw [this]; exact c'
theorem cmp_le {a b : Id} (h : idCmp a b < 0) : a.1 ≤ b.1 := by
 unfold idCmp at h
 split at h
 ·omega
 ·split at h <;> omega
theorem vof_mem {l : List Ent} {x : Int} (h : vof l x ≠ 0) : ∃ t, (x, t) ∈ l := by
 induction l with
 | nil => exact absurd rfl h
 | cons y l ih =>
  obtain ⟨r, t⟩ := y
  simp only [vof] at h
  by_cases hr : r = x
  ·subst hr; exact ⟨t, by simp⟩
  ·rw [if_neg hr] at h
   obtain ⟨t', ht⟩ := ih h
   exact ⟨t', List.mem_cons_of_mem _ ht⟩
theorem wright_id {w : Wr} (h : wright w = 0) : 1 ≤ w.1 ∧ w.1 ≤ 1099511627776 ∧ 0 ≤ w.2.1 ∧ w.2.1 ≤ 200 ∧ 1 ≤ w.2.2.1 ∧ w.2.2.1 ≤ 4 ∧ w.2.2.2.1.size ≤ 40 ∧ w.2.2.2.2.1.size ≤ 300 := by
 unfold wright at h
 split at h
 ·omega
 ·split at h
  ·omega
  ·rename_i h2
   split at h
   ·omega
   ·have h3 : idRight (w.1, w.2.1) = true := by simpa using h2
    unfold idRight at h3
    have := of_decide_eq_true h3
    simp only at this
    omega
theorem body_at {f h : List Ent} {l : List Wr} (e : (bright f h l).1 = 0) {k : Nat} {w : Wr} (hx : l[k]? = some w) : wright w = 0 ∧ (∃ t, (w.2.1, t) ∈ h) ∧ 0 ≤ prevT l k ∧ prevT l k ≤ w.1 := by
 have hb : (bgo f h l (0, 0) 0).1 = 0 := by
  unfold bright at e
  split at e
  ·rename_i h1; exact absurd e h1
  ·split at e
   ·rename_i h2; exact absurd e h2
   ·split at e
    ·simp at e
    ·split at e
     ·simp at e
     ·exact e
 obtain ⟨a, b, c⟩ := bgo_at _ _ hb k w hx
 have hid := wright_id a
 refine ⟨a, ?_, ?_⟩
 ·apply vof_mem
  unfold idWithin at b
  simp at b
  omega
 ·unfold prevT
  by_cases hk : k = 0
  ·subst hk
   refine ⟨by simp [lastId], by simp [lastId]; omega⟩
  ·have c' := cmp_le (c (by omega))
   rw [if_neg hk] at c'
   obtain ⟨kk, rfl⟩ : ∃ kk, k = kk + 1 := ⟨k - 1, by omega⟩
   have hlt : kk < l.length := by have := (List.getElem?_eq_some_iff.1 hx).1; omega
   have h0 := (bgo_at _ _ hb kk _ (List.getElem?_eq_getElem hlt)).1
   rw [lastId_succ (List.getElem?_eq_getElem hlt)] at c' ⊢
   have := (wright_id h0).1
   exact ⟨by simp only; omega, c'⟩
/-- One write's bytes. -/
def wstep (h : List Ent) (at_ : List Int) (w : Wr) (i : Nat) (time : Int) : List UInt8 :=
 [UInt8.ofNat w.2.2.1.toNat] ++ vput (w.1 - time).toNat ++ vput (placeOf h w.2.1) ++ vput (at_.getD i 0).toNat ++ (wtailOf w).data.toList
theorem ws_snoc (h : List Ent) (at_ : List Int) (w : Wr) (l : List Wr) : ∀ (i : Nat) (time : Int), wsbytes h at_ (l ++ [w]) i time = wsbytes h at_ l i time ++ wstep h at_ w (i + l.length) (if l = [] then time else (l.getLast?.getD noWr).1) := by
 induction l with
 | nil => intro i time; simp [wsbytes, wstep]
 | cons x l ih =>
  intro i time
  simp only [List.cons_append, wsbytes]
  rw [ih]
  simp only [List.append_assoc, List.length_cons]
  rw [show i + 1 + l.length = i + (l.length + 1) by omega]
  congr 6
  by_cases hl : l = []
  ·subst hl; simp
  ·rw [if_neg hl, if_neg (by simp)]
   rw [List.getLast?_cons]
   cases hq : l.getLast? with
   | none => exact absurd (List.getLast?_eq_none_iff.1 hq) hl
   | some q => simp
theorem ws_take {h : List Ent} {at_ : List Int} {l : List Wr} {k : Nat} {w : Wr} (hx : l[k]? = some w) : wsbytes h at_ (l.take (k + 1)) 0 0 = wsbytes h at_ (l.take k) 0 0 ++ wstep h at_ w k (prevT l k) := by
 obtain ⟨hk, e⟩ := List.getElem?_eq_some_iff.1 hx
 rw [List.take_succ_eq_append_getElem hk, e, ws_snoc]
 congr 2
 ·rw [List.length_take]; omega
 ·unfold prevT lastId
  by_cases h0 : k = 0
  ·subst h0; simp
  ·rw [if_neg h0]
   have hne : l.take k ≠ [] := by
    intro e0
    have := congrArg List.length e0
    rw [List.length_take, List.length_nil] at this
    omega
   rw [if_neg hne]
   have : (l.take k).getLast? = l[k - 1]? := by
    rw [List.getLast?_eq_getElem?, List.length_take, Nat.min_eq_left (by omega), List.getElem?_take_of_lt (by omega)]
   rw [this]
   simp [List.getD]
/-- The keys' numbers. -/
theorem tab_idx (l : List ByteArray) : ∀ z ∈ (Keys.tab l).2, 0 ≤ z ∧ z ≤ (l.length : Int) := by
 suffices H : ∀ r : List ByteArray, ∀ z ∈ (Keys.tab r.reverse).2, 0 ≤ z ∧ z ≤ (r.length : Int) by
  have := H l.reverse
  simpa using this
 intro r
 induction r with
 | nil => intro z hz; simp [Keys.tab] at hz
 | cons x r ih =>
  have hl := (Keys.tab_len r.reverse).1
  rw [List.length_reverse] at hl
  rw [List.reverse_cons, Keys.tab_snoc]
  by_cases hs : x ∈ (Keys.tab r.reverse).1
  ·rw [Keys.step_in hs]
   intro z hz
   rcases List.mem_append.1 hz with hz | hz
   ·have := ih z hz; simp only [List.length_cons]; omega
   ·simp at hz
    subst hz
    have := List.idxOf_lt_length_of_mem hs
    simp only [List.length_cons]; omega
  ·rw [Keys.step_out hs]
   intro z hz
   rcases List.mem_append.1 hz with hz | hz
   ·have := ih z hz; simp only [List.length_cons]; omega
   ·simp at hz
    subst hz
    simp only [List.length_cons]; omega
theorem place_lt {l : List Ent} {x t : Int} (h : (x, t) ∈ l) : placeOf l x < l.length := by
 induction l with
 | nil => simp at h
 | cons y l ih =>
  obtain ⟨r, t'⟩ := y
  simp only [placeOf, List.length_cons]
  by_cases hr : r = x
  ·rw [if_pos hr]; omega
  ·rw [if_neg hr]
   rcases List.mem_cons.1 h with h | h
   ·injection h with h1 _; exact absurd h1.symm hr
   ·have := ih h; omega
theorem zig_lt {n : Int} (h : -1125899906842624 ≤ n) (h2 : n ≤ 1125899906842624) : zigN n < 18446744073709551616 := by unfold zigN; split <;> omega
theorem wright_n {w : Wr} (h : wright w = 0) : -1125899906842624 ≤ w.2.2.2.2.2 ∧ w.2.2.2.2.2 ≤ 1125899906842624 := by
 unfold wright at h
 split at h
 ·omega
 ·split at h
  ·omega
  ·split at h
   ·omega
   ·split at h
    ·omega
    ·split at h
     ·omega
     ·omega
theorem tail_len {w : Wr} (h : wright w = 0) : (wtailOf w).size ≤ 320 := by
 have h1 := (wright_id h).2.2.2.2.2.2.2
 have h2 := wright_n h
 have l1 := vput_len10 (n := w.2.2.2.2.1.size) (by omega)
 have l2 := vput_len10 (n := zigN w.2.2.2.2.2) (zig_lt h2.1 h2.2)
 have l3 := vput_len10 (n := w.2.2.2.2.2.toNat) (by omega)
 have e : ∀ l : List UInt8, (strOf l).size = l.length := fun l => by show l.toArray.size = _; simp
 unfold wtailOf
 split
 ·rw [ByteArray.size_append, e]; omega
 ·split
  ·rw [e]; omega
  ·split
   ·rw [ByteArray.size_append, ByteArray.size_append, e, e]; omega
   ·rw [e]; simp
theorem wstep_len {h : List Ent} {at_ : List Int} {w : Wr} {i : Nat} {tm : Int} (hw : wright w = 0) (h0 : 0 ≤ tm) (h1 : placeOf h w.2.1 ≤ 1000) (h2 : (at_.getD i 0).toNat ≤ 1000) : (wstep h at_ w i tm).length ≤ 400 := by
 have hid := wright_id hw
 have ht := tail_len hw
 have l1 := vput_len10 (n := (w.1 - tm).toNat) (by omega)
 have l2 := vput_len10 (n := placeOf h w.2.1) (by omega)
 have l3 := vput_len10 (n := (at_.getD i 0).toNat) (by omega)
 have e : (wtailOf w).data.toList.length = (wtailOf w).size := by simp
 unfold wstep
 simp only [List.length_append, List.length_singleton]
 omega
end Go.Proofs.YtkejlnjnoiidnaaGreatDoor
end

section
namespace Go.Proofs.YtkejlnjnoiidnaaGreatDoor
set_option linter.unusedSimpArgs false
open Go.RowKit As
theorem strOf_app (a b : List UInt8) : strOf a ++ strOf b = strOf (a ++ b) := by
 apply ByteArray.ext
 show (strOf a ++ strOf b).data = _
 rw [ByteArray.data_append]
 simp [strOf]
theorem run_part (b o n c k m : Nat) (h : k < n) (h2 : k + m ≤ n) (hc : n ≤ c) (w : World) : (Instr.slice 22 (.slice (some ⟨b, o, none⟩) n c) (some (.int .i64 (k : Int))) (some (.int .i64 ((k : Int) + (m : Int)))) none).run Tryz.prog w = .ok (.slice (some ⟨b, o + k * 2, none⟩) m (c - k)) w := by
 rw [run_slice_lh w _ (some ⟨b, o, none⟩) n c (by kernel_rfl) .i64 .i64 k ((k : Int) + (m : Int)) (by omega) (by omega) (by omega), show (sizeOf (Tryz.prog.elem 22)).run Tryz.prog w = .ok 2 w by kernel_rfl]
 show Result.ok (sliced (some ⟨b, o, none⟩) (k : Int).toNat ((k : Int) + (m : Int)).toNat c 2) w = _
 unfold sliced
 rw [show (k : Int).toNat = k by omega, show ((k : Int) + (m : Int)).toNat = k + m by omega, if_neg (by omega), show k + m - k = m by omega]
 simp [Addr.add]
theorem vwrite_bad {l : List Ent} (h : (vright l).1 ≠ 0) : vwrite l = (strOf [], vright l) := by unfold vwrite; rw [if_pos h]
theorem vwrite_good {l : List Ent} (h : (vright l).1 = 0) : vwrite l = (strOf (vbytes l), 0, -1) := by unfold vwrite; rw [if_neg (by omega)]
theorem run_next {l : List Ent} {k m : Nat} {r t : Int} (hall : ∀ j x, j < m → l[k + j]? = some x → x.1 = r + j) (hx : l[k + m]? = some (r + m, t)) : ∀ j x, j < m + 1 → l[k + j]? = some x → x.1 = r + j := by
 intro j x hj h
 rcases Nat.lt_or_ge j m with h' | h'
 ·exact hall j x h' h
 ·obtain rfl : j = m := by omega
  rw [hx] at h
  injection h with h
  subst h
  rfl
theorem km_facts {k m n : Nat} {r : Int} (h : k + m ≤ n) (h2 : n ≤ 16) (h3 : 0 ≤ r) (h4 : r ≤ 200) : wrap64 ((k : Int) + (m : Int)) = (k : Int) + (m : Int) ∧ IntKind.i64.wrap ((k : Int) + (m : Int)) = (k : Int) + (m : Int) ∧ wrap64 (r + (m : Int)) = r + (m : Int) ∧ ((k : Int) + (m : Int)).toNat = k + m ∧ IntKind.i64.wrap (r + (m : Int)) = r + (m : Int) ∧ wrap64 ((m : Int) + 1) = (m : Int) + 1 ∧ IntKind.i64.wrap ((m : Int) + 1) = (m : Int) + 1 :=
 ⟨IntWalk.wrap64_in _ (by omega), IntWalk.i64_in _ (by omega), IntWalk.wrap64_in _ (by omega), by omega, IntWalk.i64_in _ (by omega), IntWalk.wrap64_in _ (by omega), IntWalk.i64_in _ (by omega)⟩
theorem lt_facts {k m n : Nat} (h : k + m < n) : decide ((k : Int) + (m : Int) < (n : Int)) = true ∧ decide (k + m < n) = true ∧ ((0 : Int) ≤ (k : Int) + (m : Int) ∧ (k : Int) + (m : Int) < (n : Int)) :=
 ⟨by simp; omega, by simpa using h, by omega, by omega⟩
theorem gap_facts {r e : Int} (h0 : 0 ≤ r) (h1 : r ≤ 200) (h2 : 0 ≤ e) (h3 : e ≤ 201) : wrap64 (r - e) = r - e ∧ IntKind.i64.wrap (r - e) = r - e ∧ wrap64 (r - e - 1) = r - e - 1 ∧ IntKind.i64.wrap (r - e - 1) = r - e - 1 :=
 ⟨IntWalk.wrap64_in _ (by omega), IntWalk.i64_in _ (by omega), IntWalk.wrap64_in _ (by omega), IntWalk.i64_in _ (by omega)⟩
theorem u64_in {G : Nat} (h : G ≤ 1099511627776) : IntKind.u64.wrap (G : Int) = (G : Int) := by simp [IntKind.wrap, IntKind.bits, IntKind.signed]; omega
theorem m_facts {m : Nat} (h : 1 ≤ m) (h2 : m ≤ 16) : wrap64 ((m : Int) - 1) = ((m - 1 : Nat) : Int) ∧ IntKind.i64.wrap ((m : Int) - 1) = ((m - 1 : Nat) : Int) ∧ IntKind.u64.wrap ((m - 1 : Nat) : Int) = ((m - 1 : Nat) : Int) :=
 ⟨by rw [show (m : Int) - 1 = ((m - 1 : Nat) : Int) by omega]; exact IntWalk.wrap64_in _ (by omega), by rw [show (m : Int) - 1 = ((m - 1 : Nat) : Int) by omega]; exact IntWalk.i64_in _ (by omega), u64_in (by omega)⟩
theorem q_facts {q : Nat} (h : q ≤ 16) : IntKind.u64.wrap ((q : Int) + 1) = ((q + 1 : Nat) : Int) := by
 rw [show (q : Int) + 1 = ((q + 1 : Nat) : Int) by omega]; exact u64_in (by omega)
theorem ge_facts {k m n : Nat} (h : n ≤ k + m) : decide ((k : Int) + (m : Int) < (n : Int)) = false ∧ decide (k + m < n) = false := ⟨by simp; omega, by simp; omega⟩
theorem meas_next {m n : Nat} (h : m < n) : n - ((m : Int) + 1).toNat < n - ((m : Int)).toNat := by omega
theorem dec_zero {k : Nat} (h : k = 0) : decide ((0 : Int) < (k : Int)) = false ∧ decide (0 < k) = false := by subst h; exact ⟨by simp, by simp⟩
theorem dec_pos {k : Nat} (h : ¬ k = 0) : decide ((0 : Int) < (k : Int)) = true ∧ decide (0 < k) = true := ⟨by simp; omega, by simp; omega⟩
theorem meas_jump {k m n : Nat} (h : 1 ≤ m) (h2 : k < n) : n - ((k : Int) + (m : Int)).toNat < n - ((k : Int)).toNat := by omega
theorem q_next {q k m : Nat} (h : q ≤ k) (h2 : 1 ≤ m) : q + 1 ≤ k + m := by omega
theorem lt_dec {j m : Nat} (h : j < m) : decide ((j : Int) < (m : Int)) = true ∧ decide (j < m) = true := ⟨by simp; omega, by simpa using h⟩
theorem lt_no {j m : Nat} (h : ¬ j < m) : decide ((j : Int) < (m : Int)) = false ∧ decide (j < m) = false := ⟨by simp; omega, by simpa using h⟩
theorem j_facts {j : Nat} (h : j ≤ 16) : wrap64 ((j : Int) + 1) = (j : Int) + 1 ∧ IntKind.i64.wrap ((j : Int) + 1) = (j : Int) + 1 := ⟨IntWalk.wrap64_in _ (by omega), IntWalk.i64_in _ (by omega)⟩
theorem cat_not {A B : ByteArray} (h : A.size ≤ 10000) (h' : B.size ≤ 10000) : ¬ 9223372036854775807 < A.size + B.size := by omega
theorem str_facts {G M : Nat} {S1 S2 : ByteArray} {X : List UInt8} (hG : G ≤ 200) (hM : M ≤ 16) (h1 : S1 = strOf (vput G)) (h2 : S2 = strOf (vput M)) (hX : X.length ≤ 640) :
  ¬ 9223372036854775807 < S1.size + S2.size ∧ ¬ 9223372036854775807 < (strOf X).size + (S1 ++ S2).size ∧ strOf X ++ (S1 ++ S2) = strOf (X ++ (vput G ++ vput M)) ∧ (X ++ (vput G ++ vput M)).length ≤ 660 := by
 have e1 := vput_len10 (n := G) (by omega)
 have e2 := vput_len10 (n := M) (by omega)
 subst h1 h2
 refine ⟨cat_not (by rw [strOf_size]; omega) (by rw [strOf_size]; omega), cat_not (by rw [strOf_size]; omega) (by rw [strOf_app, strOf_size, List.length_append]; omega), by rw [strOf_app, strOf_app], by simp only [List.length_append]; omega⟩
theorem inner_facts {w1 wx : World} {b o n k m j : Nat} {l : List Ent} (hl : Ents w1 w1.heap.size (some ⟨b, o, none⟩) n l) (hris : Rises 0 l) (hkm : k + m ≤ n) (hj : j < m) (hbx : Below w1.heap.size w1 wx) :
  ∃ (T : Nat) (y : Int), 1 ≤ T ∧ T ≤ 1099511627776 ∧ wx.cell? ⟨b, o + k * 2 + j * 2, none⟩ = some (.int .i64 y) ∧ wx.cell? ⟨b, o + k * 2 + j * 2 + 1, none⟩ = some (.int .i64 (T : Int)) ∧ (runAt l k m)[j]? = some (y, (T : Int)) := by
 obtain ⟨b', o', r3, t3, e', hb, hx, _, c0, c1⟩ := hl.at_ (k := k + j) (by omega)
 injection e' with e'
 injection e' with e1 e2 _
 subst e1 e2
 have h3 := hris.1 _ (List.mem_of_getElem? hx)
 simp only at h3
 obtain ⟨T, rfl⟩ := Int.eq_ofNat_of_zero_le (show 0 ≤ t3 by omega)
 refine ⟨T, r3, by omega, by omega, ?_, ?_, by rw [runAt_get hj]; exact hx⟩
 ·rw [show o + k * 2 + j * 2 = o + (k + j) * 2 by omega]
  exact (hbx.cell (p := ⟨b, o + (k + j) * 2, none⟩) hb).trans c0
 ·rw [show o + k * 2 + j * 2 + 1 = o + (k + j) * 2 + 1 by omega]
  exact (hbx.cell (p := ⟨b, o + (k + j) * 2 + 1, none⟩) hb).trans c1
theorem time_facts {l : List Ent} {k m j T : Nat} {y : Int} {X1 : List UInt8} (hris : Rises 0 l) (hX : X1.length ≤ 660) (hm : m ≤ 16) (hj : j ≤ m) (hT : T ≤ 1099511627776) (hx : (runAt l k m)[j]? = some (y, (T : Int))) :
  ¬ 9223372036854775807 < (strOf (X1 ++ times ((runAt l k m).take j))).size + (strOf (vput T)).size ∧ strOf (X1 ++ times ((runAt l k m).take j)) ++ strOf (vput T) = strOf (X1 ++ times ((runAt l k m).take (j + 1))) := by
 have e1 := vput_len10 (n := T) (by omega)
 have e2 := times_len (r := (runAt l k m).take j) (fun x hx => by
  have : x ∈ l := List.mem_of_mem_drop (List.mem_of_mem_take (List.mem_of_mem_take hx))
  have := hris.1 x this
  exact ⟨this.2.2.1, this.2.2.2⟩)
 have e3 : ((runAt l k m).take j).length ≤ j := by rw [List.length_take]; omega
 refine ⟨cat_not (by rw [strOf_size, List.length_append]; omega) (by rw [strOf_size]; omega), ?_⟩
 rw [times_next hx, strOf_app, Int.toNat_natCast, List.append_assoc]
theorem fin_facts {l : List Ent} {k m n G M : Nat} {X X1 : List UInt8} (h : X1 = X ++ (vput G ++ vput M)) (hkm : k + m ≤ n) (hl : l.length = n) : X1 ++ times ((runAt l k m).take m) = X ++ (vput G ++ vput M ++ times (runAt l k m)) := by
 rw [List.take_of_length_le (by rw [runAt_len (by omega)]; exact Nat.le_refl _), h, List.append_assoc]
theorem done_of {l : List Ent} {n q : Nat} {X : List UInt8} {e : Int} (h : WAt l n X q e) (hl : l.length = n) : vbytes l = vput q ++ X := by subst hl; exact h.done
theorem end_facts {q : Nat} {X : List UInt8} (hq : q ≤ 16) (hX : X.length ≤ 640) : ¬ 9223372036854775807 < (strOf (vput q)).size + (strOf X).size ∧ strOf (vput q) ++ strOf X = strOf (vput q ++ X) := by
 have e1 := vput_len10 (n := q) (by omega)
 exact ⟨cat_not (by rw [strOf_size]; omega) (by rw [strOf_size]; omega), strOf_app _ _⟩
theorem stop_at {l : List Ent} {k m n : Nat} {r : Int} (h : ¬ (k + m < n ∧ ∃ t', l[k + m]? = some (r + m, t'))) (hl : l.length = n := by assumption) : ∀ y, l[k + m]? = some y → y.1 ≠ r + m := by
 intro y hy e
 have := (List.getElem?_eq_some_iff.1 hy).1
 exact h ⟨by omega, y.2, by rw [hy, ← e]⟩
set_option maxHeartbeats 8000000 in
set_option maxRecDepth 100000 in
theorem vwrite_any (w : World) (n c : Nat) (A : Option Addr) (l : List Ent) (hl : Ents w w.heap.size A n l) (hn : n ≤ maxLen) (hc : n ≤ c) :
  Calls Tryz.prog 90 #[.slice A n c] w fun e w' => ∃ v, e = .returned (.tuple #[.string (vwrite l).1, v]) ∧ ErrOf w' v (vwrite l).2 ∧ Below w.heap.size w w' := by
 by_cases hbad : (vright l).1 = 0
 ·have hr := Lib.hid (vwrite_good hbad)
  have hris := Lib.hid (rises_of hbad)
  have hlen := hl.len
  have h16 := vright_ok_len hbad
  have h16n : n ≤ 16 := by rw [← hlen]; exact h16
  go_enter Tryz.func90, Tryz.ntmps90
  go_wp2_with fail
  refine (vright_any w n c A l hl hn).mono ?_
  rintro e w1 ⟨v1, rfl, hv1, hb1⟩
  obtain rfl := err_nil hv1 hbad
  have HB := Lib.hid hbad
  have hl1 := hl.grow hb1
  clear hv1 hl hbad
  go_wp2
  go_loopw [5, 6, 7, 8] (fun qv xv ev kv wr => ∃ (k q : Nat) (X : List UInt8) (e : Int), k ≤ n ∧ kv = .int .i64 k ∧ qv = .int .u64 q ∧ xv = .string (strOf X) ∧ ev = .int .i64 e ∧ Hid (WAt l k X q e) ∧ q ≤ k ∧ Below w1.heap.size w1 wr) (fun _ _ _ kv _ => n - (intOf kv).toNat)
  case atStart => exact ⟨0, 0, [], 0, by omega, rfl, rfl, rfl, rfl, Lib.hid (WAt.new l), Nat.le_refl _, Below.refl _ _⟩
  case round =>
   obtain ⟨k, q, X, e, hk, rfl, rfl, rfl, rfl, hat, hq, hbel⟩ := hrel
   have hB := hbel.size
   by_cases hlt : k < n
   ·obtain ⟨b, o, r, t, rfl, hb, hx, hf, hc0, hc1⟩ := hl1.at_ hlt
    have c0 := (hbel.cell (p := ⟨b, o + k * 2, none⟩) (by simp; omega)).trans hc0
    have hX := Lib.hid hx
    have hr0 := hris.out.1 _ (List.mem_of_getElem? hx)
    have hXl := hat.out.len
    have he0 := hat.out.lo
    have he1 := hat.out.hi
    simp only at hr0
    have HC0 := Lib.hid hc0
    have HC0 := Lib.hid hc0
    have HC0 := Lib.hid hc0
    clear hx hf hc0 hc1
    go_wp2
    go_loopw [9] (fun mv wx => ∃ m : Nat, mv = .int .i64 m ∧ 1 ≤ m ∧ k + m ≤ n ∧ Hid (∀ j x, j < m → l[k + j]? = some x → x.1 = r + j) ∧ ∃ z, wx = wr.drewN z) (fun mv _ => n - (intOf mv).toNat)
    case atStart => exact ⟨1, rfl, by omega, by omega, Lib.hid (fun j x hj hjx => by obtain rfl : j = 0 := (by omega); rw [Nat.add_zero, hX.out] at hjx; injection hjx with hjx; subst hjx; simp), 0, rfl⟩
    case round =>
     obtain ⟨m, rfl, hm0, hkm, hall, z, rfl⟩ := hrel
     obtain ⟨w1k, w2k, w3k, a3, w4k, w5k, w6k⟩ := km_facts hkm (show n ≤ 16 by rw [← hlen]; exact h16) hr0.1 hr0.2.1
     by_cases hs : k + m < n ∧ ∃ t', l[k + m]? = some (r + m, t')
     ·obtain ⟨hs1, t', ht'⟩ := hs
      obtain ⟨b', o', r2, t2, e', _, hx2, _, hd0, _⟩ := hl1.at_ hs1
      injection e' with e'
      injection e' with e1 e2 _
      subst e1 e2
      rw [ht'] at hx2
      injection hx2 with hx2
      injection hx2 with e3 e4
      subst e3 e4
      have d0 := (hbel.cell (p := ⟨b, o + (k + m) * 2, none⟩) hb).trans hd0
      have hnx := Lib.hid (run_next hall.out ht')
      obtain ⟨a0, a1, a2⟩ := lt_facts hs1
      clear ht' hd0
      go_wp2_with fail
      go_quiet (fail)
      go_wp2
      go_roundw
      case rel => exact ⟨m + 1, by go_num, Nat.le_add_left _ _, hs1, hnx, z + nq, by first | rfl | rw [World.drewN_drewN]⟩
      case measure => exact meas_next (Nat.lt_of_le_of_lt (Nat.le_add_left m k) hs1)
     ·have hstop := Lib.hid (stop_at hs)
      obtain ⟨hnext, g0, g1⟩ := hat.out.next hris.out hX.out hm0 (by rw [hlen]; exact hkm) hall.out hstop.out
      obtain ⟨G, hG⟩ := Int.eq_ofNat_of_zero_le g0
      rw [hG] at hnext g1
      rw [Int.toNat_natCast] at hnext
      have hGl : G ≤ 200 := Int.ofNat_le.1 g1
      have hml : m ≤ 16 := Nat.le_trans (Nat.le_add_left m k) (Nat.le_trans hkm h16n)
      obtain ⟨q1, q2, q3, q4⟩ := gap_facts hr0.1 hr0.2.1 he0 he1
      obtain ⟨m1, m2, m3⟩ := m_facts hm0 hml
      obtain ⟨M, hM⟩ : ∃ M, M = m - 1 := ⟨_, rfl⟩
      rw [← hM] at hnext m1 m2 m3
      have hMl : M ≤ 16 := by rw [hM]; exact Nat.le_trans (Nat.sub_le m 1) hml
      have HN := Lib.hid hnext
      have G1 := u64_in (G := G) (Nat.le_trans hGl (by decide))
      have Q1 := q_facts (q := q) (Nat.le_trans hq (Nat.le_trans hk h16n))
      have hkn : (0 : Int) ≤ (k : Int) ∧ (k : Int) < (n : Int) := ⟨Int.natCast_nonneg k, Int.ofNat_lt.2 hlt⟩
      have hGG := Lib.hid hG
      have HM := Lib.hid hM
      have hall' := Lib.hid hall
      clear hnext g0 g1 hs hG hM
      rcases Nat.lt_or_ge (k + m) n with hs1 | hs1
      ·obtain ⟨b', o', r2, t2, e', _, hx2, _, hd0, _⟩ := hl1.at_ hs1
       injection e' with e'
       injection e' with e1 e2 _
       subst e1 e2
       have d0 := (hbel.cell (p := ⟨b, o + (k + m) * 2, none⟩) hb).trans hd0
       obtain ⟨a0, a1, a2⟩ := lt_facts hs1
       have hne : (r2 == r + (m : Int)) = false := by
        have := hstop.out _ hx2
        simpa using this
       clear hx2 hd0
       go_wp2_with fail
       go_quiet (fail)
       clear a0 a1 a2 hne d0 a3 hs1
       by_cases hk0 : k = 0
       ·obtain ⟨z0, z1⟩ := dec_zero hk0
        have hG' : r - e = (G : Int) := by rw [← hGG.out, if_pos hk0]
        have HK := Lib.hid hk0
        clear hk0
        go_wp2_with fail
        refine (vput_any G _ (Nat.lt_of_le_of_lt hGl (by decide))).mono ?_
        rintro y w3 ⟨rfl, hb3⟩
        have hbel3 := (below_drewN hbel (z + nq)).trans (hb3.mono hB)
        go_wp2_with fail
        refine (vput_any M _ (Nat.lt_of_le_of_lt hMl (by decide))).mono ?_
        rintro y w4 ⟨rfl, hb4⟩
        have hbel4 := hbel3.trans (hb4.mono hbel3.size)
        clear hb3 hb4 hbel3 hbel hall hG' z0 z1 hb1
        obtain ⟨S1, hS1⟩ : ∃ S, S = strOf (vput G) := ⟨_, rfl⟩
        obtain ⟨S2, hS2⟩ : ∃ S, S = strOf (vput M) := ⟨_, rfl⟩
        rw [show (⟨(vput M).toArray⟩ : ByteArray) = S2 from hS2.symm, show (⟨(vput G).toArray⟩ : ByteArray) = S1 from hS1.symm]
        obtain ⟨f1, f2, f3, f4⟩ := str_facts hGl hMl hS1 hS2 (X := X) (Nat.le_trans hXl (Nat.mul_le_mul_left 40 (Nat.le_trans hk h16n)))
        have hsl := run_part b o n c k m hlt hkm hc
        obtain ⟨X1, hX1⟩ : ∃ X1, X1 = X ++ (vput G ++ vput M) := ⟨_, rfl⟩
        rw [← hX1] at f3 f4
        have HX1 := Lib.hid hX1
        clear hX1 hS1 hS2
        go_wp2_with fail
        try rw [f3]
        clear f1 f2 f3 hsl
        have hJ := Lib.hid hkm
        go_loopw [6, 12, 75] (fun ov _ jv wx => ∃ j : Nat, j ≤ m ∧ jv = .int .i64 j ∧ ov = .string (strOf (X1 ++ times ((runAt l k m).take j))) ∧ Below w1.heap.size w1 wx) (fun _ _ jv _ => m - (intOf jv).toNat)
        case atStart => exact ⟨0, Nat.zero_le _, rfl, by simp [times], hbel4⟩
        case round =>
         obtain ⟨j, hj, rfl, rfl, hbx⟩ := hrel
         have hBx := hbx.size
         by_cases hjm : j < m
         ·obtain ⟨T, y3, x1, x2, x3, x4, x5⟩ := inner_facts hl1 hris.out hkm hjm hbx
          have U1 := u64_in x2
          have jn : (0 : Int) ≤ (j : Int) ∧ (j : Int) < (m : Int) := ⟨Int.natCast_nonneg j, Int.ofNat_lt.2 hjm⟩
          obtain ⟨jw1, jw2⟩ := j_facts (j := j) (Nat.le_trans hj hml)
          obtain ⟨jd1, jd2⟩ := lt_dec hjm
          go_wp2_with fail
          refine (vput_any T _ (Nat.lt_of_le_of_lt x2 (by decide))).mono ?_
          rintro y w5 ⟨rfl, hb5⟩
          have hbx5 := (hbx.alloc hBx _).trans (hb5.mono (Nat.le_trans hBx (by simp)))
          obtain ⟨f5, f6⟩ := time_facts (j := j) (m := m) hris.out f4 hml hj x2 x5
          rw [show (⟨(vput T).toArray⟩ : ByteArray) = strOf (vput T) from rfl]
          go_wp2_with fail
          go_roundw
          case rel => exact ⟨j + 1, hjm, by first | rfl | (congr 1), by first | rfl | rw [f6], hbx5⟩
          case measure => exact meas_next hjm
         ·obtain rfl : j = m := Nat.le_antisymm hj (Nat.not_lt.1 hjm)
          have c0x := (hbx.cell (p := ⟨b, o + k * 2, none⟩) hb).trans HC0.out
          have hfin := Lib.hid (fin_facts (l := l) (k := k) (m := j) (X := X) HX1.out hJ.out hlen)
          obtain ⟨jd1, jd2⟩ := lt_no (Nat.lt_irrefl j)
          go_wp2_with fail
          go_roundw
          case rel => exact ⟨k + j, q + 1, _, r + j, hkm, by first | rfl | (congr 1), rfl, by rw [hfin.out], rfl, HN, q_next hq hm0, hbx⟩
          case measure => exact meas_jump hm0 hlt
       ·obtain ⟨z0, z1⟩ := dec_pos hk0
        have hG' : r - e - 1 = (G : Int) := by rw [← hGG.out, if_neg hk0]
        have HK := Lib.hid hk0
        clear hk0
        go_wp2_with fail
        refine (vput_any G _ (Nat.lt_of_le_of_lt hGl (by decide))).mono ?_
        rintro y w3 ⟨rfl, hb3⟩
        have hbel3 := (below_drewN hbel (z + nq)).trans (hb3.mono hB)
        go_wp2_with fail
        refine (vput_any M _ (Nat.lt_of_le_of_lt hMl (by decide))).mono ?_
        rintro y w4 ⟨rfl, hb4⟩
        have hbel4 := hbel3.trans (hb4.mono hbel3.size)
        clear hb3 hb4 hbel3 hbel hall hG' z0 z1 hb1
        obtain ⟨S1, hS1⟩ : ∃ S, S = strOf (vput G) := ⟨_, rfl⟩
        obtain ⟨S2, hS2⟩ : ∃ S, S = strOf (vput M) := ⟨_, rfl⟩
        rw [show (⟨(vput M).toArray⟩ : ByteArray) = S2 from hS2.symm, show (⟨(vput G).toArray⟩ : ByteArray) = S1 from hS1.symm]
        obtain ⟨f1, f2, f3, f4⟩ := str_facts hGl hMl hS1 hS2 (X := X) (Nat.le_trans hXl (Nat.mul_le_mul_left 40 (Nat.le_trans hk h16n)))
        have hsl := run_part b o n c k m hlt hkm hc
        obtain ⟨X1, hX1⟩ : ∃ X1, X1 = X ++ (vput G ++ vput M) := ⟨_, rfl⟩
        rw [← hX1] at f3 f4
        have HX1 := Lib.hid hX1
        clear hX1 hS1 hS2
        go_wp2_with fail
        try rw [f3]
        clear f1 f2 f3 hsl
        have hJ := Lib.hid hkm
        go_loopw [6, 12, 75] (fun ov _ jv wx => ∃ j : Nat, j ≤ m ∧ jv = .int .i64 j ∧ ov = .string (strOf (X1 ++ times ((runAt l k m).take j))) ∧ Below w1.heap.size w1 wx) (fun _ _ jv _ => m - (intOf jv).toNat)
        case atStart => exact ⟨0, Nat.zero_le _, rfl, by simp [times], hbel4⟩
        case round =>
         obtain ⟨j, hj, rfl, rfl, hbx⟩ := hrel
         have hBx := hbx.size
         by_cases hjm : j < m
         ·obtain ⟨T, y3, x1, x2, x3, x4, x5⟩ := inner_facts hl1 hris.out hkm hjm hbx
          have U1 := u64_in x2
          have jn : (0 : Int) ≤ (j : Int) ∧ (j : Int) < (m : Int) := ⟨Int.natCast_nonneg j, Int.ofNat_lt.2 hjm⟩
          obtain ⟨jw1, jw2⟩ := j_facts (j := j) (Nat.le_trans hj hml)
          obtain ⟨jd1, jd2⟩ := lt_dec hjm
          go_wp2_with fail
          refine (vput_any T _ (Nat.lt_of_le_of_lt x2 (by decide))).mono ?_
          rintro y w5 ⟨rfl, hb5⟩
          have hbx5 := (hbx.alloc hBx _).trans (hb5.mono (Nat.le_trans hBx (by simp)))
          obtain ⟨f5, f6⟩ := time_facts (j := j) (m := m) hris.out f4 hml hj x2 x5
          rw [show (⟨(vput T).toArray⟩ : ByteArray) = strOf (vput T) from rfl]
          go_wp2_with fail
          go_roundw
          case rel => exact ⟨j + 1, hjm, by first | rfl | (congr 1), by first | rfl | rw [f6], hbx5⟩
          case measure => exact meas_next hjm
         ·obtain rfl : j = m := Nat.le_antisymm hj (Nat.not_lt.1 hjm)
          have c0x := (hbx.cell (p := ⟨b, o + k * 2, none⟩) hb).trans HC0.out
          have hfin := Lib.hid (fin_facts (l := l) (k := k) (m := j) (X := X) HX1.out hJ.out hlen)
          obtain ⟨jd1, jd2⟩ := lt_no (Nat.lt_irrefl j)
          go_wp2_with fail
          go_roundw
          case rel => exact ⟨k + j, q + 1, _, r + j, hkm, by first | rfl | (congr 1), rfl, by rw [hfin.out], rfl, HN, q_next hq hm0, hbx⟩
          case measure => exact meas_jump hm0 hlt
      ·obtain ⟨a0, a1⟩ := ge_facts hs1
       go_wp2_with fail
       go_quiet (fail)
       clear a0 a1 a3 hs1
       by_cases hk0 : k = 0
       ·obtain ⟨z0, z1⟩ := dec_zero hk0
        have hG' : r - e = (G : Int) := by rw [← hGG.out, if_pos hk0]
        have HK := Lib.hid hk0
        clear hk0
        go_wp2_with fail
        refine (vput_any G _ (Nat.lt_of_le_of_lt hGl (by decide))).mono ?_
        rintro y w3 ⟨rfl, hb3⟩
        have hbel3 := (below_drewN hbel (z + nq)).trans (hb3.mono hB)
        go_wp2_with fail
        refine (vput_any M _ (Nat.lt_of_le_of_lt hMl (by decide))).mono ?_
        rintro y w4 ⟨rfl, hb4⟩
        have hbel4 := hbel3.trans (hb4.mono hbel3.size)
        clear hb3 hb4 hbel3 hbel hall hG' z0 z1 hb1
        obtain ⟨S1, hS1⟩ : ∃ S, S = strOf (vput G) := ⟨_, rfl⟩
        obtain ⟨S2, hS2⟩ : ∃ S, S = strOf (vput M) := ⟨_, rfl⟩
        rw [show (⟨(vput M).toArray⟩ : ByteArray) = S2 from hS2.symm, show (⟨(vput G).toArray⟩ : ByteArray) = S1 from hS1.symm]
        obtain ⟨f1, f2, f3, f4⟩ := str_facts hGl hMl hS1 hS2 (X := X) (Nat.le_trans hXl (Nat.mul_le_mul_left 40 (Nat.le_trans hk h16n)))
        have hsl := run_part b o n c k m hlt hkm hc
        obtain ⟨X1, hX1⟩ : ∃ X1, X1 = X ++ (vput G ++ vput M) := ⟨_, rfl⟩
        rw [← hX1] at f3 f4
        have HX1 := Lib.hid hX1
        clear hX1 hS1 hS2
        go_wp2_with fail
        try rw [f3]
        clear f1 f2 f3 hsl
        have hJ := Lib.hid hkm
        go_loopw [6, 12, 75] (fun ov _ jv wx => ∃ j : Nat, j ≤ m ∧ jv = .int .i64 j ∧ ov = .string (strOf (X1 ++ times ((runAt l k m).take j))) ∧ Below w1.heap.size w1 wx) (fun _ _ jv _ => m - (intOf jv).toNat)
        case atStart => exact ⟨0, Nat.zero_le _, rfl, by simp [times], hbel4⟩
        case round =>
         obtain ⟨j, hj, rfl, rfl, hbx⟩ := hrel
         have hBx := hbx.size
         by_cases hjm : j < m
         ·obtain ⟨T, y3, x1, x2, x3, x4, x5⟩ := inner_facts hl1 hris.out hkm hjm hbx
          have U1 := u64_in x2
          have jn : (0 : Int) ≤ (j : Int) ∧ (j : Int) < (m : Int) := ⟨Int.natCast_nonneg j, Int.ofNat_lt.2 hjm⟩
          obtain ⟨jw1, jw2⟩ := j_facts (j := j) (Nat.le_trans hj hml)
          obtain ⟨jd1, jd2⟩ := lt_dec hjm
          go_wp2_with fail
          refine (vput_any T _ (Nat.lt_of_le_of_lt x2 (by decide))).mono ?_
          rintro y w5 ⟨rfl, hb5⟩
          have hbx5 := (hbx.alloc hBx _).trans (hb5.mono (Nat.le_trans hBx (by simp)))
          obtain ⟨f5, f6⟩ := time_facts (j := j) (m := m) hris.out f4 hml hj x2 x5
          rw [show (⟨(vput T).toArray⟩ : ByteArray) = strOf (vput T) from rfl]
          go_wp2_with fail
          go_roundw
          case rel => exact ⟨j + 1, hjm, by first | rfl | (congr 1), by first | rfl | rw [f6], hbx5⟩
          case measure => exact meas_next hjm
         ·obtain rfl : j = m := Nat.le_antisymm hj (Nat.not_lt.1 hjm)
          have c0x := (hbx.cell (p := ⟨b, o + k * 2, none⟩) hb).trans HC0.out
          have hfin := Lib.hid (fin_facts (l := l) (k := k) (m := j) (X := X) HX1.out hJ.out hlen)
          obtain ⟨jd1, jd2⟩ := lt_no (Nat.lt_irrefl j)
          go_wp2_with fail
          go_roundw
          case rel => exact ⟨k + j, q + 1, _, r + j, hkm, by first | rfl | (congr 1), rfl, by rw [hfin.out], rfl, HN, q_next hq hm0, hbx⟩
          case measure => exact meas_jump hm0 hlt
       ·obtain ⟨z0, z1⟩ := dec_pos hk0
        have hG' : r - e - 1 = (G : Int) := by rw [← hGG.out, if_neg hk0]
        have HK := Lib.hid hk0
        clear hk0
        go_wp2_with fail
        refine (vput_any G _ (Nat.lt_of_le_of_lt hGl (by decide))).mono ?_
        rintro y w3 ⟨rfl, hb3⟩
        have hbel3 := (below_drewN hbel (z + nq)).trans (hb3.mono hB)
        go_wp2_with fail
        refine (vput_any M _ (Nat.lt_of_le_of_lt hMl (by decide))).mono ?_
        rintro y w4 ⟨rfl, hb4⟩
        have hbel4 := hbel3.trans (hb4.mono hbel3.size)
        clear hb3 hb4 hbel3 hbel hall hG' z0 z1 hb1
        obtain ⟨S1, hS1⟩ : ∃ S, S = strOf (vput G) := ⟨_, rfl⟩
        obtain ⟨S2, hS2⟩ : ∃ S, S = strOf (vput M) := ⟨_, rfl⟩
        rw [show (⟨(vput M).toArray⟩ : ByteArray) = S2 from hS2.symm, show (⟨(vput G).toArray⟩ : ByteArray) = S1 from hS1.symm]
        obtain ⟨f1, f2, f3, f4⟩ := str_facts hGl hMl hS1 hS2 (X := X) (Nat.le_trans hXl (Nat.mul_le_mul_left 40 (Nat.le_trans hk h16n)))
        have hsl := run_part b o n c k m hlt hkm hc
        obtain ⟨X1, hX1⟩ : ∃ X1, X1 = X ++ (vput G ++ vput M) := ⟨_, rfl⟩
        rw [← hX1] at f3 f4
        have HX1 := Lib.hid hX1
        clear hX1 hS1 hS2
        go_wp2_with fail
        try rw [f3]
        clear f1 f2 f3 hsl
        have hJ := Lib.hid hkm
        go_loopw [6, 12, 75] (fun ov _ jv wx => ∃ j : Nat, j ≤ m ∧ jv = .int .i64 j ∧ ov = .string (strOf (X1 ++ times ((runAt l k m).take j))) ∧ Below w1.heap.size w1 wx) (fun _ _ jv _ => m - (intOf jv).toNat)
        case atStart => exact ⟨0, Nat.zero_le _, rfl, by simp [times], hbel4⟩
        case round =>
         obtain ⟨j, hj, rfl, rfl, hbx⟩ := hrel
         have hBx := hbx.size
         by_cases hjm : j < m
         ·obtain ⟨T, y3, x1, x2, x3, x4, x5⟩ := inner_facts hl1 hris.out hkm hjm hbx
          have U1 := u64_in x2
          have jn : (0 : Int) ≤ (j : Int) ∧ (j : Int) < (m : Int) := ⟨Int.natCast_nonneg j, Int.ofNat_lt.2 hjm⟩
          obtain ⟨jw1, jw2⟩ := j_facts (j := j) (Nat.le_trans hj hml)
          obtain ⟨jd1, jd2⟩ := lt_dec hjm
          go_wp2_with fail
          refine (vput_any T _ (Nat.lt_of_le_of_lt x2 (by decide))).mono ?_
          rintro y w5 ⟨rfl, hb5⟩
          have hbx5 := (hbx.alloc hBx _).trans (hb5.mono (Nat.le_trans hBx (by simp)))
          obtain ⟨f5, f6⟩ := time_facts (j := j) (m := m) hris.out f4 hml hj x2 x5
          rw [show (⟨(vput T).toArray⟩ : ByteArray) = strOf (vput T) from rfl]
          go_wp2_with fail
          go_roundw
          case rel => exact ⟨j + 1, hjm, by first | rfl | (congr 1), by first | rfl | rw [f6], hbx5⟩
          case measure => exact meas_next hjm
         ·obtain rfl : j = m := Nat.le_antisymm hj (Nat.not_lt.1 hjm)
          have c0x := (hbx.cell (p := ⟨b, o + k * 2, none⟩) hb).trans HC0.out
          have hfin := Lib.hid (fin_facts (l := l) (k := k) (m := j) (X := X) HX1.out hJ.out hlen)
          obtain ⟨jd1, jd2⟩ := lt_no (Nat.lt_irrefl j)
          go_wp2_with fail
          go_roundw
          case rel => exact ⟨k + j, q + 1, _, r + j, hkm, by first | rfl | (congr 1), rfl, by rw [hfin.out], rfl, HN, q_next hq hm0, hbx⟩
          case measure => exact meas_jump hm0 hlt
   ·obtain rfl : k = n := Nat.le_antisymm hk (Nat.not_lt.1 hlt)
    have hd := Lib.hid (done_of hat.out hlen)
    have hXl := hat.out.len
    obtain ⟨jd1, jd2⟩ := lt_no (Nat.lt_irrefl k)
    go_wp2_with fail
    refine (vput_any q _ (Nat.lt_of_le_of_lt (Nat.le_trans hq h16n) (by decide))).mono ?_
    rintro y w3 ⟨rfl, hb3⟩
    rw [show (⟨(vput q).toArray⟩ : ByteArray) = strOf (vput q) from rfl]
    obtain ⟨f1, f2⟩ := end_facts (q := q) (X := X) (Nat.le_trans hq h16n) (Nat.le_trans hXl (Nat.mul_le_mul_left 40 h16n))
    go_wp2
    go_ret2
    rw [hr.out]
    exact ⟨_, by rw [hd.out]; rfl, .none, hb1.trans ((hbel.trans (hb3.mono hB)).mono hb1.size)⟩
 ·have hr := Lib.hid (vwrite_bad hbad)
  go_enter Tryz.func90, Tryz.ntmps90
  go_wp2_with fail
  refine (vright_any w n c A l hl hn).mono ?_
  rintro e w1 ⟨v1, rfl, hv1, hb1⟩
  obtain ⟨ty, u, rfl⟩ := err_some hv1 hbad
  have HV := Lib.hid hv1
  clear hv1 hbad
  go_wp2
  go_ret2
  rw [hr.out]
  exact ⟨_, rfl, HV.out, hb1⟩
end Go.Proofs.YtkejlnjnoiidnaaGreatDoor
end
