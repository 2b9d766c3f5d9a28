/- Slices of slices of entries that the call made itself: all but the last one are done with. And what the reference's two loops make of runs, in plain Lean. -/
import Derived.Test.YtkejlnjnoiidnaaGreatDoorZ9
import Derived.Test.YtkejlnjnoiidnaaGreatDoorZ11
section
namespace Go.Proofs.YtkejlnjnoiidnaaGreatDoor
open Go.RowKit As
theorem rowInfo : (Tryz.prog.info? 22).map (fun i => (i.zero, i.size, i.bytes)) = some (some (.slice none 0 0), 1, 24) := by kernel_rfl
structure Runs (w : World) (B H : Nat) (v : Value) (R0 : List (List Ent)) (vs0 : List Value) (r : List Ent) (u : Value) : Prop where
  len : vs0.length = R0.length
  own : w.ownsRow B 22 1 v (R0.length + 1) (vs0 ++ [u])
  init : ∀ (i : Nat) x y, R0[i]? = some x → vs0[i]? = some y → w.ownsRow B 79 2 y x.length (entV x) ∧ ∀ k, y.ownBlock = some k → k < H
  last : w.ownsRow H 79 2 u r.length (entV r)
  le : B ≤ H
  top : H ≤ w.heap.size
theorem slice_ne : 22 ≠ 79 := by decide
theorem own_or {v : Value} {B : Nat} (hb : ∀ k, v.ownBlock = some k → k < B) {u : Value} (hu : ∀ k, u.ownBlock = some k → B ≤ k) : v.ownBlock = none ∨ v.ownBlock ≠ u.ownBlock := by
  rcases hv : v.ownBlock with _ | k
  · exact .inl rfl
  · refine .inr fun e0 => ?_
    have h1 := hb k hv
    have h2 := hu k e0.symm
    omega
section
variable {w w' : World} {B H : Nat} {v u : Value} {R0 : List (List Ent)} {vs0 : List Value} {r : List Ent}
theorem Runs.alloc (h : Runs w B H v R0 vs0 r u) (o : Obj) : Runs (w.alloc o) B H v R0 vs0 r u :=
  ⟨h.len, h.own.alloc o, fun i x y hx hy => ⟨(h.init i x y hx hy).1.alloc o, (h.init i x y hx hy).2⟩, h.last.alloc o, h.le, Nat.le_trans h.top (by simp)⟩
theorem Runs.below (h : Runs w B H v R0 vs0 r u) (hb : Below w.heap.size w w') : Runs w' B H v R0 vs0 r u := by
  have key : ∀ {base : Nat} {e : TypeId} {size n : Nat} {v : Value} {xs : List Value}, w.ownsRow base e size v n xs → w'.ownsRow base e size v n xs := by
    intro base e size n v xs ho
    refine ho.kept (row := none) ⟨hb.os, hb.tape, hb.output, hb.size, fun k hk _ => hb.block k hk⟩ ?_
    rcases hv : v.ownBlock with _ | k
    · exact .inl rfl
    · exact .inr (by simp)
  exact ⟨h.len, key h.own, fun i x y hx hy => ⟨key (h.init i x y hx hy).1, (h.init i x y hx hy).2⟩, key h.last, h.le, Nat.le_trans h.top hb.size⟩
/-- A new run: the outer slice has grown. -/
theorem Runs.start {w2 : World} {v2 : Value} (h : Runs w B H v R0 vs0 r u) (hg : w.grownBy w2 v.ownBlock) (ho : w2.ownsRow B 22 1 v2 (R0.length + 1 + 1) (vs0 ++ [u] ++ [.slice none 0 0])) (hB : B ≤ w2.heap.size) :
    Runs w2 B w2.heap.size v2 (R0 ++ [r]) (vs0 ++ [u]) [] (.slice none 0 0) := by
  have k1 : ∀ {base : Nat} {n : Nat} {y : Value} {xs : List Value}, w.ownsRow base 79 2 y n xs → w2.ownsRow base 79 2 y n xs := fun h1 => h1.kept hg (own_ne h1 h.own (Ne.symm slice_ne))
  refine ⟨by simp [h.len], by simpa using ho, fun i x y hx hy => ?_, World.ownsRow_nil _ _ _ _, hB, Nat.le_refl _⟩
  rw [List.getElem?_append] at hx hy
  rw [h.len] at hy
  by_cases hi : i < R0.length
  · rw [if_pos hi] at hx hy
    obtain ⟨h1, h2⟩ := h.init i x y hx hy
    exact ⟨k1 h1, fun k hk => ((k1 h1).lt k hk).2⟩
  · rw [if_neg hi] at hx hy
    have e : i - R0.length = 0 := by
      rcases Nat.eq_zero_or_pos (i - R0.length) with h0 | h0
      · exact h0
      · rw [List.getElem?_eq_none (by simp; omega)] at hx; cases hx
    rw [e] at hx hy
    simp at hx hy
    subst hx hy
    exact ⟨own_less (k1 h.last) h.le, fun k hk => ((k1 h.last).lt k hk).2⟩
/-- The last run has grown, and stands no longer where the outer slice says. -/
structure Mid (w : World) (B H : Nat) (v : Value) (R0 : List (List Ent)) (vs0 : List Value) (r : List Ent) (u u2 : Value) : Prop where
  len : vs0.length = R0.length
  own : w.ownsRow B 22 1 v (R0.length + 1) (vs0 ++ [u])
  init : ∀ (i : Nat) x y, R0[i]? = some x → vs0[i]? = some y → w.ownsRow B 79 2 y x.length (entV x) ∧ ∀ k, y.ownBlock = some k → k < H
  last : w.ownsRow H 79 2 u2 r.length (entV r)
  le : B ≤ H
  top : H ≤ w.heap.size
theorem Runs.more {w2 : World} {u2 : Value} {r2 : List Ent} (h : Runs w B H v R0 vs0 r u) (hg : w.grownBy w2 u.ownBlock) (ho : w2.ownsRow H 79 2 u2 r2.length (entV r2)) : Mid w2 B H v R0 vs0 r2 u u2 :=
  ⟨h.len, h.own.kept hg (own_ne h.own h.last slice_ne), fun i x y hx hy => ⟨(h.init i x y hx hy).1.kept hg (own_or (h.init i x y hx hy).2 fun k hk => (h.last.lt k hk).1), (h.init i x y hx hy).2⟩, ho, h.le, Nat.le_trans h.top hg.size⟩
theorem Mid.store {g cap : Nat} {u2 : Value} (h : Mid w B H (.slice (some ⟨g, 0, none⟩) (R0.length + 1) cap) R0 vs0 r u u2) : Runs (w.setCell ⟨g, R0.length, none⟩ u2) B H (.slice (some ⟨g, 0, none⟩) (R0.length + 1) cap) R0 vs0 r u2 := by
  obtain ⟨s1, s2⟩ := h.own.stored R0.length u2
  have k1 : ∀ {base : Nat} {n : Nat} {y : Value} {xs : List Value}, w.ownsRow base 79 2 y n xs → (w.setCell ⟨g, R0.length, none⟩ u2).ownsRow base 79 2 y n xs := fun h1 => h1.kept s2 (by have := own_ne h1 h.own (Ne.symm slice_ne); simpa [Value.ownBlock] using this)
  refine ⟨h.len, ?_, fun i x y hx hy => ⟨k1 (h.init i x y hx hy).1, (h.init i x y hx hy).2⟩, k1 h.last, h.le, Nat.le_trans h.top (by simp)⟩
  have e : (vs0 ++ [u]).set R0.length u2 = vs0 ++ [u2] := by
    rw [List.set_append_right _ _ (by rw [h.len]; exact Nat.le_refl _), h.len, Nat.sub_self]
    rfl
  rw [← e]
  exact s1
theorem Runs.form (h : Runs w B H v R0 vs0 r u) : ∃ g cap, v = .slice (some ⟨g, 0, none⟩) (R0.length + 1) cap ∧ B ≤ g ∧ g < w.heap.size ∧ w.cell? ⟨g, R0.length, none⟩ = some u ∧ w.frozen? ⟨g, R0.length, none⟩ = false := by
  rcases h.own.2 with ⟨rfl, h0⟩ | ⟨g, cap, cur, rfl, hb, hh, _⟩
  · omega
  · have ho := h.own
    refine ⟨g, cap, rfl, hb, (Array.getElem?_eq_some_iff.1 hh).1, ?_, ho.frozenAt _⟩
    rw [ho.cellAt _ (by omega), List.getElem?_append_right (by rw [h.len]; exact Nat.le_refl _), h.len, Nat.sub_self]
    rfl
end
/-- The state of the region that puts one entry more into the last run: which of its operations have come up. -/
structure VI (w0 : World) (H : Nat) (v : Value) (R0 : List (List Ent)) (vs0 : List Value) (r : List Ent) (u : Value) (bx : Nat) (a t : Int) (g : Nat × Value) (l9 l10 l11 l12 l14 : Bool) (w : World) : Prop where
  bel : Below w0.heap.size w0 w
  pre : l12 = false → Runs w w0.heap.size H v R0 vs0 r u ∧ w.cell? ⟨bx, 0, none⟩ = some (.int .i64 a) ∧ w.cell? ⟨bx, 1, none⟩ = some (.int .i64 t)
  tmp : l11 = true → l12 = false → w.cell? ⟨g.1, 0, none⟩ = some (.int .i64 a) ∧ w.cell? ⟨g.1, 1, none⟩ = some (.int .i64 t)
  mid : l12 = true → l14 = false → Mid w w0.heap.size H v R0 vs0 (r ++ [(a, t)]) u g.2
  fin : l14 = true → Runs w w0.heap.size H v R0 vs0 (r ++ [(a, t)]) g.2
  o12 : l12 = true → l11 = true ∧ l9 = true
  o11 : l11 = true → l10 = true
  o14 : l14 = true → l12 = true
section
variable {w0 w : World} {H bx : Nat} {v u : Value} {R0 : List (List Ent)} {vs0 : List Value} {r : List Ent} {a t : Int} {g : Nat × Value} {l9 l10 l11 l12 l14 : Bool}
theorem VI.build (h : VI w0 H v R0 vs0 r u bx a t g l9 true false l12 l14 w) : VI w0 H v R0 vs0 r u bx a t (w.heap.size, g.2) l9 true true l12 l14 (w.alloc (.cells #[.int .i64 a, .int .i64 t] 79)) := by
  have h12 : l12 = false := by
    rcases l12 with _ | _
    · rfl
    · exact absurd (h.o12 rfl).1 (by simp)
  subst h12
  have h14 : l14 = false := by
    rcases l14 with _ | _
    · rfl
    · exact absurd (h.o14 rfl) (by simp)
  subst h14
  obtain ⟨p1, p2, p3⟩ := h.pre rfl
  have b1 := below1 w (.cells #[.int .i64 a, .int .i64 t] 79)
  refine ⟨h.bel.alloc h.bel.size _, fun _ => ⟨p1.alloc _, (b1.cell (cell_lt p2)).trans p2, (b1.cell (cell_lt p3)).trans p3⟩, fun _ _ => ⟨?_, ?_⟩, fun h => by simp at h, fun h => by simp at h, fun h => by simp at h, fun _ => rfl, fun h => by simp at h⟩
  · rw [World.cell?_alloc_new]; rfl
  · rw [World.cell?_alloc_new]; rfl
theorem VI.no12 (h : VI w0 H v R0 vs0 r u bx a t g false l10 l11 l12 l14 w) : l12 = false := by
  rcases l12 with _ | _
  · rfl
  · exact absurd (h.o12 rfl).2 (by simp)
theorem VI.no12' (h : VI w0 H v R0 vs0 r u bx a t g l9 false l11 l12 l14 w) : l12 = false := by
  rcases l12 with _ | _
  · rfl
  · exact absurd (h.o11 (h.o12 rfl).1) (by simp)
theorem VI.no14 (h : VI w0 H v R0 vs0 r u bx a t g l9 l10 l11 false l14 w) : l14 = false := by
  rcases l14 with _ | _
  · rfl
  · exact absurd (h.o14 rfl) (by simp)
end
/-- A run more, or the last one longer. -/
theorem runs_new {l : List Ent} {k : Nat} {x : Ent} (hx : l[k]? = some x) (h : k = 0 ∨ ∃ y, l[k - 1]? = some y ∧ y.1 + 1 ≠ x.1) : runs (l.take (k + 1)) = runs (l.take k) ++ [[x]] := by
  rw [runs_take hx]
  rcases h with rfl | ⟨y, hy, hne⟩
  · rfl
  · by_cases hk : k = 0
    · subst hk; rfl
    · have hl1 : l.take k = l.take (k - 1) ++ [y] := by
        obtain ⟨hk1, ex⟩ := List.getElem?_eq_some_iff.1 hy
        have := List.take_succ_eq_append_getElem hk1
        rw [show k - 1 + 1 = k by omega, ex] at this
        exact this
      obtain ⟨rs, rr, e1, e2⟩ := runs_last (l.take (k - 1)) y
      rw [hl1, e1]
      unfold rstep
      simp only [List.getLast?_append, List.getLast?_singleton, Option.some_or, e2, Option.getD_some]
      rw [if_neg hne]
theorem runs_ext {l : List Ent} {k : Nat} {x y : Ent} {R0 : List (List Ent)} {r : List Ent} (hx : l[k + 1]? = some x) (hy : l[k]? = some y) (he : y.1 + 1 = x.1) (hR : runs (l.take (k + 1)) = R0 ++ [r]) : runs (l.take (k + 1 + 1)) = R0 ++ [r ++ [x]] := by
  rw [runs_take hx, hR]
  have hl1 : l.take (k + 1) = l.take k ++ [y] := by
    obtain ⟨hk1, ex⟩ := List.getElem?_eq_some_iff.1 hy
    rw [List.take_succ_eq_append_getElem hk1, ex]
  obtain ⟨rs, rr, e1, e2⟩ := runs_last (l.take k) y
  rw [hl1] at hR
  rw [hR] at e1
  have hl := congrArg List.getLast? e1
  simp at hl
  subst hl
  unfold rstep
  simp only [List.getLast?_append, List.getLast?_singleton, Option.some_or, e2, Option.getD_some]
  rw [if_pos he]
  simp
end Go.Proofs.YtkejlnjnoiidnaaGreatDoor
end
