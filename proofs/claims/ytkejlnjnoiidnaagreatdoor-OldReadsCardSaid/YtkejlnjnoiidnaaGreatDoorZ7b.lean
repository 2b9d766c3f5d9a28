/- Slices of slices of entries that the call made itself: all but the last one are done with. And what the reference's two loops make of runs, in plain Lean.

Slices of slices of entries, once they are done with: read alone.

body.Write says what bwrite says.

A batch in a frame, in plain Lean. No program in sight.

The vector that bytes begin with, in plain Lean. No program in sight.

The keys that a table and numbers tell, in plain Lean. No program in sight.

The batch that bytes are, in plain Lean. No program in sight.

The tokens, and the text, that bytes are, in plain Lean. No program in sight.

The batch in a frame, in plain Lean. No program in sight. -/
import Derived.Test.YtkejlnjnoiidnaaGreatDoorZ5
import Derived.Test.YtkejlnjnoiidnaaGreatDoorZ7
import Derived.Test.YtkejlnjnoiidnaaGreatDoorZ6
import Derived.Test.YtkejlnjnoiidnaaGreatDoorZ2
import Derived.Test.YtkejlnjnoiidnaaGreatDoorZ3
import Derived.Test.YtkejlnjnoiidnaaGreatDoorZ1
section
namespace Go.Proofs.YtkejlnjnoiidnaaGreatDoor
open Go.RowKit As
structure Runs (w : World) (B H : Nat) (v : Value) (R0 : List (List Ent)) (vs0 : List Value) (r : List Ent) (u : Value) : Prop where
 len : vs0.length = R0.length
 own : w.ownsRow B 22 1 v (R0.length + 1) (vs0 ++ [u])
 init : ∀ (i : Nat) x y, R0[i]? = some x → vs0[i]? = some y → w.ownsRow B 79 2 y x.length (entV x) ∧ ∀ k, y.ownBlock = some k → k < H
 last : w.ownsRow H 79 2 u r.length (entV r)
 le : B ≤ H
 top : H ≤ w.heap.size
theorem slice_ne : 22 ≠ 79 := by decide
theorem own_or {v : Value} {B : Nat} (hb : ∀ k, v.ownBlock = some k → k < B) {u : Value} (hu : ∀ k, u.ownBlock = some k → B ≤ k) : v.ownBlock = none ∨ v.ownBlock ≠ u.ownBlock := by
 rcases hv : v.ownBlock with _ | k
 ·exact .inl rfl
 ·refine .inr fun e0 => ?_
  have h1 := hb k hv
  have h2 := hu k e0.symm
  omega
section
variable {w w' : World} {B H : Nat} {v u : Value} {R0 : List (List Ent)} {vs0 : List Value} {r : List Ent}
theorem Runs.alloc (h : Runs w B H v R0 vs0 r u) (o : Obj) : Runs (w.alloc o) B H v R0 vs0 r u :=
 ⟨h.len, h.own.alloc o, fun i x y hx hy => ⟨(h.init i x y hx hy).1.alloc o, (h.init i x y hx hy).2⟩, h.last.alloc o, h.le, Nat.le_trans h.top (by simp)⟩
theorem Runs.below (h : Runs w B H v R0 vs0 r u) (hb : Below w.heap.size w w') : Runs w' B H v R0 vs0 r u := by
 have key : ∀ {base : Nat} {e : TypeId} {size n : Nat} {v : Value} {xs : List Value}, w.ownsRow base e size v n xs → w'.ownsRow base e size v n xs := by
  intro base e size n v xs ho
  refine ho.kept (row := none) ⟨hb.os, hb.tape, hb.output, hb.size, fun k hk _ => hb.block k hk⟩ ?_
  rcases hv : v.ownBlock with _ | k
  ·exact .inl rfl
  ·exact .inr (by simp)
 exact ⟨h.len, key h.own, fun i x y hx hy => ⟨key (h.init i x y hx hy).1, (h.init i x y hx hy).2⟩, key h.last, h.le, Nat.le_trans h.top hb.size⟩
/-- The last run has grown, and stands no longer where the outer slice says. -/
structure Mid (w : World) (B H : Nat) (v : Value) (R0 : List (List Ent)) (vs0 : List Value) (r : List Ent) (u u2 : Value) : Prop where
 len : vs0.length = R0.length
 own : w.ownsRow B 22 1 v (R0.length + 1) (vs0 ++ [u])
 init : ∀ (i : Nat) x y, R0[i]? = some x → vs0[i]? = some y → w.ownsRow B 79 2 y x.length (entV x) ∧ ∀ k, y.ownBlock = some k → k < H
 last : w.ownsRow H 79 2 u2 r.length (entV r)
 le : B ≤ H
 top : H ≤ w.heap.size
theorem Runs.more {w2 : World} {u2 : Value} {r2 : List Ent} (h : Runs w B H v R0 vs0 r u) (hg : w.grownBy w2 u.ownBlock) (ho : w2.ownsRow H 79 2 u2 r2.length (entV r2)) : Mid w2 B H v R0 vs0 r2 u u2 :=
 ⟨h.len, h.own.kept hg (own_ne h.own h.last slice_ne), fun i x y hx hy => ⟨(h.init i x y hx hy).1.kept hg (own_or (h.init i x y hx hy).2 fun k hk => (h.last.lt k hk).1), (h.init i x y hx hy).2⟩, ho, h.le, Nat.le_trans h.top hg.size⟩
theorem Mid.store {g cap : Nat} {u2 : Value} (h : Mid w B H (.slice (some ⟨g, 0, none⟩) (R0.length + 1) cap) R0 vs0 r u u2) : Runs (w.setCell ⟨g, R0.length, none⟩ u2) B H (.slice (some ⟨g, 0, none⟩) (R0.length + 1) cap) R0 vs0 r u2 := by
 obtain ⟨s1, s2⟩ := h.own.stored R0.length u2
 have k1 : ∀ {base : Nat} {n : Nat} {y : Value} {xs : List Value}, w.ownsRow base 79 2 y n xs → (w.setCell ⟨g, R0.length, none⟩ u2).ownsRow base 79 2 y n xs := fun h1 => h1.kept s2 (by have := own_ne h1 h.own (Ne.symm slice_ne); simpa [Value.ownBlock] using this)
 refine ⟨h.len, ?_, fun i x y hx hy => ⟨k1 (h.init i x y hx hy).1, (h.init i x y hx hy).2⟩, k1 h.last, h.le, Nat.le_trans h.top (by simp)⟩
 have e : (vs0 ++ [u]).set R0.length u2 = vs0 ++ [u2] := by
  rw [List.set_append_right _ _ (by rw [h.len]; exact Nat.le_refl _), h.len, Nat.sub_self]
  rfl
 rw [← e]
 exact s1
theorem Runs.form (h : Runs w B H v R0 vs0 r u) : ∃ g cap, v = .slice (some ⟨g, 0, none⟩) (R0.length + 1) cap ∧ B ≤ g ∧ g < w.heap.size ∧ w.cell? ⟨g, R0.length, none⟩ = some u ∧ w.frozen? ⟨g, R0.length, none⟩ = false := by
 rcases h.own.2 with ⟨rfl, h0⟩ | ⟨g, cap, cur, rfl, hb, hh, _⟩
 ·omega
 ·have ho := h.own
  refine ⟨g, cap, rfl, hb, (Array.getElem?_eq_some_iff.1 hh).1, ?_, ho.frozenAt _⟩
  rw [ho.cellAt _ (by omega), List.getElem?_append_right (by rw [h.len]; exact Nat.le_refl _), h.len, Nat.sub_self]
  rfl
end
/-- The state of the region that puts one entry more into the last run: which of its operations have come up. -/
structure VI (w0 : World) (H : Nat) (v : Value) (R0 : List (List Ent)) (vs0 : List Value) (r : List Ent) (u : Value) (bx : Nat) (a t : Int) (g : Nat × Value) (l9 l10 l11 l12 l14 : Bool) (w : World) : Prop where
 bel : Below w0.heap.size w0 w
 pre : l12 = false → Runs w w0.heap.size H v R0 vs0 r u ∧ w.cell? ⟨bx, 0, none⟩ = some (.int .i64 a) ∧ w.cell? ⟨bx, 1, none⟩ = some (.int .i64 t)
 tmp : l11 = true → l12 = false → w.cell? ⟨g.1, 0, none⟩ = some (.int .i64 a) ∧ w.cell? ⟨g.1, 1, none⟩ = some (.int .i64 t)
 mid : l12 = true → l14 = false → Mid w w0.heap.size H v R0 vs0 (r ++ [(a, t)]) u g.2
 fin : l14 = true → Runs w w0.heap.size H v R0 vs0 (r ++ [(a, t)]) g.2
 o12 : l12 = true → l11 = true ∧ l9 = true
 o11 : l11 = true → l10 = true
 o14 : l14 = true → l12 = true
section
variable {w0 w : World} {H bx : Nat} {v u : Value} {R0 : List (List Ent)} {vs0 : List Value} {r : List Ent} {a t : Int} {g : Nat × Value} {l9 l10 l11 l12 l14 : Bool}
theorem VI.build (h : VI w0 H v R0 vs0 r u bx a t g l9 true false l12 l14 w) : VI w0 H v R0 vs0 r u bx a t (w.heap.size, g.2) l9 true true l12 l14 (w.alloc (.cells #[.int .i64 a, .int .i64 t] 79)) := by
 have h12 : l12 = false := by
  rcases l12 with _ | _
  ·rfl
  ·exact absurd (h.o12 rfl).1 (by simp)
 subst h12
 have h14 : l14 = false := by
  rcases l14 with _ | _
  ·rfl
  ·exact absurd (h.o14 rfl) (by simp)
 subst h14
 obtain ⟨p1, p2, p3⟩ := h.pre rfl
 have b1 := below1 w (.cells #[.int .i64 a, .int .i64 t] 79)
 refine ⟨h.bel.alloc h.bel.size _, fun _ => ⟨p1.alloc _, (b1.cell (cell_lt p2)).trans p2, (b1.cell (cell_lt p3)).trans p3⟩, fun _ _ => ⟨?_, ?_⟩, fun h => by simp at h, fun h => by simp at h, fun h => by simp at h, fun _ => rfl, fun h => by simp at h⟩
 ·rw [World.cell?_alloc_new]; rfl
 ·rw [World.cell?_alloc_new]; rfl
end
end Go.Proofs.YtkejlnjnoiidnaaGreatDoor
end

section
namespace Go.Proofs.YtkejlnjnoiidnaaGreatDoor
open Go.RowKit As
/-- The outer slice in the reference's first loop. -/
def RunsAt (w : World) (B : Nat) (v : Value) (l : List Ent) (k : Nat) : Prop :=
 (k = 0 ∧ v = .slice none 0 0) ∨ (0 < k ∧ ∃ H R0 vs0 r u, runs (l.take k) = R0 ++ [r] ∧ Runs w B H v R0 vs0 r u)
structure RRd (w : World) (R : List (List Ent)) (A : Option Addr) (vs : List Value) : Prop where
 sl : Sl w w.heap.size 1 A R.length vs
 each : ∀ (i : Nat) r, R[i]? = some r → ∃ Ai ci, vs[i]? = some (.slice Ai r.length ci) ∧ Ents w w.heap.size Ai r.length r
theorem RRd.below {w w' : World} {R : List (List Ent)} {A : Option Addr} {vs : List Value} (h : RRd w R A vs) (hb : Below w.heap.size w w') : RRd w' R A vs :=
 ⟨h.sl.grow hb, fun i r hr => by obtain ⟨Ai, ci, h1, h2⟩ := h.each i r hr; exact ⟨Ai, ci, h1, h2.grow hb⟩⟩
theorem RunsAt.read {w : World} {B : Nat} {v : Value} {l : List Ent} (h : RunsAt w B v l l.length) (hf : ∀ x ∈ l, entFits x) : ∃ A c vs, v = .slice A (runs l).length c ∧ RRd w (runs l) A vs := by
 rcases h with ⟨h0, rfl⟩ | ⟨_, H, R0, vs0, r, u, hR, hRun⟩
 ·have : l = [] := List.length_eq_zero_iff.1 h0
  subst this
  exact ⟨none, 0, [], rfl, Sl.nil, fun i r hr => by simp [runs] at hr⟩
 ·rw [List.take_length] at hR
  have hlen : (runs l).length = R0.length + 1 := by rw [hR]; simp
  have ho := hRun.own
  obtain ⟨A, c, rfl⟩ := own_form ho
  refine ⟨A, c, vs0 ++ [u], by rw [hlen], by rw [hlen]; exact Sl.of_own ho, fun i x hx => ?_⟩
  have hfit : ∀ y ∈ x, entFits y := fun y hy => hf y (run_mem (List.mem_of_getElem? hx) hy)
  rw [hR, List.getElem?_append] at hx
  rw [List.getElem?_append, hRun.len]
  by_cases hi : i < R0.length
  ·rw [if_pos hi] at hx ⊢
   have hi' : i < vs0.length := by rw [hRun.len]; exact hi
   have hy : vs0[i]? = some vs0[i] := List.getElem?_eq_getElem hi'
   have h1 := (hRun.init i x _ hx hy).1
   obtain ⟨Ai, ci, he⟩ := own_form h1
   rw [he] at h1
   exact ⟨Ai, ci, by rw [hy, he], Sl.of_own h1, hfit⟩
  ·rw [if_neg hi] at hx ⊢
   have e : i - R0.length = 0 := by
    rcases Nat.eq_zero_or_pos (i - R0.length) with h0 | h0
    ·exact h0
    ·rw [List.getElem?_eq_none (by simp; omega)] at hx; cases hx
   rw [e] at hx ⊢
   simp at hx
   subst hx
   have h1 := hRun.last
   obtain ⟨Ai, ci, he⟩ := own_form h1
   rw [he] at h1
   exact ⟨Ai, ci, by rw [he]; rfl, Sl.of_own h1, hfit⟩
/-- Run i, later on. -/
theorem RRd.at_ {w wx : World} {l : List Ent} {A : Option Addr} {vs : List Value} {i : Nat} (h : RRd w (runs l) A vs) (hris : Rises 0 l) (h16 : l.length ≤ 16) (hi : i < (runs l).length) (hb : Below w.heap.size w wx) :
  ∃ (ob oo bi oi ci : Nat) (r : List Ent) (h0 : Int), A = some ⟨ob, oo, none⟩ ∧ (runs l)[i]? = some r ∧ wx.cell? ⟨ob, oo + i, none⟩ = some (.slice (some ⟨bi, oi, none⟩) r.length ci) ∧ 1 ≤ r.length ∧ r.length ≤ 16 ∧ headR r = h0 ∧ 0 ≤ h0 ∧ h0 ≤ 200 ∧ wx.cell? ⟨bi, oi, none⟩ = some (.int .i64 h0) ∧
   (∀ j, j < r.length → ∃ (y : Int) (T : Nat), r[j]? = some (y, (T : Int)) ∧ T ≤ 1099511627776 ∧ bi < w.heap.size ∧ w.cell? ⟨bi, oi + j * 2, none⟩ = some (.int .i64 y) ∧ w.cell? ⟨bi, oi + j * 2 + 1, none⟩ = some (.int .i64 (T : Int))) ∧ (bi < w.heap.size ∧ w.cell? ⟨bi, oi + (r.length - 1) * 2, none⟩ = some (.int .i64 (lastR r))) := by
 have hr : (runs l)[i]? = some (runs l)[i] := List.getElem?_eq_getElem hi
 generalize (runs l)[i] = r at hr
 have hmem : r ∈ runs l := List.mem_of_getElem? hr
 have hne := runs_ne l r hmem
 have hlen : 0 < r.length := List.length_pos_iff.2 hne
 have hle : r.length ≤ 16 := by
  have h2 := (List.sublist_flatten_of_mem hmem).length_le
  rw [runs_flat] at h2
  omega
 obtain ⟨Ai, ci, hv, he⟩ := h.each i r hr
 obtain ⟨ob, oo, rfl, hob, hcell⟩ := h.sl.2 (by omega)
 obtain ⟨bi, oi, ra, ta, rfl, hbi, hx0, _, d0, _⟩ := he.at_ (k := 0) hlen
 have b0 := hris.1 _ (run_mem hmem (List.mem_of_getElem? hx0))
 simp only at b0
 refine ⟨ob, oo, bi, oi, ci, r, ra, rfl, hr, (hb.cell (p := ⟨ob, oo + i, none⟩) hob).trans (hcell i _ hv), hlen, hle, ?_, b0.1, b0.2.1, (hb.cell (p := ⟨bi, oi, none⟩) hbi).trans (by simpa using d0), fun j hj => ?_, hbi, ?_⟩
 ·unfold headR; rw [List.head?_eq_getElem?, hx0]; rfl
 ·obtain ⟨b', o', y, t, e', _, hx, _, c0, c1⟩ := he.at_ hj
  injection e' with e'
  injection e' with e1 e2 _
  subst e1 e2
  have b1 := hris.1 _ (run_mem hmem (List.mem_of_getElem? hx))
  simp only at b1
  obtain ⟨T, rfl⟩ := Int.eq_ofNat_of_zero_le (show 0 ≤ t by omega)
  exact ⟨y, T, hx, by omega, hbi, c0, c1⟩
 ·obtain ⟨b', o', y, t, e', _, hx, _, c0, _⟩ := he.at_ (k := r.length - 1) (by omega)
  injection e' with e'
  injection e' with e1 e2 _
  subst e1 e2
  have : lastR r = y := by unfold lastR; rw [List.getLast?_eq_getElem?, hx]; rfl
  rw [this]; exact c0
end Go.Proofs.YtkejlnjnoiidnaaGreatDoor
end

section
namespace Go.Proofs.YtkejlnjnoiidnaaGreatDoor
set_option linter.unusedSimpArgs false
open Go.RowKit As
theorem j_facts' {j : Nat} (h : j ≤ 60) : wrap64 ((j : Int) + 1) = (j : Int) + 1 ∧ IntKind.i64.wrap ((j : Int) + 1) = (j : Int) + 1 := ⟨IntWalk.wrap64_in _ (by omega), IntWalk.i64_in _ (by omega)⟩
/-- The state of the region that makes one write's bytes. -/
structure BI (w0 : World) (y2 : Int) (g : Nat) (l0 l4 l33 : Bool) (w : World) : Prop where
 bel : Below w0.heap.size w0 w
 tmp : l4 = true → w.cell? ⟨g, 0, none⟩ = some (.int .u8 y2) ∧ w.frozen? ⟨g, 0, none⟩ = false
 o33 : l33 = true → l0 = true
theorem BI.grow {w0 w w' : World} {y2 : Int} {g : Nat} {l0 l4 l33 : Bool} (h : BI w0 y2 g l0 l4 l33 w) (hb : Below w.heap.size w w') : BI w0 y2 g l0 l4 l33 w' :=
 ⟨h.bel.trans (hb.mono h.bel.size), fun h4 => ⟨(hb.cell (cell_lt (h.tmp h4).1)).trans (h.tmp h4).1, (hb.frozen (p := ⟨g, 0, none⟩) (cell_lt (h.tmp h4).1)).trans (h.tmp h4).2⟩, h.o33⟩
theorem BI.build {w0 w : World} {y2 : Int} {g : Nat} {l0 l4 l33 : Bool} (h : BI w0 y2 g l0 l4 l33 w) : BI w0 y2 w.heap.size l0 true l33 (w.alloc (.cells #[.int .u8 y2] 5)) :=
 ⟨h.bel.alloc h.bel.size _, fun _ => ⟨by rw [World.cell?_alloc_new]; rfl, by simp⟩, h.o33⟩
end Go.Proofs.YtkejlnjnoiidnaaGreatDoor
end

section
namespace Go.Proofs.YtkejlnjnoiidnaaGreatDoor
open Tokens
end Go.Proofs.YtkejlnjnoiidnaaGreatDoor
end

section
namespace Go.Proofs.YtkejlnjnoiidnaaGreatDoor
/-- The number at byte p. -/
def vat (s : ByteArray) (p : Nat) (most : Int) : Nat × Nat × Int := vint (s.extract p s.size).data.toList most
abbrev VR := List Ent × Nat × Int × Int
/-- So many entries more: they, how far, what is wrong, the replica next. -/
def vtimes (s : ByteArray) : Nat → Int → Nat → List Ent → VR
 | 0, r, p, acc => (acc, p, 0, r)
 | c + 1, r, p, acc => if (vat s p 1099511627776).2.2 ≠ 0 then ([], 0, (vat s p 1099511627776).2.2, 0) else vtimes s c (r + 1) (p + (vat s p 1099511627776).2.1) (acc ++ [(r, ((vat s p 1099511627776).1 : Int))])
/-- So many runs more. -/
def vruns (s : ByteArray) : Nat → Bool → Int → Nat → List Ent → VR
 | 0, _, r, p, acc => (acc, p, 0, r)
 | c + 1, first, r, p, acc =>
  if (vat s p 200).2.2 ≠ 0 then ([], 0, (vat s p 200).2.2, 0)
  else if (vat s (p + (vat s p 200).2.1) 16).2.2 ≠ 0 then ([], 0, (vat s (p + (vat s p 200).2.1) 16).2.2, 0)
  else
   let x := vtimes s ((vat s (p + (vat s p 200).2.1) 16).1 + 1) (r + ((vat s p 200).1 : Int) + (if first then 0 else 1)) (p + (vat s p 200).2.1 + (vat s (p + (vat s p 200).2.1) 16).2.1) acc
   if x.2.2.1 ≠ 0 then ([], 0, x.2.2.1, 0) else vruns s c false x.2.2.2 x.2.1 x.1
def vrall (s : ByteArray) : VR := if (vat s 0 16).2.2 ≠ 0 then ([], 0, (vat s 0 16).2.2, 0) else vruns s (vat s 0 16).1 true 0 (vat s 0 16).2.1 []
/-- The vector, how many bytes it has, what is wrong. -/
def vread (s : ByteArray) : List Ent × Nat × Int := if (vrall s).2.2.1 ≠ 0 then ([], 0, (vrall s).2.2.1) else if (vright (vrall s).1).1 ≠ 0 then ([], 0, (vright (vrall s).1).1) else ((vrall s).1, (vrall s).2.1, 0)
theorem vtimes_bad {s : ByteArray} {c : Nat} {r : Int} {p : Nat} {acc : List Ent} {X : VR} (h : X = vtimes s (c + 1) r p acc) (he : (vat s p 1099511627776).2.2 ≠ 0) : X = ([], 0, (vat s p 1099511627776).2.2, 0) := by
 rw [h]; simp only [vtimes]; rw [if_pos he]
theorem vtimes_next {s : ByteArray} {c : Nat} {r : Int} {p : Nat} {acc : List Ent} {X : VR} (h : X = vtimes s (c + 1) r p acc) (he : (vat s p 1099511627776).2.2 = 0) : X = vtimes s c (r + 1) (p + (vat s p 1099511627776).2.1) (acc ++ [(r, ((vat s p 1099511627776).1 : Int))]) := by
 rw [h]; simp only [vtimes]; rw [if_neg (by omega)]
theorem vruns_gap {s : ByteArray} {c : Nat} {f : Bool} {r : Int} {p : Nat} {acc : List Ent} {X : VR} (h : X = vruns s (c + 1) f r p acc) (he : (vat s p 200).2.2 ≠ 0) : X = ([], 0, (vat s p 200).2.2, 0) := by
 rw [h]; simp only [vruns]; rw [if_pos he]
theorem vruns_len {s : ByteArray} {c : Nat} {f : Bool} {r : Int} {p : Nat} {acc : List Ent} {X : VR} (h : X = vruns s (c + 1) f r p acc) (h0 : (vat s p 200).2.2 = 0) (he : (vat s (p + (vat s p 200).2.1) 16).2.2 ≠ 0) : X = ([], 0, (vat s (p + (vat s p 200).2.1) 16).2.2, 0) := by
 rw [h]; simp only [vruns]; rw [if_neg (by omega), if_pos he]
theorem vruns_bad {s : ByteArray} {c : Nat} {f : Bool} {r : Int} {p : Nat} {acc : List Ent} {X x : VR} (h : X = vruns s (c + 1) f r p acc) (h0 : (vat s p 200).2.2 = 0) (h1 : (vat s (p + (vat s p 200).2.1) 16).2.2 = 0)
  (hx : x = vtimes s ((vat s (p + (vat s p 200).2.1) 16).1 + 1) (r + ((vat s p 200).1 : Int) + (if f then 0 else 1)) (p + (vat s p 200).2.1 + (vat s (p + (vat s p 200).2.1) 16).2.1) acc) (he : x.2.2.1 ≠ 0) : X = ([], 0, x.2.2.1, 0) := by
 rw [h]; simp only [vruns]; rw [if_neg (by omega), if_neg (by omega), ← hx, if_pos he]
theorem vruns_next {s : ByteArray} {c : Nat} {f : Bool} {r : Int} {p : Nat} {acc : List Ent} {X x : VR} (h : X = vruns s (c + 1) f r p acc) (h0 : (vat s p 200).2.2 = 0) (h1 : (vat s (p + (vat s p 200).2.1) 16).2.2 = 0)
  (hx : x = vtimes s ((vat s (p + (vat s p 200).2.1) 16).1 + 1) (r + ((vat s p 200).1 : Int) + (if f then 0 else 1)) (p + (vat s p 200).2.1 + (vat s (p + (vat s p 200).2.1) 16).2.1) acc) (he : x.2.2.1 = 0) : X = vruns s c false x.2.2.2 x.2.1 x.1 := by
 rw [h]; simp only [vruns]; rw [if_neg (by omega), if_neg (by omega), ← hx, if_neg (by omega)]
/-- What a number at a byte can be. -/
theorem vat_says (s : ByteArray) (p : Nat) (most : Int) : ((vat s p most).2.2 = 0 ∧ ((vat s p most).1 : Int) ≤ most ∧ 0 < (vat s p most).2.1 ∧ (vat s p most).2.1 ≤ 10 ∧ p + (vat s p most).2.1 ≤ s.size) ∨ ∃ e : Int, vat s p most = (0, 0, e) ∧ (e = 2 ∨ e = 3 ∨ e = 4 ∨ e = 7) := by
 unfold vat
 rcases vint_says (s.extract p s.size).data.toList most with ⟨h0, h1, _, h2, h3, h4⟩ | h
 ·refine .inl ⟨h0, h1, h2, h3, ?_⟩
  have e : (s.extract p s.size).data.toList.length = s.size - p := by
   simp
  omega
 ·exact .inr h
/-- The same, told by what the numbers are. -/
theorem vruns_gap' {s : ByteArray} {c g k : Nat} {e : Int} {f : Bool} {r : Int} {p : Nat} {acc : List Ent} {X : VR} (h : X = vruns s (c + 1) f r p acc) (ha : vat s p 200 = (g, k, e)) (he : e ≠ 0) : X = ([], 0, e, 0) := by
 have := vruns_gap h (by rw [ha]; exact he)
 rwa [ha] at this
theorem vruns_len' {s : ByteArray} {c g k m j : Nat} {e : Int} {f : Bool} {r : Int} {p : Nat} {acc : List Ent} {X : VR} (h : X = vruns s (c + 1) f r p acc) (ha : vat s p 200 = (g, k, 0)) (hb : vat s (p + k) 16 = (m, j, e)) (he : e ≠ 0) : X = ([], 0, e, 0) := by
 have hb' : vat s (p + (vat s p 200).2.1) 16 = (m, j, e) := by rw [ha]; exact hb
 have := vruns_len h (by rw [ha]) (by rw [hb']; exact he)
 rwa [hb'] at this
theorem vruns_go {s : ByteArray} {c g k m j : Nat} {f : Bool} {r : Int} {p : Nat} {acc : List Ent} {X : VR} (h : X = vruns s (c + 1) f r p acc) (ha : vat s p 200 = (g, k, 0)) (hb : vat s (p + k) 16 = (m, j, 0)) :
  ∃ x, x = vtimes s (m + 1) (r + (g : Int) + (if f then 0 else 1)) (p + k + j) acc ∧ (x.2.2.1 ≠ 0 → X = ([], 0, x.2.2.1, 0)) ∧ (x.2.2.1 = 0 → X = vruns s c false x.2.2.2 x.2.1 x.1) := by
 have hb' : vat s (p + (vat s p 200).2.1) 16 = (m, j, 0) := by rw [ha]; exact hb
 have hx : vtimes s (m + 1) (r + (g : Int) + (if f then 0 else 1)) (p + k + j) acc = vtimes s ((vat s (p + (vat s p 200).2.1) 16).1 + 1) (r + ((vat s p 200).1 : Int) + (if f then 0 else 1)) (p + (vat s p 200).2.1 + (vat s (p + (vat s p 200).2.1) 16).2.1) acc := by
  rw [hb', ha]
 exact ⟨_, rfl, fun he => vruns_bad h (by rw [ha]) (by rw [hb']) hx he, fun he => vruns_next h (by rw [ha]) (by rw [hb']) hx he⟩
theorem vtimes_bad' {s : ByteArray} {c t k : Nat} {e r : Int} {p : Nat} {acc : List Ent} {X : VR} (h : X = vtimes s (c + 1) r p acc) (ha : vat s p 1099511627776 = (t, k, e)) (he : e ≠ 0) : X = ([], 0, e, 0) := by
 have := vtimes_bad h (by rw [ha]; exact he)
 rwa [ha] at this
theorem vtimes_next' {s : ByteArray} {c t k : Nat} {r : Int} {p : Nat} {acc : List Ent} {X : VR} (h : X = vtimes s (c + 1) r p acc) (ha : vat s p 1099511627776 = (t, k, 0)) : X = vtimes s c (r + 1) (p + k) (acc ++ [(r, (t : Int))]) := by
 have := vtimes_next h (by rw [ha])
 rwa [ha] at this
theorem vread_bad {s : ByteArray} {X : VR} {e : Int} (hX : vrall s = X) (h : X = ([], 0, e, 0)) (he : e ≠ 0) : vread s = ([], 0, e) := by
 unfold vread; rw [hX, h, if_pos he]
theorem vread_false {s : ByteArray} {X : VR} {l : List Ent} {p : Nat} {r : Int} (hX : vrall s = X) (h : X = (l, p, 0, r)) (he : (vright l).1 ≠ 0) : vread s = ([], 0, (vright l).1) := by
 unfold vread; rw [hX, h, if_neg (by simp), if_pos he]
theorem vread_good {s : ByteArray} {X : VR} {l : List Ent} {p : Nat} {r : Int} (hX : vrall s = X) (h : X = (l, p, 0, r)) (he : (vright l).1 = 0) : vread s = (l, p, 0) := by
 unfold vread; rw [hX, h, if_neg (by simp), if_neg (by simpa using he)]
theorem vrall_bad {s : ByteArray} {c k : Nat} {e : Int} (ha : vat s 0 16 = (c, k, e)) (he : e ≠ 0) : vrall s = ([], 0, e, 0) := by
 unfold vrall; rw [ha, if_pos he]
theorem vrall_go {s : ByteArray} {c k : Nat} (ha : vat s 0 16 = (c, k, 0)) : vrall s = vruns s c true 0 k [] := by
 unfold vrall; rw [ha, if_neg (by simp)]
theorem vat_of (s : ByteArray) (p : Nat) (most : Int) : ∃ (n k : Nat) (e : Int), vat s p most = (n, k, e) ∧ (e = 0 ∧ (n : Int) ≤ most ∧ 0 < k ∧ k ≤ 10 ∧ p + k ≤ s.size ∨ e ≠ 0 ∧ n = 0 ∧ k = 0) := by
 rcases vat_says s p most with ⟨h0, h1, h2, h3, h4⟩ | ⟨e, h, he⟩
 ·exact ⟨_, _, _, rfl, .inl ⟨h0, h1, h2, h3, h4⟩⟩
 ·exact ⟨0, 0, e, h, .inr ⟨by omega, rfl, rfl⟩⟩
theorem vread_none {s : ByteArray} (h : (vread s).2.2 ≠ 0) : (vread s).1 = [] ∧ (vread s).2.1 = 0 := by
 unfold vread at h ⊢
 split
 ·exact ⟨rfl, rfl⟩
 ·rename_i h1
  rw [if_neg h1] at h
  split
  ·exact ⟨rfl, rfl⟩
  ·rename_i h2
   rw [if_neg h2] at h
   exact absurd rfl h
end Go.Proofs.YtkejlnjnoiidnaaGreatDoor
end

section
namespace Go.Proofs.YtkejlnjnoiidnaaGreatDoor
/-- The first key of a table that stands there twice, from k on. -/
def twiceGo (t : List ByteArray) : List ByteArray → Nat → Int
 | [], _ => -1
 | s :: l, k => if s ∈ t.take k then k else twiceGo t l (k + 1)
def twice (t : List ByteArray) : Int := twiceGo t t 0
/-- Numbers from i on, so many keys being told. -/
def klgo (t : List ByteArray) : List Int → Nat → Nat → List ByteArray → List ByteArray × Int × Int
 | [], _, next, out => if next < t.length then ([], 8, -1) else (out, 0, -1)
 | n :: l, i, next, out => if n < 0 ∨ (t.length : Int) ≤ n then ([], 2, i) else if (next : Int) < n then ([], 13, i) else klgo t l (i + 1) (if n = (next : Int) then next + 1 else next) (out ++ [t.getD n.toNat (strOf [])])
def klist (t : List ByteArray) (a : List Int) : List ByteArray × Int × Int := if 0 ≤ twice t then ([], 9, twice t) else klgo t a 0 0 []
/-- None twice ahead of k. -/
def KT (t : List ByteArray) (k : Nat) : Prop := twice t = twiceGo t (t.drop k) k
theorem KT.zero (t : List ByteArray) : KT t 0 := rfl
theorem kdrop {α : Type} {l : List α} {k : Nat} {x : α} (h : l[k]? = some x) : l.drop k = x :: l.drop (k + 1) := by
 obtain ⟨hk, e⟩ := List.getElem?_eq_some_iff.1 h
 rw [List.drop_eq_getElem_cons hk, e]
theorem KT.hit {t : List ByteArray} {k : Nat} {s : ByteArray} (h : KT t k) (hx : t[k]? = some s) (hs : s ∈ t.take k) : twice t = (k : Int) := by
 unfold KT at h; rw [h, kdrop hx]; simp only [twiceGo]; rw [if_pos hs]
theorem KT.succ {t : List ByteArray} {k : Nat} {s : ByteArray} (h : KT t k) (hx : t[k]? = some s) (hs : ¬ s ∈ t.take k) : KT t (k + 1) := by
 unfold KT at *; rw [h, kdrop hx]; simp only [twiceGo]; rw [if_neg hs]
theorem KT.all {t : List ByteArray} {k : Nat} (h : KT t k) (hk : t.length ≤ k) : twice t = -1 := by
 unfold KT at h; rw [h, List.drop_eq_nil_of_le hk]; rfl
theorem klist_twice {t : List ByteArray} {a : List Int} {k : Nat} (h : twice t = (k : Int)) : klist t a = ([], 9, (k : Int)) := by
 unfold klist; rw [h, if_pos (by omega)]
theorem klist_once {t : List ByteArray} {a : List Int} (h : twice t = -1) : klist t a = klgo t a 0 0 [] := by
 unfold klist; rw [h, if_neg (by omega)]
/-- As it stands ahead of number i. -/
structure KA (t : List ByteArray) (a : List Int) (i next : Nat) (out : List ByteArray) : Prop where
 eq : klgo t a 0 0 [] = klgo t (a.drop i) i next out
 len : out.length = i
 le : next ≤ t.length
 le' : next ≤ i
theorem KA.zero (t : List ByteArray) (a : List Int) : KA t a 0 0 [] := ⟨rfl, rfl, Nat.zero_le _, Nat.zero_le _⟩
section
variable {t : List ByteArray} {a : List Int} {i next : Nat} {out : List ByteArray} {n : Int}
theorem KA.range (h : KA t a i next out) (hx : a[i]? = some n) (h1 : n < 0 ∨ (t.length : Int) ≤ n) : klgo t a 0 0 [] = ([], 2, (i : Int)) := by
 rw [h.eq, kdrop hx]; simp only [klgo]; rw [if_pos h1]
theorem KA.false (h : KA t a i next out) (hx : a[i]? = some n) (h1 : ¬ (n < 0 ∨ (t.length : Int) ≤ n)) (h2 : (next : Int) < n) : klgo t a 0 0 [] = ([], 13, (i : Int)) := by
 rw [h.eq, kdrop hx]; simp only [klgo]; rw [if_neg h1, if_pos h2]
theorem KA.new (h : KA t a i next out) (hx : a[i]? = some n) (h1 : ¬ (n < 0 ∨ (t.length : Int) ≤ n)) (h2 : n = (next : Int)) : KA t a (i + 1) (next + 1) (out ++ [t.getD n.toNat (strOf [])]) := by
 refine ⟨?_, by simp [h.len], by omega, by have := h.le'; omega⟩
 rw [h.eq, kdrop hx]; simp only [klgo]; rw [if_neg h1, if_neg (by omega), if_pos h2]
theorem KA.old (h : KA t a i next out) (hx : a[i]? = some n) (h1 : ¬ (n < 0 ∨ (t.length : Int) ≤ n)) (h2 : n < (next : Int)) : KA t a (i + 1) next (out ++ [t.getD n.toNat (strOf [])]) := by
 refine ⟨?_, by simp [h.len], h.le, by have := h.le'; omega⟩
 rw [h.eq, kdrop hx]; simp only [klgo]; rw [if_neg h1, if_neg (by omega), if_neg (by omega)]
theorem KA.less (h : KA t a i next out) (hi : a.length ≤ i) (h1 : next < t.length) : klgo t a 0 0 [] = ([], 8, -1) := by
 rw [h.eq, List.drop_eq_nil_of_le hi]; simp only [klgo]; rw [if_pos h1]
theorem KA.done (h : KA t a i next out) (hi : a.length ≤ i) (h1 : ¬ next < t.length) : klgo t a 0 0 [] = (out, 0, -1) := by
 rw [h.eq, List.drop_eq_nil_of_le hi]; simp only [klgo]; rw [if_neg h1]
end
end Go.Proofs.YtkejlnjnoiidnaaGreatDoor
end

section
namespace Go.Proofs.YtkejlnjnoiidnaaGreatDoor
set_option linter.unusedVariables false
/-- Byte k. -/
def byteOf (t : ByteArray) (k : Nat) : Nat := (t.data.toList.getD k 0).toNat
theorem byteOf_eq (t : ByteArray) (k : Nat) (h : k < t.size) : byteOf t k = (t[k]).toNat := by
 unfold byteOf
 have hl : k < t.data.toList.length := by simpa using h
 simp [List.getD, List.getElem?_eq_getElem hl]
 rfl
theorem byteOf_lt (t : ByteArray) (k : Nat) : byteOf t k < 256 := UInt8.toNat_lt _
abbrev BR := (List Ent × List Ent × List Wr) × Int × Int
abbrev noB : List Ent × List Ent × List Wr := ([], [], [])
/-- At the end. -/
def bend (s : ByteArray) (f h : List Ent) (T : List ByteArray) (at_ : List Int) (ws : List Wr) (p : Nat) : BR :=
 if p < s.size then (noB, 3, (p : Int))
 else if (klist T at_).2.1 ≠ 0 then (noB, (klist T at_).2.1, (s.size : Int))
 else if (bright f h ws).1 ≠ 0 then (noB, (bright f h ws).1, (s.size : Int))
 else ((f, h, ws), 0, -1)
/-- One write: what is wrong, where (or how far it goes), it, its key's number, its time. -/
abbrev WO := Int × Nat × Wr × Nat × Nat
def bad1 (e : Int) (p : Nat) : WO := (e, p, noWr, 0, 0)
abbrev raw (h : List Ent) (T : List ByteArray) (tm i x kd : Nat) : Wr := ((tm : Int), (h.getD i (0, 0)).1, (kd : Int), T.getD x (strOf []), strOf [], 0)
def wfin (s : ByteArray) (h : List Ent) (T : List ByteArray) (p tm i x kd : Nat) : WO :=
 if (wfill (raw h T tm i x kd) (s.extract p s.size)).2.2 ≠ 0 then bad1 (wfill (raw h T tm i x kd) (s.extract p s.size)).2.2 p
 else (0, p + (wfill (raw h T tm i x kd) (s.extract p s.size)).2.1, (wfill (raw h T tm i x kd) (s.extract p s.size)).1, x, tm)
def wkey (s : ByteArray) (h : List Ent) (T : List ByteArray) (p tm i kd : Nat) : WO :=
 if (vat s p ((T.length : Int) - 1)).2.2 ≠ 0 then bad1 (vat s p ((T.length : Int) - 1)).2.2 p
 else wfin s h T (p + (vat s p ((T.length : Int) - 1)).2.1) tm i (vat s p ((T.length : Int) - 1)).1 kd
def wrep (s : ByteArray) (h : List Ent) (T : List ByteArray) (p tm kd : Nat) : WO :=
 if (vat s p ((h.length : Int) - 1)).2.2 ≠ 0 then bad1 (vat s p ((h.length : Int) - 1)).2.2 p
 else wkey s h T (p + (vat s p ((h.length : Int) - 1)).2.1) tm (vat s p ((h.length : Int) - 1)).1 kd
def wtime (s : ByteArray) (h : List Ent) (T : List ByteArray) (p tm kd : Nat) : WO :=
 if (vat s p 1099511627776).2.2 ≠ 0 then bad1 (vat s p 1099511627776).2.2 p
 else if 1099511627776 < tm + (vat s p 1099511627776).1 then bad1 2 p
 else wrep s h T (p + (vat s p 1099511627776).2.1) (tm + (vat s p 1099511627776).1) kd
def wone (s : ByteArray) (h : List Ent) (T : List ByteArray) (p tm : Nat) : WO :=
 if s.size ≤ p then bad1 7 p
 else if byteOf s p < 1 ∨ 4 < byteOf s p then bad1 1 p
 else wtime s h T (p + 1) tm (byteOf s p)
def bws (s : ByteArray) (f h : List Ent) (T : List ByteArray) : Nat → Nat → Nat → List Int → List Wr → BR
 | 0, p, _, at_, ws => bend s f h T at_ ws p
 | c + 1, p, tm, at_, ws =>
  if (wone s h T p tm).1 ≠ 0 then (noB, (wone s h T p tm).1, ((wone s h T p tm).2.1 : Int))
  else bws s f h T c (wone s h T p tm).2.1 (wone s h T p tm).2.2.2.2 (at_ ++ [((wone s h T p tm).2.2.2.1 : Int)]) (ws ++ [(wone s h T p tm).2.2.1])
def bkeys (s : ByteArray) (f h : List Ent) : Nat → Nat → List ByteArray → BR
 | 0, p, T => if (vat s p 60).2.2 ≠ 0 then (noB, (vat s p 60).2.2, (p : Int)) else bws s f h T (vat s p 60).1 (p + (vat s p 60).2.1) 0 [] []
 | c + 1, p, T => if (unspan (s.extract p s.size)).2.2 ≠ 0 then (noB, (unspan (s.extract p s.size)).2.2, (p : Int)) else bkeys s f h c (p + (unspan (s.extract p s.size)).2.1) (T ++ [(unspan (s.extract p s.size)).1])
def btab (s : ByteArray) (f h : List Ent) (p : Nat) : BR := if (vat s p 60).2.2 ≠ 0 then (noB, (vat s p 60).2.2, (p : Int)) else bkeys s f h (vat s p 60).1 (p + (vat s p 60).2.1) []
def bhave (s : ByteArray) (f : List Ent) (p : Nat) : BR := if (vread (s.extract p s.size)).2.2 ≠ 0 then (noB, (vread (s.extract p s.size)).2.2, (p : Int)) else btab s f (vread (s.extract p s.size)).1 (p + (vread (s.extract p s.size)).2.1)
def bread (s : ByteArray) : BR :=
 if 20000 < s.size then (noB, 4, -1)
 else if (vread s).2.2 ≠ 0 then (noB, (vread s).2.2, 0)
 else bhave s (vread s).1 (vread s).2.1
section
variable {s : ByteArray} {f h : List Ent} {T : List ByteArray} {at_ : List Int} {ws : List Wr} {X : BR} {p tm n k i j x m kd c : Nat} {e : Int} {l : List Ent} {w : Wr} {b : ByteArray}
theorem bread_big (a : 20000 < s.size) : bread s = (noB, 4, -1) := by unfold bread; rw [if_pos a]
theorem bread_from (a : ¬ 20000 < s.size) (hv : vread s = (l, n, e)) (he : e ≠ 0) : bread s = (noB, e, 0) := by unfold bread; rw [if_neg a, hv, if_pos he]
theorem bread_go (a : ¬ 20000 < s.size) (hv : vread s = (l, n, 0)) : bread s = bhave s l n := by unfold bread; rw [if_neg a, hv, if_neg (by simp)]
theorem bhave_bad (hX : X = bhave s f p) (hv : vread (s.extract p s.size) = (l, n, e)) (he : e ≠ 0) : X = (noB, e, (p : Int)) := by rw [hX]; unfold bhave; rw [hv, if_pos he]
theorem bhave_go (hX : X = bhave s f p) (hv : vread (s.extract p s.size) = (l, n, 0)) : X = btab s f l (p + n) := by rw [hX]; unfold bhave; rw [hv, if_neg (by simp)]
theorem btab_bad (hX : X = btab s f h p) (hv : vat s p 60 = (n, k, e)) (he : e ≠ 0) : X = (noB, e, (p : Int)) := by rw [hX]; unfold btab; rw [hv, if_pos he]
theorem btab_go (hX : X = btab s f h p) (hv : vat s p 60 = (n, k, 0)) : X = bkeys s f h n (p + k) [] := by rw [hX]; unfold btab; rw [hv, if_neg (by simp)]
theorem bkeys_bad (hX : X = bkeys s f h (c + 1) p T) (hv : unspan (s.extract p s.size) = (b, n, e)) (he : e ≠ 0) : X = (noB, e, (p : Int)) := by rw [hX]; unfold bkeys; rw [hv, if_pos he]
theorem bkeys_go (hX : X = bkeys s f h (c + 1) p T) (hv : unspan (s.extract p s.size) = (b, n, 0)) : X = bkeys s f h c (p + n) (T ++ [b]) := by rw [hX]; rw [bkeys, hv, if_neg (by simp)]
theorem bkeys_num (hX : X = bkeys s f h 0 p T) (hv : vat s p 60 = (n, k, e)) (he : e ≠ 0) : X = (noB, e, (p : Int)) := by rw [hX]; unfold bkeys; rw [hv, if_pos he]
theorem bkeys_end (hX : X = bkeys s f h 0 p T) (hv : vat s p 60 = (n, k, 0)) : X = bws s f h T n (p + k) 0 [] [] := by rw [hX]; unfold bkeys; rw [hv, if_neg (by simp)]
theorem bws_bad (hX : X = bws s f h T (c + 1) p tm at_ ws) (ho : wone s h T p tm = bad1 e j) (he : e ≠ 0) : X = (noB, e, (j : Int)) := by rw [hX, bws, ho, if_pos (by exact he)]; rfl
theorem bws_go (hX : X = bws s f h T (c + 1) p tm at_ ws) (ho : wone s h T p tm = (0, n, w, x, m)) : X = bws s f h T c n m (at_ ++ [(x : Int)]) (ws ++ [w]) := by rw [hX, bws, ho, if_neg (by simp)]
theorem bws_end (hX : X = bws s f h T 0 p tm at_ ws) : X = bend s f h T at_ ws p := hX
theorem bend_more (hX : X = bend s f h T at_ ws p) (a : p < s.size) : X = (noB, 3, (p : Int)) := by rw [hX]; unfold bend; rw [if_pos a]
theorem bend_list (hX : X = bend s f h T at_ ws p) (a : ¬ p < s.size) (he : (klist T at_).2.1 ≠ 0) : X = (noB, (klist T at_).2.1, (s.size : Int)) := by rw [hX]; unfold bend; rw [if_neg a, if_pos he]
theorem bend_bad (hX : X = bend s f h T at_ ws p) (a : ¬ p < s.size) (he : (klist T at_).2.1 = 0) (h2 : (bright f h ws).1 ≠ 0) : X = (noB, (bright f h ws).1, (s.size : Int)) := by rw [hX]; unfold bend; rw [if_neg a, if_neg (by simp [he]), if_pos h2]
theorem bend_ok (hX : X = bend s f h T at_ ws p) (a : ¬ p < s.size) (he : (klist T at_).2.1 = 0) (h2 : (bright f h ws).1 = 0) : X = ((f, h, ws), 0, -1) := by rw [hX]; unfold bend; rw [if_neg a, if_neg (by simp [he]), if_neg (by simp [h2])]
theorem wone_end (a : s.size ≤ p) : wone s h T p tm = bad1 7 p := by unfold wone; rw [if_pos a]
theorem wone_kind (a : ¬ s.size ≤ p) (b : byteOf s p < 1 ∨ 4 < byteOf s p) : wone s h T p tm = bad1 1 p := by unfold wone; rw [if_neg a, if_pos b]
theorem wone_go (a : ¬ s.size ≤ p) (b : ¬ (byteOf s p < 1 ∨ 4 < byteOf s p)) : wone s h T p tm = wtime s h T (p + 1) tm (byteOf s p) := by unfold wone; rw [if_neg a, if_neg b]
theorem wtime_bad (hv : vat s p 1099511627776 = (n, k, e)) (he : e ≠ 0) : wtime s h T p tm kd = bad1 e p := by unfold wtime; rw [hv, if_pos he]
theorem wtime_over (hv : vat s p 1099511627776 = (n, k, 0)) (a : 1099511627776 < tm + n) : wtime s h T p tm kd = bad1 2 p := by unfold wtime; rw [hv, if_neg (by simp), if_pos a]
theorem wtime_go (hv : vat s p 1099511627776 = (n, k, 0)) (a : ¬ 1099511627776 < tm + n) : wtime s h T p tm kd = wrep s h T (p + k) (tm + n) kd := by unfold wtime; rw [hv, if_neg (by simp), if_neg a]
theorem wrep_bad (hv : vat s p ((h.length : Int) - 1) = (n, k, e)) (he : e ≠ 0) : wrep s h T p tm kd = bad1 e p := by unfold wrep; rw [hv, if_pos he]
theorem wrep_go (hv : vat s p ((h.length : Int) - 1) = (n, k, 0)) : wrep s h T p tm kd = wkey s h T (p + k) tm n kd := by unfold wrep; rw [hv, if_neg (by simp)]
theorem wkey_bad (hv : vat s p ((T.length : Int) - 1) = (n, k, e)) (he : e ≠ 0) : wkey s h T p tm i kd = bad1 e p := by unfold wkey; rw [hv, if_pos he]
theorem wkey_go (hv : vat s p ((T.length : Int) - 1) = (n, k, 0)) : wkey s h T p tm i kd = wfin s h T (p + k) tm i n kd := by unfold wkey; rw [hv, if_neg (by simp)]
theorem wfin_bad (hv : wfill (raw h T tm i x kd) (s.extract p s.size) = (w, n, e)) (he : e ≠ 0) : wfin s h T p tm i x kd = bad1 e p := by unfold wfin; rw [hv, if_pos he]
theorem wfin_go (hv : wfill (raw h T tm i x kd) (s.extract p s.size) = (w, n, 0)) : wfin s h T p tm i x kd = (0, p + n, w, x, tm) := by unfold wfin; rw [hv, if_neg (by simp)]
end
/-- How far a vector goes. -/
theorem vtimes_far {s : ByteArray} : ∀ (c : Nat) (r : Int) (p : Nat) (acc : List Ent), p ≤ s.size → (vtimes s c r p acc).2.1 ≤ s.size := by
 intro c
 induction c with
 | zero => intro r p acc h; exact h
 | succ c ih =>
  intro r p acc h
  simp only [vtimes]
  obtain ⟨n, k, e, ha, hx⟩ := vat_of s p 1099511627776
  rw [ha]
  split
  ·exact Nat.zero_le _
  ·rename_i he
   rcases hx with ⟨_, _, _, _, h4⟩ | ⟨h1, _⟩
   ·exact ih _ _ _ h4
   ·exact absurd h1 he
theorem vruns_far {s : ByteArray} : ∀ (c : Nat) (b : Bool) (r : Int) (p : Nat) (acc : List Ent), p ≤ s.size → (vruns s c b r p acc).2.1 ≤ s.size := by
 intro c
 induction c with
 | zero => intro b r p acc h; exact h
 | succ c ih =>
  intro b r p acc h
  simp only [vruns]
  obtain ⟨n, k, e, ha, hx⟩ := vat_of s p 200
  rw [ha]
  split
  ·exact Nat.zero_le _
  ·rename_i he
   rcases hx with ⟨_, _, _, _, h4⟩ | ⟨h1, _⟩
   ·simp only
    obtain ⟨n', k', e', ha', hx'⟩ := vat_of s (p + k) 16
    rw [ha']
    split
    ·exact Nat.zero_le _
    ·rename_i he'
     rcases hx' with ⟨_, _, _, _, h4'⟩ | ⟨h1, _⟩
     ·generalize (r + (n : Int) + (if b = true then (0 : Int) else 1)) = Z
      split
      ·exact Nat.zero_le _
      ·exact ih _ _ _ _ (vtimes_far _ _ _ _ h4')
     ·exact absurd h1 he'
   ·exact absurd h1 he
theorem vread_far (s : ByteArray) : (vread s).2.1 ≤ s.size := by
 unfold vread
 split
 ·exact Nat.zero_le _
 ·split
  ·exact Nat.zero_le _
  ·unfold vrall
   obtain ⟨n, k, e, ha, hx⟩ := vat_of s 0 16
   rw [ha]
   split
   ·exact Nat.zero_le _
   ·rename_i he
    rcases hx with ⟨_, _, _, _, h4⟩ | ⟨h1, _⟩
    ·exact vruns_far _ _ _ _ _ (by simpa using h4)
    ·exact absurd h1 he
theorem vread_right {s : ByteArray} : (vright (vread s).1).1 = 0 := by
 unfold vread
 split
 ·rfl
 ·split
  ·rfl
  ·rename_i h; simpa using h
theorem wend_far {w : Wr} {k m : Nat} (h : k ≤ m) : (wend w k).2.1 ≤ m := by
 unfold wend
 split
 ·exact Nat.zero_le _
 ·exact h
theorem wfill_far (x : Wr) (s : ByteArray) : (wfill x s).2.1 ≤ s.size := by
 have hu : ∀ t : ByteArray, (unspan t).2.1 ≤ t.size := fun t => by
  rcases unspan_says t with h | ⟨e, h, _⟩
  ·exact h.2.2.1
  ·rw [h]; exact Nat.zero_le _
 have hv : (vget s.data.toList).2.1 ≤ s.size := by
  have hl : s.data.toList.length = s.size := by simp
  rcases vget_says s.data.toList with h | h | h | h
  ·omega
  all_goals rw [h]; exact Nat.zero_le _
 have hi : (vint s.data.toList 1000).2.1 ≤ s.size := by
  have ha : vat s 0 1000 = vint s.data.toList 1000 := by unfold vat; rw [show s.extract 0 s.size = s from ByteArray.extract_zero_size]
  obtain ⟨n, k, e, h, hx⟩ := vat_of s 0 1000
  rw [← ha, h]
  rcases hx with ⟨_, _, _, _, h4⟩ | ⟨_, _, h4⟩
  ·simpa using h4
  ·rw [h4]; exact Nat.zero_le _
 unfold wfill
 split
 ·split
  ·exact Nat.zero_le _
  ·exact wend_far (hu s)
 ·split
  ·split
   ·exact Nat.zero_le _
   ·exact wend_far hv
  ·split
   ·split
    ·exact Nat.zero_le _
    ·split
     ·exact Nat.zero_le _
     ·refine wend_far ?_
      have := hu (s.extract (vint s.data.toList 1000).2.1 s.size)
      rw [ByteArray.size_extract] at this
      omega
   ·exact wend_far (Nat.zero_le _)
end Go.Proofs.YtkejlnjnoiidnaaGreatDoor
end

section
namespace Go.Proofs.YtkejlnjnoiidnaaGreatDoor
/-- The number without a bound at byte p. -/
def uat (s : ByteArray) (p : Nat) : Nat × Nat × Int := vget (s.extract p s.size).data.toList
/-- Tokens, where they begin, what is wrong, where. -/
abbrev LR := List Tok × List Int × Int × Int
def lgo (s : ByteArray) : Nat → Nat → List Tok → List Int → LR
 | 0, _, acc, st => (acc, st, 0, -1)
 | f + 1, p, acc, st =>
  if s.size ≤ p then (acc, st, 0, -1)
  else if (uat s p).2.2 ≠ 0 then ([], [], (uat s p).2.2, (p : Int))
  else if (uat s p).1 % 2 = 0 then
   if (uat s p).1 / 2 = 0 then ([], [], 3, (p : Int))
   else if s.size < p + (uat s p).2.1 + (uat s p).1 / 2 then ([], [], 7, (s.size : Int))
   else lgo s f (p + (uat s p).2.1 + (uat s p).1 / 2) (acc ++ [(s.extract (p + (uat s p).2.1) (p + (uat s p).2.1 + (uat s p).1 / 2), 0, 0)]) (st ++ [(p : Int)])
  else if 63 < (uat s p).1 / 2 then ([], [], 2, (p : Int))
  else if (vat s (p + (uat s p).2.1) 1023).2.2 ≠ 0 then ([], [], (vat s (p + (uat s p).2.1) 1023).2.2, ((p + (uat s p).2.1 : Nat) : Int))
  else lgo s f (p + (uat s p).2.1 + (vat s (p + (uat s p).2.1) 1023).2.1) (acc ++ [(⟨#[]⟩, ((vat s (p + (uat s p).2.1) 1023).1 : Int) + 1, (((uat s p).1 / 2 : Nat) : Int) + 4)]) (st ++ [(p : Int)])
/-- As it stands at byte p. -/
def LAt (s : ByteArray) (X : LR) (p : Nat) (acc : List Tok) (st : List Int) : Prop := ∃ f, s.size < p + f ∧ X = lgo s f p acc st
section
variable {s : ByteArray} {X : LR} {p n k m j : Nat} {e : Int} {acc : List Tok} {st : List Int}
theorem LAt.fuel (h : LAt s X p acc st) (hp : p < s.size) : ∃ f, s.size < p + (f + 1) ∧ X = lgo s (f + 1) p acc st := by
 obtain ⟨f, h1, h2⟩ := h
 cases f with
 | zero => omega
 | succ f => exact ⟨f, h1, h2⟩
theorem LAt.done (h : LAt s X p acc st) (hp : s.size ≤ p) : X = (acc, st, 0, -1) := by
 obtain ⟨f, h1, rfl⟩ := h
 cases f with
 | zero => rfl
 | succ f => simp only [lgo]; rw [if_pos hp]
theorem LAt.num (h : LAt s X p acc st) (hp : p < s.size) (ha : uat s p = (n, k, e)) (he : e ≠ 0) : X = ([], [], e, (p : Int)) := by
 obtain ⟨f, h1, rfl⟩ := h.fuel hp
 simp only [lgo]; rw [if_neg (by omega), ha, if_pos he]
theorem LAt.form (h : LAt s X p acc st) (hp : p < s.size) (ha : uat s p = (n, k, 0)) (h2 : n % 2 = 0) (h0 : n / 2 = 0) : X = ([], [], 3, (p : Int)) := by
 obtain ⟨f, h1, rfl⟩ := h.fuel hp
 simp only [lgo]; rw [if_neg (by omega), ha, if_neg (by simp), if_pos h2, if_pos h0]
theorem LAt.own (h : LAt s X p acc st) (hp : p < s.size) (ha : uat s p = (n, k, 0)) (h2 : n % 2 = 0) (h0 : n / 2 ≠ 0) (h3 : ¬ s.size < p + k + n / 2) :
  LAt s X (p + k + n / 2) (acc ++ [(s.extract (p + k) (p + k + n / 2), 0, 0)]) (st ++ [(p : Int)]) := by
 obtain ⟨f, h1, rfl⟩ := h.fuel hp
 refine ⟨f, by omega, ?_⟩
 simp only [lgo]; rw [if_neg (by omega), ha, if_neg (by simp), if_pos h2, if_neg h0, if_neg h3]
theorem LAt.range (h : LAt s X p acc st) (hp : p < s.size) (ha : uat s p = (n, k, 0)) (h2 : ¬ n % 2 = 0) (h3 : 63 < n / 2) : X = ([], [], 2, (p : Int)) := by
 obtain ⟨f, h1, rfl⟩ := h.fuel hp
 simp only [lgo]; rw [if_neg (by omega), ha, if_neg (by simp), if_neg h2, if_pos h3]
theorem LAt.back (h : LAt s X p acc st) (hp : p < s.size) (ha : uat s p = (n, k, 0)) (h2 : ¬ n % 2 = 0) (h3 : ¬ 63 < n / 2) (hb : vat s (p + k) 1023 = (m, j, e)) (he : e ≠ 0) : X = ([], [], e, ((p + k : Nat) : Int)) := by
 obtain ⟨f, h1, rfl⟩ := h.fuel hp
 simp only [lgo]; rw [if_neg (by omega), ha, if_neg (by simp), if_neg h2, if_neg h3]
 simp only
 rw [hb, if_pos he]
end
end Go.Proofs.YtkejlnjnoiidnaaGreatDoor
end

section
namespace Go.Proofs.YtkejlnjnoiidnaaGreatDoor
set_option linter.unusedVariables false
/-- Which version a frame is of, and what is wrong. -/
def fver (s : ByteArray) : Int × Int :=
 if s.size < 8 then (0, 7)
 else if s.extract 0 2 ≠ ⟨#[80, 84]⟩ then (0, 5)
 else if byteOf s 2 < 1 ∨ 3 < byteOf s 2 then (0, 8)
 else if (openOf s).2 ≠ 0 then (0, (openOf s).2) else ((byteOf s 2 : Int), 0)
section
variable {s : ByteArray}
theorem fver_short (h : s.size < 8) : fver s = (0, 7) := by unfold fver; rw [if_pos h]
theorem fver_name (h : ¬ s.size < 8) (h2 : s.extract 0 2 ≠ ⟨#[80, 84]⟩) : fver s = (0, 5) := by unfold fver; rw [if_neg h, if_pos h2]
theorem fver_none (h : ¬ s.size < 8) (h2 : s.extract 0 2 = ⟨#[80, 84]⟩) (h3 : byteOf s 2 < 1 ∨ 3 < byteOf s 2) : fver s = (0, 8) := by unfold fver; rw [if_neg h, if_neg (by simp [h2]), if_pos h3]
theorem fver_open (h : ¬ s.size < 8) (h2 : s.extract 0 2 = ⟨#[80, 84]⟩) (h3 : ¬ (byteOf s 2 < 1 ∨ 3 < byteOf s 2)) {e : Int} {t : ByteArray} (ho : openOf s = (t, e)) (he : e ≠ 0) : fver s = (0, e) := by unfold fver; rw [if_neg h, if_neg (by simp [h2]), if_neg h3, ho, if_pos he]
theorem fver_ok (h : ¬ s.size < 8) (h2 : s.extract 0 2 = ⟨#[80, 84]⟩) (h3 : ¬ (byteOf s 2 < 1 ∨ 3 < byteOf s 2)) {t : ByteArray} (ho : openOf s = (t, 0)) : fver s = ((byteOf s 2 : Int), 0) := by unfold fver; rw [if_neg h, if_neg (by simp [h2]), if_neg h3, ho, if_neg (by simp)]
/-- A frame without its sum. -/
abbrev fbody (s : ByteArray) : ByteArray := s.extract 0 (s.size - 4)
/-- A frame whose version is right has eight bytes, and its sum is right. -/
theorem fver_good {v : Int} (h : fver s = (v, 0)) : 8 ≤ s.size ∧ openOf s = (fbody s, 0) ∧ (v = 1 ∨ v = 2 ∨ v = 3) ∧ v = (byteOf s 2 : Int) := by
 unfold fver at h
 split at h
 ·injection h with _ h; omega
 ·split at h
  ·injection h with _ h; omega
  ·split at h
   ·injection h with _ h; omega
   ·split at h
    ·rename_i h9; injection h with _ h; omega
    ·rename_i h1 h2 h3 h4
     injection h with h5 _
     refine ⟨by omega, ?_, by omega, h5.symm⟩
     by_cases hs : sealOf (s.extract 0 (s.size - 4)) = s
     ·exact open_good (by omega) hs
     ·rw [open_bad (by omega) hs] at h4; simp at h4
theorem fbody_size (h : 8 ≤ s.size) : (fbody s).size = s.size - 4 := by rw [ByteArray.size_extract]; omega
theorem fbody_three (h : 8 ≤ s.size) : (fbody s).extract 3 (fbody s).size = s.extract 3 (s.size - 4) := by
 rw [fbody_size h, ByteArray.extract_extract]; congr 1 <;> omega
theorem byteOf_cut {a b i : Nat} (hb : b ≤ s.size) (hi : a + i < b) : byteOf (s.extract a b) i = byteOf s (a + i) := by
 rw [byteOf_eq _ _ (by rw [ByteArray.size_extract]; omega), byteOf_eq _ _ (by omega)]
 simp [ByteArray.getElem_extract]
variable {X : BR} {n k : Nat} {v e p : Int} {t u : ByteArray}
end
/-- What is read is right. -/
def BRight (x : BR) : Prop := x.2.1 = 0 → (bright x.1.1 x.1.2.1 x.1.2.2).1 = 0
theorem BRight.no {e q : Int} : BRight (noB, e, q) := fun _ => rfl
end Go.Proofs.YtkejlnjnoiidnaaGreatDoor
end
