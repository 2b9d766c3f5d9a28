/- Slices of slices of entries that the call made itself: all but the last one are done with. And what the reference's two loops make of runs, in plain Lean. -/
import Derived.Test.YtkejlnjnoiidnaaGreatDoorZ7
import Derived.Test.YtkejlnjnoiidnaaGreatDoorZ9
set_option linter.unusedSimpArgs false
set_option linter.unusedVariables false
section
namespace Go.Proofs.YtkejlnjnoiidnaaGreatDoor
open Go.RowKit As
theorem ylq : (Tryz.prog.info? 22).map (fun i => (i.zero, i.size, i.bytes)) = some (some (.slice none 0 0), 1, 24) := by kernel_rfl
structure Runs (w : World) (B H : Nat) (v : Value) (R0 : List (List Ent)) (vs0 : List Value) (r : List Ent) (u : Value) : Prop where
 len : vs0.length = R0.length
 own : w.ownsRow B 22 1 v (R0.length + 1) (vs0 ++ [u])
 init : ∀ (i : Nat) x y, R0[i]? = some x → vs0[i]? = some y → w.ownsRow B 79 2 y x.length (entV x) ∧ ∀ k, y.ownBlock = some k → k < H
 last : w.ownsRow H 79 2 u r.length (entV r)
 le : B ≤ H
 top : H ≤ w.heap.size
theorem zqm : 22 ≠ 79 := by decide
theorem ymg {v : Value} {B : Nat} (hb : ∀ k, v.ownBlock = some k → k < B) {u : Value} (hu : ∀ k, u.ownBlock = some k → B ≤ k) : v.ownBlock = none ∨ v.ownBlock ≠ u.ownBlock := by
 rcases hv : v.ownBlock with _ | k
 ·exact .inl rfl
 ·refine .inr fun e0 => ?_
  have h1 := hb k hv;have h2 := hu k e0.symm;omega
section
variable {w w' : World} {B H : Nat} {v u : Value} {R0 : List (List Ent)} {vs0 : List Value} {r : List Ent}
theorem Runs.alloc (h : Runs w B H v R0 vs0 r u) (o : Obj) : Runs (w.alloc o) B H v R0 vs0 r u :=
 ⟨h.len, h.own.alloc o, fun i x y hx hy => ⟨(h.init i x y hx hy).1.alloc o, (h.init i x y hx hy).2⟩, h.last.alloc o, h.le, Nat.le_trans h.top (by simp)⟩
theorem Runs.below (h : Runs w B H v R0 vs0 r u) (hb : Below w.heap.size w w') : Runs w' B H v R0 vs0 r u := by
 have key : ∀ {base : Nat} {e : TypeId} {size n : Nat} {v : Value} {xs : List Value}, w.ownsRow base e size v n xs → w'.ownsRow base e size v n xs := by
  intro base e size n v xs ho;refine ho.kept (row := none) ⟨hb.os, hb.tape, hb.output, hb.size, fun k hk _ => hb.block k hk⟩ ?_;rcases hv : v.ownBlock with _ | k
  ·exact .inl rfl
  ·exact .inr (by simp)
 exact ⟨h.len, key h.own, fun i x y hx hy => ⟨key (h.init i x y hx hy).1, (h.init i x y hx hy).2⟩, key h.last, h.le, Nat.le_trans h.top hb.size⟩
theorem Runs.start {w2 : World} {v2 : Value} (h : Runs w B H v R0 vs0 r u) (hg : w.grownBy w2 v.ownBlock) (ho : w2.ownsRow B 22 1 v2 (R0.length + 1 + 1) (vs0 ++ [u] ++ [.slice none 0 0])) (hB : B ≤ w2.heap.size) :
  Runs w2 B w2.heap.size v2 (R0 ++ [r]) (vs0 ++ [u]) [] (.slice none 0 0) := by
 have k1 : ∀ {base : Nat} {n : Nat} {y : Value} {xs : List Value}, w.ownsRow base 79 2 y n xs → w2.ownsRow base 79 2 y n xs := fun h1 => h1.kept hg (own_ne h1 h.own (Ne.symm zqm))
 refine ⟨by simp [h.len], by simpa using ho, fun i x y hx hy => ?_, World.ownsRow_nil _ _ _ _, hB, Nat.le_refl _⟩;rw [List.getElem?_append] at hx hy;rw [h.len] at hy;by_cases hi : i < R0.length
 ·rw [if_pos hi] at hx hy;obtain ⟨h1, h2⟩ := h.init i x y hx hy;exact ⟨k1 h1, fun k hk => ((k1 h1).lt k hk).2⟩
 ·rw [if_neg hi] at hx hy;have e : i - R0.length = 0 := by
   rcases Nat.eq_zero_or_pos (i - R0.length) with h0 | h0
   ·exact h0
   ·rw [List.getElem?_eq_none (by simp; omega)] at hx; cases hx
  rw [e] at hx hy;simp at hx hy;subst hx hy;exact ⟨zei (k1 h.last) h.le, fun k hk => ((k1 h.last).lt k hk).2⟩
structure Mid (w : World) (B H : Nat) (v : Value) (R0 : List (List Ent)) (vs0 : List Value) (r : List Ent) (u u2 : Value) : Prop where
 len : vs0.length = R0.length
 own : w.ownsRow B 22 1 v (R0.length + 1) (vs0 ++ [u])
 init : ∀ (i : Nat) x y, R0[i]? = some x → vs0[i]? = some y → w.ownsRow B 79 2 y x.length (entV x) ∧ ∀ k, y.ownBlock = some k → k < H
 last : w.ownsRow H 79 2 u2 r.length (entV r)
 le : B ≤ H
 top : H ≤ w.heap.size
theorem Runs.more {w2 : World} {u2 : Value} {r2 : List Ent} (h : Runs w B H v R0 vs0 r u) (hg : w.grownBy w2 u.ownBlock) (ho : w2.ownsRow H 79 2 u2 r2.length (entV r2)) : Mid w2 B H v R0 vs0 r2 u u2 :=
 ⟨h.len, h.own.kept hg (own_ne h.own h.last zqm), fun i x y hx hy => ⟨(h.init i x y hx hy).1.kept hg (ymg (h.init i x y hx hy).2 fun k hk => (h.last.lt k hk).1), (h.init i x y hx hy).2⟩, ho, h.le, Nat.le_trans h.top hg.size⟩
theorem Mid.store {g cap : Nat} {u2 : Value} (h : Mid w B H (.slice (some ⟨g, 0, none⟩) (R0.length + 1) cap) R0 vs0 r u u2) : Runs (w.setCell ⟨g, R0.length, none⟩ u2) B H (.slice (some ⟨g, 0, none⟩) (R0.length + 1) cap) R0 vs0 r u2 := by
 obtain ⟨s1, s2⟩ := h.own.stored R0.length u2;have k1 : ∀ {base : Nat} {n : Nat} {y : Value} {xs : List Value}, w.ownsRow base 79 2 y n xs → (w.setCell ⟨g, R0.length, none⟩ u2).ownsRow base 79 2 y n xs := fun h1 => h1.kept s2 (by have := own_ne h1 h.own (Ne.symm zqm); simpa [Value.ownBlock] using this)
 refine ⟨h.len, ?_, fun i x y hx hy => ⟨k1 (h.init i x y hx hy).1, (h.init i x y hx hy).2⟩, k1 h.last, h.le, Nat.le_trans h.top (by simp)⟩;have e : (vs0 ++ [u]).set R0.length u2 = vs0 ++ [u2] := by
  rw [List.set_append_right _ _ (by rw [h.len]; exact Nat.le_refl _), h.len, Nat.sub_self];rfl
 rw [← e];exact s1
theorem Runs.form (h : Runs w B H v R0 vs0 r u) : ∃ g cap, v = .slice (some ⟨g, 0, none⟩) (R0.length + 1) cap ∧ B ≤ g ∧ g < w.heap.size ∧ w.cell? ⟨g, R0.length, none⟩ = some u ∧ w.frozen? ⟨g, R0.length, none⟩ = false := by
 rcases h.own.2 with ⟨rfl, h0⟩ | ⟨g, cap, cur, rfl, hb, hh, _⟩
 ·omega
 ·have ho := h.own;refine ⟨g, cap, rfl, hb, (Array.getElem?_eq_some_iff.1 hh).1, ?_, ho.frozenAt _⟩;rw [ho.cellAt _ (by omega), List.getElem?_append_right (by rw [h.len]; exact Nat.le_refl _), h.len, Nat.sub_self];rfl
end
structure VI (w0 : World) (H : Nat) (v : Value) (R0 : List (List Ent)) (vs0 : List Value) (r : List Ent) (u : Value) (bx : Nat) (a t : Int) (g : Nat × Value) (l9 l10 l11 l12 l14 : Bool) (w : World) : Prop where
 bel : Below w0.heap.size w0 w
 pre : l12 = false → Runs w w0.heap.size H v R0 vs0 r u ∧ w.cell? ⟨bx, 0, none⟩ = some (.int .i64 a) ∧ w.cell? ⟨bx, 1, none⟩ = some (.int .i64 t)
 tmp : l11 = true → l12 = false → w.cell? ⟨g.1, 0, none⟩ = some (.int .i64 a) ∧ w.cell? ⟨g.1, 1, none⟩ = some (.int .i64 t)
 mid : l12 = true → l14 = false → Mid w w0.heap.size H v R0 vs0 (r ++ [(a, t)]) u g.2
 fin : l14 = true → Runs w w0.heap.size H v R0 vs0 (r ++ [(a, t)]) g.2
 o12 : l12 = true → l11 = true ∧ l9 = true
 o11 : l11 = true → l10 = true
 o14 : l14 = true → l12 = true
section
variable {w0 w : World} {H bx : Nat} {v u : Value} {R0 : List (List Ent)} {vs0 : List Value} {r : List Ent} {a t : Int} {g : Nat × Value} {l9 l10 l11 l12 l14 : Bool}
theorem VI.build (h : VI w0 H v R0 vs0 r u bx a t g l9 true false l12 l14 w) : VI w0 H v R0 vs0 r u bx a t (w.heap.size, g.2) l9 true true l12 l14 (w.alloc (.cells #[.int .i64 a, .int .i64 t] 79)) := by
 have h12 : l12 = false := by
  rcases l12 with _ | _
  ·rfl
  ·exact absurd (h.o12 rfl).1 (by simp)
 subst h12;have h14 : l14 = false := by
  rcases l14 with _ | _
  ·rfl
  ·exact absurd (h.o14 rfl) (by simp)
 subst h14;obtain ⟨p1, p2, p3⟩ := h.pre rfl;have b1 := zaa w (.cells #[.int .i64 a, .int .i64 t] 79);refine ⟨h.bel.alloc h.bel.size _, fun _ => ⟨p1.alloc _, (b1.cell (cell_lt p2)).trans p2, (b1.cell (cell_lt p3)).trans p3⟩, fun _ _ => ⟨?_, ?_⟩, fun h => by simp at h, fun h => by simp at h, fun h => by simp at h, fun _ => rfl, fun h => by simp at h⟩
 ·rw [World.cell?_alloc_new]; rfl
 ·rw [World.cell?_alloc_new]; rfl
theorem VI.no12 (h : VI w0 H v R0 vs0 r u bx a t g false l10 l11 l12 l14 w) : l12 = false := by
 rcases l12 with _ | _
 ·rfl
 ·exact absurd (h.o12 rfl).2 (by simp)
theorem VI.ykb (h : VI w0 H v R0 vs0 r u bx a t g l9 false l11 l12 l14 w) : l12 = false := by
 rcases l12 with _ | _
 ·rfl
 ·exact absurd (h.o11 (h.o12 rfl).1) (by simp)
theorem VI.no14 (h : VI w0 H v R0 vs0 r u bx a t g l9 l10 l11 false l14 w) : l14 = false := by
 rcases l14 with _ | _
 ·rfl
 ·exact absurd (h.o14 rfl) (by simp)
end
theorem zxr {l : List Ent} {k : Nat} {x : Ent} (hx : l[k]? = some x) (h : k = 0 ∨ ∃ y, l[k - 1]? = some y ∧ y.1 + 1 ≠ x.1) : runs (l.take (k + 1)) = runs (l.take k) ++ [[x]] := by
 rw [zty hx];rcases h with rfl | ⟨y, hy, hne⟩
 ·rfl
 ·by_cases hk : k = 0
  ·subst hk; rfl
  ·have hl1 : l.take k = l.take (k - 1) ++ [y] := by
    obtain ⟨hk1, ex⟩ := List.getElem?_eq_some_iff.1 hy;have := List.take_succ_eq_append_getElem hk1;rw [show k - 1 + 1 = k by omega, ex] at this;exact this
   obtain ⟨rs, rr, e1, e2⟩ := zhw (l.take (k - 1)) y;rw [hl1, e1];unfold zln;simp only [List.getLast?_append, List.getLast?_singleton, Option.some_or, e2, Option.getD_some];rw [if_neg hne]
theorem ygs {l : List Ent} {k : Nat} {x y : Ent} {R0 : List (List Ent)} {r : List Ent} (hx : l[k + 1]? = some x) (hy : l[k]? = some y) (he : y.1 + 1 = x.1) (hR : runs (l.take (k + 1)) = R0 ++ [r]) : runs (l.take (k + 1 + 1)) = R0 ++ [r ++ [x]] := by
 rw [zty hx, hR];have hl1 : l.take (k + 1) = l.take k ++ [y] := by
  obtain ⟨hk1, ex⟩ := List.getElem?_eq_some_iff.1 hy;rw [List.take_succ_eq_append_getElem hk1, ex]
 obtain ⟨rs, rr, e1, e2⟩ := zhw (l.take k) y;rw [hl1] at hR;rw [hR] at e1;have hl := congrArg List.getLast? e1;simp at hl;subst hl;unfold zln;simp only [List.getLast?_append, List.getLast?_singleton, Option.some_or, e2, Option.getD_some];rw [if_pos he];simp
end Go.Proofs.YtkejlnjnoiidnaaGreatDoor
end

section
namespace Go.Proofs.YtkejlnjnoiidnaaGreatDoor
open Go.RowKit As
def zyj (w : World) (B : Nat) (v : Value) (l : List Ent) (k : Nat) : Prop :=
 (k = 0 ∧ v = .slice none 0 0) ∨ (0 < k ∧ ∃ H R0 vs0 r u, runs (l.take k) = R0 ++ [r] ∧ Runs w B H v R0 vs0 r u)
structure RRd (w : World) (R : List (List Ent)) (A : Option Addr) (vs : List Value) : Prop where
 sl : Sl w w.heap.size 1 A R.length vs
 each : ∀ (i : Nat) r, R[i]? = some r → ∃ Ai ci, vs[i]? = some (.slice Ai r.length ci) ∧ Ents w w.heap.size Ai r.length r
theorem RRd.below {w w' : World} {R : List (List Ent)} {A : Option Addr} {vs : List Value} (h : RRd w R A vs) (hb : Below w.heap.size w w') : RRd w' R A vs :=
 ⟨h.sl.grow hb, fun i r hr => by obtain ⟨Ai, ci, h1, h2⟩ := h.each i r hr; exact ⟨Ai, ci, h1, h2.grow hb⟩⟩
theorem zyj.read {w : World} {B : Nat} {v : Value} {l : List Ent} (h : zyj w B v l l.length) (hf : ∀ x ∈ l, zbe x) : ∃ A c vs, v = .slice A (runs l).length c ∧ RRd w (runs l) A vs := by
 rcases h with ⟨h0, rfl⟩ | ⟨_, H, R0, vs0, r, u, hR, hRun⟩
 ·have : l = [] := List.length_eq_zero_iff.1 h0;subst this;exact ⟨none, 0, [], rfl, Sl.nil, fun i r hr => by simp [runs] at hr⟩
 ·rw [List.take_length] at hR;have hlen : (runs l).length = R0.length + 1 := by rw [hR]; simp
  have ho := hRun.own;obtain ⟨A, c, rfl⟩ := zah ho;refine ⟨A, c, vs0 ++ [u], by rw [hlen], by rw [hlen]; exact Sl.zbf ho, fun i x hx => ?_⟩;have hfit : ∀ y ∈ x, zbe y := fun y hy => hf y (ziy (List.mem_of_getElem? hx) hy)
  rw [hR, List.getElem?_append] at hx;rw [List.getElem?_append, hRun.len];by_cases hi : i < R0.length
  ·rw [if_pos hi] at hx ⊢;have hi' : i < vs0.length := by rw [hRun.len]; exact hi
   have hy : vs0[i]? = some vs0[i] := List.getElem?_eq_getElem hi';have h1 := (hRun.init i x _ hx hy).1;obtain ⟨Ai, ci, he⟩ := zah h1;rw [he] at h1;exact ⟨Ai, ci, by rw [hy, he], Sl.zbf h1, hfit⟩
  ·rw [if_neg hi] at hx ⊢;have e : i - R0.length = 0 := by
    rcases Nat.eq_zero_or_pos (i - R0.length) with h0 | h0
    ·exact h0
    ·rw [List.getElem?_eq_none (by simp; omega)] at hx; cases hx
   rw [e] at hx ⊢;simp at hx;subst hx;have h1 := hRun.last;obtain ⟨Ai, ci, he⟩ := zah h1;rw [he] at h1;exact ⟨Ai, ci, by rw [he]; rfl, Sl.zbf h1, hfit⟩
theorem RRd.at_ {w wx : World} {l : List Ent} {A : Option Addr} {vs : List Value} {i : Nat} (h : RRd w (runs l) A vs) (hris : zgs 0 l) (h16 : l.length ≤ 16) (hi : i < (runs l).length) (hb : Below w.heap.size w wx) :
  ∃ (ob oo bi oi ci : Nat) (r : List Ent) (h0 : Int), A = some ⟨ob, oo, none⟩ ∧ (runs l)[i]? = some r ∧ wx.cell? ⟨ob, oo + i, none⟩ = some (.slice (some ⟨bi, oi, none⟩) r.length ci) ∧ 1 ≤ r.length ∧ r.length ≤ 16 ∧ zgm r = h0 ∧ 0 ≤ h0 ∧ h0 ≤ 200 ∧ wx.cell? ⟨bi, oi, none⟩ = some (.int .i64 h0) ∧
   (∀ j, j < r.length → ∃ (y : Int) (T : Nat), r[j]? = some (y, (T : Int)) ∧ T ≤ 1099511627776 ∧ bi < w.heap.size ∧ w.cell? ⟨bi, oi + j * 2, none⟩ = some (.int .i64 y) ∧ w.cell? ⟨bi, oi + j * 2 + 1, none⟩ = some (.int .i64 (T : Int))) ∧ (bi < w.heap.size ∧ w.cell? ⟨bi, oi + (r.length - 1) * 2, none⟩ = some (.int .i64 (zqa r))) := by
 have hr : (runs l)[i]? = some (runs l)[i] := List.getElem?_eq_getElem hi;generalize (runs l)[i] = r at hr;have hmem : r ∈ runs l := List.mem_of_getElem? hr;have hne := zwg l r hmem;have hlen : 0 < r.length := List.length_pos_iff.2 hne;have hle : r.length ≤ 16 := by
  have h2 := (List.sublist_flatten_of_mem hmem).length_le;rw [zhp] at h2;omega
 obtain ⟨Ai, ci, hv, he⟩ := h.each i r hr;obtain ⟨ob, oo, rfl, hob, hcell⟩ := h.sl.2 (by omega);obtain ⟨bi, oi, ra, ta, rfl, hbi, hx0, _, d0, _⟩ := he.at_ (k := 0) hlen;have b0 := hris.1 _ (ziy hmem (List.mem_of_getElem? hx0));simp only at b0;refine ⟨ob, oo, bi, oi, ci, r, ra, rfl, hr, (hb.cell (p := ⟨ob, oo + i, none⟩) hob).trans (hcell i _ hv), hlen, hle, ?_, b0.1, b0.2.1, (hb.cell (p := ⟨bi, oi, none⟩) hbi).trans (by simpa using d0), fun j hj => ?_, hbi, ?_⟩
 ·unfold zgm; rw [List.head?_eq_getElem?, hx0]; rfl
 ·obtain ⟨b', o', y, t, e', _, hx, _, c0, c1⟩ := he.at_ hj;injection e' with e'
  injection e' with e1 e2 _
  subst e1 e2;have b1 := hris.1 _ (ziy hmem (List.mem_of_getElem? hx));simp only at b1;obtain ⟨T, rfl⟩ := Int.eq_ofNat_of_zero_le (show 0 ≤ t by omega);exact ⟨y, T, hx, by omega, hbi, c0, c1⟩
 ·obtain ⟨b', o', y, t, e', _, hx, _, c0, _⟩ := he.at_ (k := r.length - 1) (by omega);injection e' with e'
  injection e' with e1 e2 _
  subst e1 e2;have : zqa r = y := by unfold zqa; rw [List.getLast?_eq_getElem?, hx]; rfl
  rw [this]; exact c0
theorem zzg {h E : Int} (h0 : 0 ≤ h) (h1 : h ≤ 200) (h2 : -1 ≤ E) (h3 : E ≤ 200) : wrap64 (h - E) = h - E ∧ IntKind.i64.wrap (h - E) = h - E ∧ wrap64 (h - E - 2) = h - E - 2 ∧ IntKind.i64.wrap (h - E - 2) = h - E - 2 :=
 ⟨IntWalk.wrap64_in _ (by omega), IntWalk.i64_in _ (by omega), IntWalk.wrap64_in _ (by omega), IntWalk.i64_in _ (by omega)⟩
theorem yfk {l : List Ent} {i : Nat} {X : List UInt8} {E : Int} (h : RAt (runs l) i X E) (h16 : l.length ≤ 16) : X.length ≤ 640 := by
 have h1 := h.len;have h2 : ((runs l).take i).flatten.length ≤ l.length := by
  have h3 := congrArg List.flatten (List.take_append_drop i (runs l));rw [List.flatten_append, zhp] at h3;have := congrArg List.length h3;rw [List.length_append] at this;omega
 omega
theorem zoe {G M N : Nat} {S1 S2 : ByteArray} {X : List UInt8} (hG : G ≤ 200) (hM : M ≤ 16) (hN : N ≤ 16) (h1 : S1 = strOf (vput G)) (h2 : S2 = strOf (vput M)) (hX : X.length ≤ 640) :
  ¬ 9223372036854775807 < S1.size + S2.size ∧ ¬ 9223372036854775807 < (strOf (vput N ++ X)).size + (S1 ++ S2).size ∧ strOf (vput N ++ X) ++ (S1 ++ S2) = strOf (vput N ++ (X ++ (vput G ++ vput M))) ∧ (vput N ++ (X ++ (vput G ++ vput M))).length ≤ 670 := by
 have e1 := zae (n := G) (by omega);have e2 := zae (n := M) (by omega);have e3 := zae (n := N) (by omega);subst h1 h2;refine ⟨zjc (by rw [zas]; omega) (by rw [zas]; omega), zjc (by rw [zas, List.length_append]; omega) (by rw [zbl, zas, List.length_append]; omega), by rw [zbl, zbl, List.append_assoc], by simp only [List.length_append]; omega⟩
theorem zno {r : List Ent} {j T : Nat} {y : Int} {X1 : List UInt8} (hr : ∀ x ∈ r, 1 ≤ x.2 ∧ x.2 ≤ 1099511627776) (hX : X1.length ≤ 670) (hj : j ≤ 16) (hT : T ≤ 1099511627776) (hx : r[j]? = some (y, (T : Int))) :
  ¬ 9223372036854775807 < (strOf (X1 ++ times (r.take j))).size + (strOf (vput T)).size ∧ strOf (X1 ++ times (r.take j)) ++ strOf (vput T) = strOf (X1 ++ times (r.take (j + 1))) := by
 have e1 := zae (n := T) (by omega);have e2 := zjl (r := r.take j) (fun x hx => hr x (List.mem_of_mem_take hx));have e3 : (r.take j).length ≤ j := by rw [List.length_take]; omega
 refine ⟨zjc (by rw [zas, List.length_append]; omega) (by rw [zas]; omega), ?_⟩;rw [zoj hx, zbl, Int.toNat_natCast, List.append_assoc]
theorem zod {r : List Ent} {G M N : Nat} {X X1 : List UInt8} (h : X1 = vput N ++ (X ++ (vput G ++ vput M))) : X1 ++ times (r.take r.length) = vput N ++ (X ++ (vput G ++ vput M ++ times r)) := by
 rw [List.take_length, h];simp only [List.append_assoc]
theorem ydd {l : List Ent} {i : Nat} {r : List Ent} (hris : zgs 0 l) (hr : (runs l)[i]? = some r) : ∀ x ∈ r, 1 ≤ x.2 ∧ x.2 ≤ 1099511627776 := fun x hx => by
 have := hris.1 x (ziy (List.mem_of_getElem? hr) hx)
 exact ⟨this.2.2.1, this.2.2.2⟩
theorem ykx {E : Int} (h : E < 0) : decide (E < 0) = true := by simpa using h
theorem yil {E : Int} (h : ¬ E < 0) : decide (E < 0) = false := by simpa using h
end Go.Proofs.YtkejlnjnoiidnaaGreatDoor
end
