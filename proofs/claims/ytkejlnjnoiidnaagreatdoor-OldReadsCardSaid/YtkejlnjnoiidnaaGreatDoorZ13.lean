/- The results of the reference's Unbody, and what it lays over them where something is wrong.

What stands while Unbody of the reference reads.

List of the reference says what klist says.

Fill of the reference says what wfill says. -/
import Derived.Test.YtkejlnjnoiidnaaGreatDoorZ10
import Derived.Test.YtkejlnjnoiidnaaGreatDoorZ2
import Derived.Test.YtkejlnjnoiidnaaGreatDoorZ11
import Derived.Laws.OwnMore
import Derived.Deep.QuietTactic
import Derived.BigQuiet
import Derived.Test.YtkejlnjnoiidnaaGreatDoorZ6
import Derived.Deep.RegionWith
section
namespace Go.Proofs.YtkejlnjnoiidnaaGreatDoor
set_option linter.unusedSimpArgs false
set_option linter.unusedVariables false
open Go.RowKit As
/-- A batch's three slices and a fault. -/
structure RB (w : World) (O F : Nat) (v0 v1 v2 : Value) (x y : Int) : Prop where
 c0 : w.cell? ⟨O, 0, none⟩ = some v0
 c1 : w.cell? ⟨O, 1, none⟩ = some v1
 c2 : w.cell? ⟨O, 2, none⟩ = some v2
 x : w.cell? ⟨F, 0, none⟩ = some (.int .i64 x)
 y : w.cell? ⟨F, 1, none⟩ = some (.int .i64 y)
 f0 : w.frozen? ⟨O, 0, none⟩ = false
 f1 : w.frozen? ⟨O, 1, none⟩ = false
 f2 : w.frozen? ⟨O, 2, none⟩ = false
 fx : w.frozen? ⟨F, 0, none⟩ = false
 fy : w.frozen? ⟨F, 1, none⟩ = false
section
variable {w w' : World} {O F B : Nat} {v0 v1 v2 : Value} {x y : Int}
theorem RB.keep (h : RB w O F v0 v1 v2 x y) (hb : Below B w w') (h1 : O < B) (h2 : F < B) : RB w' O F v0 v1 v2 x y :=
  ⟨(hb.cell (p := ⟨O, 0, none⟩) h1).trans h.c0, (hb.cell (p := ⟨O, 1, none⟩) h1).trans h.c1, (hb.cell (p := ⟨O, 2, none⟩) h1).trans h.c2, (hb.cell (p := ⟨F, 0, none⟩) h2).trans h.x, (hb.cell (p := ⟨F, 1, none⟩) h2).trans h.y,
   (hb.frozen (p := ⟨O, 0, none⟩) h1).trans h.f0, (hb.frozen (p := ⟨O, 1, none⟩) h1).trans h.f1, (hb.frozen (p := ⟨O, 2, none⟩) h1).trans h.f2, (hb.frozen (p := ⟨F, 0, none⟩) h2).trans h.fx, (hb.frozen (p := ⟨F, 1, none⟩) h2).trans h.fy⟩
theorem RB.below (h : RB w O F v0 v1 v2 x y) (hb : Below w.heap.size w w') : RB w' O F v0 v1 v2 x y := h.keep hb (cell_lt h.c0) (cell_lt h.x)
theorem RB.drew (h : RB w O F v0 v1 v2 x y) : RB w.drew O F v0 v1 v2 x y := ⟨h.c0, h.c1, h.c2, h.x, h.y, h.f0, h.f1, h.f2, h.fx, h.fy⟩
theorem RB.set0 (h : RB w O F v0 v1 v2 x y) (hn : O ≠ F) (v : Value) : RB (w.setCell ⟨O, 0, none⟩ v) O F v v1 v2 x y :=
 ⟨World.cell?_setCell_same _ _ _ h.c0, res_ne h.c1 (by omega), res_ne h.c2 (by omega), res_nb h.x hn, res_nb h.y hn, by simpa using h.f0, by simpa using h.f1, by simpa using h.f2, by simpa using h.fx, by simpa using h.fy⟩
theorem RB.set1 (h : RB w O F v0 v1 v2 x y) (hn : O ≠ F) (v : Value) : RB (w.setCell ⟨O, 1, none⟩ v) O F v0 v v2 x y :=
 ⟨res_ne h.c0 (by omega), World.cell?_setCell_same _ _ _ h.c1, res_ne h.c2 (by omega), res_nb h.x hn, res_nb h.y hn, by simpa using h.f0, by simpa using h.f1, by simpa using h.f2, by simpa using h.fx, by simpa using h.fy⟩
theorem RB.set2 (h : RB w O F v0 v1 v2 x y) (hn : O ≠ F) (v : Value) : RB (w.setCell ⟨O, 2, none⟩ v) O F v0 v1 v x y :=
 ⟨res_ne h.c0 (by omega), res_ne h.c1 (by omega), World.cell?_setCell_same _ _ _ h.c2, res_nb h.x hn, res_nb h.y hn, by simpa using h.f0, by simpa using h.f1, by simpa using h.f2, by simpa using h.fx, by simpa using h.fy⟩
theorem RB.setF (h : RB w O F v0 v1 v2 x y) (hn : O ≠ F) (x' y' : Int) : RB ((w.setCell ⟨F, 0, none⟩ (.int .i64 x')).setCell ⟨F, 1, none⟩ (.int .i64 y')) O F v0 v1 v2 x' y' :=
 have q : F ≠ O := Ne.symm hn
 ⟨res_nb (res_nb h.c0 q) q, res_nb (res_nb h.c1 q) q, res_nb (res_nb h.c2 q) q, res_ne (World.cell?_setCell_same _ _ _ h.x) (by omega), World.cell?_setCell_same _ _ _ (res_ne h.y (by omega)), by simpa using h.f0, by simpa using h.f1, by simpa using h.f2, by simpa using h.fx, by simpa using h.fy⟩
theorem RB.other (h : RB w O F v0 v1 v2 x y) {C i : Nat} (h1 : C ≠ O) (h2 : C ≠ F) (v : Value) : RB (w.setCell ⟨C, i, none⟩ v) O F v0 v1 v2 x y :=
 ⟨res_nb h.c0 h1, res_nb h.c1 h1, res_nb h.c2 h1, res_nb h.x h2, res_nb h.y h2, by simpa using h.f0, by simpa using h.f1, by simpa using h.f2, by simpa using h.fx, by simpa using h.fy⟩
end
theorem RB.new (w : World) (t1 t2 : TypeId) : RB ((w.alloc (.cells #[nilS, nilS, nilS] t1)).alloc (.cells #[.int .i64 0, .int .i64 0] t2)) w.heap.size (w.heap.size + 1) nilS nilS nilS 0 0 := by
 generalize hW : w.alloc (.cells #[nilS, nilS, nilS] t1) = w1
 have b2 := below1 w1 (.cells #[.int .i64 0, .int .i64 0] t2)
 have l1 : w1.heap.size = w.heap.size + 1 := by rw [← hW]; simp
 have o : ∀ i, i < 3 → w1.cell? ⟨w.heap.size, i, none⟩ = some nilS := by
  intro i hi
  rw [← hW, World.cell?_alloc_new]
  have : i = 0 ∨ i = 1 ∨ i = 2 := by omega
  rcases this with rfl | rfl | rfl <;> rfl
 have g : ∀ i, (w1.alloc (.cells #[.int .i64 0, .int .i64 0] t2)).frozen? ⟨w.heap.size, i, none⟩ = false := by
  intro i
  rw [b2.frozen (p := ⟨w.heap.size, i, none⟩) (by simp; omega), ← hW]; simp
 have T := Two.new w1 0 0 t2
 rw [l1] at T
 exact ⟨(b2.cell (cell_lt (o 0 (by omega)))).trans (o 0 (by omega)), (b2.cell (cell_lt (o 1 (by omega)))).trans (o 1 (by omega)), (b2.cell (cell_lt (o 2 (by omega)))).trans (o 2 (by omega)), T.c0, T.c1, g 0, g 1, g 2, T.f0, T.f1⟩
set_option maxHeartbeats 1000000 in
set_option maxRecDepth 100000 in
theorem rbd_good (F O : Nat) (y : Int) (w : World) (h0 : w.cell? ⟨F, 0, none⟩ = some (.int .i64 0)) (h1 : w.cell? ⟨F, 1, none⟩ = some (.int .i64 y)) :
  CallsD Tryz.prog 97 #[.pointer (some ⟨F, 0, none⟩), .pointer (some ⟨O, 0, none⟩)] .returning w fun e u' w' => u' = .returning ∧ (e = .returned (.tuple #[]) ∧ Below w.heap.size w w') := by
 go_enter_d Tryz.func97, Tryz.ntmps97
 go_wp2_with fail
 refine (is_any (0, y) _).mono ?_
 rintro r w2 ⟨rfl, hb2⟩
 have e1 : (((0, y) : Int × Int).1 == 0) = true := rfl
 rw [e1]
 go_wp2
 go_end0
 exact ⟨rfl, hb2⟩
set_option maxHeartbeats 1000000 in
set_option maxRecDepth 100000 in
theorem rbd_bad (F O : Nat) (v0 v1 v2 : Value) (x y : Int) (w : World) (h : RB w O F v0 v1 v2 x y) (hx : x ≠ 0) (h2 : O ≠ F) :
  CallsD Tryz.prog 97 #[.pointer (some ⟨F, 0, none⟩), .pointer (some ⟨O, 0, none⟩)] .returning w fun e u' w' => u' = .returning ∧ (e = .returned (.tuple #[]) ∧ RB w' O F nilS nilS nilS x y ∧ ∀ B, B ≤ O → Below B w w') := by
 have HR := h
 obtain ⟨r0, r1, r2, r3, r4, _, _, _, _, _⟩ := h
 have e1 : (((x, y) : Int × Int).1 == 0) = false := by simpa using hx
 go_enter_d Tryz.func97, Tryz.ntmps97
 go_wp2_with fail
 refine (is_any (x, y) _).mono ?_
 rintro r w2 ⟨rfl, hb2⟩
 rw [e1]
 have H1 := (HR.below hb2).set0 h2 nilS
 have H2 := H1.set1 h2 nilS
 have H3 := H2.set2 h2 nilS
 have lO : O < w.heap.size := cell_lt HR.c0
 have p1 := H1.c1
 have p2 := H2.c2
 obtain ⟨k0, k1, k2, k3, k4, k5, k6, k7, k8, k9⟩ := HR.below hb2
 clear r0 r1 r2 r3 r4
 go_wp2
 go_end0
 exact ⟨rfl, H3, fun B q1 => (((hb2.mono (by omega)).setCell (p := ⟨O, 0, none⟩) q1 _).setCell (p := ⟨O, 1, none⟩) q1 _).setCell (p := ⟨O, 2, none⟩) q1 _⟩
/-- A batch's rows lie from B on. -/
def Above (B : Nat) (x : BatArg) : Prop := (∀ a, x.A = some a → B ≤ a.block) ∧ (∀ a, x.A' = some a → B ≤ a.block) ∧ (∀ a, x.A'' = some a → B ≤ a.block)
theorem own_above {w : World} {base B0 : Nat} {e : TypeId} {size n m c : Nat} {A : Option Addr} {xs : List Value} (h : w.ownsRow base e size (.slice A n c) m xs) (hB : B0 ≤ base) : ∀ a, A = some a → B0 ≤ a.block := by
 intro a ha
 subst ha
 rcases h.2 with ⟨hv, _⟩ | ⟨g, cap, cur, hv, hg, _⟩
 ·cases hv
 ·injection hv with h1
  injection h1 with h1
  subst h1
  exact Nat.le_trans hB hg
/-- Where Unbody ends. -/
def RbEnd (s : ByteArray) (w : World) (e : Ending) (w' : World) : Prop :=
 ∃ x : BatArg, e = .returned (.tuple #[x.v, faultV (bread s).2]) ∧ Bat w' x ∧ (x.f, x.h, x.l) = (bread s).1 ∧ (x.n ≤ x.c ∧ x.n' ≤ x.c' ∧ Above w.heap.size x) ∧ Below w.heap.size w w'
theorem noCap (B : Nat) : noBat.n ≤ noBat.c ∧ noBat.n' ≤ noBat.c' ∧ Above B noBat := ⟨Nat.le_refl _, Nat.le_refl _, fun _ h => (by cases h), fun _ h => (by cases h), fun _ h => (by cases h)⟩
theorem rdoor_bad {s : ByteArray} {w W : World} {O F : Nat} {v0 v1 v2 : Value} {e q : Int} {tmps : Array Value} (hv : bread s = (noB, e, q)) (he : e ≠ 0) (R : RB W O F v0 v1 v2 0 (-1)) (hn : O ≠ F) (lO : w.heap.size ≤ O) (lF : w.heap.size ≤ F) (b : Below w.heap.size w W)
  (t2 : tmps[2]? = some (.pointer (some ⟨O, 0, none⟩))) (t3 : tmps[3]? = some (.pointer (some ⟨F, 0, none⟩))) :
  Leaves Tryz.prog Tryz.f49 tmps (RbEnd s w) [{ target := .fn (.func 51) #[], args := #[.pointer (some ⟨F, 0, none⟩)] }, { target := .fn (.func 97) #[.pointer (some ⟨F, 0, none⟩), .pointer (some ⟨O, 0, none⟩)], args := #[] }] (.panicking (Thrown e q)) W := by
 have HR := R
 refine leaves_cons (f := 51) (args := #[.pointer (some ⟨F, 0, none⟩)]) (by simp) (by simp [go_sem]) ?_
 refine (caught_hit F 0 (-1) e q [] _ R.x R.y R.fx R.fy).mono ?_
 rintro e' u' w' ⟨rfl, rfl, rfl⟩
 show Leaves _ _ _ _ _ .returning _
 have hZ := (HR.below (below1 W (.cells #[.int .i64 e, .int .i64 q] 138))).setF hn e q
 have bZ := ((b.alloc b.size (.cells #[.int .i64 e, .int .i64 q] 138)).setCell (p := ⟨F, 0, none⟩) lF (.int .i64 e)).setCell (p := ⟨F, 1, none⟩) lF (.int .i64 q)
 refine leaves_cons (f := 97) (args := #[.pointer (some ⟨F, 0, none⟩), .pointer (some ⟨O, 0, none⟩)]) (by simp) (by simp [go_sem]) ?_
 refine (rbd_bad F O _ _ _ _ _ _ hZ he hn).mono ?_
 rintro e' u' w' ⟨rfl, rfl, hZ', hb⟩
 have bF := bZ.trans (hb w.heap.size lO)
 obtain ⟨z0, z1, z2, z3, z4, _, _, _, _, _⟩ := hZ'
 show Leaves _ _ _ _ [] .returning _
 exact ⟨.tuple #[noBat.v, .agg #[.int .i64 e, .int .i64 q]], by simp [results, Tryz.results49, go_sem, t2, t3, z0, z1, z2, z3, z4, BatArg.v], noBat, by rw [hv]; rfl, noBat_is _, by rw [hv], noCap _, bF⟩
end Go.Proofs.YtkejlnjnoiidnaaGreatDoor
end

section
namespace Go.Proofs.YtkejlnjnoiidnaaGreatDoor
set_option linter.unusedSimpArgs false
set_option linter.unusedVariables false
open Go.RowKit As
structure RL (w0 : World) (O E R B : Nat) (s : ByteArray) (p : Nat) (v0 v1 v2 tv av : Value) (f h : List Ent) (ws : List Wr) (T : List ByteArray) (a : List Int) (w : World) : Prop where
 sc : Sc w R s p
 bt : RB w O E v0 v1 v2 0 (-1)
 f : w.ownsRow B 79 2 v0 f.length (entV f)
 h : w.ownsRow B 79 2 v1 h.length (entV h)
 t : w.ownsRow B 9 1 tv T.length (T.map Value.string)
 ws : w.ownsRow B 53 6 v2 ws.length (wrsV ws)
 a : w.ownsRow B 3 1 av a.length (intsV a)
 bel : Below w0.heap.size w0 w
 sz : B ≤ w.heap.size
section
variable {w0 w w' : World} {O E R B p : Nat} {s : ByteArray} {v0 v1 v2 tv av v : Value} {f h : List Ent} {ws : List Wr} {T : List ByteArray} {a : List Int}
theorem RL.below (H : RL w0 O E R B s p v0 v1 v2 tv av f h ws T a w) (hb : Below w.heap.size w w') : RL w0 O E R B s p v0 v1 v2 tv av f h ws T a w' :=
 ⟨H.sc.below hb, H.bt.below hb, own_below H.f hb, own_below H.h hb, own_below H.t hb, own_below H.ws hb, own_below H.a hb, H.bel.trans (hb.mono H.bel.size), Nat.le_trans H.sz hb.size⟩
theorem RL.setR (H : RL w0 O E R B s p v0 v1 v2 tv av f h ws T a w) (S : BS w0 O E R B) (n : Nat) : RL w0 O E R B s n v0 v1 v2 tv av f h ws T a (w.setCell ⟨R, 1, none⟩ (.int .i64 (n : Int))) :=
 ⟨H.sc.step n, H.bt.other S.ro S.re _, own_set _ H.f S.r, own_set _ H.h S.r, own_set _ H.t S.r, own_set _ H.ws S.r, own_set _ H.a S.r, H.bel.setCell (p := ⟨R, 1, none⟩) S.lr _, by simpa using H.sz⟩
theorem RL.step (H : RL w0 O E R B s p v0 v1 v2 tv av f h ws T a w) (S : BS w0 O E R B) (q n : Nat) : RL w0 O E R B s n v0 v1 v2 tv av f h ws T a ((w.drewN q).setCell ⟨R, 1, none⟩ (.int .i64 (n : Int))) :=
 (H.below (below_drewN (Below.refl _ _) q)).setR S n
theorem RL.growT (H : RL w0 O E R B s p v0 v1 v2 tv av f h ws T a w) (S : BS w0 O E R B) (hg : w.grownBy w' tv.ownBlock) {T' : List ByteArray} (ht : w'.ownsRow B 9 1 v T'.length (T'.map Value.string)) : RL w0 O E R B s p v0 v1 v2 v av f h ws T' a w' :=
 have bb := grown_own (Below.refl B w) hg H.sz H.t
 ⟨H.sc.keep bb S.r, H.bt.keep bb S.o S.e, H.f.kept hg (own_ne H.f H.t (by decide)), H.h.kept hg (own_ne H.h H.t (by decide)), ht, H.ws.kept hg (own_ne H.ws H.t (by decide)), H.a.kept hg (own_ne H.a H.t (by decide)), H.bel.trans (bb.mono S.lb), Nat.le_trans H.sz bb.size⟩
theorem RL.growA (H : RL w0 O E R B s p v0 v1 v2 tv av f h ws T a w) (S : BS w0 O E R B) (hg : w.grownBy w' av.ownBlock) {a' : List Int} (ht : w'.ownsRow B 3 1 v a'.length (intsV a')) : RL w0 O E R B s p v0 v1 v2 tv v f h ws T a' w' :=
 have bb := grown_own (Below.refl B w) hg H.sz H.a
 ⟨H.sc.keep bb S.r, H.bt.keep bb S.o S.e, H.f.kept hg (own_ne H.f H.a (by decide)), H.h.kept hg (own_ne H.h H.a (by decide)), H.t.kept hg (own_ne H.t H.a (by decide)), H.ws.kept hg (own_ne H.ws H.a (by decide)), ht, H.bel.trans (bb.mono S.lb), Nat.le_trans H.sz bb.size⟩
theorem RL.growW (H : RL w0 O E R B s p v0 v1 v2 tv av f h ws T a w) (S : BS w0 O E R B) (hg : w.grownBy w' v2.ownBlock) {ws' : List Wr} (ht : w'.ownsRow B 53 6 v ws'.length (wrsV ws')) : RL w0 O E R B s p v0 v1 v tv av f h ws' T a (w'.setCell ⟨O, 2, none⟩ v) :=
 have bb := grown_own (Below.refl B w) hg H.sz H.ws
 ⟨by have k := H.sc.keep bb S.r; exact ⟨res_nb k.c0 (Ne.symm S.ro), res_nb k.c1 (Ne.symm S.ro), by simpa using k.f1⟩, (H.bt.keep bb S.o S.e).set2 S.oe _, own_set _ (H.f.kept hg (own_ne H.f H.ws (by decide))) S.o, own_set _ (H.h.kept hg (own_ne H.h H.ws (by decide))) S.o, own_set _ (H.t.kept hg (own_ne H.t H.ws (by decide))) S.o, own_set _ ht S.o, own_set _ (H.a.kept hg (own_ne H.a H.ws (by decide))) S.o, (H.bel.trans (bb.mono S.lb)).setCell (p := ⟨O, 2, none⟩) S.lo _, by simpa using Nat.le_trans H.sz bb.size⟩
theorem RL.vecs {f' h' : List Ent} {u0 u1 : Value} (H : RL w0 O E R B s p u0 u1 v2 tv av f' h' ws T a w) (S : BS w0 O E R B) (hf : w.ownsRow B 79 2 v0 f.length (entV f)) (hh : w.ownsRow B 79 2 v1 h.length (entV h)) : RL w0 O E R B s p v0 v1 v2 tv av f h ws T a ((w.setCell ⟨O, 0, none⟩ v0).setCell ⟨O, 1, none⟩ v1) :=
 ⟨⟨res_nb (res_nb H.sc.c0 (Ne.symm S.ro)) (Ne.symm S.ro), res_nb (res_nb H.sc.c1 (Ne.symm S.ro)) (Ne.symm S.ro), by simpa using H.sc.f1⟩, (H.bt.set0 S.oe _).set1 S.oe _, own_set _ (own_set _ hf S.o) S.o, own_set _ (own_set _ hh S.o) S.o, own_set _ (own_set _ H.t S.o) S.o, own_set _ (own_set _ H.ws S.o) S.o, own_set _ (own_set _ H.a S.o) S.o, (H.bel.setCell (p := ⟨O, 0, none⟩) S.lo _).setCell (p := ⟨O, 1, none⟩) S.lo _, by simpa using H.sz⟩
end
/-- Its write, in block g. -/
structure RLG (w0 : World) (O E R B g : Nat) (x : Wr) (s : ByteArray) (p : Nat) (v0 v1 v2 tv av : Value) (f h : List Ent) (ws : List Wr) (T : List ByteArray) (a : List Int) (w : World) : Prop where
 b : RL w0 O E R B s p v0 v1 v2 tv av f h ws T a w
 k : w.ownsRow B 53 6 (.slice (some ⟨g, 0, none⟩) 1 1) 1 (wrCells x)
 off : v2.ownBlock = none ∨ v2.ownBlock ≠ some g
section
variable {w0 w w' : World} {O E R B g p : Nat} {x : Wr} {s : ByteArray} {v0 v1 v2 tv av v : Value} {f h : List Ent} {ws : List Wr} {T : List ByteArray} {a : List Int}
theorem RLG.ge (H : RLG w0 O E R B g x s p v0 v1 v2 tv av f h ws T a w) : B ≤ g := (H.k.lt g rfl).1
theorem RLG.lt (H : RLG w0 O E R B g x s p v0 v1 v2 tv av f h ws T a w) : g < w.heap.size := (H.k.lt g rfl).2
theorem RL.newG (H : RL w0 O E R B s p v0 v1 v2 tv av f h ws T a w) (x : Wr) : RLG w0 O E R B w.heap.size x s p v0 v1 v2 tv av f h ws T a (w.alloc (wrO x.1 x.2.1 x.2.2.1 x.2.2.2.1 x.2.2.2.2.1 x.2.2.2.2.2)) :=
 ⟨H.below (below1 w _), World.ownsRow_lit w _ 1 H.sz (by unfold maxLen; omega) rfl, by
  rcases hv : v2.ownBlock with _ | k
  ·exact .inl rfl
  ·have := (H.ws.lt k hv).2
   exact .inr (by simp; omega)⟩
theorem RLG.below (H : RLG w0 O E R B g x s p v0 v1 v2 tv av f h ws T a w) (hb : Below w.heap.size w w') : RLG w0 O E R B g x s p v0 v1 v2 tv av f h ws T a w' := ⟨H.b.below hb, own_below H.k hb, H.off⟩
theorem RLG.setR (H : RLG w0 O E R B g x s p v0 v1 v2 tv av f h ws T a w) (S : BS w0 O E R B) (n : Nat) : RLG w0 O E R B g x s n v0 v1 v2 tv av f h ws T a (w.setCell ⟨R, 1, none⟩ (.int .i64 (n : Int))) := ⟨H.b.setR S n, own_set _ H.k S.r, H.off⟩
theorem RLG.step (H : RLG w0 O E R B g x s p v0 v1 v2 tv av f h ws T a w) (S : BS w0 O E R B) (q n : Nat) : RLG w0 O E R B g x s n v0 v1 v2 tv av f h ws T a ((w.drewN q).setCell ⟨R, 1, none⟩ (.int .i64 (n : Int))) :=
 (H.below (below_drewN (Below.refl _ _) q)).setR S n
theorem RLG.growA (H : RLG w0 O E R B g x s p v0 v1 v2 tv av f h ws T a w) (S : BS w0 O E R B) (hg : w.grownBy w' av.ownBlock) {a' : List Int} (ht : w'.ownsRow B 3 1 v a'.length (intsV a')) : RLG w0 O E R B g x s p v0 v1 v2 tv v f h ws T a' w' :=
 ⟨H.b.growA S hg ht, H.k.kept hg (own_ne H.k H.b.a (by decide)), H.off⟩
theorem RLG.setG (H : RLG w0 O E R B g x s p v0 v1 v2 tv av f h ws T a w) (S : BS w0 O E R B) {y : Wr} (j : Nat) (u : Value) (hy : wrCells y = (wrCells x).set j u) : RLG w0 O E R B g y s p v0 v1 v2 tv av f h ws T a (w.setCell ⟨g, j, none⟩ u) := by
 obtain ⟨h1, h2⟩ := H.k.stored j u
 rw [← hy] at h1
 have hge := H.ge
 have bb : Below B w (w.setCell ⟨g, j, none⟩ u) := (Below.refl B w).setCell (p := ⟨g, j, none⟩) hge _
 exact ⟨⟨H.b.sc.keep bb S.r, H.b.bt.keep bb S.o S.e, H.b.f.kept h2 (own_ne H.b.f H.k (by decide)), H.b.h.kept h2 (own_ne H.b.h H.k (by decide)), H.b.t.kept h2 (own_ne H.b.t H.k (by decide)), H.b.ws.kept h2 H.off, H.b.a.kept h2 (own_ne H.b.a H.k (by decide)), H.b.bel.trans (bb.mono S.lb), by simpa using H.b.sz⟩, h1, H.off⟩
theorem RLG.cell (H : RLG w0 O E R B g x s p v0 v1 v2 tv av f h ws T a w) (j : Nat) (hj : j < 6) : w.cell? ⟨g, j, none⟩ = (wrCells x)[j]? := H.k.cellAt j (by omega)
theorem RLG.froz (H : RLG w0 O E R B g x s p v0 v1 v2 tv av f h ws T a w) (j : Nat) : w.frozen? ⟨g, j, none⟩ = false := H.k.frozenAt j
theorem RLG.at_ (H : RLG w0 O E R B g x s p v0 v1 v2 tv av f h ws T a w) : WrAt w g x.1 x.2.1 x.2.2.1 x.2.2.2.1 x.2.2.2.2.1 x.2.2.2.2.2 :=
 ⟨H.cell 0 (by omega), H.cell 1 (by omega), H.cell 2 (by omega), H.cell 3 (by omega), H.cell 4 (by omega), H.cell 5 (by omega)⟩
theorem RLG.free (H : RLG w0 O E R B g x s p v0 v1 v2 tv av f h ws T a w) : Free6 w g := ⟨H.froz 0, H.froz 1, H.froz 2, H.froz 3, H.froz 4, H.froz 5⟩
end
end Go.Proofs.YtkejlnjnoiidnaaGreatDoor
end

section
namespace Go.Proofs.YtkejlnjnoiidnaaGreatDoor
open Go.RowKit As Go.Maps
theorem intKeyed : Keyed Tryz.prog 3 := int_keyed Tryz.underlying3
theorem not_in_succ {T : List ByteArray} {m : Nat} {s s2 : ByteArray} (h : ¬ s ∈ T.take m) (hx : T[m]? = some s2) (hne : s2 ≠ s) : ¬ s ∈ T.take (m + 1) := by
 obtain ⟨h1, h2⟩ := List.getElem?_eq_some_iff.1 hx
 rw [List.take_succ_eq_append_getElem h1, h2]
 simp only [List.mem_append, List.mem_singleton]
 rintro (h3 | h3)
 ·exact h h3
 ·exact hne h3.symm
theorem in_take {T : List ByteArray} {m k : Nat} {s : ByteArray} (hx : T[m]? = some s) (hm : m < k) : s ∈ T.take k := by
 have : (T.take k)[m]? = some s := by rw [List.getElem?_take_of_lt hm]; exact hx
 exact List.mem_of_getElem? this
set_option maxHeartbeats 4000000 in
set_option maxRecDepth 100000 in
theorem rlist_any (n c n' c' : Nat) (A A' : Option Addr) (T : List ByteArray) (l : List Int) (w : World) (h : Strs w A n T) (h' : Ints w A' n' l) (hn : n ≤ 1000) (hn' : n' ≤ 1000) (hli : ∀ x ∈ l, -9223372036854775808 ≤ x ∧ x ≤ 9223372036854775807) :
  Calls Tryz.prog 99 #[.slice A n c, .slice A' n' c'] w fun e w' => ∃ v, e = .returned (.tuple #[v, faultV (klist T l).2]) ∧ w'.ownsRow w.heap.size 9 1 v (klist T l).1.length ((klist T l).1.map Value.string) ∧ Below w.heap.size w w' := by
 have hmm := @run_makeMap Tryz.prog
 obtain ⟨i0, hi, hz0, hz1, hz2⟩ := info_parts strInfo
 have hT := Lib.hid (sl1_len Value.string h)
 have hL := Lib.hid (sl1_len (Value.int .i64) h')
 go_enter Tryz.func99, Tryz.ntmps99
 go_wp2
 go_loopw [6, 7, 14] (fun _ _ i wr => ∃ k : Nat, k ≤ n ∧ i = .int .i64 k ∧ KT T k ∧ Two wr w.heap.size 0 0 ∧ Below w.heap.size w wr) (fun _ _ i _ => n - (intOf i).toNat)
 case atStart => exact ⟨0, by omega, rfl, KT.zero T, Two.new _ _ _ _, below1 _ _⟩
 case round =>
  obtain ⟨k, hk, rfl, hkt, h2, hbel⟩ := hrel
  have HK := Lib.hid hkt
  clear hkt
  have hB := hbel.size
  by_cases hlt : k < n
  ·obtain ⟨b, o, s, rfl, hb, hx, hc⟩ := sl1_at Value.string h hT.out hlt
   have hkn : (k : Int) < (n : Int) := by omega
   have hX := Lib.hid hx
   clear hx
   go_wp2
   go_loopw [7, 18] (fun _ j wx => ∃ m : Nat, m ≤ k ∧ j = .int .i64 m ∧ Hid (¬ s ∈ T.take m) ∧ Two wx w.heap.size 0 0 ∧ Below w.heap.size w wx) (fun _ j _ => k - (intOf j).toNat)
   case atStart => exact ⟨0, by omega, rfl, Lib.hid (by simp), h2, hbel⟩
   case round =>
    clear h2 hbel hB
    obtain ⟨m, hm, rfl, hni, h2, hbel⟩ := hrel
    have hB := hbel.size
    have c1 := (hbel.cell (p := ⟨b, o + k, none⟩) hb).trans hc
    by_cases hlt2 : m < k
    ·obtain ⟨b', o', s2, e', hb', hx2, hc2⟩ := sl1_at Value.string h hT.out (k := m) (by omega)
     injection e' with e'
     injection e' with e1 e2
     subst e1 e2
     have c2 := (hbel.cell (p := ⟨b, o + m, none⟩) hb).trans hc2
     have hmn : (m : Int) < (n : Int) := by omega
     have hX2 := Lib.hid hx2
     clear hx2 hc2
     by_cases hss : s2 = s
     ·subst hss
      have hres := Lib.hid (klist_twice (a := l) (HK.out.hit hX.out (in_take hX2.out hlt2)))
      obtain ⟨d0, d1, f0, f1⟩ := h2
      go_wp2
      go_quiet (fail)
      have S := set2 (w := wr.drewN nq) (.int .i64 9) (.int .i64 (k : Int)) d0 d1
      go_wp2
      refine bodyPost_ret (v := .tuple #[.slice none 0 0, .agg #[.int .i64 9, .int .i64 (k : Int)]]) (by simp [results, Tryz.results99, go_sem, S.1, S.2]) rfl ⟨.slice none 0 0, by rw [hres.out]; rfl, ?_, below_set2 _ _ (below_drewN hbel _) (Nat.le_refl _)⟩
      rw [hres.out]; exact World.ownsRow_nil _ _ _ _
     ·have hne : (s2.toList == s.toList) = false := by have := toList_ne hss; simpa using this
      have hnx := Lib.hid (not_in_succ hni.out hX2.out hss)
      have Hss := Lib.hid hss
      clear hss
      go_wp2
      go_quiet (fail)
      go_wp2
      go_roundw
      case rel => exact ⟨m + 1, by omega, by go_num, hnx, h2.below (below_drewN (Below.refl _ _) _), below_drewN hbel _⟩
      case measure => simp [intOf]; omega
    ·obtain rfl : m = k := by omega
     have hnext := Lib.hid (HK.out.succ hX.out hni.out)
     go_wp2
     go_roundw
     case rel => exact ⟨m + 1, by omega, by go_num, hnext.out, h2, hbel⟩
     case measure => simp [intOf]; omega
  ·obtain rfl : k = n := by omega
   have honce := HK.out.all (by rw [hT.out]; exact Nat.le_refl _)
   have hres := Lib.hid (klist_once (a := l) honce)
   clear honce hlt HK
   have hs0 := h2.lt
   have hT2 := Lib.hid h2
   go_wp2
   obtain ⟨wA, hwA⟩ : ∃ wA, wA = wr := ⟨_, rfl⟩
   rw [← hwA] at hs0 hT2 hbel ⊢
   clear hwA h2 hB
   go_loopw [8, 10, 11, 37] (fun v _ _ i wx => ∃ (j next : Nat) (out : List ByteArray), j ≤ n' ∧ i = .int .i64 j ∧ KA T l j next out ∧ wx.ownsRow wA.heap.size 9 1 v out.length (out.map Value.string) ∧ (∃ D : DataW Unit, wx.ownsMap Tryz.prog 3 (plainElem Tryz.prog 4) wA.heap.size j D ∧ Upto D next) ∧ Below wA.heap.size wA wx) (fun _ _ _ i _ => n' - (intOf i).toNat)
   case atStart => exact ⟨0, 0, [], by omega, rfl, KA.zero T l, World.ownsRow_nil _ _ _ _, ⟨_, World.ownsMap_made _ _ _ _, Upto.nil⟩, below1 _ _⟩
   case round =>
    obtain ⟨j, next, out, hj, rfl, hka, hO, ⟨D, hM, hD⟩, hbx⟩ := hrel
    have hB := hbx.size
    have hbel2 := hbel.trans (hbx.mono hbel.size)
    have hB2 := hbel2.size
    have hol := hka.len
    have hnx := hka.le
    have hnx' := hka.le'
    have hTl := hT.out
    rw [hTl] at hnx
    have HKA := Lib.hid hka
    have HTL := Lib.hid hTl
    have HD := Lib.hid hD
    have hsz := Lib.hid hD.1
    clear hka hTl hD
    obtain ⟨d0, d1, f0, f1⟩ := hT2.out.keep hbx hs0
    have hs1 : w.heap.size < wr.heap.size := by omega
    by_cases hlt : j < n'
    ·obtain ⟨b, o, x, rfl, hb, hx, hc⟩ := sl1_at (Value.int .i64) h' hL.out hlt
     have hc' := (hbel2.cell (p := ⟨b, o + j, none⟩) hb).trans hc
     clear hc
     have hxi := hli x (List.mem_of_getElem? hx)
     have hX := Lib.hid hx
     clear hx
     by_cases h1 : x < 0 ∨ (k : Int) ≤ x
     ·have hr := Lib.hid (HKA.out.range hX.out (by rw [HTL.out]; exact h1))
      have B0 := Lib.hid (show inB x 0 ((k : Int) - 1) = false by unfold inB; rw [decide_eq_false]; omega)
      have S := set2 (.int .i64 2) (.int .i64 (j : Int)) d0 d1
      clear h1
      go_wp2_with fail
      refine (within_is B0 _).mono ?_
      rintro e w' ⟨rfl, rfl⟩
      go_wp2
      refine bodyPost_ret (v := .tuple #[.slice none 0 0, .agg #[.int .i64 2, .int .i64 (j : Int)]]) (by simp [results, Tryz.results99, go_sem, S.1, S.2]) rfl ⟨.slice none 0 0, by rw [hres.out, hr.out]; rfl, ?_, below_set2 _ _ hbel2 (Nat.le_refl _)⟩
      rw [hres.out, hr.out]; exact World.ownsRow_nil _ _ _ _
     ·have B0 := Lib.hid (show inB x 0 ((k : Int) - 1) = true by unfold inB; rw [decide_eq_true]; omega)
      by_cases h3 : (next : Int) < x
      ·have hr := Lib.hid (HKA.out.false hX.out (by rw [HTL.out]; exact h1) h3)
       have e3 : decide ((next : Int) < x) = true := by simpa using h3
       have S := set2 (.int .i64 13) (.int .i64 (j : Int)) d0 d1
       clear h1 h3
       go_wp2_with fail
       refine (within_is B0 _).mono ?_
       rintro e w' ⟨rfl, rfl⟩
       go_wp2_with (at_len; refine wpList_len_own _ rfl _ 179 rfl 3 4 Tryz.underlying179 _ wA.heap.size j D rfl hM ?_; rw [hsz.out])
       refine bodyPost_ret (v := .tuple #[.slice none 0 0, .agg #[.int .i64 13, .int .i64 (j : Int)]]) (by simp [results, Tryz.results99, go_sem, S.1, S.2]) rfl ⟨.slice none 0 0, by rw [hres.out, hr.out]; rfl, ?_, below_set2 _ _ hbel2 (Nat.le_refl _)⟩
       rw [hres.out, hr.out]; exact World.ownsRow_nil _ _ _ _
      ·obtain ⟨y, rfl⟩ := Int.eq_ofNat_of_zero_le (show 0 ≤ x by omega)
       have hyk : y < k := by omega
       have e3 : decide (next < y) = false := by simp; omega
       obtain ⟨b2, o2, s2, rfl, hb2, hx2, hc2⟩ := sl1_at Value.string h hT.out hyk
       have hc3 := (hbel2.cell (p := ⟨b2, o2 + y, none⟩) hb2).trans hc2
       have hg2 := Lib.hid (show T.getD (y : Int).toNat (strOf []) = s2 by rw [Int.toNat_natCast]; simp [List.getD, hx2])
       have hX2 := Lib.hid hx2
       have HC2 := Lib.hid ((hbel.cell (p := ⟨b2, o2 + y, none⟩) hb2).trans hc2)
       have hbA : b2 < wA.heap.size := by have := hbel.size; omega
       clear hc2 hx2
       have hkey := keyOf_int_mk Tryz.underlying3 (a := (y : Int)) (q := .i64) (WalkArith.wf_i64 (by omega))
       have hmO := own_map_ne' hO hM
       have hrel2 : ∃ next' : Nat, KA T l (j + 1) next' (out ++ [s2]) ∧ Upto (D.put (.int .i64 (y : Int)) (.lit (.bool true))) next' := by
        by_cases h4 : y = next
        ·have hnew := HKA.out.new hX.out (by rw [HTL.out]; exact h1) (by rw [h4])
         rw [hg2.out] at hnew
         subst h4
         exact ⟨_, hnew, HD.out.new⟩
        ·have hold := HKA.out.old hX.out (by rw [HTL.out]; exact h1) (show (y : Int) < (next : Int) by omega)
         rw [hg2.out] at hold
         exact ⟨_, hold, HD.out.old (by omega) (by omega)⟩
       have HREL := Lib.hid hrel2
       clear h1 h3 hrel2
       go_wp2_with fail
       refine (within_is B0 _).mono ?_
       rintro e w' ⟨rfl, rfl⟩
       go_wp2_with (first
        | (at_len; refine wpList_len_own _ rfl _ 179 rfl 3 4 Tryz.underlying179 _ wA.heap.size j D rfl hM ?_; rw [hsz.out])
        | (at_mapUpdate; refine wpList_mapUpdate_own _ rfl _ _ _ 179 rfl 3 4 intKeyed Tryz.underlying179 _ wA.heap.size j D rfl hM (by unfold maxLen; omega) _ _ _ rfl rfl hkey _ [] (plainElem_bool Tryz.underlying4 true) ?_; intro w1 hM1 hg1; have hb1 := hbx.grown hg1 hB (fun j hj => by cases hj; exact Nat.le_refl _); have hO1 := hO.kept hg1 (.inr hmO.symm); have hc4 := (hb1.cell (p := ⟨b2, o2 + y, none⟩) hbA).trans HC2.out)
        | (at_builtin; refine wpList_append_own _ rfl (.tmp 58) (.tmp 63) 116 rfl wA.heap.size 9 i0 (.string ⟨#[]⟩) 1 16 Tryz.underlying116 hi hz0 hz1 hz2 rfl (by decide) u8 out.length (out.map Value.string) rfl (hO1.alloc _) ⟨w1.heap.size, 0, none⟩ 1 1 [.string s2] rfl rfl (cells_new1 _ _ _) (by intro u hu; simp at hu; subst hu; rfl) (by unfold maxLen; omega) (by omega) (by have := hb1.size; simp; omega) ?_; intro v1 w2 hO2 hg3 _; have hb3 := grown_own (hb1.alloc hb1.size _) hg3 (by have := hb1.size; simp; omega) (hO1.alloc _); have hO3 := ownStr_snoc rfl hO2; have hM3 := (hM1.alloc _).kept hg3 (own_map_ne' hO1 hM1)))
       obtain ⟨nx, HA1, HU1⟩ := HREL.out
       go_roundw
       case rel => exact ⟨j + 1, nx, _, by omega, by go_num, HA1, hO3, ⟨_, hM3, HU1⟩, hb3⟩
       case measure => simp [intOf]; omega
    ·obtain rfl : j = n' := by omega
     by_cases h4 : next < k
     ·have hr := Lib.hid (HKA.out.less (by rw [hL.out]; exact Nat.le_refl _) (by rw [HTL.out]; exact h4))
      have d4 : decide (next < k) = true := by simpa using h4
      clear h4
      go_wp2_with (first
       | (at_len; refine wpList_len_own _ rfl _ 179 rfl 3 4 Tryz.underlying179 _ wA.heap.size j D rfl hM ?_; rw [hsz.out])
       | (go_at_call 47; refine (bareF_any 8 _).mono ?_; rintro e w3 ⟨rfl, hb3⟩; have hb4 := hbel2.trans (hb3.mono hB2); obtain ⟨c0, c1, g0, g1⟩ := hT2.out.keep (hbx.trans (hb3.mono hB)) hs0))
      have S := set2 (.int .i64 8) (.int .i64 (-1)) c0 c1
      go_wp2
      refine bodyPost_ret (v := .tuple #[.slice none 0 0, .agg #[.int .i64 8, .int .i64 (-1)]]) (by simp [results, Tryz.results99, go_sem, S.1, S.2]) rfl ⟨.slice none 0 0, by rw [hres.out, hr.out]; rfl, ?_, below_set2 _ _ hb4 (Nat.le_refl _)⟩
      rw [hres.out, hr.out]; exact World.ownsRow_nil _ _ _ _
     ·have hr := Lib.hid (HKA.out.done (by rw [hL.out]; exact Nat.le_refl _) (by rw [HTL.out]; exact h4))
      have d4 : decide (next < k) = false := by simpa using h4
      clear h4
      go_wp2_with (first
       | (at_len; refine wpList_len_own _ rfl _ 179 rfl 3 4 Tryz.underlying179 _ wA.heap.size j D rfl hM ?_; rw [hsz.out])
       | (go_at_call 35; refine (good_any _).mono ?_; rintro e w3 ⟨rfl, hb3⟩; have hb4 := hbel2.trans (hb3.mono hB2); obtain ⟨c0, c1, g0, g1⟩ := hT2.out.keep (hbx.trans (hb3.mono hB)) hs0))
      have S := set2 (.int .i64 0) (.int .i64 (-1)) c0 c1
      have hO2 := ownsRow_below hO hb3 hB
      go_wp2
      refine bodyPost_ret (v := .tuple #[u8, .agg #[.int .i64 0, .int .i64 (-1)]]) (by simp [results, Tryz.results99, go_sem, S.1, S.2]) rfl ⟨u8, by rw [hres.out, hr.out]; rfl, ?_, below_set2 _ _ hb4 (Nat.le_refl _)⟩
      rw [hres.out, hr.out]
      exact own_less (own_set _ (own_set _ hO2 hs0) hs0) (by omega)
end Go.Proofs.YtkejlnjnoiidnaaGreatDoor
end

section
namespace Go.Proofs.YtkejlnjnoiidnaaGreatDoor
set_option linter.unusedSimpArgs false
open Go.RowKit As
/-- What the reference's Fill returns. -/
def rfillV (r : Wr × Nat × Int) : Value := .tuple #[wrV r.1.1 r.1.2.1 r.1.2.2.1 r.1.2.2.2.1 r.1.2.2.2.2.1 r.1.2.2.2.2.2, .int .i64 (r.2.1 : Int), .int .i64 r.2.2]
-- kinds
set_option maxHeartbeats 2000000 in
set_option maxRecDepth 100000 in
theorem rfill1 (a b f : Int) (d e s : ByteArray) (w : World) (hs : s.size ≤ maxLen) :
  Calls Tryz.prog 56 #[wrV a b 1 d e f, .string s] w fun r w' => r = .returned (rfillV (wfill (a, b, 1, d, e, f) s)) ∧ Below w.heap.size w w' := by
 have hr := Lib.hid (show wfill (a, b, 1, d, e, f) s = if (unspan s).2.2 ≠ 0 then (noWr, 0, (unspan s).2.2) else wend (a, b, 1, d, (unspan s).1, 0) (unspan s).2.1 from rfl)
 have hn : (unspan s).2.1 ≤ s.size := by
  rcases unspan_says s with h | ⟨e, h, _⟩
  ·exact h.2.2.1
  ·rw [h]; exact Nat.zero_le _
 have hW := WrAt.new w a b 1 d ⟨#[]⟩ 0
 have b0 := below1 w (wrO a b 1 d ⟨#[]⟩ 0)
 have hR := WrAt.new (w.alloc (wrO a b 1 d ⟨#[]⟩ 0)) 0 0 0 ⟨#[]⟩ ⟨#[]⟩ 0
 have b1 := below1 (w.alloc (wrO a b 1 d ⟨#[]⟩ 0)) (wrO 0 0 0 ⟨#[]⟩ ⟨#[]⟩ 0)
 have b01 := b0.trans (b1.mono b0.size)
 have gW := (Free6.new w a b 1 0 d ⟨#[]⟩).below (by simp) b1
 have gR := Free6.new (w.alloc (wrO a b 1 d ⟨#[]⟩ 0)) 0 0 0 0 ⟨#[]⟩ ⟨#[]⟩
 rw [World.size_alloc] at gR
 replace hW := hW.below b1
 rw [World.size_alloc] at hR
 clear b0 b1
 go_enter Tryz.func56, Tryz.ntmps56
 go_wp2_with fail
 generalize hWW : (w.alloc (wrO a b 1 d ⟨#[]⟩ 0)).alloc (wrO 0 0 0 ⟨#[]⟩ ⟨#[]⟩ 0) = W at *
 have hlt : w.heap.size < W.heap.size := cell_lt hW.c0
 have hlt1 : w.heap.size + 1 < W.heap.size := cell_lt hR.c0
 clear hWW
 refine (runspan_any s _ hs).mono ?_
 rintro r w2 ⟨rfl, rfl⟩
 generalize unspan s = y at *
 obtain ⟨t, n, q⟩ := y
 simp only at *
 unfold maxLen at hs
 have hs2 : (s.size : Int) - ((s.size - n : Nat) : Int) = (n : Int) := by omega
 by_cases hq : q = 0
 ·subst hq
  have hr2 := Lib.hid (hr.out.trans (if_neg (by simp)))
  have x4 := hW.c4
  have g4 := gW.f4
  have hV := hW.val t
  have hVR := hR.other (C := w.heap.size) (i := 4) (by omega) (.string t)
  have bV := b01.setCell (p := ⟨w.heap.size, 4, none⟩) (Nat.le_refl _) (.string t)
  have gVR := gR.set w.heap.size 4 (.string t)
  have sV : (W.setCell ⟨w.heap.size, 4, none⟩ (.string t)).heap.size = W.heap.size := by simp
  have hre : (s.extract n s.size).size = s.size - n := by simp
  have hsub : IntKind.i64.wrap ((s.size : Int) - ((s.extract n s.size).size : Int)) = (n : Int) := by rw [hre, IntWalk.i64_in _ (by omega)]; omega
  clear hW hR gW gR
  go_wp2_with fail
  go_region
  have dD : Below (W.setCell ⟨w.heap.size, 4, none⟩ (.string t)).heap.size (W.setCell ⟨w.heap.size, 4, none⟩ (.string t)) (W.setCell ⟨w.heap.size, 4, none⟩ (.string t)).drew := (Below.refl _ _).drew
  replace hV := hV.below dD
  replace hVR := hVR.below dD
  replace gVR := gVR.below (by rw [sV]; exact hlt1) dD
  replace bV := bV.trans (dD.mono bV.size)
  generalize (W.setCell ⟨w.heap.size, 4, none⟩ (.string t)).drew = Wq at *
  generalize s.extract n s.size = rest at *
  have hltq : w.heap.size + 1 < Wq.heap.size := cell_lt hVR.c0
  clear dD
  have HV := hV
  obtain ⟨v0, v1, v2, v3, v4, v5⟩ := hV
  go_wp2_with fail
  refine (rwright_any (a, b, 1, d, t, 0) _).mono ?_
  rintro r w3 ⟨rfl, hb3⟩
  have b03 := bV.trans (hb3.mono bV.size)
  have hVR3 := hVR.below hb3
  have gVR3 := gVR.below (by first | omega | (simp; omega)) hb3
  by_cases hw : wright (a, b, 1, d, t, 0) = 0
  ·rw [hw]
   have hr3 := Lib.hid (hr2.out.trans (show wend (a, b, 1, d, t, 0) n = _ from if_neg (by simp [hw])))
   have hZ := hVR3.put (a' := a) (b' := b) (c' := 1) (d' := d) (e' := t) (f' := 0)
   obtain ⟨y0, y1, y2, y3, y4, y5⟩ := HV.below hb3
   obtain ⟨u0, u1, u2, u3, u4, u5⟩ := hVR3
   obtain ⟨j0, j1, j2, j3, j4, j5⟩ := gVR3
   clear hw
   go_wp2
   unfold put6 at hZ
   obtain ⟨z0, z1, z2, z3, z4, z5⟩ := hZ
   exact bodyPost_ret (v := .tuple #[.agg #[.int .i64 a, .int .i64 b, .int .i64 1, .string d, .string t, .int .i64 0], .int .i64 ((n : Nat) : Int), .int .i64 0]) (by simp [results, Tryz.results56, go_sem, z0, z1, z2, z3, z4, z5, hs2]) rfl ⟨by rw [hr3.out]; rfl, below_put6 b03 (by omega)⟩
  ·have e7 : (wright (a, b, 1, d, t, 0) != 0) = true := by simpa using hw
   have hr3 := Lib.hid (hr2.out.trans (show wend (a, b, 1, d, t, 0) n = _ from if_pos hw))
   have HW := Lib.hid hw
   clear hw
   have hZ := hVR3.put (a' := 0) (b' := 0) (c' := 0) (d' := ⟨#[]⟩) (e' := ⟨#[]⟩) (f' := 0)
   obtain ⟨u0, u1, u2, u3, u4, u5⟩ := hVR3
   obtain ⟨j0, j1, j2, j3, j4, j5⟩ := gVR3
   go_wp2
   unfold put6 at hZ
   obtain ⟨z0, z1, z2, z3, z4, z5⟩ := hZ
   exact bodyPost_ret (v := .tuple #[.agg #[.int .i64 0, .int .i64 0, .int .i64 0, .string ⟨#[]⟩, .string ⟨#[]⟩, .int .i64 0], .int .i64 0, .int .i64 (wright (a, b, 1, d, t, 0))]) (by simp [results, Tryz.results56, go_sem, z0, z1, z2, z3, z4, z5, hs2]) rfl ⟨by rw [hr3.out]; rfl, below_put6 b03 (by omega)⟩
 ·have e7 : (q != 0) = true := by simpa using hq
  have hr2 := Lib.hid (hr.out.trans (if_pos hq))
  have HQ := Lib.hid hq
  clear hq
  have hZ := hR.put (a' := 0) (b' := 0) (c' := 0) (d' := ⟨#[]⟩) (e' := ⟨#[]⟩) (f' := 0)
  obtain ⟨u0, u1, u2, u3, u4, u5⟩ := hR
  obtain ⟨j0, j1, j2, j3, j4, j5⟩ := gR
  go_wp2
  unfold put6 at hZ
  obtain ⟨z0, z1, z2, z3, z4, z5⟩ := hZ
  exact bodyPost_ret (v := .tuple #[.agg #[.int .i64 0, .int .i64 0, .int .i64 0, .string ⟨#[]⟩, .string ⟨#[]⟩, .int .i64 0], .int .i64 0, .int .i64 q]) (by simp [results, Tryz.results56, go_sem, z0, z1, z2, z3, z4, z5, hs2]) rfl ⟨by rw [hr2.out]; rfl, below_put6 b01 (by omega)⟩
set_option maxHeartbeats 2000000 in
set_option maxRecDepth 100000 in
theorem rfill3 (a b f : Int) (d e s : ByteArray) (w : World) (hs : s.size ≤ maxLen) :
  Calls Tryz.prog 56 #[wrV a b 3 d e f, .string s] w fun r w' => r = .returned (rfillV (wfill (a, b, 3, d, e, f) s)) ∧ Below w.heap.size w w' := by
 have hr := Lib.hid (show wfill (a, b, 3, d, e, f) s = if (vget s.data.toList).2.2 ≠ 0 then (noWr, 0, (vget s.data.toList).2.2) else wend (a, b, 3, d, ⟨#[]⟩, zagN (vget s.data.toList).1) (vget s.data.toList).2.1 from rfl)
 have hx : (vget s.data.toList).1 < 18446744073709551616 ∧ (vget s.data.toList).2.1 ≤ s.size := by
  rcases vget_says s.data.toList with h | h | h | h
  ·exact ⟨h.2.1, by have := h.2.2.2.2; simpa using this⟩
  all_goals (rw [h]; exact ⟨by decide, Nat.zero_le _⟩)
 have hW := WrAt.new w a b 3 d ⟨#[]⟩ 0
 have b0 := below1 w (wrO a b 3 d ⟨#[]⟩ 0)
 have hR := WrAt.new (w.alloc (wrO a b 3 d ⟨#[]⟩ 0)) 0 0 0 ⟨#[]⟩ ⟨#[]⟩ 0
 have b1 := below1 (w.alloc (wrO a b 3 d ⟨#[]⟩ 0)) (wrO 0 0 0 ⟨#[]⟩ ⟨#[]⟩ 0)
 have b01 := b0.trans (b1.mono b0.size)
 have gW := (Free6.new w a b 3 0 d ⟨#[]⟩).below (by simp) b1
 have gR := Free6.new (w.alloc (wrO a b 3 d ⟨#[]⟩ 0)) 0 0 0 0 ⟨#[]⟩ ⟨#[]⟩
 rw [World.size_alloc] at gR
 replace hW := hW.below b1
 rw [World.size_alloc] at hR
 clear b0 b1
 go_enter Tryz.func56, Tryz.ntmps56
 go_wp2_with fail
 generalize hWW : (w.alloc (wrO a b 3 d ⟨#[]⟩ 0)).alloc (wrO 0 0 0 ⟨#[]⟩ ⟨#[]⟩ 0) = W at *
 have hlt : w.heap.size < W.heap.size := cell_lt hW.c0
 have hlt1 : w.heap.size + 1 < W.heap.size := cell_lt hR.c0
 clear hWW
 refine (runvary_any s _ hs).mono ?_
 rintro r w2 ⟨rfl, rfl⟩
 generalize vget s.data.toList = y at *
 obtain ⟨x, n, q⟩ := y
 simp only at *
 obtain ⟨hx, hn⟩ := hx
 unfold maxLen at hs
 have hs2 : (s.size : Int) - ((s.size - n : Nat) : Int) = (n : Int) := by omega
 by_cases hq : q = 0
 ·subst hq
  have hr2 := Lib.hid (hr.out.trans (if_neg (by simp)))
  have x5 := hW.c5
  have g5 := gW.f5
  have hV := hW.num (zagN x)
  have hVR := hR.other (C := w.heap.size) (i := 5) (by omega) (.int .i64 (zagN x))
  have bV := b01.setCell (p := ⟨w.heap.size, 5, none⟩) (Nat.le_refl _) (.int .i64 (zagN x))
  have gVR := gR.set w.heap.size 5 (.int .i64 (zagN x))
  have sV : (W.setCell ⟨w.heap.size, 5, none⟩ (.int .i64 (zagN x))).heap.size = W.heap.size := by simp
  clear hW hR gW gR
  go_wp2_with fail
  go_region_with (go_at_call 101; refine (Zg.rzag_any (x : Int) _ (by omega) (by omega)).mono ?_; rintro r w2 ⟨rfl, rfl⟩; rw [Zg.zag_is])
  have dD : Below (W.setCell ⟨w.heap.size, 5, none⟩ (.int .i64 (zagN x))).heap.size (W.setCell ⟨w.heap.size, 5, none⟩ (.int .i64 (zagN x))) (W.setCell ⟨w.heap.size, 5, none⟩ (.int .i64 (zagN x))).drew := (Below.refl _ _).drew
  replace hV := hV.below dD
  replace hVR := hVR.below dD
  replace gVR := gVR.below (by rw [sV]; exact hlt1) dD
  replace bV := bV.trans (dD.mono bV.size)
  generalize (W.setCell ⟨w.heap.size, 5, none⟩ (.int .i64 (zagN x))).drew = Wq at *
  have hre : (s.extract n s.size).size = s.size - n := by simp
  generalize s.extract n s.size = rest at *
  have hltq : w.heap.size + 1 < Wq.heap.size := cell_lt hVR.c0
  clear dD
  have HV := hV
  obtain ⟨v0, v1, v2, v3, v4, v5⟩ := hV
  go_wp2_with fail
  refine (rwright_any (a, b, 3, d, ⟨#[]⟩, (zagN x)) _).mono ?_
  rintro r w3 ⟨rfl, hb3⟩
  have b03 := bV.trans (hb3.mono bV.size)
  have hVR3 := hVR.below hb3
  have gVR3 := gVR.below (by first | omega | (simp; omega)) hb3
  by_cases hw : wright (a, b, 3, d, ⟨#[]⟩, (zagN x)) = 0
  ·rw [hw]
   have hr3 := Lib.hid (hr2.out.trans (show wend (a, b, 3, d, ⟨#[]⟩, (zagN x)) n = _ from if_neg (by simp [hw])))
   have hZ := hVR3.put (a' := a) (b' := b) (c' := 3) (d' := d) (e' := ⟨#[]⟩) (f' := (zagN x))
   obtain ⟨y0, y1, y2, y3, y4, y5⟩ := HV.below hb3
   obtain ⟨u0, u1, u2, u3, u4, u5⟩ := hVR3
   obtain ⟨j0, j1, j2, j3, j4, j5⟩ := gVR3
   clear hw
   go_wp2
   unfold put6 at hZ
   obtain ⟨z0, z1, z2, z3, z4, z5⟩ := hZ
   exact bodyPost_ret (v := .tuple #[.agg #[.int .i64 a, .int .i64 b, .int .i64 3, .string d, .string ⟨#[]⟩, .int .i64 (zagN x)], .int .i64 ((n : Nat) : Int), .int .i64 0]) (by simp [results, Tryz.results56, go_sem, z0, z1, z2, z3, z4, z5, hs2]) rfl ⟨by rw [hr3.out]; rfl, below_put6 b03 (by omega)⟩
  ·have e7 : (wright (a, b, 3, d, ⟨#[]⟩, (zagN x)) != 0) = true := by simpa using hw
   have hr3 := Lib.hid (hr2.out.trans (show wend (a, b, 3, d, ⟨#[]⟩, (zagN x)) n = _ from if_pos hw))
   have HW := Lib.hid hw
   clear hw
   have hZ := hVR3.put (a' := 0) (b' := 0) (c' := 0) (d' := ⟨#[]⟩) (e' := ⟨#[]⟩) (f' := 0)
   obtain ⟨u0, u1, u2, u3, u4, u5⟩ := hVR3
   obtain ⟨j0, j1, j2, j3, j4, j5⟩ := gVR3
   go_wp2
   unfold put6 at hZ
   obtain ⟨z0, z1, z2, z3, z4, z5⟩ := hZ
   exact bodyPost_ret (v := .tuple #[.agg #[.int .i64 0, .int .i64 0, .int .i64 0, .string ⟨#[]⟩, .string ⟨#[]⟩, .int .i64 0], .int .i64 0, .int .i64 (wright (a, b, 3, d, ⟨#[]⟩, (zagN x)))]) (by simp [results, Tryz.results56, go_sem, z0, z1, z2, z3, z4, z5, hs2]) rfl ⟨by rw [hr3.out]; rfl, below_put6 b03 (by omega)⟩
 ·have e7 : (q != 0) = true := by simpa using hq
  have hr2 := Lib.hid (hr.out.trans (if_pos hq))
  have HQ := Lib.hid hq
  clear hq
  have hZ := hR.put (a' := 0) (b' := 0) (c' := 0) (d' := ⟨#[]⟩) (e' := ⟨#[]⟩) (f' := 0)
  obtain ⟨u0, u1, u2, u3, u4, u5⟩ := hR
  obtain ⟨j0, j1, j2, j3, j4, j5⟩ := gR
  go_wp2
  unfold put6 at hZ
  obtain ⟨z0, z1, z2, z3, z4, z5⟩ := hZ
  exact bodyPost_ret (v := .tuple #[.agg #[.int .i64 0, .int .i64 0, .int .i64 0, .string ⟨#[]⟩, .string ⟨#[]⟩, .int .i64 0], .int .i64 0, .int .i64 q]) (by simp [results, Tryz.results56, go_sem, z0, z1, z2, z3, z4, z5, hs2]) rfl ⟨by rw [hr2.out]; rfl, below_put6 b01 (by omega)⟩
set_option maxHeartbeats 2000000 in
set_option maxRecDepth 100000 in
theorem rfill0 (a b c f : Int) (d e s : ByteArray) (w : World) (h1 : c ≠ 1) (h3 : c ≠ 3) (h4 : c ≠ 4) :
  Calls Tryz.prog 56 #[wrV a b c d e f, .string s] w fun r w' => r = .returned (rfillV (wfill (a, b, c, d, e, f) s)) ∧ Below w.heap.size w w' := by
 have hr2 := Lib.hid (show wfill (a, b, c, d, e, f) s = wend (a, b, c, d, ⟨#[]⟩, 0) 0 by unfold wfill; rw [if_neg h1, if_neg h3, if_neg h4])
 have e1 : (c == 1) = false := by simpa using h1
 have e3 : (c == 3) = false := by simpa using h3
 have e4 : (c == 4) = false := by simpa using h4
 clear h1 h3 h4
 have hW := WrAt.new w a b c d ⟨#[]⟩ 0
 have b0 := below1 w (wrO a b c d ⟨#[]⟩ 0)
 have hR := WrAt.new (w.alloc (wrO a b c d ⟨#[]⟩ 0)) 0 0 0 ⟨#[]⟩ ⟨#[]⟩ 0
 have b1 := below1 (w.alloc (wrO a b c d ⟨#[]⟩ 0)) (wrO 0 0 0 ⟨#[]⟩ ⟨#[]⟩ 0)
 have b01 := b0.trans (b1.mono b0.size)
 have gW := (Free6.new w a b c 0 d ⟨#[]⟩).below (by simp) b1
 have gR := Free6.new (w.alloc (wrO a b c d ⟨#[]⟩ 0)) 0 0 0 0 ⟨#[]⟩ ⟨#[]⟩
 rw [World.size_alloc] at gR
 replace hW := hW.below b1
 rw [World.size_alloc] at hR
 clear b0 b1
 go_enter Tryz.func56, Tryz.ntmps56
 go_wp2_with fail
 generalize hWW : (w.alloc (wrO a b c d ⟨#[]⟩ 0)).alloc (wrO 0 0 0 ⟨#[]⟩ ⟨#[]⟩ 0) = W at *
 have hlt : w.heap.size < W.heap.size := cell_lt hW.c0
 have hlt1 : w.heap.size + 1 < W.heap.size := cell_lt hR.c0
 clear hWW
 have hV := hW
 have hVR := hR
 have gVR := gR
 have bV := b01
 have HV := hV
 refine (rwright_any (a, b, c, d, ⟨#[]⟩, 0) _).mono ?_
 rintro r w3 ⟨rfl, hb3⟩
 have b03 := bV.trans (hb3.mono bV.size)
 have hVR3 := hVR.below hb3
 have gVR3 := gVR.below (by first | omega | (simp; omega)) hb3
 by_cases hw : wright (a, b, c, d, ⟨#[]⟩, 0) = 0
 ·rw [hw]
  have hr3 := Lib.hid (hr2.out.trans (show wend (a, b, c, d, ⟨#[]⟩, 0) 0 = _ from if_neg (by simp [hw])))
  have hZ := hVR3.put (a' := a) (b' := b) (c' := c) (d' := d) (e' := ⟨#[]⟩) (f' := 0)
  obtain ⟨y0, y1, y2, y3, y4, y5⟩ := HV.below hb3
  obtain ⟨u0, u1, u2, u3, u4, u5⟩ := hVR3
  obtain ⟨j0, j1, j2, j3, j4, j5⟩ := gVR3
  clear hw
  go_wp2
  unfold put6 at hZ
  obtain ⟨z0, z1, z2, z3, z4, z5⟩ := hZ
  exact bodyPost_ret (v := .tuple #[.agg #[.int .i64 a, .int .i64 b, .int .i64 c, .string d, .string ⟨#[]⟩, .int .i64 0], .int .i64 ((0 : Nat) : Int), .int .i64 0]) (by simp [results, Tryz.results56, go_sem, z0, z1, z2, z3, z4, z5]) rfl ⟨by rw [hr3.out]; rfl, below_put6 b03 (by omega)⟩
 ·have e7 : (wright (a, b, c, d, ⟨#[]⟩, 0) != 0) = true := by simpa using hw
  have hr3 := Lib.hid (hr2.out.trans (show wend (a, b, c, d, ⟨#[]⟩, 0) 0 = _ from if_pos hw))
  have HW := Lib.hid hw
  clear hw
  have hZ := hVR3.put (a' := 0) (b' := 0) (c' := 0) (d' := ⟨#[]⟩) (e' := ⟨#[]⟩) (f' := 0)
  obtain ⟨u0, u1, u2, u3, u4, u5⟩ := hVR3
  obtain ⟨j0, j1, j2, j3, j4, j5⟩ := gVR3
  go_wp2
  unfold put6 at hZ
  obtain ⟨z0, z1, z2, z3, z4, z5⟩ := hZ
  exact bodyPost_ret (v := .tuple #[.agg #[.int .i64 0, .int .i64 0, .int .i64 0, .string ⟨#[]⟩, .string ⟨#[]⟩, .int .i64 0], .int .i64 0, .int .i64 (wright (a, b, c, d, ⟨#[]⟩, 0))]) (by simp [results, Tryz.results56, go_sem, z0, z1, z2, z3, z4, z5]) rfl ⟨by rw [hr3.out]; rfl, below_put6 b03 (by omega)⟩
set_option maxHeartbeats 2000000 in
set_option maxRecDepth 100000 in
theorem rfill4 (a b f : Int) (d e s : ByteArray) (w : World) (hs : s.size ≤ maxLen) :
  Calls Tryz.prog 56 #[wrV a b 4 d e f, .string s] w fun r w' => r = .returned (rfillV (wfill (a, b, 4, d, e, f) s)) ∧ Below w.heap.size w w' := by
 have hr := Lib.hid (show wfill (a, b, 4, d, e, f) s = if (vint s.data.toList 1000).2.2 ≠ 0 then (noWr, 0, (vint s.data.toList 1000).2.2)
  else if (unspan (s.extract (vint s.data.toList 1000).2.1 s.size)).2.2 ≠ 0 then (noWr, 0, (unspan (s.extract (vint s.data.toList 1000).2.1 s.size)).2.2)
  else wend (a, b, 4, d, (unspan (s.extract (vint s.data.toList 1000).2.1 s.size)).1, ((vint s.data.toList 1000).1 : Int)) ((vint s.data.toList 1000).2.1 + (unspan (s.extract (vint s.data.toList 1000).2.1 s.size)).2.1) from rfl)
 have hx : (vint s.data.toList 1000).2.1 ≤ s.size := by
  rcases vint_says s.data.toList 1000 with h | ⟨e, h, _⟩
  ·have := h.2.2.2.2.2; simpa using this
  ·rw [h]; exact Nat.zero_le _
 have hW := WrAt.new w a b 4 d ⟨#[]⟩ 0
 have b0 := below1 w (wrO a b 4 d ⟨#[]⟩ 0)
 have hR := WrAt.new (w.alloc (wrO a b 4 d ⟨#[]⟩ 0)) 0 0 0 ⟨#[]⟩ ⟨#[]⟩ 0
 have b1 := below1 (w.alloc (wrO a b 4 d ⟨#[]⟩ 0)) (wrO 0 0 0 ⟨#[]⟩ ⟨#[]⟩ 0)
 have b01 := b0.trans (b1.mono b0.size)
 have gW := (Free6.new w a b 4 0 d ⟨#[]⟩).below (by simp) b1
 have gR := Free6.new (w.alloc (wrO a b 4 d ⟨#[]⟩ 0)) 0 0 0 0 ⟨#[]⟩ ⟨#[]⟩
 rw [World.size_alloc] at gR
 replace hW := hW.below b1
 rw [World.size_alloc] at hR
 clear b0 b1
 go_enter Tryz.func56, Tryz.ntmps56
 go_wp2_with fail
 generalize hWW : (w.alloc (wrO a b 4 d ⟨#[]⟩ 0)).alloc (wrO 0 0 0 ⟨#[]⟩ ⟨#[]⟩ 0) = W at *
 have hlt : w.heap.size < W.heap.size := cell_lt hW.c0
 have hlt1 : w.heap.size + 1 < W.heap.size := cell_lt hR.c0
 clear hWW
 refine (rvint_any s 1000 _ hs (by omega)).mono ?_
 rintro r w2 ⟨rfl, rfl⟩
 generalize vint s.data.toList 1000 = y at *
 obtain ⟨x, n, q⟩ := y
 simp only at *
 unfold maxLen at hs
 by_cases hq : q = 0
 ·subst hq
  have hr2' := Lib.hid (hr.out.trans (if_neg (by simp)))
  clear hr
  have x5 := hW.c5
  have g5 := gW.f5
  have hV := hW.num (x : Int)
  have hVR := hR.other (C := w.heap.size) (i := 5) (by omega) (.int .i64 (x : Int))
  have bV := b01.setCell (p := ⟨w.heap.size, 5, none⟩) (Nat.le_refl _) (.int .i64 (x : Int))
  have gVR := gR.set w.heap.size 5 (.int .i64 (x : Int))
  have gV := gW.set w.heap.size 5 (.int .i64 (x : Int))
  have sV : (W.setCell ⟨w.heap.size, 5, none⟩ (.int .i64 (x : Int))).heap.size = W.heap.size := by simp
  clear hW hR gW gR
  go_wp2_with fail
  go_region
  have dD : Below (W.setCell ⟨w.heap.size, 5, none⟩ (.int .i64 (x : Int))).heap.size (W.setCell ⟨w.heap.size, 5, none⟩ (.int .i64 (x : Int))) (W.setCell ⟨w.heap.size, 5, none⟩ (.int .i64 (x : Int))).drew := (Below.refl _ _).drew
  replace hV := hV.below dD
  replace hVR := hVR.below dD
  replace gVR := gVR.below (by rw [sV]; exact hlt1) dD
  replace gV := gV.below (by rw [sV]; exact hlt) dD
  replace bV := bV.trans (dD.mono bV.size)
  generalize (W.setCell ⟨w.heap.size, 5, none⟩ (.int .i64 (x : Int))).drew = Wq at *
  have hre : (s.extract n s.size).size = s.size - n := by simp
  generalize s.extract n s.size = rest at *
  have hltq : w.heap.size + 1 < Wq.heap.size := cell_lt hVR.c0
  clear dD sV
  obtain ⟨v0, v1, v2, v3, v4, v5⟩ := id hV
  go_wp2_with fail
  refine (runspan_any rest _ (by unfold maxLen; omega)).mono ?_
  rintro r w2 ⟨rfl, rfl⟩
  clear v0 v1 v2 v3 v4 v5
  have hn : (unspan rest).2.1 ≤ rest.size := by
   rcases unspan_says rest with h | ⟨e, h, _⟩
   ·exact h.2.2.1
   ·rw [h]; exact Nat.zero_le _
  generalize unspan rest = y at *
  obtain ⟨t, k, q2⟩ := y
  simp only at *
  have hs2 : (s.size : Int) - ((s.size - n - k : Nat) : Int) = (n : Int) + (k : Int) := by omega
  by_cases hq2 : q2 = 0
  ·subst hq2
   have hr2 := Lib.hid (hr2'.out.trans (if_neg (by simp)))
   have x4 := hV.c4
   have g4 := gV.f4
   have hV2 := hV.val t
   have hVR2 := hVR.other (C := w.heap.size) (i := 4) (by omega) (.string t)
   have bV2 := bV.setCell (p := ⟨w.heap.size, 4, none⟩) (Nat.le_refl _) (.string t)
   have gVR2 := gVR.set w.heap.size 4 (.string t)
   have sV2 : (Wq.setCell ⟨w.heap.size, 4, none⟩ (.string t)).heap.size = Wq.heap.size := by simp
   clear hV hVR gVR gV
   go_wp2_with fail
   go_region
   have dD : Below (Wq.setCell ⟨w.heap.size, 4, none⟩ (.string t)).heap.size (Wq.setCell ⟨w.heap.size, 4, none⟩ (.string t)) (Wq.setCell ⟨w.heap.size, 4, none⟩ (.string t)).drew := (Below.refl _ _).drew
   have hV := hV2.below dD
   have hVR := hVR2.below dD
   have gVR := gVR2.below (by rw [sV2]; exact hltq) dD
   replace bV := bV2.trans (dD.mono bV2.size)
   generalize (Wq.setCell ⟨w.heap.size, 4, none⟩ (.string t)).drew = Wr at *
   have hre2 : (rest.extract k rest.size).size = rest.size - k := by simp
   generalize rest.extract k rest.size = rest2 at *
   have hltr : w.heap.size + 1 < Wr.heap.size := cell_lt hVR.c0
   clear dD hV2 hVR2 gVR2 bV2
   have HV := hV
   obtain ⟨v0, v1, v2, v3, v4, v5⟩ := hV
   go_wp2_with fail
   refine (rwright_any (a, b, 4, d, t, (x : Int)) _).mono ?_
   rintro r w3 ⟨rfl, hb3⟩
   have b03 := bV.trans (hb3.mono bV.size)
   have hVR3 := hVR.below hb3
   have gVR3 := gVR.below (by first | omega | (simp; omega)) hb3
   by_cases hw : wright (a, b, 4, d, t, (x : Int)) = 0
   ·rw [hw]
    have hr3 := Lib.hid (hr2.out.trans (show wend (a, b, 4, d, t, (x : Int)) (n + k) = _ from if_neg (by simp [hw])))
    have hZ := hVR3.put (a' := a) (b' := b) (c' := 4) (d' := d) (e' := t) (f' := (x : Int))
    obtain ⟨y0, y1, y2, y3, y4, y5⟩ := HV.below hb3
    obtain ⟨u0, u1, u2, u3, u4, u5⟩ := hVR3
    obtain ⟨j0, j1, j2, j3, j4, j5⟩ := gVR3
    clear hw
    go_wp2
    unfold put6 at hZ
    obtain ⟨z0, z1, z2, z3, z4, z5⟩ := hZ
    exact bodyPost_ret (v := .tuple #[.agg #[.int .i64 a, .int .i64 b, .int .i64 4, .string d, .string t, .int .i64 (x : Int)], .int .i64 (((n + k) : Nat) : Int), .int .i64 0]) (by simp [results, Tryz.results56, go_sem, z0, z1, z2, z3, z4, z5, hs2]) rfl ⟨by rw [hr3.out]; rfl, below_put6 b03 (by omega)⟩
   ·have e7 : (wright (a, b, 4, d, t, (x : Int)) != 0) = true := by simpa using hw
    have hr3 := Lib.hid (hr2.out.trans (show wend (a, b, 4, d, t, (x : Int)) (n + k) = _ from if_pos hw))
    have HW := Lib.hid hw
    clear hw
    have hZ := hVR3.put (a' := 0) (b' := 0) (c' := 0) (d' := ⟨#[]⟩) (e' := ⟨#[]⟩) (f' := 0)
    obtain ⟨u0, u1, u2, u3, u4, u5⟩ := hVR3
    obtain ⟨j0, j1, j2, j3, j4, j5⟩ := gVR3
    go_wp2
    unfold put6 at hZ
    obtain ⟨z0, z1, z2, z3, z4, z5⟩ := hZ
    exact bodyPost_ret (v := .tuple #[.agg #[.int .i64 0, .int .i64 0, .int .i64 0, .string ⟨#[]⟩, .string ⟨#[]⟩, .int .i64 0], .int .i64 0, .int .i64 (wright (a, b, 4, d, t, (x : Int)))]) (by simp [results, Tryz.results56, go_sem, z0, z1, z2, z3, z4, z5, hs2]) rfl ⟨by rw [hr3.out]; rfl, below_put6 b03 (by omega)⟩
  ·have e7 : (q2 != 0) = true := by simpa using hq2
   have hr2 := Lib.hid (hr2'.out.trans (if_pos hq2))
   have HQ := Lib.hid hq2
   clear hq2
   have hZ := hVR.put (a' := 0) (b' := 0) (c' := 0) (d' := ⟨#[]⟩) (e' := ⟨#[]⟩) (f' := 0)
   obtain ⟨u0, u1, u2, u3, u4, u5⟩ := hVR
   obtain ⟨j0, j1, j2, j3, j4, j5⟩ := gVR
   go_wp2
   unfold put6 at hZ
   obtain ⟨z0, z1, z2, z3, z4, z5⟩ := hZ
   exact bodyPost_ret (v := .tuple #[.agg #[.int .i64 0, .int .i64 0, .int .i64 0, .string ⟨#[]⟩, .string ⟨#[]⟩, .int .i64 0], .int .i64 0, .int .i64 q2]) (by simp [results, Tryz.results56, go_sem, z0, z1, z2, z3, z4, z5, hs2]) rfl ⟨by rw [hr2.out]; rfl, below_put6 bV (by omega)⟩
 ·have e7 : (q != 0) = true := by simpa using hq
  have hr2 := Lib.hid (hr.out.trans (if_pos hq))
  have HQ := Lib.hid hq
  clear hq
  have hZ := hR.put (a' := 0) (b' := 0) (c' := 0) (d' := ⟨#[]⟩) (e' := ⟨#[]⟩) (f' := 0)
  obtain ⟨u0, u1, u2, u3, u4, u5⟩ := hR
  obtain ⟨j0, j1, j2, j3, j4, j5⟩ := gR
  go_wp2
  unfold put6 at hZ
  obtain ⟨z0, z1, z2, z3, z4, z5⟩ := hZ
  exact bodyPost_ret (v := .tuple #[.agg #[.int .i64 0, .int .i64 0, .int .i64 0, .string ⟨#[]⟩, .string ⟨#[]⟩, .int .i64 0], .int .i64 0, .int .i64 q]) (by simp [results, Tryz.results56, go_sem, z0, z1, z2, z3, z4, z5]) rfl ⟨by rw [hr2.out]; rfl, below_put6 b01 (by omega)⟩
theorem rfill_any (x : Wr) (s : ByteArray) (w : World) (hs : s.size ≤ maxLen) :
  Calls Tryz.prog 56 #[wrV x.1 x.2.1 x.2.2.1 x.2.2.2.1 x.2.2.2.2.1 x.2.2.2.2.2, .string s] w fun r w' => r = .returned (rfillV (wfill x s)) ∧ Below w.heap.size w w' := by
 obtain ⟨a, b, c, d, e, f⟩ := x
 by_cases h1 : c = 1
 ·subst h1; exact rfill1 a b f d e s w hs
 ·by_cases h3 : c = 3
  ·subst h3; exact rfill3 a b f d e s w hs
  ·by_cases h4 : c = 4
   ·subst h4; exact rfill4 a b f d e s w hs
   ·exact rfill0 a b c f d e s w h1 h3 h4
end Go.Proofs.YtkejlnjnoiidnaaGreatDoor
end
