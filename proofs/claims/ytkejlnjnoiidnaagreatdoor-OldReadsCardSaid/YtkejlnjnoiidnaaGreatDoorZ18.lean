/- What stands while the reference's Old reads its vectors; what it lays over its results where something is wrong. -/
import Derived.Test.YtkejlnjnoiidnaaGreatDoorZ16
import Derived.Test.YtkejlnjnoiidnaaGreatDoorZ17
section
namespace Go.Proofs.YtkejlnjnoiidnaaGreatDoor
set_option linter.unusedSimpArgs false
set_option linter.unusedVariables false
open Go.RowKit As
set_option maxHeartbeats 1000000 in
set_option maxRecDepth 100000 in
theorem rod_good (F O : Nat) (y : Int) (w : World) (h0 : w.cell? ⟨F, 0, none⟩ = some (.int .i64 0)) (h1 : w.cell? ⟨F, 1, none⟩ = some (.int .i64 y)) :
  CallsD Tryz.prog 50 #[.pointer (some ⟨F, 0, none⟩), .pointer (some ⟨O, 0, none⟩)] .returning w fun e u' w' => u' = .returning ∧ (e = .returned (.tuple #[]) ∧ Below w.heap.size w w') := by
 go_enter_d Tryz.func50, Tryz.ntmps50
 go_wp2_with fail
 refine (is_any (0, y) _).mono ?_
 rintro r w2 ⟨rfl, hb2⟩
 have e1 : (((0, y) : Int × Int).1 == 0) = true := rfl
 rw [e1]
 go_wp2
 go_end0
 exact ⟨rfl, hb2⟩
set_option maxHeartbeats 1000000 in
set_option maxRecDepth 100000 in
theorem rod_bad (F O : Nat) (v0 v1 v2 : Value) (x y : Int) (w : World) (h : RB w O F v0 v1 v2 x y) (hx : x ≠ 0) (h2 : O ≠ F) :
  CallsD Tryz.prog 50 #[.pointer (some ⟨F, 0, none⟩), .pointer (some ⟨O, 0, none⟩)] .returning w fun e u' w' => u' = .returning ∧ (e = .returned (.tuple #[]) ∧ RB w' O F nilS nilS nilS x (-1) ∧ ∀ B, B ≤ O → B ≤ F → Below B w w') := by
 have HR := h
 obtain ⟨r0, r1, r2, r3, r4, _, _, _, _, _⟩ := h
 have e1 : (((x, y) : Int × Int).1 == 0) = false := by simpa using hx
 go_enter_d Tryz.func50, Tryz.ntmps50
 go_wp2_with fail
 refine (is_any (x, y) _).mono ?_
 rintro r w2 ⟨rfl, hb2⟩
 rw [e1]
 have HR2 := HR.below hb2
 have k0 := HR2.x
 clear r0 r1 r2 r3 r4
 go_wp2_with fail
 refine (bareF_any x _).mono ?_
 rintro r w3 ⟨rfl, hb3⟩
 have HR3 := HR2.below hb3
 have H1 := HR3.set0 h2 nilS
 have H2 := H1.set1 h2 nilS
 have H3 := H2.set2 h2 nilS
 have H5 := H3.setF h2 x (-1)
 have lO : O < w.heap.size := cell_lt HR.c0
 have lF : F < w.heap.size := cell_lt HR.x
 have b3 := hb2.trans (hb3.mono hb2.size)
 have bZ : ∀ B, B ≤ O → B ≤ F → Below B w (put5 w3 O F nilS nilS nilS x (-1)) := fun B q1 q2 => below_put5 (b3.mono (by omega)) q1 q2 nilS nilS nilS x (-1)
 have p1 := H1.c1
 have p2 := H2.c2
 have p3 := H3.x
 have p4 := res_ne (v := .int .i64 x) H3.y (i := 0) (by decide)
 have m3 := H3.fx
 have m4 := H3.fy
 obtain ⟨j0, j1, j2, j3, j4, j5, j6, j7, j8, j9⟩ := HR3
 clear HR HR2 k0 hb2 hb3 b3 lO lF
 go_wp2
 go_end0
 exact ⟨rfl, H5, bZ⟩
theorem rodoor_bad {X : BR} {w W : World} {O F : Nat} {v0 v1 v2 : Value} {e q : Int} {tmps : Array Value} (hv : X = bad0 e) (he : e ≠ 0) (R : RB W O F v0 v1 v2 0 (-1)) (hn : O ≠ F) (lO : w.heap.size ≤ O) (lF : w.heap.size ≤ F) (b : Below w.heap.size w W)
  (t2 : tmps[2]? = some (.pointer (some ⟨O, 0, none⟩))) (t3 : tmps[3]? = some (.pointer (some ⟨F, 0, none⟩))) :
  Leaves Tryz.prog Tryz.f16 tmps (RFEnd X w) [{ target := .fn (.func 51) #[], args := #[.pointer (some ⟨F, 0, none⟩)] }, { target := .fn (.func 50) #[.pointer (some ⟨F, 0, none⟩), .pointer (some ⟨O, 0, none⟩)], args := #[] }] (.panicking (Thrown e q)) W := by
 have HR := R
 refine leaves_cons (f := 51) (args := #[.pointer (some ⟨F, 0, none⟩)]) (by simp) (by simp [go_sem]) ?_
 refine (caught_hit F 0 (-1) e q [] _ R.x R.y R.fx R.fy).mono ?_
 rintro e' u' w' ⟨rfl, rfl, rfl⟩
 show Leaves _ _ _ _ _ .returning _
 have hZ := (HR.below (below1 W (.cells #[.int .i64 e, .int .i64 q] 138))).setF hn e q
 have bZ := ((b.alloc b.size (.cells #[.int .i64 e, .int .i64 q] 138)).setCell (p := ⟨F, 0, none⟩) lF (.int .i64 e)).setCell (p := ⟨F, 1, none⟩) lF (.int .i64 q)
 refine leaves_cons (f := 50) (args := #[.pointer (some ⟨F, 0, none⟩), .pointer (some ⟨O, 0, none⟩)]) (by simp) (by simp [go_sem]) ?_
 refine (rod_bad F O _ _ _ _ _ _ hZ he hn).mono ?_
 rintro e' u' w' ⟨rfl, rfl, hZ', hb⟩
 have bF := bZ.trans (hb w.heap.size lO lF)
 obtain ⟨z0, z1, z2, z3, z4, _, _, _, _, _⟩ := hZ'
 show Leaves _ _ _ _ [] .returning _
 exact ⟨.tuple #[.agg #[nilS, nilS, nilS], .agg #[.int .i64 e, .int .i64 (-1)]], by simp [results, Tryz.results16, go_sem, t2, t3, z0, z1, z2, z3, z4], rf_no hv bF⟩
/-- A row of entries grows, and is laid down. -/
theorem RL.growE0 {w0 w w' : World} {O E R B p : Nat} {s : ByteArray} {v0 v1 v2 tv av v : Value} {f f' h : List Ent} {ws : List Wr} {T : List ByteArray} {a : List Int} (H : RL w0 O E R B s p v0 v1 v2 tv av f h ws T a w) (S : BS w0 O E R B) (hg : w.grownBy w' v0.ownBlock) (ht : w'.ownsRow B 79 2 v f'.length (entV f')) (hs : v1.ownBlock = none ∨ v1.ownBlock ≠ v0.ownBlock) : RL w0 O E R B s p v v1 v2 tv av f' h ws T a (w'.setCell ⟨O, 0, none⟩ v) :=
 have bb := grown_own (Below.refl B w) hg H.sz H.f
 ⟨by have k := H.sc.keep bb S.r; exact ⟨res_nb k.c0 (Ne.symm S.ro), res_nb k.c1 (Ne.symm S.ro), by simpa using k.f1⟩, (H.bt.keep bb S.o S.e).set0 S.oe _, own_set _ ht S.o, own_set _ (H.h.kept hg hs) S.o, own_set _ (H.t.kept hg (own_ne H.t H.f (by decide))) S.o, own_set _ (H.ws.kept hg (own_ne H.ws H.f (by decide))) S.o, own_set _ (H.a.kept hg (own_ne H.a H.f (by decide))) S.o, (H.bel.trans (bb.mono S.lb)).setCell (p := ⟨O, 0, none⟩) S.lo _, by simpa using Nat.le_trans H.sz bb.size⟩
theorem RL.growE1 {w0 w w' : World} {O E R B p : Nat} {s : ByteArray} {v0 v1 v2 tv av v : Value} {f h h' : List Ent} {ws : List Wr} {T : List ByteArray} {a : List Int} (H : RL w0 O E R B s p v0 v1 v2 tv av f h ws T a w) (S : BS w0 O E R B) (hg : w.grownBy w' v1.ownBlock) (ht : w'.ownsRow B 79 2 v h'.length (entV h')) (hs : v0.ownBlock = none ∨ v0.ownBlock ≠ v1.ownBlock) : RL w0 O E R B s p v0 v v2 tv av f h' ws T a (w'.setCell ⟨O, 1, none⟩ v) :=
 have bb := grown_own (Below.refl B w) hg H.sz H.h
 ⟨by have k := H.sc.keep bb S.r; exact ⟨res_nb k.c0 (Ne.symm S.ro), res_nb k.c1 (Ne.symm S.ro), by simpa using k.f1⟩, (H.bt.keep bb S.o S.e).set1 S.oe _, own_set _ (H.f.kept hg hs) S.o, own_set _ ht S.o, own_set _ (H.t.kept hg (own_ne H.t H.h (by decide))) S.o, own_set _ (H.ws.kept hg (own_ne H.ws H.h (by decide))) S.o, own_set _ (H.a.kept hg (own_ne H.a H.h (by decide))) S.o, (H.bel.trans (bb.mono S.lb)).setCell (p := ⟨O, 1, none⟩) S.lo _, by simpa using Nat.le_trans H.sz bb.size⟩
theorem TwoP.keep {w w' : World} {A O B : Nat} (h : TwoP w A O) (hb : Below B w w') (hA : A < B) : TwoP w' A O := ⟨(hb.cell (p := ⟨A, 0, none⟩) hA).trans h.c0, (hb.cell (p := ⟨A, 1, none⟩) hA).trans h.c1⟩
/-- Where the two pointers lie, above the reader. -/
structure AS (O R B : Nat) : Prop where
 lt : R + 1 < B
 no : O ≠ R + 1
/-- While the first vector is read. -/
structure RQ0 (w0 : World) (O E R B : Nat) (s : ByteArray) (p : Nat) (v : Value) (acc : List Ent) (w : World) : Prop where
 b : RL w0 O E R B s p v nilS nilS nilS nilS acc [] [] [] [] w
 a : TwoP w (R + 1) O
 n : w.ownsRow B 79 2 v acc.length (entV acc)
/-- While the second one is; it lies from B1 on. -/
structure RQ1 (w0 : World) (O E R B B1 : Nat) (v0 : Value) (f : List Ent) (s : ByteArray) (p : Nat) (v : Value) (acc : List Ent) (w : World) : Prop where
 b : RL w0 O E R B s p v0 v nilS nilS nilS f acc [] [] [] w
 a : TwoP w (R + 1) O
 n : w.ownsRow B1 79 2 v acc.length (entV acc)
 off : ∀ k, v0.ownBlock = some k → k < B1
 ge : B ≤ B1
 sz : B1 ≤ w.heap.size
section
variable {w0 w w' : World} {O E R B B1 p : Nat} {s : ByteArray} {v v0 v' : Value} {acc acc' f : List Ent}
theorem RQ0.below (H : RQ0 w0 O E R B s p v acc w) (hb : Below w.heap.size w w') : RQ0 w0 O E R B s p v acc w' := ⟨H.b.below hb, H.a.below hb, own_below H.n hb⟩
theorem RQ0.setR (H : RQ0 w0 O E R B s p v acc w) (S : BS w0 O E R B) (n : Nat) : RQ0 w0 O E R B s n v acc (w.setCell ⟨R, 1, none⟩ (.int .i64 (n : Int))) := ⟨H.b.setR S n, H.a.set (Nat.ne_of_lt (Nat.lt_succ_self R)), own_set _ H.n S.r⟩
theorem RQ0.step (H : RQ0 w0 O E R B s p v acc w) (S : BS w0 O E R B) (q n : Nat) : RQ0 w0 O E R B s n v acc ((w.drewN q).setCell ⟨R, 1, none⟩ (.int .i64 (n : Int))) := (H.below (below_drewN (Below.refl _ _) q)).setR S n
theorem RQ0.grow (H : RQ0 w0 O E R B s p v acc w) (S : BS w0 O E R B) (A : AS O R B) (hg : w.grownBy w' v.ownBlock) (ht : w'.ownsRow B 79 2 v' acc'.length (entV acc')) : RQ0 w0 O E R B s p v' acc' (w'.setCell ⟨O, 0, none⟩ v') ∧ w'.cell? ⟨O, 0, none⟩ = some v ∧ w'.frozen? ⟨O, 0, none⟩ = false :=
 have bb := grown_own (Below.refl B w) hg H.b.sz H.b.f
 have k := H.b.bt.keep bb S.o S.e
 ⟨⟨H.b.growE0 S hg ht (.inl rfl), (H.a.keep bb A.lt).set A.no, own_set _ ht S.o⟩, k.c0, k.f0⟩
theorem RQ1.below (H : RQ1 w0 O E R B B1 v0 f s p v acc w) (hb : Below w.heap.size w w') : RQ1 w0 O E R B B1 v0 f s p v acc w' := ⟨H.b.below hb, H.a.below hb, own_below H.n hb, H.off, H.ge, Nat.le_trans H.sz hb.size⟩
theorem RQ1.setR (H : RQ1 w0 O E R B B1 v0 f s p v acc w) (S : BS w0 O E R B) (n : Nat) : RQ1 w0 O E R B B1 v0 f s n v acc (w.setCell ⟨R, 1, none⟩ (.int .i64 (n : Int))) := ⟨H.b.setR S n, H.a.set (Nat.ne_of_lt (Nat.lt_succ_self R)), own_set _ H.n (Nat.lt_of_lt_of_le S.r H.ge), H.off, H.ge, by simpa using H.sz⟩
theorem RQ1.step (H : RQ1 w0 O E R B B1 v0 f s p v acc w) (S : BS w0 O E R B) (q n : Nat) : RQ1 w0 O E R B B1 v0 f s n v acc ((w.drewN q).setCell ⟨R, 1, none⟩ (.int .i64 (n : Int))) := (H.below (below_drewN (Below.refl _ _) q)).setR S n
theorem RQ1.grow (H : RQ1 w0 O E R B B1 v0 f s p v acc w) (S : BS w0 O E R B) (A : AS O R B) (hg : w.grownBy w' v.ownBlock) (ht : w'.ownsRow B1 79 2 v' acc'.length (entV acc')) : RQ1 w0 O E R B B1 v0 f s p v' acc' (w'.setCell ⟨O, 1, none⟩ v') ∧ w'.cell? ⟨O, 1, none⟩ = some v ∧ w'.frozen? ⟨O, 1, none⟩ = false :=
 have bb := grown_own (Below.refl B w) hg H.b.sz H.b.h
 have k := H.b.bt.keep bb S.o S.e
 have sep : v0.ownBlock = none ∨ v0.ownBlock ≠ v.ownBlock := by
  cases hv : v0.ownBlock with
  | none => exact .inl rfl
  | some q => exact .inr (fun e => by have h1 := H.off q hv; have h2 := (H.n.lt q e.symm).1; omega)
 ⟨⟨H.b.growE1 S hg (own_less ht H.ge) sep, (H.a.keep bb A.lt).set A.no, own_set _ ht (Nat.lt_of_lt_of_le S.o H.ge), H.off, H.ge, by simpa using Nat.le_trans H.sz bb.size⟩, k.c1, k.f1⟩
theorem RQ0.next (H : RQ0 w0 O E R B s p v acc w) : RQ1 w0 O E R B w.heap.size v acc s p nilS [] w := ⟨H.b, H.a, World.ownsRow_nil _ _ _ _, fun k hk => (H.n.lt k hk).2, H.b.sz, Nat.le_refl _⟩
end
end Go.Proofs.YtkejlnjnoiidnaaGreatDoor
end
