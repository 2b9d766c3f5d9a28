/- write.Fill says what wfill says. -/
import Derived.Test.YtglemfdnfaemiaaDoorWriteRight
import Derived.Test.YtglemfdnfaemiaaDoorVaryWalks
import Derived.Test.YtglemfdnfaemiaaDoorSpanWalks
import Derived.Test.YtglemfdnfaemiaaDoorZig
namespace Go.Proofs.YtglemfdnfaemiaaDoor
set_option linter.unusedSimpArgs false
open Go.RowKit As
/-- What Fill returns. -/
def fillV (r : Wr × Nat × Int) : Value := .tuple #[wrV r.1.1 r.1.2.1 r.1.2.2.1 r.1.2.2.2.1 r.1.2.2.2.2.1 r.1.2.2.2.2.2, .int .i64 (r.2.1 : Int), errV r.2.2]
theorem cell_ne {w : World} {B i j : Nat} {v u : Value} (h : w.cell? ⟨B, j, none⟩ = some u) (hij : i ≠ j) : (w.setCell ⟨B, i, none⟩ v).cell? ⟨B, j, none⟩ = some u := by
  rw [World.cell?_setCell_other _ _ _ _ (by intro h; injection h with _ h2; exact hij (by first | exact h2 | exact h2.symm | injection h2))]
  exact h
theorem cell_nb {w : World} {B C i j : Nat} {v u : Value} (h : w.cell? ⟨C, j, none⟩ = some u) (hij : B ≠ C) : (w.setCell ⟨B, i, none⟩ v).cell? ⟨C, j, none⟩ = some u := by
  rw [World.cell?_setCell_other _ _ _ _ (by intro h; injection h with h1 _; exact hij (by first | exact h1 | exact h1.symm))]
  exact h
theorem WrAt.val {w : World} {B : Nat} {a b c f : Int} {d e : ByteArray} (h : WrAt w B a b c d e f) (t : ByteArray) : WrAt (w.setCell ⟨B, 4, none⟩ (.string t)) B a b c d t f :=
  ⟨cell_ne h.c0 (by omega), cell_ne h.c1 (by omega), cell_ne h.c2 (by omega), cell_ne h.c3 (by omega), World.cell?_setCell_same _ _ _ h.c4, cell_ne h.c5 (by omega)⟩
theorem WrAt.num {w : World} {B : Nat} {a b c f : Int} {d e : ByteArray} (h : WrAt w B a b c d e f) (n : Int) : WrAt (w.setCell ⟨B, 5, none⟩ (.int .i64 n)) B a b c d e n :=
  ⟨cell_ne h.c0 (by omega), cell_ne h.c1 (by omega), cell_ne h.c2 (by omega), cell_ne h.c3 (by omega), cell_ne h.c4 (by omega), World.cell?_setCell_same _ _ _ h.c5⟩
theorem WrAt.other {w : World} {B C i : Nat} {a b c f : Int} {d e : ByteArray} (h : WrAt w B a b c d e f) (hn : C ≠ B) (v : Value) : WrAt (w.setCell ⟨C, i, none⟩ v) B a b c d e f :=
  ⟨cell_nb h.c0 hn, cell_nb h.c1 hn, cell_nb h.c2 hn, cell_nb h.c3 hn, cell_nb h.c4 hn, cell_nb h.c5 hn⟩
/-- Six cells, written. -/
def put6 (w : World) (R : Nat) (a b c : Int) (d e : ByteArray) (f : Int) : World :=
  (((((w.setCell ⟨R, 0, none⟩ (.int .i64 a)).setCell ⟨R, 1, none⟩ (.int .i64 b)).setCell ⟨R, 2, none⟩ (.int .i64 c)).setCell ⟨R, 3, none⟩ (.string d)).setCell ⟨R, 4, none⟩ (.string e)).setCell ⟨R, 5, none⟩ (.int .i64 f)
theorem WrAt.put {w : World} {B : Nat} {a b c f a' b' c' f' : Int} {d e d' e' : ByteArray} (h : WrAt w B a b c d e f) : WrAt (put6 w B a' b' c' d' e' f') B a' b' c' d' e' f' := by
  obtain ⟨c0, c1, c2, c3, c4, c5⟩ := h
  unfold put6
  have k1 := cell_ne (v := .int .i64 a') c1 (i := 0) (by omega)
  have k2 := cell_ne (v := .int .i64 b') (cell_ne (v := .int .i64 a') c2 (i := 0) (by omega)) (i := 1) (by omega)
  have k3 := cell_ne (v := .int .i64 c') (cell_ne (v := .int .i64 b') (cell_ne (v := .int .i64 a') c3 (i := 0) (by omega)) (i := 1) (by omega)) (i := 2) (by omega)
  have k4 := cell_ne (v := .string d') (cell_ne (v := .int .i64 c') (cell_ne (v := .int .i64 b') (cell_ne (v := .int .i64 a') c4 (i := 0) (by omega)) (i := 1) (by omega)) (i := 2) (by omega)) (i := 3) (by omega)
  have k5 := cell_ne (v := .string e') (cell_ne (v := .string d') (cell_ne (v := .int .i64 c') (cell_ne (v := .int .i64 b') (cell_ne (v := .int .i64 a') c5 (i := 0) (by omega)) (i := 1) (by omega)) (i := 2) (by omega)) (i := 3) (by omega)) (i := 4) (by omega)
  refine ⟨?_, ?_, ?_, ?_, ?_, World.cell?_setCell_same _ _ _ k5⟩
  · exact cell_ne (cell_ne (cell_ne (cell_ne (cell_ne (World.cell?_setCell_same _ _ _ c0) (by omega)) (by omega)) (by omega)) (by omega)) (by omega)
  · exact cell_ne (cell_ne (cell_ne (cell_ne (World.cell?_setCell_same _ _ _ k1) (by omega)) (by omega)) (by omega)) (by omega)
  · exact cell_ne (cell_ne (cell_ne (World.cell?_setCell_same _ _ _ k2) (by omega)) (by omega)) (by omega)
  · exact cell_ne (cell_ne (World.cell?_setCell_same _ _ _ k3) (by omega)) (by omega)
  · exact cell_ne (World.cell?_setCell_same _ _ _ k4) (by omega)
theorem below_put6 {B : Nat} {a w : World} {R : Nat} {a' b' c' f' : Int} {d' e' : ByteArray} (h : Below B a w) (hs : B ≤ R) : Below B a (put6 w R a' b' c' d' e' f') :=
  (((((h.setCell hs _).setCell hs _).setCell hs _).setCell hs _).setCell hs _).setCell hs _
/-- Six cells that may be written. -/
structure Free6 (w : World) (B : Nat) : Prop where
  f0 : w.frozen? ⟨B, 0, none⟩ = false
  f1 : w.frozen? ⟨B, 1, none⟩ = false
  f2 : w.frozen? ⟨B, 2, none⟩ = false
  f3 : w.frozen? ⟨B, 3, none⟩ = false
  f4 : w.frozen? ⟨B, 4, none⟩ = false
  f5 : w.frozen? ⟨B, 5, none⟩ = false
theorem Free6.new (w : World) (a b c f : Int) (d e : ByteArray) : Free6 (w.alloc (wrO a b c d e f)) w.heap.size := ⟨by simp, by simp, by simp, by simp, by simp, by simp⟩
theorem Free6.below {w w' : World} {B : Nat} (h : Free6 w B) (hs : B < w.heap.size) (hb : Below w.heap.size w w') : Free6 w' B :=
  ⟨(hb.frozen hs).trans h.f0, (hb.frozen hs).trans h.f1, (hb.frozen hs).trans h.f2, (hb.frozen hs).trans h.f3, (hb.frozen hs).trans h.f4, (hb.frozen hs).trans h.f5⟩
theorem Free6.set {w : World} {B : Nat} (h : Free6 w B) (C i : Nat) (v : Value) : Free6 (w.setCell ⟨C, i, none⟩ v) B := ⟨by simpa using h.f0, by simpa using h.f1, by simpa using h.f2, by simpa using h.f3, by simpa using h.f4, by simpa using h.f5⟩
-- kinds
set_option maxHeartbeats 2000000 in
set_option maxRecDepth 100000 in
theorem fill1 (a b f : Int) (d e s : ByteArray) (w : World) (hs : s.size ≤ maxLen) (hg : Handle w) :
    Calls Tryd.prog 82 #[wrV a b 1 d e f, .string s] w fun r w' => r = .returned (fillV (wfill (a, b, 1, d, e, f) s)) ∧ Below w.heap.size w w' := by
  have hr := Lib.hid (show wfill (a, b, 1, d, e, f) s = if (unspan s).2.2 ≠ 0 then (noWr, 0, (unspan s).2.2) else wend (a, b, 1, d, (unspan s).1, 0) (unspan s).2.1 from rfl)
  have hW := WrAt.new w a b 1 d ⟨#[]⟩ 0
  have b0 := below1 w (wrO a b 1 d ⟨#[]⟩ 0)
  have hR := WrAt.new (w.alloc (wrO a b 1 d ⟨#[]⟩ 0)) 0 0 0 ⟨#[]⟩ ⟨#[]⟩ 0
  have b1 := below1 (w.alloc (wrO a b 1 d ⟨#[]⟩ 0)) (wrO 0 0 0 ⟨#[]⟩ ⟨#[]⟩ 0)
  have b01 := b0.trans (b1.mono b0.size)
  have gW := (Free6.new w a b 1 0 d ⟨#[]⟩).below (by simp) b1
  have gR := Free6.new (w.alloc (wrO a b 1 d ⟨#[]⟩ 0)) 0 0 0 0 ⟨#[]⟩ ⟨#[]⟩
  rw [World.size_alloc] at gR
  replace hW := hW.below b1
  rw [World.size_alloc] at hR
  have hg1 := hg.below b01
  clear b0 b1
  go_enter Tryd.func82, Tryd.ntmps82
  go_wp2_with fail
  generalize hWW : (w.alloc (wrO a b 1 d ⟨#[]⟩ 0)).alloc (wrO 0 0 0 ⟨#[]⟩ ⟨#[]⟩ 0) = W at *
  have hlt : w.heap.size < W.heap.size := cell_lt hW.c0
  have hlt1 : w.heap.size + 1 < W.heap.size := cell_lt hR.c0
  clear hWW
  refine (spanget_any s _ hs hg1).mono ?_
  rintro r w2 ⟨rfl, hb2⟩
  have hW2 := hW.below hb2
  have hR2 := hR.below hb2
  have gW2 := gW.below hlt hb2
  have gR2 := gR.below hlt1 hb2
  have b02 := b01.trans (hb2.mono b01.size)
  have hlt2 : w.heap.size < w2.heap.size := cell_lt hW2.c0
  have hlt12 : w.heap.size + 1 < w2.heap.size := cell_lt hR2.c0
  clear hW hR gW gR
  generalize unspan s = y at *
  obtain ⟨t, n, q⟩ := y
  simp only at *
  have x4 := hW2.c4
  have g4 := gW2.f4
  have hV := hW2.val t
  have hVR := hR2.other (C := w.heap.size) (i := 4) (by omega) (.string t)
  have bV := b02.setCell (p := ⟨w.heap.size, 4, none⟩) (Nat.le_refl _) (.string t)
  have gVR := gR2.set w.heap.size 4 (.string t)
  have sV : (w2.setCell ⟨w.heap.size, 4, none⟩ (.string t)).heap.size = w2.heap.size := by simp
  clear hW2 hR2 gW2 gR2
  by_cases hq : q = 0
  · subst hq
    rw [errV_zero]
    have hr2 := Lib.hid (hr.out.trans (if_neg (by simp)))
    have HV := hV
    obtain ⟨v0, v1, v2, v3, v4, v5⟩ := hV
    go_wp2_with fail
    refine (wright_any (a, b, 1, d, t, 0) _).mono ?_
    rintro r w3 ⟨rfl, hb3⟩
    have b03 := bV.trans (hb3.mono bV.size)
    have hVR3 := hVR.below hb3
    have gVR3 := gVR.below (by first | omega | (simp; omega)) hb3
    by_cases hw : wright (a, b, 1, d, t, 0) = 0
    · rw [hw, errV_zero]
      have hr3 := Lib.hid (hr2.out.trans (show wend (a, b, 1, d, t, 0) n = _ from if_neg (by simp [hw])))
      have hZ := hVR3.put (a' := a) (b' := b) (c' := 1) (d' := d) (e' := t) (f' := 0)
      obtain ⟨y0, y1, y2, y3, y4, y5⟩ := HV.below hb3
      obtain ⟨u0, u1, u2, u3, u4, u5⟩ := hVR3
      obtain ⟨j0, j1, j2, j3, j4, j5⟩ := gVR3
      clear hw
      go_wp2
      unfold put6 at hZ
      obtain ⟨z0, z1, z2, z3, z4, z5⟩ := hZ
      exact bodyPost_ret (v := .tuple #[.agg #[.int .i64 a, .int .i64 b, .int .i64 1, .string d, .string t, .int .i64 0], .int .i64 ((n : Nat) : Int), .nilIface]) (by simp [results, Tryd.results82, go_sem, z0, z1, z2, z3, z4, z5]) rfl ⟨by rw [hr3.out]; rfl, below_put6 b03 (by omega)⟩
    · rw [errV_of hw]
      have hr3 := Lib.hid (hr2.out.trans (show wend (a, b, 1, d, t, 0) n = _ from if_pos hw))
      have HW := Lib.hid hw
      clear hw
      have hZ := hVR3.put (a' := 0) (b' := 0) (c' := 0) (d' := ⟨#[]⟩) (e' := ⟨#[]⟩) (f' := 0)
      obtain ⟨u0, u1, u2, u3, u4, u5⟩ := hVR3
      obtain ⟨j0, j1, j2, j3, j4, j5⟩ := gVR3
      go_wp2
      unfold put6 at hZ
      obtain ⟨z0, z1, z2, z3, z4, z5⟩ := hZ
      exact bodyPost_ret (v := .tuple #[.agg #[.int .i64 0, .int .i64 0, .int .i64 0, .string ⟨#[]⟩, .string ⟨#[]⟩, .int .i64 0], .int .i64 0, .iface 27 (.int .i64 (wright (a, b, 1, d, t, 0)))]) (by simp [results, Tryd.results82, go_sem, z0, z1, z2, z3, z4, z5]) rfl ⟨by rw [hr3.out]; unfold fillV; rw [errV_of HW.out]; rfl, below_put6 b03 (by omega)⟩
  · rw [errV_of hq]
    have hr2 := Lib.hid (hr.out.trans (if_pos hq))
    have HQ := Lib.hid hq
    clear hq
    have hZ := hVR.put (a' := 0) (b' := 0) (c' := 0) (d' := ⟨#[]⟩) (e' := ⟨#[]⟩) (f' := 0)
    obtain ⟨u0, u1, u2, u3, u4, u5⟩ := hVR
    obtain ⟨j0, j1, j2, j3, j4, j5⟩ := gVR
    go_wp2
    unfold put6 at hZ
    obtain ⟨z0, z1, z2, z3, z4, z5⟩ := hZ
    exact bodyPost_ret (v := .tuple #[.agg #[.int .i64 0, .int .i64 0, .int .i64 0, .string ⟨#[]⟩, .string ⟨#[]⟩, .int .i64 0], .int .i64 0, .iface 27 (.int .i64 q)]) (by simp [results, Tryd.results82, go_sem, z0, z1, z2, z3, z4, z5]) rfl ⟨by rw [hr2.out]; unfold fillV; rw [errV_of HQ.out]; rfl, below_put6 bV (by omega)⟩
set_option maxHeartbeats 2000000 in
set_option maxRecDepth 100000 in
theorem fill3 (a b f : Int) (d e s : ByteArray) (w : World) (hs : s.size ≤ maxLen) (hg : Handle w) :
    Calls Tryd.prog 82 #[wrV a b 3 d e f, .string s] w fun r w' => r = .returned (fillV (wfill (a, b, 3, d, e, f) s)) ∧ Below w.heap.size w w' := by
  have hr := Lib.hid (show wfill (a, b, 3, d, e, f) s = if (vget s.data.toList).2.2 ≠ 0 then (noWr, 0, (vget s.data.toList).2.2) else wend (a, b, 3, d, ⟨#[]⟩, zagN (vget s.data.toList).1) (vget s.data.toList).2.1 from rfl)
  have hx : (vget s.data.toList).1 < 18446744073709551616 := by rcases vget_says s.data.toList with h | h | h | h <;> first | exact h.2.1 | (rw [h]; decide)
  have hW := WrAt.new w a b 3 d ⟨#[]⟩ 0
  have b0 := below1 w (wrO a b 3 d ⟨#[]⟩ 0)
  have hR := WrAt.new (w.alloc (wrO a b 3 d ⟨#[]⟩ 0)) 0 0 0 ⟨#[]⟩ ⟨#[]⟩ 0
  have b1 := below1 (w.alloc (wrO a b 3 d ⟨#[]⟩ 0)) (wrO 0 0 0 ⟨#[]⟩ ⟨#[]⟩ 0)
  have b01 := b0.trans (b1.mono b0.size)
  have gW := (Free6.new w a b 3 0 d ⟨#[]⟩).below (by simp) b1
  have gR := Free6.new (w.alloc (wrO a b 3 d ⟨#[]⟩ 0)) 0 0 0 0 ⟨#[]⟩ ⟨#[]⟩
  rw [World.size_alloc] at gR
  replace hW := hW.below b1
  rw [World.size_alloc] at hR
  have hg1 := hg.below b01
  clear b0 b1
  go_enter Tryd.func82, Tryd.ntmps82
  go_wp2_with fail
  generalize hWW : (w.alloc (wrO a b 3 d ⟨#[]⟩ 0)).alloc (wrO 0 0 0 ⟨#[]⟩ ⟨#[]⟩ 0) = W at *
  have hlt : w.heap.size < W.heap.size := cell_lt hW.c0
  have hlt1 : w.heap.size + 1 < W.heap.size := cell_lt hR.c0
  clear hWW
  refine (vget_any s _ hs).mono ?_
  rintro r w2 ⟨rfl, rfl⟩
  generalize vget s.data.toList = y at *
  obtain ⟨x, n, q⟩ := y
  simp only at *
  go_wp2_with fail
  refine (Zg.zag_any (x : Int) _ (by omega) (by omega)).mono ?_
  rintro r w2 ⟨rfl, rfl⟩
  rw [Zg.zag_is]
  have x5 := hW.c5
  have g5 := gW.f5
  have hV := hW.num (zagN x)
  have hVR := hR.other (C := w.heap.size) (i := 5) (by omega) (.int .i64 (zagN x))
  have bV := b01.setCell (p := ⟨w.heap.size, 5, none⟩) (Nat.le_refl _) (.int .i64 (zagN x))
  have gVR := gR.set w.heap.size 5 (.int .i64 (zagN x))
  have sV : (W.setCell ⟨w.heap.size, 5, none⟩ (.int .i64 (zagN x))).heap.size = W.heap.size := by simp
  clear hW hR gW gR
  by_cases hq : q = 0
  · subst hq
    rw [errV_zero]
    have hr2 := Lib.hid (hr.out.trans (if_neg (by simp)))
    have HV := hV
    obtain ⟨v0, v1, v2, v3, v4, v5⟩ := hV
    go_wp2_with fail
    refine (wright_any (a, b, 3, d, ⟨#[]⟩, (zagN x)) _).mono ?_
    rintro r w3 ⟨rfl, hb3⟩
    have b03 := bV.trans (hb3.mono bV.size)
    have hVR3 := hVR.below hb3
    have gVR3 := gVR.below (by first | omega | (simp; omega)) hb3
    by_cases hw : wright (a, b, 3, d, ⟨#[]⟩, (zagN x)) = 0
    · rw [hw, errV_zero]
      have hr3 := Lib.hid (hr2.out.trans (show wend (a, b, 3, d, ⟨#[]⟩, (zagN x)) n = _ from if_neg (by simp [hw])))
      have hZ := hVR3.put (a' := a) (b' := b) (c' := 3) (d' := d) (e' := ⟨#[]⟩) (f' := (zagN x))
      obtain ⟨y0, y1, y2, y3, y4, y5⟩ := HV.below hb3
      obtain ⟨u0, u1, u2, u3, u4, u5⟩ := hVR3
      obtain ⟨j0, j1, j2, j3, j4, j5⟩ := gVR3
      clear hw
      go_wp2
      unfold put6 at hZ
      obtain ⟨z0, z1, z2, z3, z4, z5⟩ := hZ
      exact bodyPost_ret (v := .tuple #[.agg #[.int .i64 a, .int .i64 b, .int .i64 3, .string d, .string ⟨#[]⟩, .int .i64 (zagN x)], .int .i64 ((n : Nat) : Int), .nilIface]) (by simp [results, Tryd.results82, go_sem, z0, z1, z2, z3, z4, z5]) rfl ⟨by rw [hr3.out]; rfl, below_put6 b03 (by omega)⟩
    · rw [errV_of hw]
      have hr3 := Lib.hid (hr2.out.trans (show wend (a, b, 3, d, ⟨#[]⟩, (zagN x)) n = _ from if_pos hw))
      have HW := Lib.hid hw
      clear hw
      have hZ := hVR3.put (a' := 0) (b' := 0) (c' := 0) (d' := ⟨#[]⟩) (e' := ⟨#[]⟩) (f' := 0)
      obtain ⟨u0, u1, u2, u3, u4, u5⟩ := hVR3
      obtain ⟨j0, j1, j2, j3, j4, j5⟩ := gVR3
      go_wp2
      unfold put6 at hZ
      obtain ⟨z0, z1, z2, z3, z4, z5⟩ := hZ
      exact bodyPost_ret (v := .tuple #[.agg #[.int .i64 0, .int .i64 0, .int .i64 0, .string ⟨#[]⟩, .string ⟨#[]⟩, .int .i64 0], .int .i64 0, .iface 27 (.int .i64 (wright (a, b, 3, d, ⟨#[]⟩, (zagN x))))]) (by simp [results, Tryd.results82, go_sem, z0, z1, z2, z3, z4, z5]) rfl ⟨by rw [hr3.out]; unfold fillV; rw [errV_of HW.out]; rfl, below_put6 b03 (by omega)⟩
  · rw [errV_of hq]
    have hr2 := Lib.hid (hr.out.trans (if_pos hq))
    have HQ := Lib.hid hq
    clear hq
    have hZ := hVR.put (a' := 0) (b' := 0) (c' := 0) (d' := ⟨#[]⟩) (e' := ⟨#[]⟩) (f' := 0)
    obtain ⟨u0, u1, u2, u3, u4, u5⟩ := hVR
    obtain ⟨j0, j1, j2, j3, j4, j5⟩ := gVR
    go_wp2
    unfold put6 at hZ
    obtain ⟨z0, z1, z2, z3, z4, z5⟩ := hZ
    exact bodyPost_ret (v := .tuple #[.agg #[.int .i64 0, .int .i64 0, .int .i64 0, .string ⟨#[]⟩, .string ⟨#[]⟩, .int .i64 0], .int .i64 0, .iface 27 (.int .i64 q)]) (by simp [results, Tryd.results82, go_sem, z0, z1, z2, z3, z4, z5]) rfl ⟨by rw [hr2.out]; unfold fillV; rw [errV_of HQ.out]; rfl, below_put6 bV (by omega)⟩
set_option maxHeartbeats 2000000 in
set_option maxRecDepth 100000 in
theorem fill0 (a b c f : Int) (d e s : ByteArray) (w : World) (hg : Handle w) (h1 : c ≠ 1) (h3 : c ≠ 3) (h4 : c ≠ 4) :
    Calls Tryd.prog 82 #[wrV a b c d e f, .string s] w fun r w' => r = .returned (fillV (wfill (a, b, c, d, e, f) s)) ∧ Below w.heap.size w w' := by
  have hr2 := Lib.hid (show wfill (a, b, c, d, e, f) s = wend (a, b, c, d, ⟨#[]⟩, 0) 0 by unfold wfill; rw [if_neg h1, if_neg h3, if_neg h4])
  have e1 : (c == 1) = false := by simpa using h1
  have e3 : (c == 3) = false := by simpa using h3
  have e4 : (c == 4) = false := by simpa using h4
  clear h1 h3 h4
  have hW := WrAt.new w a b c d ⟨#[]⟩ 0
  have b0 := below1 w (wrO a b c d ⟨#[]⟩ 0)
  have hR := WrAt.new (w.alloc (wrO a b c d ⟨#[]⟩ 0)) 0 0 0 ⟨#[]⟩ ⟨#[]⟩ 0
  have b1 := below1 (w.alloc (wrO a b c d ⟨#[]⟩ 0)) (wrO 0 0 0 ⟨#[]⟩ ⟨#[]⟩ 0)
  have b01 := b0.trans (b1.mono b0.size)
  have gW := (Free6.new w a b c 0 d ⟨#[]⟩).below (by simp) b1
  have gR := Free6.new (w.alloc (wrO a b c d ⟨#[]⟩ 0)) 0 0 0 0 ⟨#[]⟩ ⟨#[]⟩
  rw [World.size_alloc] at gR
  replace hW := hW.below b1
  rw [World.size_alloc] at hR
  have hg1 := hg.below b01
  clear b0 b1
  go_enter Tryd.func82, Tryd.ntmps82
  go_wp2_with fail
  generalize hWW : (w.alloc (wrO a b c d ⟨#[]⟩ 0)).alloc (wrO 0 0 0 ⟨#[]⟩ ⟨#[]⟩ 0) = W at *
  have hlt : w.heap.size < W.heap.size := cell_lt hW.c0
  have hlt1 : w.heap.size + 1 < W.heap.size := cell_lt hR.c0
  clear hWW
  have hV := hW
  have hVR := hR
  have gVR := gR
  have bV := b01
  have HV := hV
  refine (wright_any (a, b, c, d, ⟨#[]⟩, 0) _).mono ?_
  rintro r w3 ⟨rfl, hb3⟩
  have b03 := bV.trans (hb3.mono bV.size)
  have hVR3 := hVR.below hb3
  have gVR3 := gVR.below (by first | omega | (simp; omega)) hb3
  by_cases hw : wright (a, b, c, d, ⟨#[]⟩, 0) = 0
  · rw [hw, errV_zero]
    have hr3 := Lib.hid (hr2.out.trans (show wend (a, b, c, d, ⟨#[]⟩, 0) 0 = _ from if_neg (by simp [hw])))
    have hZ := hVR3.put (a' := a) (b' := b) (c' := c) (d' := d) (e' := ⟨#[]⟩) (f' := 0)
    obtain ⟨y0, y1, y2, y3, y4, y5⟩ := HV.below hb3
    obtain ⟨u0, u1, u2, u3, u4, u5⟩ := hVR3
    obtain ⟨j0, j1, j2, j3, j4, j5⟩ := gVR3
    clear hw
    go_wp2
    unfold put6 at hZ
    obtain ⟨z0, z1, z2, z3, z4, z5⟩ := hZ
    exact bodyPost_ret (v := .tuple #[.agg #[.int .i64 a, .int .i64 b, .int .i64 c, .string d, .string ⟨#[]⟩, .int .i64 0], .int .i64 ((0 : Nat) : Int), .nilIface]) (by simp [results, Tryd.results82, go_sem, z0, z1, z2, z3, z4, z5]) rfl ⟨by rw [hr3.out]; rfl, below_put6 b03 (by omega)⟩
  · rw [errV_of hw]
    have hr3 := Lib.hid (hr2.out.trans (show wend (a, b, c, d, ⟨#[]⟩, 0) 0 = _ from if_pos hw))
    have HW := Lib.hid hw
    clear hw
    have hZ := hVR3.put (a' := 0) (b' := 0) (c' := 0) (d' := ⟨#[]⟩) (e' := ⟨#[]⟩) (f' := 0)
    obtain ⟨u0, u1, u2, u3, u4, u5⟩ := hVR3
    obtain ⟨j0, j1, j2, j3, j4, j5⟩ := gVR3
    go_wp2
    unfold put6 at hZ
    obtain ⟨z0, z1, z2, z3, z4, z5⟩ := hZ
    exact bodyPost_ret (v := .tuple #[.agg #[.int .i64 0, .int .i64 0, .int .i64 0, .string ⟨#[]⟩, .string ⟨#[]⟩, .int .i64 0], .int .i64 0, .iface 27 (.int .i64 (wright (a, b, c, d, ⟨#[]⟩, 0)))]) (by simp [results, Tryd.results82, go_sem, z0, z1, z2, z3, z4, z5]) rfl ⟨by rw [hr3.out]; unfold fillV; rw [errV_of HW.out]; rfl, below_put6 b03 (by omega)⟩
set_option maxHeartbeats 2000000 in
set_option maxRecDepth 100000 in
theorem fill4 (a b f : Int) (d e s : ByteArray) (w : World) (hs : s.size ≤ maxLen) (hg : Handle w) :
    Calls Tryd.prog 82 #[wrV a b 4 d e f, .string s] w fun r w' => r = .returned (fillV (wfill (a, b, 4, d, e, f) s)) ∧ Below w.heap.size w w' := by
  have hr := Lib.hid (show wfill (a, b, 4, d, e, f) s = if (vint s.data.toList 1000).2.2 ≠ 0 then (noWr, 0, (vint s.data.toList 1000).2.2)
    else if (unspan (s.extract (vint s.data.toList 1000).2.1 s.size)).2.2 ≠ 0 then (noWr, 0, (unspan (s.extract (vint s.data.toList 1000).2.1 s.size)).2.2)
    else wend (a, b, 4, d, (unspan (s.extract (vint s.data.toList 1000).2.1 s.size)).1, ((vint s.data.toList 1000).1 : Int)) ((vint s.data.toList 1000).2.1 + (unspan (s.extract (vint s.data.toList 1000).2.1 s.size)).2.1) from rfl)
  have hx : (vint s.data.toList 1000).2.1 ≤ 10 ∧ (vint s.data.toList 1000).2.1 ≤ s.size := by
    rcases vint_says s.data.toList 1000 with h | ⟨e, h, _⟩
    · exact ⟨h.2.2.2.2.1, by have := h.2.2.2.2.2; simpa using this⟩
    · rw [h]; exact ⟨Nat.zero_le _, Nat.zero_le _⟩
  have hW := WrAt.new w a b 4 d ⟨#[]⟩ 0
  have b0 := below1 w (wrO a b 4 d ⟨#[]⟩ 0)
  have hR := WrAt.new (w.alloc (wrO a b 4 d ⟨#[]⟩ 0)) 0 0 0 ⟨#[]⟩ ⟨#[]⟩ 0
  have b1 := below1 (w.alloc (wrO a b 4 d ⟨#[]⟩ 0)) (wrO 0 0 0 ⟨#[]⟩ ⟨#[]⟩ 0)
  have b01 := b0.trans (b1.mono b0.size)
  have gW := (Free6.new w a b 4 0 d ⟨#[]⟩).below (by simp) b1
  have gR := Free6.new (w.alloc (wrO a b 4 d ⟨#[]⟩ 0)) 0 0 0 0 ⟨#[]⟩ ⟨#[]⟩
  rw [World.size_alloc] at gR
  replace hW := hW.below b1
  rw [World.size_alloc] at hR
  have hg1 := hg.below b01
  clear b0 b1
  go_enter Tryd.func82, Tryd.ntmps82
  go_wp2_with fail
  generalize hWW : (w.alloc (wrO a b 4 d ⟨#[]⟩ 0)).alloc (wrO 0 0 0 ⟨#[]⟩ ⟨#[]⟩ 0) = W at *
  have hlt : w.heap.size < W.heap.size := cell_lt hW.c0
  have hlt1 : w.heap.size + 1 < W.heap.size := cell_lt hR.c0
  clear hWW
  refine (vint_any s 1000 _ hs (by omega)).mono ?_
  rintro r w2 ⟨rfl, rfl⟩
  generalize vint s.data.toList 1000 = y at *
  obtain ⟨x, n, q⟩ := y
  simp only at *
  obtain ⟨hn1, hn2⟩ := hx
  have x5 := hW.c5
  have g5 := gW.f5
  have hV := hW.num (x : Int)
  have hVR := hR.other (C := w.heap.size) (i := 5) (by omega) (.int .i64 (x : Int))
  have bV := b01.setCell (p := ⟨w.heap.size, 5, none⟩) (Nat.le_refl _) (.int .i64 (x : Int))
  have gVR := gR.set w.heap.size 5 (.int .i64 (x : Int))
  have gV := gW.set w.heap.size 5 (.int .i64 (x : Int))
  have bD : Below W.heap.size W (W.setCell ⟨w.heap.size, 5, none⟩ (.int .i64 (x : Int))) ∨ True := .inr trivial
  have sV : (W.setCell ⟨w.heap.size, 5, none⟩ (.int .i64 (x : Int))).heap.size = W.heap.size := by simp
  have hgV : Handle (W.setCell ⟨w.heap.size, 5, none⟩ (.int .i64 (x : Int))) := hg.below bV
  clear hW hR gW gR bD
  by_cases hq : q = 0
  · subst hq
    rw [errV_zero]
    have hr2' := Lib.hid (hr.out.trans (if_neg (by simp)))
    clear hr
    have hss : (s.extract n s.size).size ≤ maxLen := by simp; omega
    unfold maxLen at hs
    go_wp2_with fail
    refine (spanget_any (s.extract n s.size) _ hss hgV).mono ?_
    rintro r w2 ⟨rfl, hb2⟩
    have hk : (unspan (s.extract n s.size)).2.1 ≤ 2010 := by
      rcases unspan_says (s.extract n s.size) with h | ⟨e, h, _⟩
      · exact h.2.2.2.1
      · rw [h]; exact Nat.zero_le _
    have hW2 := hV.below hb2
    have hR2 := hVR.below hb2
    have gW2 := gV.below (by rw [sV]; exact hlt) hb2
    have gR2 := gVR.below (by rw [sV]; exact hlt1) hb2
    have b02 := bV.trans (hb2.mono bV.size)
    have hlt2 : w.heap.size < w2.heap.size := cell_lt hW2.c0
    have hlt12 : w.heap.size + 1 < w2.heap.size := cell_lt hR2.c0
    clear hV hVR gV gVR bV sV hgV hlt hlt1 x5 g5
    generalize unspan (s.extract n s.size) = y at *
    obtain ⟨t, k, q2⟩ := y
    simp only at *
    have x4 := hW2.c4
    have g4 := gW2.f4
    have hV := hW2.val t
    have hVR := hR2.other (C := w.heap.size) (i := 4) (by omega) (.string t)
    have bV := b02.setCell (p := ⟨w.heap.size, 4, none⟩) (Nat.le_refl _) (.string t)
    have gVR := gR2.set w.heap.size 4 (.string t)
    have sV : (w2.setCell ⟨w.heap.size, 4, none⟩ (.string t)).heap.size = w2.heap.size := by simp
    clear hW2 hR2 gW2 gR2
    by_cases hq : q2 = 0
    · subst hq
      rw [errV_zero]
      have hr2 := Lib.hid (hr2'.out.trans (if_neg (by simp)))
      have HV := hV
      obtain ⟨v0, v1, v2, v3, v4, v5⟩ := hV
      go_wp2_with fail
      refine (wright_any (a, b, 4, d, t, (x : Int)) _).mono ?_
      rintro r w3 ⟨rfl, hb3⟩
      have b03 := bV.trans (hb3.mono bV.size)
      have hVR3 := hVR.below hb3
      have gVR3 := gVR.below (by first | omega | (simp; omega)) hb3
      by_cases hw : wright (a, b, 4, d, t, (x : Int)) = 0
      · rw [hw, errV_zero]
        have hr3 := Lib.hid (hr2.out.trans (show wend (a, b, 4, d, t, (x : Int)) (n + k) = _ from if_neg (by simp [hw])))
        have hZ := hVR3.put (a' := a) (b' := b) (c' := 4) (d' := d) (e' := t) (f' := (x : Int))
        obtain ⟨y0, y1, y2, y3, y4, y5⟩ := HV.below hb3
        obtain ⟨u0, u1, u2, u3, u4, u5⟩ := hVR3
        obtain ⟨j0, j1, j2, j3, j4, j5⟩ := gVR3
        clear hw
        go_wp2
        unfold put6 at hZ
        obtain ⟨z0, z1, z2, z3, z4, z5⟩ := hZ
        exact bodyPost_ret (v := .tuple #[.agg #[.int .i64 a, .int .i64 b, .int .i64 4, .string d, .string t, .int .i64 (x : Int)], .int .i64 (((n + k) : Nat) : Int), .nilIface]) (by simp [results, Tryd.results82, go_sem, z0, z1, z2, z3, z4, z5]) rfl ⟨by rw [hr3.out]; rfl, below_put6 b03 (by omega)⟩
      · rw [errV_of hw]
        have hr3 := Lib.hid (hr2.out.trans (show wend (a, b, 4, d, t, (x : Int)) (n + k) = _ from if_pos hw))
        have HW := Lib.hid hw
        clear hw
        have hZ := hVR3.put (a' := 0) (b' := 0) (c' := 0) (d' := ⟨#[]⟩) (e' := ⟨#[]⟩) (f' := 0)
        obtain ⟨u0, u1, u2, u3, u4, u5⟩ := hVR3
        obtain ⟨j0, j1, j2, j3, j4, j5⟩ := gVR3
        go_wp2
        unfold put6 at hZ
        obtain ⟨z0, z1, z2, z3, z4, z5⟩ := hZ
        exact bodyPost_ret (v := .tuple #[.agg #[.int .i64 0, .int .i64 0, .int .i64 0, .string ⟨#[]⟩, .string ⟨#[]⟩, .int .i64 0], .int .i64 0, .iface 27 (.int .i64 (wright (a, b, 4, d, t, (x : Int))))]) (by simp [results, Tryd.results82, go_sem, z0, z1, z2, z3, z4, z5]) rfl ⟨by rw [hr3.out]; unfold fillV; rw [errV_of HW.out]; rfl, below_put6 b03 (by omega)⟩
    · rw [errV_of hq]
      have hr2 := Lib.hid (hr2'.out.trans (if_pos hq))
      have HQ := Lib.hid hq
      clear hq
      have hZ := hVR.put (a' := 0) (b' := 0) (c' := 0) (d' := ⟨#[]⟩) (e' := ⟨#[]⟩) (f' := 0)
      obtain ⟨u0, u1, u2, u3, u4, u5⟩ := hVR
      obtain ⟨j0, j1, j2, j3, j4, j5⟩ := gVR
      go_wp2
      unfold put6 at hZ
      obtain ⟨z0, z1, z2, z3, z4, z5⟩ := hZ
      exact bodyPost_ret (v := .tuple #[.agg #[.int .i64 0, .int .i64 0, .int .i64 0, .string ⟨#[]⟩, .string ⟨#[]⟩, .int .i64 0], .int .i64 0, .iface 27 (.int .i64 q2)]) (by simp [results, Tryd.results82, go_sem, z0, z1, z2, z3, z4, z5]) rfl ⟨by rw [hr2.out]; unfold fillV; rw [errV_of HQ.out]; rfl, below_put6 bV (by omega)⟩
  · rw [errV_of hq]
    have hr2 := Lib.hid (hr.out.trans (if_pos hq))
    have HQ := Lib.hid hq
    clear hq
    have hZ := hVR.put (a' := 0) (b' := 0) (c' := 0) (d' := ⟨#[]⟩) (e' := ⟨#[]⟩) (f' := 0)
    obtain ⟨u0, u1, u2, u3, u4, u5⟩ := hVR
    obtain ⟨j0, j1, j2, j3, j4, j5⟩ := gVR
    go_wp2
    unfold put6 at hZ
    obtain ⟨z0, z1, z2, z3, z4, z5⟩ := hZ
    exact bodyPost_ret (v := .tuple #[.agg #[.int .i64 0, .int .i64 0, .int .i64 0, .string ⟨#[]⟩, .string ⟨#[]⟩, .int .i64 0], .int .i64 0, .iface 27 (.int .i64 q)]) (by simp [results, Tryd.results82, go_sem, z0, z1, z2, z3, z4, z5]) rfl ⟨by rw [hr2.out]; unfold fillV; rw [errV_of HQ.out]; rfl, below_put6 bV (by omega)⟩
theorem fill_any (x : Wr) (s : ByteArray) (w : World) (hs : s.size ≤ maxLen) (hg : Handle w) :
    Calls Tryd.prog 82 #[wrV x.1 x.2.1 x.2.2.1 x.2.2.2.1 x.2.2.2.2.1 x.2.2.2.2.2, .string s] w fun r w' => r = .returned (fillV (wfill x s)) ∧ Below w.heap.size w w' := by
  obtain ⟨a, b, c, d, e, f⟩ := x
  by_cases h1 : c = 1
  · subst h1; exact fill1 a b f d e s w hs hg
  · by_cases h3 : c = 3
    · subst h3; exact fill3 a b f d e s w hs hg
    · by_cases h4 : c = 4
      · subst h4; exact fill4 a b f d e s w hs hg
      · exact fill0 a b c f d e s w hg h1 h3 h4
end Go.Proofs.YtglemfdnfaemiaaDoor
