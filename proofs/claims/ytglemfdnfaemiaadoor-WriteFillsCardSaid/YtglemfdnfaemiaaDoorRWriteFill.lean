/- Fill of the reference says what wfill says. -/
import Derived.Test.YtglemfdnfaemiaaDoorWriteFill
import Derived.Test.YtglemfdnfaemiaaDoorRWriteRight
import Derived.Deep.RegionWith
namespace Go.Proofs.YtglemfdnfaemiaaDoor
set_option linter.unusedSimpArgs false
open Go.RowKit As
/-- What the reference's Fill returns. -/
def rfillV (r : Wr × Nat × Int) : Value := .tuple #[wrV r.1.1 r.1.2.1 r.1.2.2.1 r.1.2.2.2.1 r.1.2.2.2.2.1 r.1.2.2.2.2.2, .int .i64 (r.2.1 : Int), .int .i64 r.2.2]
-- kinds
set_option maxHeartbeats 2000000 in
set_option maxRecDepth 100000 in
theorem rfill1 (a b f : Int) (d e s : ByteArray) (w : World) (hs : s.size ≤ maxLen) :
    Calls Tryd.prog 81 #[wrV a b 1 d e f, .string s] w fun r w' => r = .returned (rfillV (wfill (a, b, 1, d, e, f) s)) ∧ Below w.heap.size w w' := by
  have hr := Lib.hid (show wfill (a, b, 1, d, e, f) s = if (unspan s).2.2 ≠ 0 then (noWr, 0, (unspan s).2.2) else wend (a, b, 1, d, (unspan s).1, 0) (unspan s).2.1 from rfl)
  have hn : (unspan s).2.1 ≤ s.size := by
    rcases unspan_says s with h | ⟨e, h, _⟩
    · exact h.2.2.1
    · rw [h]; exact Nat.zero_le _
  have hW := WrAt.new w a b 1 d ⟨#[]⟩ 0
  have b0 := below1 w (wrO a b 1 d ⟨#[]⟩ 0)
  have hR := WrAt.new (w.alloc (wrO a b 1 d ⟨#[]⟩ 0)) 0 0 0 ⟨#[]⟩ ⟨#[]⟩ 0
  have b1 := below1 (w.alloc (wrO a b 1 d ⟨#[]⟩ 0)) (wrO 0 0 0 ⟨#[]⟩ ⟨#[]⟩ 0)
  have b01 := b0.trans (b1.mono b0.size)
  have gW := (Free6.new w a b 1 0 d ⟨#[]⟩).below (by simp) b1
  have gR := Free6.new (w.alloc (wrO a b 1 d ⟨#[]⟩ 0)) 0 0 0 0 ⟨#[]⟩ ⟨#[]⟩
  rw [World.size_alloc] at gR
  replace hW := hW.below b1
  rw [World.size_alloc] at hR
  clear b0 b1
  go_enter Tryd.func81, Tryd.ntmps81
  go_wp2_with fail
  generalize hWW : (w.alloc (wrO a b 1 d ⟨#[]⟩ 0)).alloc (wrO 0 0 0 ⟨#[]⟩ ⟨#[]⟩ 0) = W at *
  have hlt : w.heap.size < W.heap.size := cell_lt hW.c0
  have hlt1 : w.heap.size + 1 < W.heap.size := cell_lt hR.c0
  clear hWW
  refine (runspan_any s _ hs).mono ?_
  rintro r w2 ⟨rfl, rfl⟩
  generalize unspan s = y at *
  obtain ⟨t, n, q⟩ := y
  simp only at *
  unfold maxLen at hs
  have hs2 : (s.size : Int) - ((s.size - n : Nat) : Int) = (n : Int) := by omega
  by_cases hq : q = 0
  · subst hq
    have hr2 := Lib.hid (hr.out.trans (if_neg (by simp)))
    have x4 := hW.c4
    have g4 := gW.f4
    have hV := hW.val t
    have hVR := hR.other (C := w.heap.size) (i := 4) (by omega) (.string t)
    have bV := b01.setCell (p := ⟨w.heap.size, 4, none⟩) (Nat.le_refl _) (.string t)
    have gVR := gR.set w.heap.size 4 (.string t)
    have sV : (W.setCell ⟨w.heap.size, 4, none⟩ (.string t)).heap.size = W.heap.size := by simp
    have hre : (s.extract n s.size).size = s.size - n := by simp
    have hsub : IntKind.i64.wrap ((s.size : Int) - ((s.extract n s.size).size : Int)) = (n : Int) := by rw [hre, IntWalk.i64_in _ (by omega)]; omega
    clear hW hR gW gR
    go_wp2_with fail
    go_region
    have dD : Below (W.setCell ⟨w.heap.size, 4, none⟩ (.string t)).heap.size (W.setCell ⟨w.heap.size, 4, none⟩ (.string t)) (W.setCell ⟨w.heap.size, 4, none⟩ (.string t)).drew := (Below.refl _ _).drew
    replace hV := hV.below dD
    replace hVR := hVR.below dD
    replace gVR := gVR.below (by rw [sV]; exact hlt1) dD
    replace bV := bV.trans (dD.mono bV.size)
    generalize (W.setCell ⟨w.heap.size, 4, none⟩ (.string t)).drew = Wq at *
    generalize s.extract n s.size = rest at *
    have hltq : w.heap.size + 1 < Wq.heap.size := cell_lt hVR.c0
    clear dD
    have HV := hV
    obtain ⟨v0, v1, v2, v3, v4, v5⟩ := hV
    go_wp2_with fail
    refine (rwright_any (a, b, 1, d, t, 0) _).mono ?_
    rintro r w3 ⟨rfl, hb3⟩
    have b03 := bV.trans (hb3.mono bV.size)
    have hVR3 := hVR.below hb3
    have gVR3 := gVR.below (by first | omega | (simp; omega)) hb3
    by_cases hw : wright (a, b, 1, d, t, 0) = 0
    · rw [hw]
      have hr3 := Lib.hid (hr2.out.trans (show wend (a, b, 1, d, t, 0) n = _ from if_neg (by simp [hw])))
      have hZ := hVR3.put (a' := a) (b' := b) (c' := 1) (d' := d) (e' := t) (f' := 0)
      obtain ⟨y0, y1, y2, y3, y4, y5⟩ := HV.below hb3
      obtain ⟨u0, u1, u2, u3, u4, u5⟩ := hVR3
      obtain ⟨j0, j1, j2, j3, j4, j5⟩ := gVR3
      clear hw
      go_wp2
      unfold put6 at hZ
      obtain ⟨z0, z1, z2, z3, z4, z5⟩ := hZ
      exact bodyPost_ret (v := .tuple #[.agg #[.int .i64 a, .int .i64 b, .int .i64 1, .string d, .string t, .int .i64 0], .int .i64 ((n : Nat) : Int), .int .i64 0]) (by simp [results, Tryd.results81, go_sem, z0, z1, z2, z3, z4, z5, hs2]) rfl ⟨by rw [hr3.out]; rfl, below_put6 b03 (by omega)⟩
    · have e7 : (wright (a, b, 1, d, t, 0) != 0) = true := by simpa using hw
      have hr3 := Lib.hid (hr2.out.trans (show wend (a, b, 1, d, t, 0) n = _ from if_pos hw))
      have HW := Lib.hid hw
      clear hw
      have hZ := hVR3.put (a' := 0) (b' := 0) (c' := 0) (d' := ⟨#[]⟩) (e' := ⟨#[]⟩) (f' := 0)
      obtain ⟨u0, u1, u2, u3, u4, u5⟩ := hVR3
      obtain ⟨j0, j1, j2, j3, j4, j5⟩ := gVR3
      go_wp2
      unfold put6 at hZ
      obtain ⟨z0, z1, z2, z3, z4, z5⟩ := hZ
      exact bodyPost_ret (v := .tuple #[.agg #[.int .i64 0, .int .i64 0, .int .i64 0, .string ⟨#[]⟩, .string ⟨#[]⟩, .int .i64 0], .int .i64 0, .int .i64 (wright (a, b, 1, d, t, 0))]) (by simp [results, Tryd.results81, go_sem, z0, z1, z2, z3, z4, z5, hs2]) rfl ⟨by rw [hr3.out]; rfl, below_put6 b03 (by omega)⟩
  · have e7 : (q != 0) = true := by simpa using hq
    have hr2 := Lib.hid (hr.out.trans (if_pos hq))
    have HQ := Lib.hid hq
    clear hq
    have hZ := hR.put (a' := 0) (b' := 0) (c' := 0) (d' := ⟨#[]⟩) (e' := ⟨#[]⟩) (f' := 0)
    obtain ⟨u0, u1, u2, u3, u4, u5⟩ := hR
    obtain ⟨j0, j1, j2, j3, j4, j5⟩ := gR
    go_wp2
    unfold put6 at hZ
    obtain ⟨z0, z1, z2, z3, z4, z5⟩ := hZ
    exact bodyPost_ret (v := .tuple #[.agg #[.int .i64 0, .int .i64 0, .int .i64 0, .string ⟨#[]⟩, .string ⟨#[]⟩, .int .i64 0], .int .i64 0, .int .i64 q]) (by simp [results, Tryd.results81, go_sem, z0, z1, z2, z3, z4, z5, hs2]) rfl ⟨by rw [hr2.out]; rfl, below_put6 b01 (by omega)⟩
set_option maxHeartbeats 2000000 in
set_option maxRecDepth 100000 in
theorem rfill3 (a b f : Int) (d e s : ByteArray) (w : World) (hs : s.size ≤ maxLen) :
    Calls Tryd.prog 81 #[wrV a b 3 d e f, .string s] w fun r w' => r = .returned (rfillV (wfill (a, b, 3, d, e, f) s)) ∧ Below w.heap.size w w' := by
  have hr := Lib.hid (show wfill (a, b, 3, d, e, f) s = if (vget s.data.toList).2.2 ≠ 0 then (noWr, 0, (vget s.data.toList).2.2) else wend (a, b, 3, d, ⟨#[]⟩, zagN (vget s.data.toList).1) (vget s.data.toList).2.1 from rfl)
  have hx : (vget s.data.toList).1 < 18446744073709551616 ∧ (vget s.data.toList).2.1 ≤ s.size := by
    rcases vget_says s.data.toList with h | h | h | h
    · exact ⟨h.2.1, by have := h.2.2.2.2; simpa using this⟩
    all_goals (rw [h]; exact ⟨by decide, Nat.zero_le _⟩)
  have hW := WrAt.new w a b 3 d ⟨#[]⟩ 0
  have b0 := below1 w (wrO a b 3 d ⟨#[]⟩ 0)
  have hR := WrAt.new (w.alloc (wrO a b 3 d ⟨#[]⟩ 0)) 0 0 0 ⟨#[]⟩ ⟨#[]⟩ 0
  have b1 := below1 (w.alloc (wrO a b 3 d ⟨#[]⟩ 0)) (wrO 0 0 0 ⟨#[]⟩ ⟨#[]⟩ 0)
  have b01 := b0.trans (b1.mono b0.size)
  have gW := (Free6.new w a b 3 0 d ⟨#[]⟩).below (by simp) b1
  have gR := Free6.new (w.alloc (wrO a b 3 d ⟨#[]⟩ 0)) 0 0 0 0 ⟨#[]⟩ ⟨#[]⟩
  rw [World.size_alloc] at gR
  replace hW := hW.below b1
  rw [World.size_alloc] at hR
  clear b0 b1
  go_enter Tryd.func81, Tryd.ntmps81
  go_wp2_with fail
  generalize hWW : (w.alloc (wrO a b 3 d ⟨#[]⟩ 0)).alloc (wrO 0 0 0 ⟨#[]⟩ ⟨#[]⟩ 0) = W at *
  have hlt : w.heap.size < W.heap.size := cell_lt hW.c0
  have hlt1 : w.heap.size + 1 < W.heap.size := cell_lt hR.c0
  clear hWW
  refine (runvary_any s _ hs).mono ?_
  rintro r w2 ⟨rfl, rfl⟩
  generalize vget s.data.toList = y at *
  obtain ⟨x, n, q⟩ := y
  simp only at *
  obtain ⟨hx, hn⟩ := hx
  unfold maxLen at hs
  have hs2 : (s.size : Int) - ((s.size - n : Nat) : Int) = (n : Int) := by omega
  by_cases hq : q = 0
  · subst hq
    have hr2 := Lib.hid (hr.out.trans (if_neg (by simp)))
    have x5 := hW.c5
    have g5 := gW.f5
    have hV := hW.num (zagN x)
    have hVR := hR.other (C := w.heap.size) (i := 5) (by omega) (.int .i64 (zagN x))
    have bV := b01.setCell (p := ⟨w.heap.size, 5, none⟩) (Nat.le_refl _) (.int .i64 (zagN x))
    have gVR := gR.set w.heap.size 5 (.int .i64 (zagN x))
    have sV : (W.setCell ⟨w.heap.size, 5, none⟩ (.int .i64 (zagN x))).heap.size = W.heap.size := by simp
    clear hW hR gW gR
    go_wp2_with fail
    go_region_with (go_at_call 115; refine (Zg.rzag_any (x : Int) _ (by omega) (by omega)).mono ?_; rintro r w2 ⟨rfl, rfl⟩; rw [Zg.zag_is])
    have dD : Below (W.setCell ⟨w.heap.size, 5, none⟩ (.int .i64 (zagN x))).heap.size (W.setCell ⟨w.heap.size, 5, none⟩ (.int .i64 (zagN x))) (W.setCell ⟨w.heap.size, 5, none⟩ (.int .i64 (zagN x))).drew := (Below.refl _ _).drew
    replace hV := hV.below dD
    replace hVR := hVR.below dD
    replace gVR := gVR.below (by rw [sV]; exact hlt1) dD
    replace bV := bV.trans (dD.mono bV.size)
    generalize (W.setCell ⟨w.heap.size, 5, none⟩ (.int .i64 (zagN x))).drew = Wq at *
    have hre : (s.extract n s.size).size = s.size - n := by simp
    generalize s.extract n s.size = rest at *
    have hltq : w.heap.size + 1 < Wq.heap.size := cell_lt hVR.c0
    clear dD
    have HV := hV
    obtain ⟨v0, v1, v2, v3, v4, v5⟩ := hV
    go_wp2_with fail
    refine (rwright_any (a, b, 3, d, ⟨#[]⟩, (zagN x)) _).mono ?_
    rintro r w3 ⟨rfl, hb3⟩
    have b03 := bV.trans (hb3.mono bV.size)
    have hVR3 := hVR.below hb3
    have gVR3 := gVR.below (by first | omega | (simp; omega)) hb3
    by_cases hw : wright (a, b, 3, d, ⟨#[]⟩, (zagN x)) = 0
    · rw [hw]
      have hr3 := Lib.hid (hr2.out.trans (show wend (a, b, 3, d, ⟨#[]⟩, (zagN x)) n = _ from if_neg (by simp [hw])))
      have hZ := hVR3.put (a' := a) (b' := b) (c' := 3) (d' := d) (e' := ⟨#[]⟩) (f' := (zagN x))
      obtain ⟨y0, y1, y2, y3, y4, y5⟩ := HV.below hb3
      obtain ⟨u0, u1, u2, u3, u4, u5⟩ := hVR3
      obtain ⟨j0, j1, j2, j3, j4, j5⟩ := gVR3
      clear hw
      go_wp2
      unfold put6 at hZ
      obtain ⟨z0, z1, z2, z3, z4, z5⟩ := hZ
      exact bodyPost_ret (v := .tuple #[.agg #[.int .i64 a, .int .i64 b, .int .i64 3, .string d, .string ⟨#[]⟩, .int .i64 (zagN x)], .int .i64 ((n : Nat) : Int), .int .i64 0]) (by simp [results, Tryd.results81, go_sem, z0, z1, z2, z3, z4, z5, hs2]) rfl ⟨by rw [hr3.out]; rfl, below_put6 b03 (by omega)⟩
    · have e7 : (wright (a, b, 3, d, ⟨#[]⟩, (zagN x)) != 0) = true := by simpa using hw
      have hr3 := Lib.hid (hr2.out.trans (show wend (a, b, 3, d, ⟨#[]⟩, (zagN x)) n = _ from if_pos hw))
      have HW := Lib.hid hw
      clear hw
      have hZ := hVR3.put (a' := 0) (b' := 0) (c' := 0) (d' := ⟨#[]⟩) (e' := ⟨#[]⟩) (f' := 0)
      obtain ⟨u0, u1, u2, u3, u4, u5⟩ := hVR3
      obtain ⟨j0, j1, j2, j3, j4, j5⟩ := gVR3
      go_wp2
      unfold put6 at hZ
      obtain ⟨z0, z1, z2, z3, z4, z5⟩ := hZ
      exact bodyPost_ret (v := .tuple #[.agg #[.int .i64 0, .int .i64 0, .int .i64 0, .string ⟨#[]⟩, .string ⟨#[]⟩, .int .i64 0], .int .i64 0, .int .i64 (wright (a, b, 3, d, ⟨#[]⟩, (zagN x)))]) (by simp [results, Tryd.results81, go_sem, z0, z1, z2, z3, z4, z5, hs2]) rfl ⟨by rw [hr3.out]; rfl, below_put6 b03 (by omega)⟩
  · have e7 : (q != 0) = true := by simpa using hq
    have hr2 := Lib.hid (hr.out.trans (if_pos hq))
    have HQ := Lib.hid hq
    clear hq
    have hZ := hR.put (a' := 0) (b' := 0) (c' := 0) (d' := ⟨#[]⟩) (e' := ⟨#[]⟩) (f' := 0)
    obtain ⟨u0, u1, u2, u3, u4, u5⟩ := hR
    obtain ⟨j0, j1, j2, j3, j4, j5⟩ := gR
    go_wp2
    unfold put6 at hZ
    obtain ⟨z0, z1, z2, z3, z4, z5⟩ := hZ
    exact bodyPost_ret (v := .tuple #[.agg #[.int .i64 0, .int .i64 0, .int .i64 0, .string ⟨#[]⟩, .string ⟨#[]⟩, .int .i64 0], .int .i64 0, .int .i64 q]) (by simp [results, Tryd.results81, go_sem, z0, z1, z2, z3, z4, z5, hs2]) rfl ⟨by rw [hr2.out]; rfl, below_put6 b01 (by omega)⟩
set_option maxHeartbeats 2000000 in
set_option maxRecDepth 100000 in
theorem rfill0 (a b c f : Int) (d e s : ByteArray) (w : World) (h1 : c ≠ 1) (h3 : c ≠ 3) (h4 : c ≠ 4) :
    Calls Tryd.prog 81 #[wrV a b c d e f, .string s] w fun r w' => r = .returned (rfillV (wfill (a, b, c, d, e, f) s)) ∧ Below w.heap.size w w' := by
  have hr2 := Lib.hid (show wfill (a, b, c, d, e, f) s = wend (a, b, c, d, ⟨#[]⟩, 0) 0 by unfold wfill; rw [if_neg h1, if_neg h3, if_neg h4])
  have e1 : (c == 1) = false := by simpa using h1
  have e3 : (c == 3) = false := by simpa using h3
  have e4 : (c == 4) = false := by simpa using h4
  clear h1 h3 h4
  have hW := WrAt.new w a b c d ⟨#[]⟩ 0
  have b0 := below1 w (wrO a b c d ⟨#[]⟩ 0)
  have hR := WrAt.new (w.alloc (wrO a b c d ⟨#[]⟩ 0)) 0 0 0 ⟨#[]⟩ ⟨#[]⟩ 0
  have b1 := below1 (w.alloc (wrO a b c d ⟨#[]⟩ 0)) (wrO 0 0 0 ⟨#[]⟩ ⟨#[]⟩ 0)
  have b01 := b0.trans (b1.mono b0.size)
  have gW := (Free6.new w a b c 0 d ⟨#[]⟩).below (by simp) b1
  have gR := Free6.new (w.alloc (wrO a b c d ⟨#[]⟩ 0)) 0 0 0 0 ⟨#[]⟩ ⟨#[]⟩
  rw [World.size_alloc] at gR
  replace hW := hW.below b1
  rw [World.size_alloc] at hR
  clear b0 b1
  go_enter Tryd.func81, Tryd.ntmps81
  go_wp2_with fail
  generalize hWW : (w.alloc (wrO a b c d ⟨#[]⟩ 0)).alloc (wrO 0 0 0 ⟨#[]⟩ ⟨#[]⟩ 0) = W at *
  have hlt : w.heap.size < W.heap.size := cell_lt hW.c0
  have hlt1 : w.heap.size + 1 < W.heap.size := cell_lt hR.c0
  clear hWW
  have hV := hW
  have hVR := hR
  have gVR := gR
  have bV := b01
  have HV := hV
  refine (rwright_any (a, b, c, d, ⟨#[]⟩, 0) _).mono ?_
  rintro r w3 ⟨rfl, hb3⟩
  have b03 := bV.trans (hb3.mono bV.size)
  have hVR3 := hVR.below hb3
  have gVR3 := gVR.below (by first | omega | (simp; omega)) hb3
  by_cases hw : wright (a, b, c, d, ⟨#[]⟩, 0) = 0
  · rw [hw]
    have hr3 := Lib.hid (hr2.out.trans (show wend (a, b, c, d, ⟨#[]⟩, 0) 0 = _ from if_neg (by simp [hw])))
    have hZ := hVR3.put (a' := a) (b' := b) (c' := c) (d' := d) (e' := ⟨#[]⟩) (f' := 0)
    obtain ⟨y0, y1, y2, y3, y4, y5⟩ := HV.below hb3
    obtain ⟨u0, u1, u2, u3, u4, u5⟩ := hVR3
    obtain ⟨j0, j1, j2, j3, j4, j5⟩ := gVR3
    clear hw
    go_wp2
    unfold put6 at hZ
    obtain ⟨z0, z1, z2, z3, z4, z5⟩ := hZ
    exact bodyPost_ret (v := .tuple #[.agg #[.int .i64 a, .int .i64 b, .int .i64 c, .string d, .string ⟨#[]⟩, .int .i64 0], .int .i64 ((0 : Nat) : Int), .int .i64 0]) (by simp [results, Tryd.results81, go_sem, z0, z1, z2, z3, z4, z5]) rfl ⟨by rw [hr3.out]; rfl, below_put6 b03 (by omega)⟩
  · have e7 : (wright (a, b, c, d, ⟨#[]⟩, 0) != 0) = true := by simpa using hw
    have hr3 := Lib.hid (hr2.out.trans (show wend (a, b, c, d, ⟨#[]⟩, 0) 0 = _ from if_pos hw))
    have HW := Lib.hid hw
    clear hw
    have hZ := hVR3.put (a' := 0) (b' := 0) (c' := 0) (d' := ⟨#[]⟩) (e' := ⟨#[]⟩) (f' := 0)
    obtain ⟨u0, u1, u2, u3, u4, u5⟩ := hVR3
    obtain ⟨j0, j1, j2, j3, j4, j5⟩ := gVR3
    go_wp2
    unfold put6 at hZ
    obtain ⟨z0, z1, z2, z3, z4, z5⟩ := hZ
    exact bodyPost_ret (v := .tuple #[.agg #[.int .i64 0, .int .i64 0, .int .i64 0, .string ⟨#[]⟩, .string ⟨#[]⟩, .int .i64 0], .int .i64 0, .int .i64 (wright (a, b, c, d, ⟨#[]⟩, 0))]) (by simp [results, Tryd.results81, go_sem, z0, z1, z2, z3, z4, z5]) rfl ⟨by rw [hr3.out]; rfl, below_put6 b03 (by omega)⟩
set_option maxHeartbeats 2000000 in
set_option maxRecDepth 100000 in
theorem rfill4 (a b f : Int) (d e s : ByteArray) (w : World) (hs : s.size ≤ maxLen) :
    Calls Tryd.prog 81 #[wrV a b 4 d e f, .string s] w fun r w' => r = .returned (rfillV (wfill (a, b, 4, d, e, f) s)) ∧ Below w.heap.size w w' := by
  have hr := Lib.hid (show wfill (a, b, 4, d, e, f) s = if (vint s.data.toList 1000).2.2 ≠ 0 then (noWr, 0, (vint s.data.toList 1000).2.2)
    else if (unspan (s.extract (vint s.data.toList 1000).2.1 s.size)).2.2 ≠ 0 then (noWr, 0, (unspan (s.extract (vint s.data.toList 1000).2.1 s.size)).2.2)
    else wend (a, b, 4, d, (unspan (s.extract (vint s.data.toList 1000).2.1 s.size)).1, ((vint s.data.toList 1000).1 : Int)) ((vint s.data.toList 1000).2.1 + (unspan (s.extract (vint s.data.toList 1000).2.1 s.size)).2.1) from rfl)
  have hx : (vint s.data.toList 1000).2.1 ≤ s.size := by
    rcases vint_says s.data.toList 1000 with h | ⟨e, h, _⟩
    · have := h.2.2.2.2.2; simpa using this
    · rw [h]; exact Nat.zero_le _
  have hW := WrAt.new w a b 4 d ⟨#[]⟩ 0
  have b0 := below1 w (wrO a b 4 d ⟨#[]⟩ 0)
  have hR := WrAt.new (w.alloc (wrO a b 4 d ⟨#[]⟩ 0)) 0 0 0 ⟨#[]⟩ ⟨#[]⟩ 0
  have b1 := below1 (w.alloc (wrO a b 4 d ⟨#[]⟩ 0)) (wrO 0 0 0 ⟨#[]⟩ ⟨#[]⟩ 0)
  have b01 := b0.trans (b1.mono b0.size)
  have gW := (Free6.new w a b 4 0 d ⟨#[]⟩).below (by simp) b1
  have gR := Free6.new (w.alloc (wrO a b 4 d ⟨#[]⟩ 0)) 0 0 0 0 ⟨#[]⟩ ⟨#[]⟩
  rw [World.size_alloc] at gR
  replace hW := hW.below b1
  rw [World.size_alloc] at hR
  clear b0 b1
  go_enter Tryd.func81, Tryd.ntmps81
  go_wp2_with fail
  generalize hWW : (w.alloc (wrO a b 4 d ⟨#[]⟩ 0)).alloc (wrO 0 0 0 ⟨#[]⟩ ⟨#[]⟩ 0) = W at *
  have hlt : w.heap.size < W.heap.size := cell_lt hW.c0
  have hlt1 : w.heap.size + 1 < W.heap.size := cell_lt hR.c0
  clear hWW
  refine (rvint_any s 1000 _ hs (by omega)).mono ?_
  rintro r w2 ⟨rfl, rfl⟩
  generalize vint s.data.toList 1000 = y at *
  obtain ⟨x, n, q⟩ := y
  simp only at *
  unfold maxLen at hs
  by_cases hq : q = 0
  · subst hq
    have hr2' := Lib.hid (hr.out.trans (if_neg (by simp)))
    clear hr
    have x5 := hW.c5
    have g5 := gW.f5
    have hV := hW.num (x : Int)
    have hVR := hR.other (C := w.heap.size) (i := 5) (by omega) (.int .i64 (x : Int))
    have bV := b01.setCell (p := ⟨w.heap.size, 5, none⟩) (Nat.le_refl _) (.int .i64 (x : Int))
    have gVR := gR.set w.heap.size 5 (.int .i64 (x : Int))
    have gV := gW.set w.heap.size 5 (.int .i64 (x : Int))
    have sV : (W.setCell ⟨w.heap.size, 5, none⟩ (.int .i64 (x : Int))).heap.size = W.heap.size := by simp
    clear hW hR gW gR
    go_wp2_with fail
    go_region
    have dD : Below (W.setCell ⟨w.heap.size, 5, none⟩ (.int .i64 (x : Int))).heap.size (W.setCell ⟨w.heap.size, 5, none⟩ (.int .i64 (x : Int))) (W.setCell ⟨w.heap.size, 5, none⟩ (.int .i64 (x : Int))).drew := (Below.refl _ _).drew
    replace hV := hV.below dD
    replace hVR := hVR.below dD
    replace gVR := gVR.below (by rw [sV]; exact hlt1) dD
    replace gV := gV.below (by rw [sV]; exact hlt) dD
    replace bV := bV.trans (dD.mono bV.size)
    generalize (W.setCell ⟨w.heap.size, 5, none⟩ (.int .i64 (x : Int))).drew = Wq at *
    have hre : (s.extract n s.size).size = s.size - n := by simp
    generalize s.extract n s.size = rest at *
    have hltq : w.heap.size + 1 < Wq.heap.size := cell_lt hVR.c0
    clear dD sV
    obtain ⟨v0, v1, v2, v3, v4, v5⟩ := id hV
    go_wp2_with fail
    refine (runspan_any rest _ (by unfold maxLen; omega)).mono ?_
    rintro r w2 ⟨rfl, rfl⟩
    clear v0 v1 v2 v3 v4 v5
    have hn : (unspan rest).2.1 ≤ rest.size := by
      rcases unspan_says rest with h | ⟨e, h, _⟩
      · exact h.2.2.1
      · rw [h]; exact Nat.zero_le _
    generalize unspan rest = y at *
    obtain ⟨t, k, q2⟩ := y
    simp only at *
    have hs2 : (s.size : Int) - ((s.size - n - k : Nat) : Int) = (n : Int) + (k : Int) := by omega
    by_cases hq2 : q2 = 0
    · subst hq2
      have hr2 := Lib.hid (hr2'.out.trans (if_neg (by simp)))
      have x4 := hV.c4
      have g4 := gV.f4
      have hV2 := hV.val t
      have hVR2 := hVR.other (C := w.heap.size) (i := 4) (by omega) (.string t)
      have bV2 := bV.setCell (p := ⟨w.heap.size, 4, none⟩) (Nat.le_refl _) (.string t)
      have gVR2 := gVR.set w.heap.size 4 (.string t)
      have sV2 : (Wq.setCell ⟨w.heap.size, 4, none⟩ (.string t)).heap.size = Wq.heap.size := by simp
      clear hV hVR gVR gV
      go_wp2_with fail
      go_region
      have dD : Below (Wq.setCell ⟨w.heap.size, 4, none⟩ (.string t)).heap.size (Wq.setCell ⟨w.heap.size, 4, none⟩ (.string t)) (Wq.setCell ⟨w.heap.size, 4, none⟩ (.string t)).drew := (Below.refl _ _).drew
      have hV := hV2.below dD
      have hVR := hVR2.below dD
      have gVR := gVR2.below (by rw [sV2]; exact hltq) dD
      replace bV := bV2.trans (dD.mono bV2.size)
      generalize (Wq.setCell ⟨w.heap.size, 4, none⟩ (.string t)).drew = Wr at *
      have hre2 : (rest.extract k rest.size).size = rest.size - k := by simp
      generalize rest.extract k rest.size = rest2 at *
      have hltr : w.heap.size + 1 < Wr.heap.size := cell_lt hVR.c0
      clear dD hV2 hVR2 gVR2 bV2
      have HV := hV
      obtain ⟨v0, v1, v2, v3, v4, v5⟩ := hV
      go_wp2_with fail
      refine (rwright_any (a, b, 4, d, t, (x : Int)) _).mono ?_
      rintro r w3 ⟨rfl, hb3⟩
      have b03 := bV.trans (hb3.mono bV.size)
      have hVR3 := hVR.below hb3
      have gVR3 := gVR.below (by first | omega | (simp; omega)) hb3
      by_cases hw : wright (a, b, 4, d, t, (x : Int)) = 0
      · rw [hw]
        have hr3 := Lib.hid (hr2.out.trans (show wend (a, b, 4, d, t, (x : Int)) (n + k) = _ from if_neg (by simp [hw])))
        have hZ := hVR3.put (a' := a) (b' := b) (c' := 4) (d' := d) (e' := t) (f' := (x : Int))
        obtain ⟨y0, y1, y2, y3, y4, y5⟩ := HV.below hb3
        obtain ⟨u0, u1, u2, u3, u4, u5⟩ := hVR3
        obtain ⟨j0, j1, j2, j3, j4, j5⟩ := gVR3
        clear hw
        go_wp2
        unfold put6 at hZ
        obtain ⟨z0, z1, z2, z3, z4, z5⟩ := hZ
        exact bodyPost_ret (v := .tuple #[.agg #[.int .i64 a, .int .i64 b, .int .i64 4, .string d, .string t, .int .i64 (x : Int)], .int .i64 (((n + k) : Nat) : Int), .int .i64 0]) (by simp [results, Tryd.results81, go_sem, z0, z1, z2, z3, z4, z5, hs2]) rfl ⟨by rw [hr3.out]; rfl, below_put6 b03 (by omega)⟩
      · have e7 : (wright (a, b, 4, d, t, (x : Int)) != 0) = true := by simpa using hw
        have hr3 := Lib.hid (hr2.out.trans (show wend (a, b, 4, d, t, (x : Int)) (n + k) = _ from if_pos hw))
        have HW := Lib.hid hw
        clear hw
        have hZ := hVR3.put (a' := 0) (b' := 0) (c' := 0) (d' := ⟨#[]⟩) (e' := ⟨#[]⟩) (f' := 0)
        obtain ⟨u0, u1, u2, u3, u4, u5⟩ := hVR3
        obtain ⟨j0, j1, j2, j3, j4, j5⟩ := gVR3
        go_wp2
        unfold put6 at hZ
        obtain ⟨z0, z1, z2, z3, z4, z5⟩ := hZ
        exact bodyPost_ret (v := .tuple #[.agg #[.int .i64 0, .int .i64 0, .int .i64 0, .string ⟨#[]⟩, .string ⟨#[]⟩, .int .i64 0], .int .i64 0, .int .i64 (wright (a, b, 4, d, t, (x : Int)))]) (by simp [results, Tryd.results81, go_sem, z0, z1, z2, z3, z4, z5, hs2]) rfl ⟨by rw [hr3.out]; rfl, below_put6 b03 (by omega)⟩
    · have e7 : (q2 != 0) = true := by simpa using hq2
      have hr2 := Lib.hid (hr2'.out.trans (if_pos hq2))
      have HQ := Lib.hid hq2
      clear hq2
      have hZ := hVR.put (a' := 0) (b' := 0) (c' := 0) (d' := ⟨#[]⟩) (e' := ⟨#[]⟩) (f' := 0)
      obtain ⟨u0, u1, u2, u3, u4, u5⟩ := hVR
      obtain ⟨j0, j1, j2, j3, j4, j5⟩ := gVR
      go_wp2
      unfold put6 at hZ
      obtain ⟨z0, z1, z2, z3, z4, z5⟩ := hZ
      exact bodyPost_ret (v := .tuple #[.agg #[.int .i64 0, .int .i64 0, .int .i64 0, .string ⟨#[]⟩, .string ⟨#[]⟩, .int .i64 0], .int .i64 0, .int .i64 q2]) (by simp [results, Tryd.results81, go_sem, z0, z1, z2, z3, z4, z5, hs2]) rfl ⟨by rw [hr2.out]; rfl, below_put6 bV (by omega)⟩
  · have e7 : (q != 0) = true := by simpa using hq
    have hr2 := Lib.hid (hr.out.trans (if_pos hq))
    have HQ := Lib.hid hq
    clear hq
    have hZ := hR.put (a' := 0) (b' := 0) (c' := 0) (d' := ⟨#[]⟩) (e' := ⟨#[]⟩) (f' := 0)
    obtain ⟨u0, u1, u2, u3, u4, u5⟩ := hR
    obtain ⟨j0, j1, j2, j3, j4, j5⟩ := gR
    go_wp2
    unfold put6 at hZ
    obtain ⟨z0, z1, z2, z3, z4, z5⟩ := hZ
    exact bodyPost_ret (v := .tuple #[.agg #[.int .i64 0, .int .i64 0, .int .i64 0, .string ⟨#[]⟩, .string ⟨#[]⟩, .int .i64 0], .int .i64 0, .int .i64 q]) (by simp [results, Tryd.results81, go_sem, z0, z1, z2, z3, z4, z5]) rfl ⟨by rw [hr2.out]; rfl, below_put6 b01 (by omega)⟩
theorem rfill_any (x : Wr) (s : ByteArray) (w : World) (hs : s.size ≤ maxLen) :
    Calls Tryd.prog 81 #[wrV x.1 x.2.1 x.2.2.1 x.2.2.2.1 x.2.2.2.2.1 x.2.2.2.2.2, .string s] w fun r w' => r = .returned (rfillV (wfill x s)) ∧ Below w.heap.size w w' := by
  obtain ⟨a, b, c, d, e, f⟩ := x
  by_cases h1 : c = 1
  · subst h1; exact rfill1 a b f d e s w hs
  · by_cases h3 : c = 3
    · subst h3; exact rfill3 a b f d e s w hs
    · by_cases h4 : c = 4
      · subst h4; exact rfill4 a b f d e s w hs
      · exact rfill0 a b c f d e s w h1 h3 h4
end Go.Proofs.YtglemfdnfaemiaaDoor
