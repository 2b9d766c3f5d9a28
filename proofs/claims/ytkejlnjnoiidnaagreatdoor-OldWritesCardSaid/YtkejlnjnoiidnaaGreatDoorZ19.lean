/- Slices of entries as arguments, with what they have room for.

Batches as arguments, with what their vectors have room for.

The law's own function big: how much a batch has.

The law OldWrites returns true and changes nothing. -/
import Derived.Test.YtkejlnjnoiidnaaGreatDoorZ18
import Derived.Test.YtkejlnjnoiidnaaGreatDoorZ1
section
namespace Go.Proofs.YtkejlnjnoiidnaaGreatDoor
set_option maxRecDepth 100000
open Go.ChangeShapes Go.WideShapes Go.ChangeAt Go.RowKit
section
variable {H : Type} {enc : TypeId × Value → H} {w : World} {base : Nat} {spare : Nat → Bool} {held : Bool}
theorem slice_room {t e : TypeId} {A : Option Addr} {n c : Nat} {d : DataW H} {p : List MemPlace} {P : Program} (ht : P.underlying t = some (.slice e)) (h : DataW.Trod enc P w base spare held t (.slice A n c) d p) : n ≤ c := by
  obtain ⟨fuel, hf⟩ := h
  rcases Go.Deep.open_slice ht hf with ⟨h1, _⟩ | ⟨a, n', c', m, k, D, Pl, hcs, _, hl, _⟩
  · simp [Value.cells] at h1
    omega
  · simp [Value.cells] at hcs
    omega
theorem bytesEnt : Tryz.prog.bytesOf 79 = 16 := by kernel_rfl
theorem open_ents_r {r : Reach} {b0 : Nat} {v : Value} {d : DataW H} {p : List MemPlace} (hv : Value.okWide Tryz.prog w r b0 22 v) (h : DataW.Trod enc Tryz.prog w base spare held 22 v d p) (hs : Small Tryz.prog 22 d) :
    ∃ a : EntArg, v = .slice a.A a.n a.c ∧ (Ents w w.heap.size a.A a.n a.l ∧ a.n * 16 ≤ 140737488351232 ∧ a.n ≤ a.c) := by
  obtain ⟨A, n, c, l, rfl, hn, hl, hsl, ho⟩ := open_elems_r entCells 2 (by omega) entCells_len entFits 16 Tryz.underlying22 cellsEnt bytesEnt hs (fun cs m y hy _ => open_ent cs m y hy) hv h
  exact ⟨⟨A, n, c, l⟩, rfl, ⟨hsl, ho⟩, hn, slice_room Tryz.underlying22 h⟩
end
end Go.Proofs.YtkejlnjnoiidnaaGreatDoor
end

section
namespace Go.Proofs.YtkejlnjnoiidnaaGreatDoor
set_option maxRecDepth 100000
open Go.ChangeShapes Go.WideShapes Go.ChangeAt Go.RowKit
section
variable {H : Type} {enc : TypeId × Value → H} {w : World} {base : Nat} {spare : Nat → Bool} {held : Bool}
theorem room_at {t e : TypeId} {A : Option Addr} {n c m : Nat} {P : Program} {y : DataW H × List MemPlace} (ht : P.underlying t = some (.slice e)) (h : DataW.trod enc P w base spare held m t [.slice A n c] = some y) : n ≤ c := by
  rcases Go.Deep.open_slice ht h with ⟨h1, _⟩ | ⟨a, n', c', m, k, D, Pl, hcs, _, hl, _⟩
  · simp at h1
    omega
  · simp at hcs
    omega
theorem open_bat_c {r : Reach} {b0 : Nat} {v : Value} {d : DataW H} {p : List MemPlace} (hv : Value.okWide Tryz.prog w r b0 25 v) (h : DataW.Trod enc Tryz.prog w base spare held 25 v d p) :
    ∃ b : BatArg, v = b.v ∧ (Bat w b ∧ BatFits b ∧ b.n ≤ b.c ∧ b.n' ≤ b.c') := by
  obtain ⟨b, rfl, hb, hf⟩ := open_bat hv h
  refine ⟨b, rfl, hb, hf, ?_⟩
  obtain ⟨fuel, hfu⟩ := h
  obtain ⟨hcl, hg⟩ := fielded Tryz.underlying25 hfu
  obtain ⟨m0, y0, t0⟩ := field_sub hg 0 0 22 1 rfl rfl rfl cellsEntsT
  obtain ⟨m1, y1, t1⟩ := field_sub hg 1 1 22 1 rfl rfl rfl cellsEntsT
  exact ⟨room_at Tryz.underlying22 t0, room_at Tryz.underlying22 t1⟩
end
end Go.Proofs.YtkejlnjnoiidnaaGreatDoor
end

section
namespace Go.Proofs.YtkejlnjnoiidnaaGreatDoor
open Go.RowKit
theorem below1' (w : World) (o : Obj) : Below w.heap.size w (w.alloc o) := (Below.refl _ _).alloc (Nat.le_refl _) o
def bigStep (z : Int) (x : Wr) : Int := wrap64 (z + wrap64 ((wrap64 ((x.2.2.2.1.size : Int) + (x.2.2.2.2.1.size : Int))).tdiv 8))
def bigN (z : Int) (l : List Wr) : Int := l.foldl bigStep z
theorem bigN_take (z : Int) (k : Nat) (l : List Wr) (x : Wr) (h : l[k]? = some x) : bigN z (l.take (k + 1)) = bigStep (bigN z (l.take k)) x := by
  have hk : k < l.length := (List.getElem?_eq_some_iff.1 h).1
  rw [List.take_succ_eq_append_getElem hk]
  rw [List.getElem?_eq_getElem hk] at h
  injection h with h
  simp only [bigN, List.foldl_append, List.foldl_cons, List.foldl_nil, h]
theorem bigN_0 (z : Int) (l : List Wr) : bigN z (l.take 0) = z := by simp only [bigN, List.take_zero, List.foldl_nil]
theorem bigStep_eq (z : Int) (x : Wr) : bigStep z x = wrap64 (z + wrap64 ((wrap64 ((x.2.2.2.1.size : Int) + (x.2.2.2.2.1.size : Int))).tdiv 8)) := by simp only [bigStep]
def bigZ (n n' n'' : Nat) : Int := wrap64 (wrap64 ((n : Int) + (n' : Int)) + (n'' : Int))
theorem bigZ_eq (n n' n'' : Nat) : wrap64 (wrap64 ((n : Int) + (n' : Int)) + (n'' : Int)) = bigZ n n' n'' := by simp only [bigZ]
def bigB (n n' n'' : Nat) (l : List Wr) : Bool := decide (300 < bigN (bigZ n n' n'') l)
theorem big_any (A A' A'' : Option Addr) (n n' n'' c c' c'' : Nat) (l : List Wr) (w : World) (h : Sl w w.heap.size 6 A'' n'' (l.flatMap wrCells)) (hn'' : n'' ≤ maxLen) :
    Calls Tryz.prog 8 #[.agg #[.slice A n c, .slice A' n' c', .slice A'' n'' c'']] w fun e w' => e = .returned (.bool (bigB n n' n'' l)) ∧ Below w.heap.size w w' := by
  unfold maxLen at hn''
  have hl := Lib.hid (slk_len wrCells 6 (by omega) (fun _ => rfl) h)
  have hz := bigZ_eq n n' n''
  have hB : Hid (bigB n n' n'' l = decide (300 < bigN (bigZ n n' n'') l)) := Lib.hid (by simp only [bigB])
  generalize bigZ n n' n'' = z0 at *
  generalize bigB n n' n'' l = bb at *
  go_enter Tryz.func8, Tryz.ntmps8
  go_wp2
  go_loopw [3, 5, 20] (fun v _ i wr => (∃ k : Nat, k ≤ n'' ∧ i = .int .i64 k ∧ v = .int .i64 (bigN z0 (l.take k))) ∧ Below w.heap.size w wr) (fun _ _ i _ => n'' - (intOf i).toNat)
  case atStart => exact ⟨⟨0, by omega, rfl, valI (hz.trans (bigN_0 _ _).symm)⟩, below1' _ _⟩
  case round =>
    obtain ⟨⟨k, hk, rfl, rfl⟩, hbel⟩ := hrel
    clear hz
    by_cases hlt : k < n''
    · obtain ⟨b, o, x, rfl, hb, hx, hc⟩ := slk_at wrCells 6 (fun _ => rfl) h hl.out hlt
      obtain ⟨a1, a2, a3, a4, a5, a6⟩ := x
      have c0 := (hbel.cell (p := ⟨b, _, none⟩) hb).trans (hc 0 _ rfl)
      have c1 := (hbel.cell (p := ⟨b, _, none⟩) hb).trans (hc 1 _ rfl)
      have c2 := (hbel.cell (p := ⟨b, _, none⟩) hb).trans (hc 2 _ rfl)
      have c3 := (hbel.cell (p := ⟨b, _, none⟩) hb).trans (hc 3 _ rfl)
      have c4 := (hbel.cell (p := ⟨b, _, none⟩) hb).trans (hc 4 _ rfl)
      have c5 := (hbel.cell (p := ⟨b, _, none⟩) hb).trans (hc 5 _ rfl)
      simp only [Nat.add_zero] at c0
      have hsz := hbel.size
      have hst := Lib.hid (bigN_take z0 k l _ hx)
      clear hc h hx
      go_wp2_with fail
      go_roundw
      case rel => exact ⟨⟨k + 1, by omega, by go_num, by rw [hst.out, bigStep_eq]⟩, hbel.alloc hsz _⟩
      case measure => simp [intOf]; omega
    · obtain rfl : k = n'' := by omega
      have htk : l.take k = l := List.take_of_length_le (by rw [hl.out]; exact Nat.le_refl _)
      rw [htk]
      go_wp2_with fail
      go_ret
      exact ⟨by rw [hB.out]; rfl, hbel⟩
theorem big_is (A A' A'' : Option Addr) (n n' n'' c c' c'' : Nat) (l : List Wr) (w : World) (h : Sl w w.heap.size 6 A'' n'' (l.flatMap wrCells)) (hn'' : n'' ≤ maxLen) {x : Bool} (hx : bigB n n' n'' l = x) :
    Calls Tryz.prog 8 #[.agg #[.slice A n c, .slice A' n' c', .slice A'' n'' c'']] w fun e w' => e = .returned (.bool x) ∧ Below w.heap.size w w' := by
  rw [← hx]
  exact big_any A A' A'' n n' n'' c c' c'' l w h hn''
end Go.Proofs.YtkejlnjnoiidnaaGreatDoor
end

section
namespace Go.Proofs.YtkejlnjnoiidnaaGreatDoor
set_option linter.unusedSimpArgs false
open Go.RowKit As
set_option maxHeartbeats 2000000 in
set_option maxRecDepth 100000 in
theorem walkOldWrites (a : BatArg) (w : World) (ha : Bat w a ∧ BatFits a ∧ a.n ≤ a.c ∧ a.n' ≤ a.c') (hg : Handle w) :
    Calls Tryz.prog 3 #[a.v] w fun e w' => e = .returned (.bool true) ∧ Below w.heap.size w w' := by
  obtain ⟨hb, hfit, hcf, hch⟩ := ha
  have hbx := BxAt.new w a
  have b0 := below1 w (.cells #[.slice a.A a.n a.c, .slice a.A' a.n' a.c', .slice a.A'' a.n'' a.c''] 25)
  have hb0 := hb.grow b0
  obtain ⟨q0, q1, q2⟩ := hbx
  unfold BatArg.v
  go_enter Tryz.func3, Tryz.ntmps3
  go_wp2_with fail
  refine (big_any a.A a.A' a.A'' a.n a.n' a.n'' a.c a.c' a.c'' a.l _ hb0.l hb0.nl).mono ?_
  rintro e w1 ⟨rfl, hb1⟩
  have b1 := b0.trans (hb1.mono b0.size)
  have hB1 := hb0.grow hb1
  replace q0 := (hb1.cell (cell_lt q0)).trans q0
  replace q1 := (hb1.cell (cell_lt q1)).trans q1
  replace q2 := (hb1.cell (cell_lt q2)).trans q2
  cases hbb : bigB a.n a.n' a.n'' a.l with
  | true =>
    clear hbb
    go_wp2
    go_ret
    exact ⟨rfl, b1⟩
  | false =>
    clear hbb
    go_wp2_with fail
    refine (rfirst_any _ a hB1 hfit.f hfit.h).mono ?_
    rintro e w2 ⟨rfl, hb2⟩
    unfold faultV
    generalize hY : firstOf a.f a.h a.l = y
    have HY1 := Lib.hid hY
    clear hY
    obtain ⟨t1, q1', p1⟩ := y
    have bT1 := below1 w2 (.cells #[.int .i64 q1', .int .i64 p1] 29)
    have T1 := Two.new w2 q1' p1 29
    have hbb1 := hb2.trans (bT1.mono hb2.size)
    have b2 := b1.trans (hbb1.mono b1.size)
    have hB2 := hB1.grow hbb1
    replace q0 := (hbb1.cell (cell_lt q0)).trans q0
    replace q1 := (hbb1.cell (cell_lt q1)).trans q1
    replace q2 := (hbb1.cell (cell_lt q2)).trans q2
    simp only
    go_wp2_with fail
    refine (ofirst_any _ a hB2 hfit.f hfit.h (hg.below b2)).mono ?_
    rintro e w3 ⟨v1, rfl, hv1, hb3⟩
    rw [HY1.out] at hv1
    rw [HY1.out]
    have b3 := b2.trans (hb3.mono b2.size)
    have hB3 := hB2.grow hb3
    replace q0 := (hb3.cell (cell_lt q0)).trans q0
    replace q1 := (hb3.cell (cell_lt q1)).trans q1
    replace q2 := (hb3.cell (cell_lt q2)).trans q2
    replace T1 := T1.below hb3
    unfold ErrOf at hv1
    simp only at hv1 ⊢
    go_wp2_with fail
    refine (rsecond_any _ a hB3 hfit.f hfit.h).mono ?_
    rintro e w4 ⟨rfl, hb4⟩
    unfold faultV
    generalize hY : secondOf (bwrite a.f a.h a.l) = y
    have HY2 := Lib.hid hY
    clear hY
    obtain ⟨t2, q2', p2⟩ := y
    have bT2 := below1 w4 (.cells #[.int .i64 q2', .int .i64 p2] 29)
    have T2 := Two.new w4 q2' p2 29
    have hbb2 := hb4.trans (bT2.mono hb4.size)
    have b4 := b3.trans (hbb2.mono b3.size)
    have hB4 := hB3.grow hbb2
    replace q0 := (hbb2.cell (cell_lt q0)).trans q0
    replace q1 := (hbb2.cell (cell_lt q1)).trans q1
    replace q2 := (hbb2.cell (cell_lt q2)).trans q2
    simp only
    go_wp2_with fail
    refine (osecond_any _ a hB4 hfit.f hfit.h hcf hch (hg.below b4)).mono ?_
    rintro e w5 ⟨v2, rfl, hv2, hb5⟩
    rw [HY2.out] at hv2
    rw [HY2.out]
    have b5 := b4.trans (hb5.mono b4.size)
    have hB5 := hB4.grow hb5
    replace q0 := (hb5.cell (cell_lt q0)).trans q0
    replace q1 := (hb5.cell (cell_lt q1)).trans q1
    replace q2 := (hb5.cell (cell_lt q2)).trans q2
    replace T1 := T1.below (hbb2.trans (hb5.mono hbb2.size))
    replace hv1 := hv1.below (hbb2.trans (hb5.mono hbb2.size))
    replace T2 := T2.below hb5
    unfold ErrOf at hv2
    simp only at hv2 ⊢
    obtain ⟨u0, u1, _, _⟩ := T1
    go_wp2_with fail
    refine (placed_any hv1 (hg.below b5) q1' p1).mono ?_
    rintro r w6 ⟨rfl, hb6⟩
    rw [decide_eq_true ⟨rfl, rfl⟩]
    have b6 := b5.trans (hb6.mono b5.size)
    obtain ⟨x0, x1, _, _⟩ := T2.below hb6
    replace hv2 := hv2.below hb6
    go_wp2_with fail
    refine (placed_any hv2 (hg.below b6) q2' p2).mono ?_
    rintro r w7 ⟨rfl, hb7⟩
    rw [decide_eq_true ⟨rfl, rfl⟩]
    go_wp2
    go_ret
    exact ⟨rfl, b6.trans (hb7.mono b6.size)⟩
end Go.Proofs.YtkejlnjnoiidnaaGreatDoor
end
