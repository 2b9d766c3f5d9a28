/- Arguments opened with the form's own reach: no string and no slice of more than 2^47 bytes. Any program.

Slices of entries as arguments, with what they have room for.

Batches as arguments, with what their vectors have room for.

The deeds of a log, as arguments.

The law's own function big: how much a batch has.

Whether two batches are one: Same of package batch and of the reference. -/
import Derived.Test.YtlpkpfpmcppciaaGreatDoorZ10
import Derived.SizedLaws
import Derived.Test.YtlpkpfpmcppciaaGreatDoorZ1
import Derived.Deep.Cut
section
namespace Go.Proofs.YtlpkpfpmcppciaaGreatDoor
open Go.ChangeShapes Go.WideShapes Go.ChangeAt Go.RowKit
/-- The reach: 2^47 - 4096 bytes. -/
def Small {H : Type} (P : Program) (t : TypeId) (d : DataW H) : Prop := ∀ n ∈ d.weights P t, n ≤ 140737488351232
section
variable {H : Type} {enc : TypeId × Value → H} {P : Program} {w : World} {base : Nat} {spare : Nat → Bool} {held : Bool}
/-- What a struct's reading says of all its fields, with the reach. -/
def FieldedR (P : Program) (w : World) (base : Nat) (spare : Nat → Bool) (held : Bool) (enc : TypeId × Value → H) (fs : Array Field) (cs : List Value) : Prop :=
 ∃ m, ∀ (i : Nat) (f : Field), fs[i]? = some f → ∃ y, DataW.trod enc P w base spare held m f.type ((cs.drop f.offset).take (P.cellsOf f.type)) = some y ∧ Small P f.type y.1
theorem FieldedR.all {fs : Array Field} {cs : List Value} (h : FieldedR P w base spare held enc fs cs) : Fielded P w base spare held enc fs cs := by
 obtain ⟨m, hg⟩ := h
 exact ⟨m, fun i f hf => by obtain ⟨y, hy, _⟩ := hg i f hf; exact ⟨y, hy⟩⟩
end
end Go.Proofs.YtlpkpfpmcppciaaGreatDoor
end

section
namespace Go.Proofs.YtlpkpfpmcppciaaGreatDoor
set_option maxRecDepth 100000
open Go.ChangeShapes Go.WideShapes Go.ChangeAt Go.RowKit
section
variable {H : Type} {enc : TypeId × Value → H} {w : World} {base : Nat} {spare : Nat → Bool} {held : Bool}
end
end Go.Proofs.YtlpkpfpmcppciaaGreatDoor
end

section
namespace Go.Proofs.YtlpkpfpmcppciaaGreatDoor
set_option maxRecDepth 100000
open Go.ChangeShapes Go.WideShapes Go.ChangeAt Go.RowKit
section
variable {H : Type} {enc : TypeId × Value → H} {w : World} {base : Nat} {spare : Nat → Bool} {held : Bool}
theorem room_at {t e : TypeId} {A : Option Addr} {n c m : Nat} {P : Program} {y : DataW H × List MemPlace} (ht : P.underlying t = some (.slice e)) (h : DataW.trod enc P w base spare held m t [.slice A n c] = some y) : n ≤ c := by
 rcases Go.Deep.open_slice ht h with ⟨h1, _⟩ | ⟨a, n', c', m, k, D, Pl, hcs, _, hl, _⟩
 ·simp at h1
  omega
 ·simp at hcs
  omega
end
end Go.Proofs.YtlpkpfpmcppciaaGreatDoor
end

section
namespace Go.Proofs.YtlpkpfpmcppciaaGreatDoor
set_option maxRecDepth 100000
set_option linter.unusedVariables false
open Go.ChangeShapes Go.WideShapes Go.ChangeAt Go.RowKit
abbrev Dd := Int × Wr × BatArg
def dedCells (x : Dd) : List Value := [.int .i64 x.1, .int .i64 x.2.1.1, .int .i64 x.2.1.2.1, .int .i64 x.2.1.2.2.1, .string x.2.1.2.2.2.1, .string x.2.1.2.2.2.2.1, .int .i64 x.2.1.2.2.2.2.2, .slice x.2.2.A x.2.2.n x.2.2.c, .slice x.2.2.A' x.2.2.n' x.2.2.c', .slice x.2.2.A'' x.2.2.n'' x.2.2.c'']
structure DedOk (w : World) (x : Dd) : Prop where
 b : Bat w x.2.2
 f : BatFits x.2.2
 r : x.2.2.n' ≤ x.2.2.c'
structure DedArg where
 A : Option Addr
 n : Nat
 c : Nat
 l : List Dd
section
variable {H : Type} {enc : TypeId × Value → H} {w : World} {base : Nat} {spare : Nat → Bool} {held : Bool}
theorem cellsDed : Tryz.prog.cellsOf 51 = 10 := by kernel_rfl
theorem cellsBatD : Tryz.prog.cellsOf 26 = 3 := by kernel_rfl
theorem cellsWrD : Tryz.prog.cellsOf 32 = 6 := by kernel_rfl
theorem cellsIntD : Tryz.prog.cellsOf 3 = 1 := by kernel_rfl
theorem open_batd (cs : List Value) (m : Nat) (y : DataW H × List MemPlace) (h : DataW.trod enc Tryz.prog w base spare held m 26 cs = some y) :
  ∃ b : BatArg, cs = [.slice b.A b.n b.c, .slice b.A' b.n' b.c', .slice b.A'' b.n'' b.c''] ∧ Bat w b ∧ BatFits b ∧ b.n' ≤ b.c' := by
 obtain ⟨hcl, hg⟩ := fielded Tryz.underlying26 h
 rw [cellsBatD] at hcl
 obtain ⟨m0, y0, t0⟩ := field_sub hg 0 0 24 1 rfl rfl rfl cellsEntsT
 obtain ⟨m1, y1, t1⟩ := field_sub hg 1 1 24 1 rfl rfl rfl cellsEntsT
 obtain ⟨m2, y2, t2⟩ := field_sub hg 2 2 22 1 rfl rfl rfl cellsWrsT
 have t1' := t1
 obtain ⟨A, n, c, f, e0, a0, _, s0, f0⟩ := open_cells entCells 2 (by omega) entCells_len entFits Tryz.underlying24 cellsEnt open_ent t0
 obtain ⟨A', n', c', h, e1, a1, _, s1, f1⟩ := open_cells entCells 2 (by omega) entCells_len entFits Tryz.underlying24 cellsEnt open_ent t1
 obtain ⟨A'', n'', c'', l, e2, a2, _, s2, f2⟩ := open_cells wrCells 6 (by omega) (fun _ => rfl) wrFits Tryz.underlying22 cellsWr open_wr t2
 rw [e1] at t1'
 refine ⟨⟨A, n, c, A', n', c', A'', n'', c'', f, h, l⟩, ?_, ⟨s0, s1, s2, a0, a1, a2⟩, ⟨f0, f1, f2⟩, room_at Tryz.underlying24 t1'⟩
 match cs, hcl with
 | [x, y, z], _ =>
  simp at e0 e1 e2
  subst e0 e1 e2
  rfl
theorem open_ded (cs : List Value) (m : Nat) (y : DataW H × List MemPlace) (h : DataW.trod enc Tryz.prog w base spare held m 51 cs = some y) : ∃ x : Dd, cs = dedCells x ∧ DedOk w x := by
 obtain ⟨hcl, hg⟩ := fielded Tryz.underlying51 h
 rw [cellsDed] at hcl
 obtain ⟨k, g0, _⟩ := field_int hg 0 0 3 rfl rfl rfl Tryz.underlying3 cellsIntD
 obtain ⟨m1, y1, t1⟩ := field_sub hg 1 1 32 6 rfl rfl rfl cellsWrD
 obtain ⟨m2, y2, t2⟩ := field_sub hg 2 7 26 3 rfl rfl rfl cellsBatD
 obtain ⟨x, e1, _⟩ := open_wr _ _ _ t1
 obtain ⟨b, e2, hb, hf, hr⟩ := open_batd _ _ _ t2
 refine ⟨(k, x, b), ?_, ⟨hb, hf, hr⟩⟩
 match cs, hcl with
 | [c0, c1, c2, c3, c4, c5, c6, c7, c8, c9], _ =>
  simp [wrCells] at g0 e1 e2
  obtain ⟨q1, q2, q3, q4, q5, q6⟩ := e1
  obtain ⟨q7, q8, q9⟩ := e2
  subst g0 q1 q2 q3 q4 q5 q6 q7 q8 q9
  rfl
theorem open_deds {r : Reach} {b0 : Nat} {v : Value} {d : DataW H} {p : List MemPlace} (hv : Value.okWide Tryz.prog w r b0 49 v) (h : DataW.Trod enc Tryz.prog w base spare held 49 v d p) :
  ∃ a : DedArg, v = .slice a.A a.n a.c ∧ (Sl w w.heap.size 10 a.A a.n (a.l.flatMap dedCells) ∧ (∀ x ∈ a.l, DedOk w x) ∧ a.n ≤ maxLen) := by
 obtain ⟨A, n, c, l, rfl, hn, hl, hs, ho⟩ := open_elems dedCells 10 (by omega) (fun _ => rfl) (DedOk w) Tryz.underlying49 cellsDed open_ded hv h
 exact ⟨⟨A, n, c, l⟩, rfl, hs, ho, hn⟩
end
theorem DedOk.grow {w w' : World} {x : Dd} (h : DedOk w x) (hb : Below w.heap.size w w') : DedOk w' x := ⟨h.b.grow hb, h.f, h.r⟩
end Go.Proofs.YtlpkpfpmcppciaaGreatDoor
end

section
namespace Go.Proofs.YtlpkpfpmcppciaaGreatDoor
open Go.RowKit
theorem below1' (w : World) (o : Obj) : Below w.heap.size w (w.alloc o) := (Below.refl _ _).alloc (Nat.le_refl _) o
def bigStep (z : Int) (x : Wr) : Int := wrap64 (z + wrap64 ((wrap64 ((x.2.2.2.1.size : Int) + (x.2.2.2.2.1.size : Int))).tdiv 8))
def bigN (z : Int) (l : List Wr) : Int := l.foldl bigStep z
theorem bigN_take (z : Int) (k : Nat) (l : List Wr) (x : Wr) (h : l[k]? = some x) : bigN z (l.take (k + 1)) = bigStep (bigN z (l.take k)) x := by
 have hk : k < l.length := (List.getElem?_eq_some_iff.1 h).1
 rw [List.take_succ_eq_append_getElem hk]
 rw [List.getElem?_eq_getElem hk] at h
 injection h with h
 simp only [bigN, List.foldl_append, List.foldl_cons, List.foldl_nil, h]
theorem bigN_0 (z : Int) (l : List Wr) : bigN z (l.take 0) = z := by simp only [bigN, List.take_zero, List.foldl_nil]
theorem bigStep_eq (z : Int) (x : Wr) : bigStep z x = wrap64 (z + wrap64 ((wrap64 ((x.2.2.2.1.size : Int) + (x.2.2.2.2.1.size : Int))).tdiv 8)) := by simp only [bigStep]
def bigZ (n n' n'' : Nat) : Int := wrap64 (wrap64 ((n : Int) + (n' : Int)) + (n'' : Int))
theorem bigZ_eq (n n' n'' : Nat) : wrap64 (wrap64 ((n : Int) + (n' : Int)) + (n'' : Int)) = bigZ n n' n'' := by simp only [bigZ]
def bigB (n n' n'' : Nat) (l : List Wr) : Bool := decide (300 < bigN (bigZ n n' n'') l)
theorem big_any (A A' A'' : Option Addr) (n n' n'' c c' c'' : Nat) (l : List Wr) (w : World) (h : Sl w w.heap.size 6 A'' n'' (l.flatMap wrCells)) (hn'' : n'' ≤ maxLen) :
  Calls Tryz.prog 5 #[.agg #[.slice A n c, .slice A' n' c', .slice A'' n'' c'']] w fun e w' => e = .returned (.bool (bigB n n' n'' l)) ∧ Below w.heap.size w w' := by
 unfold maxLen at hn''
 have hl := Lib.hid (slk_len wrCells 6 (by omega) (fun _ => rfl) h)
 have hz := bigZ_eq n n' n''
 have hB : Hid (bigB n n' n'' l = decide (300 < bigN (bigZ n n' n'') l)) := Lib.hid (by simp only [bigB])
 generalize bigZ n n' n'' = z0 at *
 generalize bigB n n' n'' l = bb at *
 go_enter Tryz.func5, Tryz.ntmps5
 go_wp2
 go_loopw [3, 5, 20] (fun v _ i wr => (∃ k : Nat, k ≤ n'' ∧ i = .int .i64 k ∧ v = .int .i64 (bigN z0 (l.take k))) ∧ Below w.heap.size w wr) (fun _ _ i _ => n'' - (intOf i).toNat)
 case atStart => exact ⟨⟨0, by omega, rfl, valI (hz.trans (bigN_0 _ _).symm)⟩, below1' _ _⟩
 case round =>
  obtain ⟨⟨k, hk, rfl, rfl⟩, hbel⟩ := hrel
  clear hz
  by_cases hlt : k < n''
  ·obtain ⟨b, o, x, rfl, hb, hx, hc⟩ := slk_at wrCells 6 (fun _ => rfl) h hl.out hlt
   obtain ⟨a1, a2, a3, a4, a5, a6⟩ := x
   have c0 := (hbel.cell (p := ⟨b, _, none⟩) hb).trans (hc 0 _ rfl)
   have c1 := (hbel.cell (p := ⟨b, _, none⟩) hb).trans (hc 1 _ rfl)
   have c2 := (hbel.cell (p := ⟨b, _, none⟩) hb).trans (hc 2 _ rfl)
   have c3 := (hbel.cell (p := ⟨b, _, none⟩) hb).trans (hc 3 _ rfl)
   have c4 := (hbel.cell (p := ⟨b, _, none⟩) hb).trans (hc 4 _ rfl)
   have c5 := (hbel.cell (p := ⟨b, _, none⟩) hb).trans (hc 5 _ rfl)
   simp only [Nat.add_zero] at c0
   have hsz := hbel.size
   have hst := Lib.hid (bigN_take z0 k l _ hx)
   clear hc h hx
   go_wp2_with fail
   go_roundw
   case rel => exact ⟨⟨k + 1, by omega, by go_num, by rw [hst.out, bigStep_eq]⟩, hbel.alloc hsz _⟩
   case measure => simp [intOf]; omega
  ·obtain rfl : k = n'' := by omega
   have htk : l.take k = l := List.take_of_length_le (by rw [hl.out]; exact Nat.le_refl _)
   rw [htk]
   go_wp2_with fail
   go_ret
   exact ⟨by rw [hB.out]; rfl, hbel⟩
end Go.Proofs.YtlpkpfpmcppciaaGreatDoor
end

section
namespace Go.Proofs.YtlpkpfpmcppciaaGreatDoor
open Go.RowKit
def batSame (a b : BatArg) : Bool := decide (a.f = b.f) && (decide (a.h = b.h) && decide (a.l = b.l))
theorem below2' (w : World) (o o' : Obj) : Below w.heap.size w ((w.alloc o).alloc o') := (below1' w o).alloc (by simp) o'
theorem batSame_1 {a b : BatArg} (x1 : a.f = b.f) (x2 : a.h = b.h) : batSame a b = decide (a.l = b.l) := by unfold batSame; rw [decide_eq_true x1, decide_eq_true x2]; rfl
theorem batSame_2 {a b : BatArg} (x2 : ¬ a.h = b.h) : batSame a b = false := by unfold batSame; rw [decide_eq_false x2, Bool.false_and, Bool.and_false]
theorem batSame_3 {a b : BatArg} (x1 : ¬ a.f = b.f) : batSame a b = false := by unfold batSame; rw [decide_eq_false x1, Bool.false_and]
theorem rsame_any (a b : BatArg) (w : World) (ha : Bat w a) (hb : Bat w b) :
  Calls Tryz.prog 22 #[a.v, b.v] w fun e w' => e = .returned (.bool (batSame a b)) ∧ Below w.heap.size w w' := by
 obtain ⟨A, n, c, A', n', c', A'', n'', c'', f, h, l⟩ := a
 obtain ⟨B, m, d, B', m', d', B'', m'', d'', f', h', l'⟩ := b
 obtain ⟨a1, a2, a3, a4, a5, a6⟩ := ha
 obtain ⟨b1, b2, b3, b4, b5, b6⟩ := hb
 simp only [BatArg.v] at *
 have hbel : Below w.heap.size w ((w.alloc (.cells #[.slice A n c, .slice A' n' c', .slice A'' n'' c''] 26)).alloc (.cells #[.slice B m d, .slice B' m' d', .slice B'' m'' d''] 26)) := below2' _ _ _
 have c1 := a1.grow hbel
 have c2 := a2.grow hbel
 have c3 := a3.grow hbel
 have e1 := b1.grow hbel
 have e2 := b2.grow hbel
 have e3 := b3.grow hbel
 by_cases x1 : f = f'
 ·by_cases x2 : h = h'
  ·have hs := Lib.hid (batSame_1 (a := ⟨A, n, c, A', n', c', A'', n'', c'', f, h, l⟩) (b := ⟨B, m, d, B', m', d', B'', m'', d'', f', h', l'⟩) x1 x2)
   go_enter Tryz.func22, Tryz.ntmps22
   go_wp2_with fail
   refine (same_ents _ _ _ _ _ _ _ _ _ c1 e1 a4 b4).mono ?_
   rintro e w' ⟨rfl, q, rfl⟩
   rw [decide_eq_true x1]
   go_wp2_with fail
   refine (same_ents _ _ _ _ _ _ _ _ _ (by exact c2) (by exact e2) a5 b5).mono ?_
   rintro e w' ⟨rfl, q', rfl⟩
   rw [decide_eq_true x2]
   go_wp2_with fail
   refine (same_wrs _ _ _ _ _ _ _ _ _ (by exact c3) (by exact e3) a6 b6).mono ?_
   rintro e w' ⟨rfl, q'', rfl⟩
   go_wp2_with fail
   go_ret
   exact ⟨retB (by rw [hs.out]), below_drewN hbel _⟩
  ·have hs := Lib.hid (batSame_2 (a := ⟨A, n, c, A', n', c', A'', n'', c'', f, h, l⟩) (b := ⟨B, m, d, B', m', d', B'', m'', d'', f', h', l'⟩) x2)
   go_enter Tryz.func22, Tryz.ntmps22
   go_wp2_with fail
   refine (same_ents _ _ _ _ _ _ _ _ _ c1 e1 a4 b4).mono ?_
   rintro e w' ⟨rfl, q, rfl⟩
   rw [decide_eq_true x1]
   go_wp2_with fail
   refine (same_ents _ _ _ _ _ _ _ _ _ (by exact c2) (by exact e2) a5 b5).mono ?_
   rintro e w' ⟨rfl, q', rfl⟩
   rw [decide_eq_false x2]
   go_wp2_with fail
   go_ret
   exact ⟨retB (by rw [hs.out]), below_drewN hbel _⟩
 ·have hs := Lib.hid (batSame_3 (a := ⟨A, n, c, A', n', c', A'', n'', c'', f, h, l⟩) (b := ⟨B, m, d, B', m', d', B'', m'', d'', f', h', l'⟩) x1)
  go_enter Tryz.func22, Tryz.ntmps22
  go_wp2_with fail
  refine (same_ents _ _ _ _ _ _ _ _ _ c1 e1 a4 b4).mono ?_
  rintro e w' ⟨rfl, q, rfl⟩
  rw [decide_eq_false x1]
  go_wp2_with fail
  go_ret
  exact ⟨retB (by rw [hs.out]), below_drewN hbel _⟩
end Go.Proofs.YtlpkpfpmcppciaaGreatDoor
end
