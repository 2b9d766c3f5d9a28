/- Whether two batches are one: Same of package batch and of the reference. -/
import Derived.Test.YtoaekpnppinolaaBig
import Derived.Test.YtoaekpnppinolaaQuiet
import Derived.Deep.Cut
namespace Go.Proofs.Ytoaekpnppinolaa
open Go.RowKit
/-- A batch in an argument: three slices. -/
structure BatArg where
  A : Option Addr
  n : Nat
  c : Nat
  A' : Option Addr
  n' : Nat
  c' : Nat
  A'' : Option Addr
  n'' : Nat
  c'' : Nat
  f : List Ent
  h : List Ent
  l : List Wr
def BatArg.v (b : BatArg) : Value := .agg #[.slice b.A b.n b.c, .slice b.A' b.n' b.c', .slice b.A'' b.n'' b.c'']
structure Bat (w : World) (b : BatArg) : Prop where
  f : Sl w w.heap.size 2 b.A b.n (b.f.flatMap entCells)
  h : Sl w w.heap.size 2 b.A' b.n' (b.h.flatMap entCells)
  l : Sl w w.heap.size 6 b.A'' b.n'' (b.l.flatMap wrCells)
  nf : b.n ≤ maxLen
  nh : b.n' ≤ maxLen
  nl : b.n'' ≤ maxLen
theorem Bat.grow {w w' : World} {b : BatArg} (h : Bat w b) (hb : Below w.heap.size w w') : Bat w' b := ⟨h.f.grow hb, h.h.grow hb, h.l.grow hb, h.nf, h.nh, h.nl⟩
def batSame (a b : BatArg) : Bool := decide (a.f = b.f) && (decide (a.h = b.h) && decide (a.l = b.l))
theorem below2' (w : World) (o o' : Obj) : Below w.heap.size w ((w.alloc o).alloc o') := (below1' w o).alloc (by simp) o'
theorem batSame_1 {a b : BatArg} (x1 : a.f = b.f) (x2 : a.h = b.h) : batSame a b = decide (a.l = b.l) := by unfold batSame; rw [decide_eq_true x1, decide_eq_true x2]; rfl
theorem batSame_2 {a b : BatArg} (x2 : ¬ a.h = b.h) : batSame a b = false := by unfold batSame; rw [decide_eq_false x2, Bool.false_and, Bool.and_false]
theorem batSame_3 {a b : BatArg} (x1 : ¬ a.f = b.f) : batSame a b = false := by unfold batSame; rw [decide_eq_false x1, Bool.false_and]
theorem same_any (a b : BatArg) (w : World) (ha : Bat w a) (hb : Bat w b) :
    Calls Try.prog 19 #[a.v, b.v] w fun e w' => e = .returned (.bool (batSame a b)) ∧ Below w.heap.size w w' := by
  obtain ⟨A, n, c, A', n', c', A'', n'', c'', f, h, l⟩ := a
  obtain ⟨B, m, d, B', m', d', B'', m'', d'', f', h', l'⟩ := b
  obtain ⟨a1, a2, a3, a4, a5, a6⟩ := ha
  obtain ⟨b1, b2, b3, b4, b5, b6⟩ := hb
  simp only [BatArg.v] at *
  have hbel : Below w.heap.size w ((w.alloc (.cells #[.slice A n c, .slice A' n' c', .slice A'' n'' c''] 31)).alloc (.cells #[.slice B m d, .slice B' m' d', .slice B'' m'' d''] 31)) := below2' _ _ _
  have c1 := a1.grow hbel
  have c2 := a2.grow hbel
  have c3 := a3.grow hbel
  have e1 := b1.grow hbel
  have e2 := b2.grow hbel
  have e3 := b3.grow hbel
  by_cases x1 : f = f'
  · by_cases x2 : h = h'
    · have hs := Lib.hid (batSame_1 (a := ⟨A, n, c, A', n', c', A'', n'', c'', f, h, l⟩) (b := ⟨B, m, d, B', m', d', B'', m'', d'', f', h', l'⟩) x1 x2)
      go_enter Try.func19, Try.ntmps19
      go_wp2_with fail
      refine (equal_ents _ _ _ _ _ _ _ _ _ c1 e1 a4 b4).mono ?_
      rintro e w' ⟨rfl, q, rfl⟩
      rw [decide_eq_true x1]
      go_wp2_with fail
      refine (equal_ents _ _ _ _ _ _ _ _ _ (by exact c2) (by exact e2) a5 b5).mono ?_
      rintro e w' ⟨rfl, q', rfl⟩
      rw [decide_eq_true x2]
      go_wp2_with fail
      refine (equal_wrs _ _ _ _ _ _ _ _ _ (by exact c3) (by exact e3) a6 b6).mono ?_
      rintro e w' ⟨rfl, q'', rfl⟩
      go_wp2_with fail
      go_ret
      exact ⟨retB (by rw [hs.out]), below_drewN hbel _⟩
    · have hs := Lib.hid (batSame_2 (a := ⟨A, n, c, A', n', c', A'', n'', c'', f, h, l⟩) (b := ⟨B, m, d, B', m', d', B'', m'', d'', f', h', l'⟩) x2)
      go_enter Try.func19, Try.ntmps19
      go_wp2_with fail
      refine (equal_ents _ _ _ _ _ _ _ _ _ c1 e1 a4 b4).mono ?_
      rintro e w' ⟨rfl, q, rfl⟩
      rw [decide_eq_true x1]
      go_wp2_with fail
      refine (equal_ents _ _ _ _ _ _ _ _ _ (by exact c2) (by exact e2) a5 b5).mono ?_
      rintro e w' ⟨rfl, q', rfl⟩
      rw [decide_eq_false x2]
      go_wp2_with fail
      go_ret
      exact ⟨retB (by rw [hs.out]), below_drewN hbel _⟩
  · have hs := Lib.hid (batSame_3 (a := ⟨A, n, c, A', n', c', A'', n'', c'', f, h, l⟩) (b := ⟨B, m, d, B', m', d', B'', m'', d'', f', h', l'⟩) x1)
    go_enter Try.func19, Try.ntmps19
    go_wp2_with fail
    refine (equal_ents _ _ _ _ _ _ _ _ _ c1 e1 a4 b4).mono ?_
    rintro e w' ⟨rfl, q, rfl⟩
    rw [decide_eq_false x1]
    go_wp2_with fail
    go_ret
    exact ⟨retB (by rw [hs.out]), below_drewN hbel _⟩
theorem rsame_any (a b : BatArg) (w : World) (ha : Bat w a) (hb : Bat w b) :
    Calls Try.prog 20 #[a.v, b.v] w fun e w' => e = .returned (.bool (batSame a b)) ∧ Below w.heap.size w w' := by
  obtain ⟨A, n, c, A', n', c', A'', n'', c'', f, h, l⟩ := a
  obtain ⟨B, m, d, B', m', d', B'', m'', d'', f', h', l'⟩ := b
  obtain ⟨a1, a2, a3, a4, a5, a6⟩ := ha
  obtain ⟨b1, b2, b3, b4, b5, b6⟩ := hb
  simp only [BatArg.v] at *
  have hbel : Below w.heap.size w ((w.alloc (.cells #[.slice A n c, .slice A' n' c', .slice A'' n'' c''] 31)).alloc (.cells #[.slice B m d, .slice B' m' d', .slice B'' m'' d''] 31)) := below2' _ _ _
  have c1 := a1.grow hbel
  have c2 := a2.grow hbel
  have c3 := a3.grow hbel
  have e1 := b1.grow hbel
  have e2 := b2.grow hbel
  have e3 := b3.grow hbel
  by_cases x1 : f = f'
  · by_cases x2 : h = h'
    · have hs := Lib.hid (batSame_1 (a := ⟨A, n, c, A', n', c', A'', n'', c'', f, h, l⟩) (b := ⟨B, m, d, B', m', d', B'', m'', d'', f', h', l'⟩) x1 x2)
      go_enter Try.func20, Try.ntmps20
      go_wp2_with fail
      refine (same_ents _ _ _ _ _ _ _ _ _ c1 e1 a4 b4).mono ?_
      rintro e w' ⟨rfl, q, rfl⟩
      rw [decide_eq_true x1]
      go_wp2_with fail
      refine (same_ents _ _ _ _ _ _ _ _ _ (by exact c2) (by exact e2) a5 b5).mono ?_
      rintro e w' ⟨rfl, q', rfl⟩
      rw [decide_eq_true x2]
      go_wp2_with fail
      refine (same_wrs _ _ _ _ _ _ _ _ _ (by exact c3) (by exact e3) a6 b6).mono ?_
      rintro e w' ⟨rfl, q'', rfl⟩
      go_wp2_with fail
      go_ret
      exact ⟨retB (by rw [hs.out]), below_drewN hbel _⟩
    · have hs := Lib.hid (batSame_2 (a := ⟨A, n, c, A', n', c', A'', n'', c'', f, h, l⟩) (b := ⟨B, m, d, B', m', d', B'', m'', d'', f', h', l'⟩) x2)
      go_enter Try.func20, Try.ntmps20
      go_wp2_with fail
      refine (same_ents _ _ _ _ _ _ _ _ _ c1 e1 a4 b4).mono ?_
      rintro e w' ⟨rfl, q, rfl⟩
      rw [decide_eq_true x1]
      go_wp2_with fail
      refine (same_ents _ _ _ _ _ _ _ _ _ (by exact c2) (by exact e2) a5 b5).mono ?_
      rintro e w' ⟨rfl, q', rfl⟩
      rw [decide_eq_false x2]
      go_wp2_with fail
      go_ret
      exact ⟨retB (by rw [hs.out]), below_drewN hbel _⟩
  · have hs := Lib.hid (batSame_3 (a := ⟨A, n, c, A', n', c', A'', n'', c'', f, h, l⟩) (b := ⟨B, m, d, B', m', d', B'', m'', d'', f', h', l'⟩) x1)
    go_enter Try.func20, Try.ntmps20
    go_wp2_with fail
    refine (same_ents _ _ _ _ _ _ _ _ _ c1 e1 a4 b4).mono ?_
    rintro e w' ⟨rfl, q, rfl⟩
    rw [decide_eq_false x1]
    go_wp2_with fail
    go_ret
    exact ⟨retB (by rw [hs.out]), below_drewN hbel _⟩
end Go.Proofs.Ytoaekpnppinolaa
