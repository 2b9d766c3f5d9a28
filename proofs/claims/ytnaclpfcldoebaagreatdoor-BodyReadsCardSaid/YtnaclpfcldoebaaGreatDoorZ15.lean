/- The law's own function big: how much a batch has.

Whether two batches are one: Same of package batch and of the reference.

How the arguments of a law are opened: slices of structs, strings and numbers, and structs by value, as lists and tuples of mine. Any program.

The law BodyReads returns true and changes nothing. -/
import Derived.Test.YtnaclpfcldoebaaGreatDoorZ1
import Derived.Test.YtnaclpfcldoebaaGreatDoorZ7
import Derived.Deep.Cut
import Derived.ProofKit
import Derived.OpenShut
import Derived.Deep.Slices
import Derived.Deep.Fields
import Derived.Test.YtnaclpfcldoebaaGreatDoorZ14
section
namespace Go.Proofs.YtnaclpfcldoebaaGreatDoor
open Go.RowKit
theorem below1' (w : World) (o : Obj) : Below w.heap.size w (w.alloc o) := (Below.refl _ _).alloc (Nat.le_refl _) o
def bigStep (z : Int) (x : Wr) : Int := wrap64 (z + wrap64 ((wrap64 ((x.2.2.2.1.size : Int) + (x.2.2.2.2.1.size : Int))).tdiv 8))
def bigN (z : Int) (l : List Wr) : Int := l.foldl bigStep z
theorem bigN_take (z : Int) (k : Nat) (l : List Wr) (x : Wr) (h : l[k]? = some x) : bigN z (l.take (k + 1)) = bigStep (bigN z (l.take k)) x := by
  have hk : k < l.length := (List.getElem?_eq_some_iff.1 h).1
  rw [List.take_succ_eq_append_getElem hk]
  rw [List.getElem?_eq_getElem hk] at h
  injection h with h
  simp only [bigN, List.foldl_append, List.foldl_cons, List.foldl_nil, h]
theorem bigN_0 (z : Int) (l : List Wr) : bigN z (l.take 0) = z := by simp only [bigN, List.take_zero, List.foldl_nil]
theorem bigStep_eq (z : Int) (x : Wr) : bigStep z x = wrap64 (z + wrap64 ((wrap64 ((x.2.2.2.1.size : Int) + (x.2.2.2.2.1.size : Int))).tdiv 8)) := by simp only [bigStep]
def bigZ (n n' n'' : Nat) : Int := wrap64 (wrap64 ((n : Int) + (n' : Int)) + (n'' : Int))
theorem bigZ_eq (n n' n'' : Nat) : wrap64 (wrap64 ((n : Int) + (n' : Int)) + (n'' : Int)) = bigZ n n' n'' := by simp only [bigZ]
def bigB (n n' n'' : Nat) (l : List Wr) : Bool := decide (300 < bigN (bigZ n n' n'') l)
end Go.Proofs.YtnaclpfcldoebaaGreatDoor
end

section
namespace Go.Proofs.YtnaclpfcldoebaaGreatDoor
open Go.RowKit
def batSame (a b : BatArg) : Bool := decide (a.f = b.f) && (decide (a.h = b.h) && decide (a.l = b.l))
theorem below2' (w : World) (o o' : Obj) : Below w.heap.size w ((w.alloc o).alloc o') := (below1' w o).alloc (by simp) o'
theorem batSame_1 {a b : BatArg} (x1 : a.f = b.f) (x2 : a.h = b.h) : batSame a b = decide (a.l = b.l) := by unfold batSame; rw [decide_eq_true x1, decide_eq_true x2]; rfl
theorem batSame_2 {a b : BatArg} (x2 : ¬ a.h = b.h) : batSame a b = false := by unfold batSame; rw [decide_eq_false x2, Bool.false_and, Bool.and_false]
theorem batSame_3 {a b : BatArg} (x1 : ¬ a.f = b.f) : batSame a b = false := by unfold batSame; rw [decide_eq_false x1, Bool.false_and]
theorem rsame_any (a b : BatArg) (w : World) (ha : Bat w a) (hb : Bat w b) :
    Calls Tryz.prog 7 #[a.v, b.v] w fun e w' => e = .returned (.bool (batSame a b)) ∧ Below w.heap.size w w' := by
  obtain ⟨A, n, c, A', n', c', A'', n'', c'', f, h, l⟩ := a
  obtain ⟨B, m, d, B', m', d', B'', m'', d'', f', h', l'⟩ := b
  obtain ⟨a1, a2, a3, a4, a5, a6⟩ := ha
  obtain ⟨b1, b2, b3, b4, b5, b6⟩ := hb
  simp only [BatArg.v] at *
  have hbel : Below w.heap.size w ((w.alloc (.cells #[.slice A n c, .slice A' n' c', .slice A'' n'' c''] 25)).alloc (.cells #[.slice B m d, .slice B' m' d', .slice B'' m'' d''] 25)) := below2' _ _ _
  have c1 := a1.grow hbel
  have c2 := a2.grow hbel
  have c3 := a3.grow hbel
  have e1 := b1.grow hbel
  have e2 := b2.grow hbel
  have e3 := b3.grow hbel
  by_cases x1 : f = f'
  · by_cases x2 : h = h'
    · have hs := Lib.hid (batSame_1 (a := ⟨A, n, c, A', n', c', A'', n'', c'', f, h, l⟩) (b := ⟨B, m, d, B', m', d', B'', m'', d'', f', h', l'⟩) x1 x2)
      go_enter Tryz.func7, Tryz.ntmps7
      go_wp2_with fail
      refine (same_ents _ _ _ _ _ _ _ _ _ c1 e1 a4 b4).mono ?_
      rintro e w' ⟨rfl, q, rfl⟩
      rw [decide_eq_true x1]
      go_wp2_with fail
      refine (same_ents _ _ _ _ _ _ _ _ _ (by exact c2) (by exact e2) a5 b5).mono ?_
      rintro e w' ⟨rfl, q', rfl⟩
      rw [decide_eq_true x2]
      go_wp2_with fail
      refine (same_wrs _ _ _ _ _ _ _ _ _ (by exact c3) (by exact e3) a6 b6).mono ?_
      rintro e w' ⟨rfl, q'', rfl⟩
      go_wp2_with fail
      go_ret
      exact ⟨retB (by rw [hs.out]), below_drewN hbel _⟩
    · have hs := Lib.hid (batSame_2 (a := ⟨A, n, c, A', n', c', A'', n'', c'', f, h, l⟩) (b := ⟨B, m, d, B', m', d', B'', m'', d'', f', h', l'⟩) x2)
      go_enter Tryz.func7, Tryz.ntmps7
      go_wp2_with fail
      refine (same_ents _ _ _ _ _ _ _ _ _ c1 e1 a4 b4).mono ?_
      rintro e w' ⟨rfl, q, rfl⟩
      rw [decide_eq_true x1]
      go_wp2_with fail
      refine (same_ents _ _ _ _ _ _ _ _ _ (by exact c2) (by exact e2) a5 b5).mono ?_
      rintro e w' ⟨rfl, q', rfl⟩
      rw [decide_eq_false x2]
      go_wp2_with fail
      go_ret
      exact ⟨retB (by rw [hs.out]), below_drewN hbel _⟩
  · have hs := Lib.hid (batSame_3 (a := ⟨A, n, c, A', n', c', A'', n'', c'', f, h, l⟩) (b := ⟨B, m, d, B', m', d', B'', m'', d'', f', h', l'⟩) x1)
    go_enter Tryz.func7, Tryz.ntmps7
    go_wp2_with fail
    refine (same_ents _ _ _ _ _ _ _ _ _ c1 e1 a4 b4).mono ?_
    rintro e w' ⟨rfl, q, rfl⟩
    rw [decide_eq_false x1]
    go_wp2_with fail
    go_ret
    exact ⟨retB (by rw [hs.out]), below_drewN hbel _⟩
end Go.Proofs.YtnaclpfcldoebaaGreatDoor
end

section
namespace Go.Proofs.YtnaclpfcldoebaaGreatDoor
open Go.ChangeShapes Go.WideShapes Go.ChangeAt Go.RowKit
open Go.ChangeMaps (open_string)
section
variable {H : Type} {enc : TypeId × Value → H} {P : Program} {w : World} {base : Nat} {spare : Nat → Bool} {held : Bool}

/-- A slice whose elements' cells are k each: every element's cells are those of an x of mine. -/
theorem open_cells {α : Type} (f : α → List Value) (k : Nat) (hk0 : 0 < k) (hf : ∀ x, (f x).length = k) (ok : α → Prop) {t e fuel : Nat} {cs : List Value} {y : DataW H × List MemPlace}
    (ht : P.underlying t = some (.slice e)) (hk : P.cellsOf e = k)
    (helem : ∀ (cs : List Value) (m : Nat) (y : DataW H × List MemPlace), DataW.trod enc P w base spare held m e cs = some y → ∃ x, cs = f x ∧ ok x)
    (hfu : DataW.trod enc P w base spare held fuel t cs = some y) :
    ∃ (A : Option Addr) (n c : Nat) (l : List α), cs = [.slice A n c] ∧ n ≤ maxLen ∧ l.length = n ∧ Sl w w.heap.size k A n (l.flatMap f) ∧ ∀ x ∈ l, ok x := by
  rcases Go.Deep.open_slice ht hfu with ⟨hcs, _⟩ | ⟨a, n, c, m, n', D, Pl, hcs, _, hl, hm, hmm, _, hi⟩
  · exact ⟨none, 0, 0, [], hcs, Nat.zero_le _, rfl, Sl.nil, fun x hx => by simp at hx⟩
  · have hlm : n ≤ m := by rw [hmm]; split <;> omega
    obtain ⟨l, hll, hP⟩ := exists_list n (fun i x => (∀ j, j < k → w.cell? (a.add (i * k + j)) = (f x)[j]?) ∧ ok x) (fun i him => by
      obtain ⟨cs', hc, ht'⟩ := hi i (by omega)
      obtain ⟨x, rfl, hx⟩ := helem cs' n' _ ht'
      obtain ⟨_, hcl, hat⟩ := World.cells?_some hc
      rw [hk] at hat
      exact ⟨x, fun j hj => by rw [← Go.Deep.add_add]; exact hat j hj, hx⟩)
    refine ⟨some a, n, c, l, hcs, Nat.le_trans hl hm, hll, ⟨by rw [flat_len f k hf, hll], fun hn => ?_⟩, fun x hx => ?_⟩
    · have h0 := (hP 0 _ (List.getElem?_eq_getElem (by omega : 0 < l.length))).1 0 hk0
      rw [List.getElem?_eq_getElem (by rw [hf]; exact hk0)] at h0
      have hspot := World.cell?_spot h0
      obtain ⟨b, o, sp⟩ := a
      have hsp : sp = none := by simpa [Addr.add] using hspot
      subst hsp
      have hadd : ∀ j, (⟨b, o, none⟩ : Addr).add j = ⟨b, o + j, none⟩ := fun j => by unfold Addr.add; split <;> simp_all
      refine ⟨b, o, rfl, ?_, fun j u hu => ?_⟩
      · have := cell_lt h0
        rw [hadd] at this
        exact this
      · obtain ⟨i, j', x, rfl, hj', hx, hu'⟩ := flat_at f k hf l j u hu
        have := (hP i x hx).1 j' hj'
        rw [hadd] at this
        rw [this, hu']
    · obtain ⟨i, hi', rfl⟩ := List.mem_iff_getElem.1 hx
      exact (hP i _ (List.getElem?_eq_getElem hi')).2
theorem open_elems {α : Type} (f : α → List Value) (k : Nat) (hk0 : 0 < k) (hf : ∀ x, (f x).length = k) (ok : α → Prop) {r : Reach} {b0 : Nat} {t e : TypeId} {v : Value} {d : DataW H} {p : List MemPlace}
    (ht : P.underlying t = some (.slice e)) (hk : P.cellsOf e = k)
    (helem : ∀ (cs : List Value) (m : Nat) (y : DataW H × List MemPlace), DataW.trod enc P w base spare held m e cs = some y → ∃ x, cs = f x ∧ ok x)
    (hv : Value.okWide P w r b0 t v) (h : DataW.Trod enc P w base spare held t v d p) :
    ∃ (A : Option Addr) (n c : Nat) (l : List α), v = .slice A n c ∧ n ≤ maxLen ∧ l.length = n ∧ Sl w w.heap.size k A n (l.flatMap f) ∧ ∀ x ∈ l, ok x := by
  obtain ⟨A, n, c, rfl⟩ := okWide_slice ht hv
  obtain ⟨fuel, hfu⟩ := h
  obtain ⟨A', n', c', l, hcs, r⟩ := open_cells f k hk0 hf ok ht hk helem hfu
  simp [Value.cells] at hcs
  obtain ⟨rfl, rfl, rfl⟩ := hcs
  exact ⟨A, n, c, l, rfl, r⟩

/-- A struct's field of one cell. -/
theorem field1 {fs : Array Field} {cs : List Value} {xs : List (DataW H × List MemPlace)} {m : Nat} (hlen : xs.length = fs.size)
    (hg : ∀ (i : Nat) (f : Field), fs[i]? = some f → DataW.trod enc P w base spare held m f.type ((cs.drop f.offset).take (P.cellsOf f.type)) = xs[i]?) (i : Nat) (f : Field) (hf : fs[i]? = some f) :
    ∃ y, DataW.trod enc P w base spare held m f.type ((cs.drop f.offset).take (P.cellsOf f.type)) = some y := by
  have hi : i < xs.length := by rw [hlen]; exact (Array.getElem?_eq_some_iff.1 hf).1
  exact ⟨xs[i], by rw [hg i f hf, List.getElem?_eq_getElem hi]⟩
theorem take1 {cs : List Value} {o : Nat} {v : Value} (h : (cs.drop o).take 1 = [v]) : cs[o]? = some v := by
  have e : ((cs.drop o).take 1)[0]? = some v := by rw [h]; rfl
  rw [List.getElem?_take_of_lt (by omega), List.getElem?_drop] at e
  simpa using e
/-- What a struct's reading says of all its fields. -/
def Fielded (P : Program) (w : World) (base : Nat) (spare : Nat → Bool) (held : Bool) (enc : TypeId × Value → H) (fs : Array Field) (cs : List Value) : Prop :=
  ∃ m, ∀ (i : Nat) (f : Field), fs[i]? = some f → ∃ y, DataW.trod enc P w base spare held m f.type ((cs.drop f.offset).take (P.cellsOf f.type)) = some y
theorem fielded {t : TypeId} {fs : Array Field} {m : Nat} {cs : List Value} {x : DataW H × List MemPlace} (ht : P.underlying t = some (.struct fs)) (h : DataW.trod enc P w base spare held m t cs = some x) :
    cs.length = P.cellsOf t ∧ Fielded P w base spare held enc fs cs := by
  obtain ⟨xs, n, _, _, hcl, hlen, hg⟩ := DataW.trod_struct ht h
  exact ⟨hcl, n, fun i f hf => field1 hlen hg i f hf⟩
theorem field_sub {fs : Array Field} {cs : List Value} (h : Fielded P w base spare held enc fs cs) (i o T k : Nat) {f : Field} (hf : fs[i]? = some f) (hT : f.type = T) (ho : f.offset = o) (hc : P.cellsOf T = k) :
    ∃ m y, DataW.trod enc P w base spare held m T ((cs.drop o).take k) = some y := by
  obtain ⟨m, hg⟩ := h
  obtain ⟨y, hy⟩ := hg i f hf
  subst hT ho hc
  exact ⟨m, y, hy⟩
theorem field_int {fs : Array Field} {cs : List Value} (h : Fielded P w base spare held enc fs cs) (i o T : Nat) {f : Field} {k : IntKind} (hf : fs[i]? = some f) (hT : f.type = T) (ho : f.offset = o) (hu : P.underlying T = some (.int k)) (hc : P.cellsOf T = 1) :
    ∃ n, cs[o]? = some (.int k n) ∧ (Lit.int k n).wf = true := by
  obtain ⟨m, y, hy⟩ := field_sub h i o T 1 hf hT ho hc
  obtain ⟨n, e, _, wn⟩ := DataW.trod_int hu hy
  exact ⟨n, take1 e, wn⟩
theorem field_bool {fs : Array Field} {cs : List Value} (h : Fielded P w base spare held enc fs cs) (i o T : Nat) {f : Field} (hf : fs[i]? = some f) (hT : f.type = T) (ho : f.offset = o) (hu : P.underlying T = some .bool) (hc : P.cellsOf T = 1) :
    ∃ b, cs[o]? = some (.bool b) := by
  obtain ⟨m, y, hy⟩ := field_sub h i o T 1 hf hT ho hc
  obtain ⟨n, e, _⟩ := DataW.trod_bool hu hy
  exact ⟨n, take1 e⟩
theorem field_string {fs : Array Field} {cs : List Value} (h : Fielded P w base spare held enc fs cs) (i o T : Nat) {f : Field} (hf : fs[i]? = some f) (hT : f.type = T) (ho : f.offset = o) (hu : P.underlying T = some .string) (hc : P.cellsOf T = 1) :
    ∃ s : ByteArray, cs[o]? = some (.string s) ∧ s.size ≤ maxLen := by
  obtain ⟨m, y, hy⟩ := field_sub h i o T 1 hf hT ho hc
  obtain ⟨n, e, _, wn⟩ := DataW.trod_string hu hy
  exact ⟨n, take1 e, wn⟩
theorem str_eq (s : ByteArray) : (⟨s.data.toList.toArray⟩ : ByteArray) = s := by simp
end
end Go.Proofs.YtnaclpfcldoebaaGreatDoor
end

section
namespace Go.Proofs.YtnaclpfcldoebaaGreatDoor
set_option linter.unusedSimpArgs false
set_option linter.unusedVariables false
open Go.RowKit As
theorem batSame_refl {a b : BatArg} {z : List Ent × List Ent × List Wr} (h1 : (a.f, a.h, a.l) = z) (h2 : (b.f, b.h, b.l) = z) : batSame a b = true := by
  subst h1
  injection h2 with e1 h2
  injection h2 with e2 e3
  unfold batSame
  rw [decide_eq_true e1.symm, decide_eq_true e2.symm, decide_eq_true e3.symm]
  rfl
set_option maxHeartbeats 1000000 in
set_option maxRecDepth 100000 in
theorem walkBodyReads (s : ByteArray) (w : World) (hs : s.size ≤ maxLen) (hg : Handle w) :
    Calls Tryz.prog 3 #[.string s] w fun e w' => e = .returned (.bool true) ∧ Below w.heap.size w w' := by
  unfold maxLen at hs
  by_cases hbig : (2000 < s.size ∧ s.size ≤ 20000) ∨ 20009 < s.size
  · have hq : (decide (2000 < (s.size : Int)) = true ∧ decide ((s.size : Int) ≤ 20000) = true) ∨ (decide (2000 < (s.size : Int)) = true ∧ decide ((s.size : Int) ≤ 20000) = false ∧ decide (20009 < (s.size : Int)) = true) := by
      simp only [decide_eq_true_eq, decide_eq_false_iff_not]; omega
    rcases hq with ⟨d0, d1⟩ | ⟨d0, d1, d2⟩
    all_goals
      go_enter Tryz.func3, Tryz.ntmps3
      go_wp2
      go_ret
      exact ⟨rfl, Below.refl _ _⟩
  · have hq : (decide (2000 < (s.size : Int)) = false ∧ decide (20009 < (s.size : Int)) = false) ∨ (decide (2000 < (s.size : Int)) = true ∧ decide ((s.size : Int) ≤ 20000) = false ∧ decide (20009 < (s.size : Int)) = false) := by
      simp only [decide_eq_true_eq, decide_eq_false_iff_not]; omega
    have hS : s.size ≤ 1000000 := by omega
    rcases hq with ⟨d0, d2⟩ | ⟨d0, d1, d2⟩
    all_goals
      go_enter Tryz.func3, Tryz.ntmps3
      go_wp2_with fail
      refine (unbody_any s w hS).mono ?_
      rintro e w1 ⟨x, rfl, hx, hx2, _, hb1⟩
      have bB := below1 w1 (.cells #[.slice x.A x.n x.c, .slice x.A' x.n' x.c', .slice x.A'' x.n'' x.c''] 25)
      have kB := BxAt.new w1 x
      have bF := below1 (w1.alloc (.cells #[.slice x.A x.n x.c, .slice x.A' x.n' x.c', .slice x.A'' x.n'' x.c''] 25)) (.cells #[.int .i64 (bread s).2.1, .int .i64 (bread s).2.2] 28)
      have hF := Two.new (w1.alloc (.cells #[.slice x.A x.n x.c, .slice x.A' x.n' x.c', .slice x.A'' x.n'' x.c''] 25)) (bread s).2.1 (bread s).2.2 28
      simp only [World.size_alloc] at hF
      have b1 := hb1.trans (bB.mono hb1.size)
      have b2 := b1.trans (bF.mono b1.size)
      have kB2 := kB.below bF
      have hX2 := (hx.grow bB).grow bF
      unfold faultV
      unfold BatArg.v
      go_wp2_with fail
      refine (bodyread_any s _ hS (hg.below b2)).mono ?_
      rintro e w2 ⟨y, ve, rfl, hy, hy2, _, hev, hb2⟩
      have b3 := b2.trans (hb2.mono b2.size)
      have bY := below1 w2 (.cells #[.slice y.A y.n y.c, .slice y.A' y.n' y.c', .slice y.A'' y.n'' y.c''] 25)
      have kY := BxAt.new w2 y
      have b4 := b3.trans (bY.mono b3.size)
      have hX4 := (hX2.grow hb2).grow bY
      have hY4 := hy.grow bY
      have kB4 := (kB2.below hb2).below bY
      have F4 := (hF.below hb2).below bY
      have E4 := hev.below bY
      have HS := Lib.hid (batSame_refl hx2 hy2)
      clear hx hy hx2 hy2 hF kB kB2 hX2 hev bB bF bY hb1 hb2 b1 b2 b3
      generalize (bread s).2.1 = ee at *
      generalize (bread s).2.2 = pp at *
      obtain ⟨g0, g1, _, _⟩ := F4
      unfold BatArg.v
      go_wp2_with fail
      refine (placed_any E4 (hg.below b4) ee pp).mono ?_
      rintro r w5 ⟨rfl, hb5⟩
      have b5 := b4.trans (hb5.mono b4.size)
      have hX5 := hX4.grow hb5
      have hY5 := hY4.grow hb5
      obtain ⟨p0, p1, p2⟩ := kB4.below hb5
      obtain ⟨q0, q1, q2⟩ := kY.below hb5
      rw [decide_eq_true ⟨rfl, rfl⟩]
      go_wp2_with fail
      refine (rsame_any x y w5 hX5 hY5).mono ?_
      rintro r w6 ⟨rfl, hb6⟩
      rw [HS.out]
      go_wp2
      go_ret
      exact ⟨by first | rfl | simp, b5.trans (hb6.mono b5.size)⟩
end Go.Proofs.YtnaclpfcldoebaaGreatDoor
end
