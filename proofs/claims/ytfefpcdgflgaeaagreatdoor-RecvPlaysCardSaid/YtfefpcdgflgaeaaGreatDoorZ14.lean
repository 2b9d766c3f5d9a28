/- The program's receiver and the reference's, side by side.

How the arguments of a law are opened: slices of structs, strings and numbers, and structs by value, as lists and tuples of mine. Any program.

The events of a receiver's play, as arguments.

The law RecvPlays: whatever is done, both receivers answer alike. Printed by gen_recvplays.py out of recvplays.src. -/
import Derived.Test.YtfefpcdgflgaeaaGreatDoorZ13
import Derived.Test.YtfefpcdgflgaeaaGreatDoorZ1
import Derived.ProofKit
import Derived.OpenShut
import Derived.Deep.Slices
import Derived.Deep.Fields
import Derived.Test.YtfefpcdgflgaeaaGreatDoorRows
import Derived.KernelRfl
section
namespace Go.Proofs.YtfefpcdgflgaeaaGreatDoor
set_option linter.unusedSimpArgs false
set_option linter.unusedVariables false
open Go.RowKit As Go.Maps
/-- The program's at p tells s, the reference's at r tells t; both lie from B on, apart, and away from the blocks of G. -/
def Both (w : World) (B K p r : Nat) (s t : Rst) (G : Nat → Prop) : Prop := ∃ (L : PLoc) (R : RLoc), L.r = p ∧ R.r = r ∧ PR w K L s ∧ RR w K R t ∧ Within L.foot B w ∧ Within R.foot B w ∧ Apart L.foot R.foot ∧ B ≤ w.heap.size ∧ ∀ i, G i → ¬ L.foot i ∧ ¬ R.foot i ∧ i < w.heap.size
section
variable {w w' : World} {B K p r : Nat} {s s' t t' : Rst} {G : Nat → Prop}
theorem Both.of_new {w0 w1 w2 : World} {L : PLoc} {R : RLoc} (hp : PR w1 0 L s) (hl : ∀ i, L.foot i → w0.heap.size ≤ i) (hb : Below w0.heap.size w0 w1) (hr : RR w2 0 R t) (hl2 : ∀ i, R.foot i → w1.heap.size ≤ i) (hb2 : Below w1.heap.size w1 w2) : Both w2 w0.heap.size 0 L.r R.r s t (fun _ => False) :=
 ⟨L, R, rfl, rfl, hp.below hb2, hr, fun i hi => ⟨hl i hi, Nat.lt_of_lt_of_le (hp.low i hi) hb2.size⟩, fun i hi => ⟨Nat.le_trans hb.size (hl2 i hi), hr.low i hi⟩, fun i hi hg => by have := hp.low i hi; have := hl2 i hg; omega, Nat.le_trans hb.size hb2.size, fun _ q => q.elim⟩
theorem Both.below (h : Both w B K p r s t G) (hb : Below w.heap.size w w') : Both w' B K p r s t G := by
 obtain ⟨L, R, e1, e2, h1, h2, h3, h4, h5, h6, h7⟩ := h
 exact ⟨L, R, e1, e2, h1.below hb, h2.below hb, h3.grow hb.size, h4.grow hb.size, h5, Nat.le_trans h6 hb.size, fun i hi => ⟨(h7 i hi).1, (h7 i hi).2.1, Nat.lt_of_lt_of_le (h7 i hi).2.2 hb.size⟩⟩
theorem Both.more (h : Both w B K p r s t G) {K' : Nat} (hk : K ≤ K') (hK : K' ≤ 1000000) : Both w B K' p r s t G := by
 obtain ⟨L, R, e1, e2, h1, h2, h3, h4, h5, h6, h7⟩ := h
 exact ⟨L, R, e1, e2, h1.more hk hK, h2.more hk hK, h3, h4, h5, h6, h7⟩
theorem Both.size (h : Both w B K p r s t G) : B ≤ w.heap.size := by obtain ⟨L, R, e1, e2, h1, h2, h3, h4, h5, h6, h7⟩ := h; exact h6
/-- A new block is kept away from. -/
theorem Both.guest (h : Both w B K p r s t G) (hb : Below w.heap.size w w') {g : Nat} (h1 : w.heap.size ≤ g) (h2 : g < w'.heap.size) : Both w' B K p r s t (fun i => G i ∨ i = g) := by
 obtain ⟨L, R, e1, e2, k1, k2, k3, k4, k5, k6, k7⟩ := h
 refine ⟨L, R, e1, e2, k1.below hb, k2.below hb, k3.grow hb.size, k4.grow hb.size, k5, Nat.le_trans k6 hb.size, fun i hi => ?_⟩
 rcases hi with hi | rfl
 ·exact ⟨(k7 i hi).1, (k7 i hi).2.1, Nat.lt_of_lt_of_le (k7 i hi).2.2 hb.size⟩
 ·exact ⟨fun q => by have := (k3 i q).2; omega, fun q => by have := (k4 i q).2; omega, h2⟩
theorem Both.less (h : Both w B K p r s t G) {G' : Nat → Prop} (hg : ∀ i, G' i → G i) : Both w B K p r s t G' := by
 obtain ⟨L, R, e1, e2, k1, k2, k3, k4, k5, k6, k7⟩ := h
 exact ⟨L, R, e1, e2, k1, k2, k3, k4, k5, k6, fun i hi => k7 i (hg i hi)⟩
/-- The program's moves. -/
theorem Both.pmove {L L' : PLoc} {R : RLoc} (hE : K + 1 ≤ 1000000) (e2 : R.r = r) (h2 : RR w K R t) (h3 : Within L.foot B w) (h4 : Within R.foot B w) (h5 : Apart L.foot R.foot) (h6 : B ≤ w.heap.size) (h7 : ∀ i, G i → ¬ L.foot i ∧ ¬ R.foot i ∧ i < w.heap.size) (e1 : L'.r = p) (h : PR w' (K + 1) L' s') (hm : Moves L.foot L'.foot w w') : Both w' B (K + 1) p r s' t G ∧ Below B w w' ∧ Turned (fun i => ¬ G i) w w' := by
 refine ⟨⟨L', R, e1, e2, h, (h2.more (Nat.le_succ K) hE).stays hm.t (fun i hi hf => h5 i hf hi), h3.moved hm h6 h.low, h4.grow hm.size, h5.moved hm (fun i hi => (h4 i hi).2), Nat.le_trans h6 hm.size, fun i hi => ⟨fun q => by rcases hm.g i q with u | u; exact (h7 i hi).1 u; have := (h7 i hi).2.2; omega, (h7 i hi).2.1, Nat.lt_of_lt_of_le (h7 i hi).2.2 hm.size⟩⟩, hm.below h3 h6, hm.t.mono fun i hf hg => (h7 i hg).1 hf⟩
theorem Both.rmove {L : PLoc} {R R' : RLoc} (hE : K + 1 ≤ 1000000) (e1 : L.r = p) (h1 : PR w K L s) (h3 : Within L.foot B w) (h4 : Within R.foot B w) (h5 : Apart L.foot R.foot) (h6 : B ≤ w.heap.size) (h7 : ∀ i, G i → ¬ L.foot i ∧ ¬ R.foot i ∧ i < w.heap.size) (e2 : R'.r = r) (h : RR w' (K + 1) R' t') (hm : Moves R.foot R'.foot w w') : Both w' B (K + 1) p r s t' G ∧ Below B w w' ∧ Turned (fun i => ¬ G i) w w' := by
 refine ⟨⟨L, R', e1, e2, (h1.more (Nat.le_succ K) hE).stays hm.t (fun i hi hf => h5 i hi hf), h, h3.grow hm.size, h4.moved hm h6 h.low, (h5.symm.moved hm (fun i hi => (h3 i hi).2)).symm, Nat.le_trans h6 hm.size, fun i hi => ⟨(h7 i hi).1, fun q => by rcases hm.g i q with u | u; exact (h7 i hi).2.1 u; have := (h7 i hi).2.2; omega, Nat.lt_of_lt_of_le (h7 i hi).2.2 hm.size⟩⟩, hm.below h4 h6, hm.t.mono fun i hf hg => (h7 i hg).2.1 hf⟩
end
section
variable {w : World} {B K p r : Nat} {s t : Rst} {G : Nat → Prop}
theorem both_ptake (x : ByteArray) (h : Both w B K p r s t G) (hx : x.size ≤ 1000000) (hE : K + 1 ≤ 1000000) :
  Calls Tryz.prog 9 #[.pointer (some ⟨p, 0, none⟩), .string x] w fun e w' => e = .returned (errV (s.takeE x)) ∧ Both w' B (K + 1) p r (s.take x) t G ∧ Below B w w' ∧ Turned (fun i => ¬ G i) w w' := by
 obtain ⟨L, R, rfl, e2, h1, h2, h3, h4, h5, h6, h7⟩ := h
 refine (ptake_any x h1 hx hE).mono ?_
 rintro e w' ⟨rfl, L', e1, hp, hm⟩
 exact ⟨rfl, Both.pmove hE e2 h2 h3 h4 h5 h6 h7 e1 hp hm⟩
theorem both_rtake (x : ByteArray) (h : Both w B K p r s t G) (hx : x.size ≤ 1000000) (hE : K + 1 ≤ 1000000) :
  Calls Tryz.prog 10 #[.pointer (some ⟨r, 0, none⟩), .string x] w fun e w' => e = .returned (.int .i64 (t.takeE x)) ∧ Both w' B (K + 1) p r s (t.take x) G ∧ Below B w w' ∧ Turned (fun i => ¬ G i) w w' := by
 obtain ⟨L, R, e1, rfl, h1, h2, h3, h4, h5, h6, h7⟩ := h
 refine (rtake_any x h2 hx hE).mono ?_
 rintro e w' ⟨rfl, R', e2, hp, hm⟩
 exact ⟨rfl, Both.rmove hE e1 h1 h3 h4 h5 h6 h7 e2 hp hm⟩
theorem both_psave (h : Both w B K p r s t G) (hE : K + 1 ≤ 1000000) :
  Calls Tryz.prog 11 #[.pointer (some ⟨p, 0, none⟩)] w fun e w' => e = .returned (.tuple #[]) ∧ Both w' B (K + 1) p r s.save t G ∧ Below B w w' ∧ Turned (fun i => ¬ G i) w w' := by
 obtain ⟨L, R, rfl, e2, h1, h2, h3, h4, h5, h6, h7⟩ := h
 refine (psave_any h1 hE).mono ?_
 rintro e w' ⟨rfl, hp, ht⟩
 exact ⟨rfl, Both.pmove (L := L) hE e2 h2 h3 h4 h5 h6 h7 (by rfl) hp ⟨ht, fun _ q => .inl q⟩⟩
theorem both_rsave (h : Both w B K p r s t G) (hE : K + 1 ≤ 1000000) :
  Calls Tryz.prog 12 #[.pointer (some ⟨r, 0, none⟩)] w fun e w' => e = .returned (.tuple #[]) ∧ Both w' B (K + 1) p r s t.save G ∧ Below B w w' ∧ Turned (fun i => ¬ G i) w w' := by
 obtain ⟨L, R, e1, rfl, h1, h2, h3, h4, h5, h6, h7⟩ := h
 refine (rsave_any h2 hE).mono ?_
 rintro e w' ⟨rfl, hp, ht⟩
 exact ⟨rfl, Both.rmove (R := R) hE e1 h1 h3 h4 h5 h6 h7 (by rfl) hp ⟨ht, fun _ q => .inl q⟩⟩
theorem both_pflush (h : Both w B K p r s t G) (hE : K + 1 ≤ 1000000) :
  Calls Tryz.prog 13 #[.pointer (some ⟨p, 0, none⟩)] w fun e w' => e = .returned (.tuple #[]) ∧ Both w' B (K + 1) p r s.flush t G ∧ Below B w w' ∧ Turned (fun i => ¬ G i) w w' := by
 obtain ⟨L, R, rfl, e2, h1, h2, h3, h4, h5, h6, h7⟩ := h
 refine (pflush_any h1).mono ?_
 rintro e w' ⟨rfl, hp, ht⟩
 exact ⟨rfl, Both.pmove (L := L) hE e2 h2 h3 h4 h5 h6 h7 (by rfl) (hp.more (Nat.le_succ K) hE) ⟨ht, fun _ q => .inl q⟩⟩
theorem both_rflush (h : Both w B K p r s t G) (hE : K + 1 ≤ 1000000) :
  Calls Tryz.prog 14 #[.pointer (some ⟨r, 0, none⟩)] w fun e w' => e = .returned (.tuple #[]) ∧ Both w' B (K + 1) p r s t.flush G ∧ Below B w w' ∧ Turned (fun i => ¬ G i) w w' := by
 obtain ⟨L, R, e1, rfl, h1, h2, h3, h4, h5, h6, h7⟩ := h
 refine (rflush_any h2 hE).mono ?_
 rintro e w' ⟨rfl, R', e2, hp, hm⟩
 exact ⟨rfl, Both.rmove hE e1 h1 h3 h4 h5 h6 h7 e2 hp hm⟩
theorem both_pmark (h : Both w B K p r s t G) (hE : K + 1 ≤ 1000000) :
  Calls Tryz.prog 15 #[.pointer (some ⟨p, 0, none⟩)] w fun e w' => e = .returned (.tuple #[]) ∧ Both w' B (K + 1) p r s.mark t G ∧ Below B w w' ∧ Turned (fun i => ¬ G i) w w' := by
 obtain ⟨L, R, rfl, e2, h1, h2, h3, h4, h5, h6, h7⟩ := h
 refine (pmark_any h1 hE).mono ?_
 rintro e w' ⟨rfl, hp, ht⟩
 exact ⟨rfl, Both.pmove (L := L) hE e2 h2 h3 h4 h5 h6 h7 (by rfl) hp ⟨ht, fun _ q => .inl q⟩⟩
theorem both_rmark (h : Both w B K p r s t G) (hE : K + 1 ≤ 1000000) :
  Calls Tryz.prog 16 #[.pointer (some ⟨r, 0, none⟩)] w fun e w' => e = .returned (.tuple #[]) ∧ Both w' B (K + 1) p r s t.mark G ∧ Below B w w' ∧ Turned (fun i => ¬ G i) w w' := by
 obtain ⟨L, R, e1, rfl, h1, h2, h3, h4, h5, h6, h7⟩ := h
 refine (rmark_any h2 hE).mono ?_
 rintro e w' ⟨rfl, hp, ht⟩
 exact ⟨rfl, Both.rmove (R := R) hE e1 h1 h3 h4 h5 h6 h7 (by rfl) hp ⟨ht, fun _ q => .inl q⟩⟩
theorem both_pcrash {mask : Nat} (h : Both w B K p r s t G) (hm : mask < 18446744073709551616) (hE : K + 1 ≤ 1000000) :
  Calls Tryz.prog 17 #[.pointer (some ⟨p, 0, none⟩), .int .u64 (mask : Int)] w fun e w' => e = .returned (.int .i64 ((s.crash mask).sf : Int)) ∧ Both w' B (K + 1) p r (s.crash mask) t G ∧ Below B w w' ∧ Turned (fun i => ¬ G i) w w' := by
 obtain ⟨L, R, rfl, e2, h1, h2, h3, h4, h5, h6, h7⟩ := h
 refine (pcrash_any h1 hm).mono ?_
 rintro e w' ⟨rfl, L', e1, hp, hm⟩
 exact ⟨rfl, Both.pmove hE e2 h2 h3 h4 h5 h6 h7 e1 (hp.more (Nat.le_succ K) hE) hm⟩
theorem both_rcrash {mask : Nat} (h : Both w B K p r s t G) (hm : mask < 18446744073709551616) (hE : K + 1 ≤ 1000000) :
  Calls Tryz.prog 18 #[.pointer (some ⟨r, 0, none⟩), .int .u64 (mask : Int)] w fun e w' => e = .returned (.int .i64 ((t.crash mask).sf : Int)) ∧ Both w' B (K + 1) p r s (t.crash mask) G ∧ Below B w w' ∧ Turned (fun i => ¬ G i) w w' := by
 obtain ⟨L, R, e1, rfl, h1, h2, h3, h4, h5, h6, h7⟩ := h
 refine (rcrashr_any h2 hm hE).mono ?_
 rintro e w' ⟨rfl, R', e2, hp, hm⟩
 exact ⟨rfl, Both.rmove hE e1 h1 h3 h4 h5 h6 h7 e2 hp hm⟩
theorem both_poffer (h : Both w B K p r s t G) : Calls Tryz.prog 21 #[.pointer (some ⟨p, 0, none⟩)] w fun e w' => e = .returned (.int .i64 (s.offer : Int)) ∧ w = w' := by
 obtain ⟨L, R, rfl, e2, h1, _⟩ := h
 exact poffer_any h1
theorem both_roffer (h : Both w B K p r s t G) : Calls Tryz.prog 22 #[.pointer (some ⟨r, 0, none⟩)] w fun e w' => e = .returned (.int .i64 (t.offer : Int)) ∧ w = w' := by
 obtain ⟨L, R, e1, rfl, _, h2, _⟩ := h
 exact roffer_any h2
theorem both_psafe (h : Both w B K p r s t G) : Calls Tryz.prog 23 #[.pointer (some ⟨p, 0, none⟩)] w fun e w' => e = .returned (.int .i64 (s.sf : Int)) ∧ w = w' := by
 obtain ⟨L, R, rfl, e2, h1, _⟩ := h
 exact psafe_any h1
theorem both_ptext (h : Both w B K p r s t G) : Calls Tryz.prog 20 #[.pointer (some ⟨p, 0, none⟩)] w fun e w' => e = .returned (.tuple #[.string s.text, errV s.textE]) ∧ Below w.heap.size w w' := by
 obtain ⟨L, R, rfl, e2, h1, _⟩ := h
 exact ptext_any h1
theorem both_rtext (h : Both w B K p r s t G) : Calls Tryz.prog 19 #[.pointer (some ⟨r, 0, none⟩)] w fun e w' => e = .returned (.tuple #[.string t.text, .int .i64 t.textE]) ∧ Below w.heap.size w w' := by
 obtain ⟨L, R, e1, rfl, _, h2, _⟩ := h
 exact rtext_any h2
theorem Both.safeAt (h : Both w B K p r s t G) : w.cell? ⟨r, 5, none⟩ = some (.int .i64 (t.sf : Int)) := by
 obtain ⟨L, R, e1, rfl, _, h2, _⟩ := h
 exact h2.cell 5 rfl
end
end Go.Proofs.YtfefpcdgflgaeaaGreatDoor
end

section
namespace Go.Proofs.YtfefpcdgflgaeaaGreatDoor
open Go.ChangeShapes Go.WideShapes Go.ChangeAt Go.RowKit
open Go.ChangeMaps (open_string)
section
variable {H : Type} {enc : TypeId × Value → H} {P : Program} {w : World} {base : Nat} {spare : Nat → Bool} {held : Bool}

/-- A slice whose elements' cells are k each: every element's cells are those of an x of mine. -/
theorem open_cells {α : Type} (f : α → List Value) (k : Nat) (hk0 : 0 < k) (hf : ∀ x, (f x).length = k) (ok : α → Prop) {t e fuel : Nat} {cs : List Value} {y : DataW H × List MemPlace}
  (ht : P.underlying t = some (.slice e)) (hk : P.cellsOf e = k)
  (helem : ∀ (cs : List Value) (m : Nat) (y : DataW H × List MemPlace), DataW.trod enc P w base spare held m e cs = some y → ∃ x, cs = f x ∧ ok x)
  (hfu : DataW.trod enc P w base spare held fuel t cs = some y) :
  ∃ (A : Option Addr) (n c : Nat) (l : List α), cs = [.slice A n c] ∧ n ≤ maxLen ∧ l.length = n ∧ Sl w w.heap.size k A n (l.flatMap f) ∧ ∀ x ∈ l, ok x := by
 rcases Go.Deep.open_slice ht hfu with ⟨hcs, _⟩ | ⟨a, n, c, m, n', D, Pl, hcs, _, hl, hm, hmm, _, hi⟩
 ·exact ⟨none, 0, 0, [], hcs, Nat.zero_le _, rfl, Sl.nil, fun x hx => by simp at hx⟩
 ·have hlm : n ≤ m := by rw [hmm]; split <;> omega
  obtain ⟨l, hll, hP⟩ := exists_list n (fun i x => (∀ j, j < k → w.cell? (a.add (i * k + j)) = (f x)[j]?) ∧ ok x) (fun i him => by
   obtain ⟨cs', hc, ht'⟩ := hi i (by omega)
   obtain ⟨x, rfl, hx⟩ := helem cs' n' _ ht'
   obtain ⟨_, hcl, hat⟩ := World.cells?_some hc
   rw [hk] at hat
   exact ⟨x, fun j hj => by rw [← Go.Deep.add_add]; exact hat j hj, hx⟩)
  refine ⟨some a, n, c, l, hcs, Nat.le_trans hl hm, hll, ⟨by rw [flat_len f k hf, hll], fun hn => ?_⟩, fun x hx => ?_⟩
  ·have h0 := (hP 0 _ (List.getElem?_eq_getElem (by omega : 0 < l.length))).1 0 hk0
   rw [List.getElem?_eq_getElem (by rw [hf]; exact hk0)] at h0
   have hspot := World.cell?_spot h0
   obtain ⟨b, o, sp⟩ := a
   have hsp : sp = none := by simpa [Addr.add] using hspot
   subst hsp
   have hadd : ∀ j, (⟨b, o, none⟩ : Addr).add j = ⟨b, o + j, none⟩ := fun j => by unfold Addr.add; split <;> simp_all
   refine ⟨b, o, rfl, ?_, fun j u hu => ?_⟩
   ·have := cell_lt h0
    rw [hadd] at this
    exact this
   ·obtain ⟨i, j', x, rfl, hj', hx, hu'⟩ := flat_at f k hf l j u hu
    have := (hP i x hx).1 j' hj'
    rw [hadd] at this
    rw [this, hu']
  ·obtain ⟨i, hi', rfl⟩ := List.mem_iff_getElem.1 hx
   exact (hP i _ (List.getElem?_eq_getElem hi')).2
theorem open_elems {α : Type} (f : α → List Value) (k : Nat) (hk0 : 0 < k) (hf : ∀ x, (f x).length = k) (ok : α → Prop) {r : Reach} {b0 : Nat} {t e : TypeId} {v : Value} {d : DataW H} {p : List MemPlace}
  (ht : P.underlying t = some (.slice e)) (hk : P.cellsOf e = k)
  (helem : ∀ (cs : List Value) (m : Nat) (y : DataW H × List MemPlace), DataW.trod enc P w base spare held m e cs = some y → ∃ x, cs = f x ∧ ok x)
  (hv : Value.okWide P w r b0 t v) (h : DataW.Trod enc P w base spare held t v d p) :
  ∃ (A : Option Addr) (n c : Nat) (l : List α), v = .slice A n c ∧ n ≤ maxLen ∧ l.length = n ∧ Sl w w.heap.size k A n (l.flatMap f) ∧ ∀ x ∈ l, ok x := by
 obtain ⟨A, n, c, rfl⟩ := okWide_slice ht hv
 obtain ⟨fuel, hfu⟩ := h
 obtain ⟨A', n', c', l, hcs, r⟩ := open_cells f k hk0 hf ok ht hk helem hfu
 simp [Value.cells] at hcs
 obtain ⟨rfl, rfl, rfl⟩ := hcs
 exact ⟨A, n, c, l, rfl, r⟩

/-- A struct's field of one cell. -/
theorem field1 {fs : Array Field} {cs : List Value} {xs : List (DataW H × List MemPlace)} {m : Nat} (hlen : xs.length = fs.size)
  (hg : ∀ (i : Nat) (f : Field), fs[i]? = some f → DataW.trod enc P w base spare held m f.type ((cs.drop f.offset).take (P.cellsOf f.type)) = xs[i]?) (i : Nat) (f : Field) (hf : fs[i]? = some f) :
  ∃ y, DataW.trod enc P w base spare held m f.type ((cs.drop f.offset).take (P.cellsOf f.type)) = some y := by
 have hi : i < xs.length := by rw [hlen]; exact (Array.getElem?_eq_some_iff.1 hf).1
 exact ⟨xs[i], by rw [hg i f hf, List.getElem?_eq_getElem hi]⟩
theorem take1 {cs : List Value} {o : Nat} {v : Value} (h : (cs.drop o).take 1 = [v]) : cs[o]? = some v := by
 have e : ((cs.drop o).take 1)[0]? = some v := by rw [h]; rfl
 rw [List.getElem?_take_of_lt (by omega), List.getElem?_drop] at e
 simpa using e
/-- What a struct's reading says of all its fields. -/
def Fielded (P : Program) (w : World) (base : Nat) (spare : Nat → Bool) (held : Bool) (enc : TypeId × Value → H) (fs : Array Field) (cs : List Value) : Prop :=
 ∃ m, ∀ (i : Nat) (f : Field), fs[i]? = some f → ∃ y, DataW.trod enc P w base spare held m f.type ((cs.drop f.offset).take (P.cellsOf f.type)) = some y
theorem fielded {t : TypeId} {fs : Array Field} {m : Nat} {cs : List Value} {x : DataW H × List MemPlace} (ht : P.underlying t = some (.struct fs)) (h : DataW.trod enc P w base spare held m t cs = some x) :
  cs.length = P.cellsOf t ∧ Fielded P w base spare held enc fs cs := by
 obtain ⟨xs, n, _, _, hcl, hlen, hg⟩ := DataW.trod_struct ht h
 exact ⟨hcl, n, fun i f hf => field1 hlen hg i f hf⟩
theorem field_sub {fs : Array Field} {cs : List Value} (h : Fielded P w base spare held enc fs cs) (i o T k : Nat) {f : Field} (hf : fs[i]? = some f) (hT : f.type = T) (ho : f.offset = o) (hc : P.cellsOf T = k) :
  ∃ m y, DataW.trod enc P w base spare held m T ((cs.drop o).take k) = some y := by
 obtain ⟨m, hg⟩ := h
 obtain ⟨y, hy⟩ := hg i f hf
 subst hT ho hc
 exact ⟨m, y, hy⟩
theorem field_int {fs : Array Field} {cs : List Value} (h : Fielded P w base spare held enc fs cs) (i o T : Nat) {f : Field} {k : IntKind} (hf : fs[i]? = some f) (hT : f.type = T) (ho : f.offset = o) (hu : P.underlying T = some (.int k)) (hc : P.cellsOf T = 1) :
  ∃ n, cs[o]? = some (.int k n) ∧ (Lit.int k n).wf = true := by
 obtain ⟨m, y, hy⟩ := field_sub h i o T 1 hf hT ho hc
 obtain ⟨n, e, _, wn⟩ := DataW.trod_int hu hy
 exact ⟨n, take1 e, wn⟩
theorem field_string {fs : Array Field} {cs : List Value} (h : Fielded P w base spare held enc fs cs) (i o T : Nat) {f : Field} (hf : fs[i]? = some f) (hT : f.type = T) (ho : f.offset = o) (hu : P.underlying T = some .string) (hc : P.cellsOf T = 1) :
  ∃ s : ByteArray, cs[o]? = some (.string s) ∧ s.size ≤ maxLen := by
 obtain ⟨m, y, hy⟩ := field_sub h i o T 1 hf hT ho hc
 obtain ⟨n, e, _, wn⟩ := DataW.trod_string hu hy
 exact ⟨n, take1 e, wn⟩
end
end Go.Proofs.YtfefpcdgflgaeaaGreatDoor
end

section
namespace Go.Proofs.YtfefpcdgflgaeaaGreatDoor
set_option maxRecDepth 100000
set_option linter.unusedVariables false
open Go.ChangeShapes Go.WideShapes Go.ChangeAt Go.RowKit
abbrev Evt := Int × ByteArray × Int
def evtCells (x : Evt) : List Value := [.int .i64 x.1, .string x.2.1, .int .u64 x.2.2]
def evtFits (x : Evt) : Prop := 0 ≤ x.2.2 ∧ x.2.2 ≤ 18446744073709551615
structure EvtArg where
 A : Option Addr
 n : Nat
 c : Nat
 l : List Evt
section
variable {H : Type} {enc : TypeId × Value → H} {w : World} {base : Nat} {spare : Nat → Bool} {held : Bool}
theorem cellsEvt : Tryz.prog.cellsOf 29 = 3 := by kernel_rfl
theorem cellsIntE : Tryz.prog.cellsOf 3 = 1 := by kernel_rfl
theorem cellsStrE : Tryz.prog.cellsOf 9 = 1 := by kernel_rfl
theorem cellsU64E : Tryz.prog.cellsOf 27 = 1 := by kernel_rfl
theorem open_evt (cs : List Value) (m : Nat) (y : DataW H × List MemPlace) (h : DataW.trod enc Tryz.prog w base spare held m 29 cs = some y) : ∃ x : Evt, cs = evtCells x ∧ evtFits x := by
 obtain ⟨hcl, hg⟩ := fielded Tryz.underlying29 h
 rw [cellsEvt] at hcl
 obtain ⟨a, g0, w0⟩ := field_int hg 0 0 3 rfl rfl rfl Tryz.underlying3 cellsIntE
 obtain ⟨c, g1, w1⟩ := field_string hg 1 1 9 rfl rfl rfl Tryz.underlying9 cellsStrE
 obtain ⟨d, g2, w2⟩ := field_int hg 2 2 27 rfl rfl rfl Tryz.underlying27 cellsU64E
 refine ⟨(a, c, d), ?_, bounds_u64 w2⟩
 match cs, hcl with
 | [p, q, r], _ =>
  simp at g0 g1 g2
  subst g0 g1 g2
  rfl
theorem open_evts {r : Reach} {b0 : Nat} {v : Value} {d : DataW H} {p : List MemPlace} (hv : Value.okWide Tryz.prog w r b0 22 v) (h : DataW.Trod enc Tryz.prog w base spare held 22 v d p) :
  ∃ a : EvtArg, v = .slice a.A a.n a.c ∧ (Sl w w.heap.size 3 a.A a.n (a.l.flatMap evtCells) ∧ (∀ x ∈ a.l, evtFits x) ∧ a.n ≤ maxLen) := by
 obtain ⟨A, n, c, l, rfl, hn, hl, hs, ho⟩ := open_elems evtCells 3 (by omega) (fun _ => rfl) evtFits Tryz.underlying22 cellsEvt open_evt hv h
 exact ⟨⟨A, n, c, l⟩, rfl, hs, ho, hn⟩
end
theorem evt_at {w : World} {B n : Nat} {A : Option Addr} {l : List Evt} (h : Sl w B 3 A n (l.flatMap evtCells)) (hf : ∀ x ∈ l, evtFits x) {k : Nat} (hk : k < n) :
  ∃ b o x, A = some ⟨b, o, none⟩ ∧ b < B ∧ evtFits x ∧ w.cell? ⟨b, o + k * 3, none⟩ = some (.int .i64 x.1) ∧ w.cell? ⟨b, o + k * 3 + 1, none⟩ = some (.string x.2.1) ∧ w.cell? ⟨b, o + k * 3 + 2, none⟩ = some (.int .u64 x.2.2) := by
 obtain ⟨b, o, e, hb, hc⟩ := h.2 (by omega)
 have hl : l.length = n := by have := h.1; rw [flat_len _ 3 (fun _ => rfl)] at this; omega
 have hx : l[k]? = some l[k] := List.getElem?_eq_getElem (by omega)
 exact ⟨b, o, l[k], e, hb, hf _ (List.getElem_mem _), hc (k * 3 + 0) _ (flat_get evtCells 3 (fun _ => rfl) l k 0 _ hx (by omega)), hc (k * 3 + 1) _ (flat_get evtCells 3 (fun _ => rfl) l k 1 _ hx (by omega)), hc (k * 3 + 2) _ (flat_get evtCells 3 (fun _ => rfl) l k 2 _ hx (by omega))⟩
end Go.Proofs.YtfefpcdgflgaeaaGreatDoor
end

section
namespace Go.Proofs.YtfefpcdgflgaeaaGreatDoor
set_option linter.unusedSimpArgs false
set_option linter.unusedVariables false
open Go.RowKit As Go.Maps
theorem yes_same {x : Int} : decide (x = x ∧ (-1 : Int) = -1) = true := by simp
theorem Handle.below_ {w w' : World} (h : Handle w) (hb : Below w.heap.size w w') : Handle w' := h.below hb
structure EC (w : World) (g : Nat) (x : Evt) : Prop where
 c0 : w.cell? ⟨g, 0, none⟩ = some (.int .i64 x.1)
 c1 : w.cell? ⟨g, 1, none⟩ = some (.string x.2.1)
 c2 : w.cell? ⟨g, 2, none⟩ = some (.int .u64 x.2.2)
theorem EC.turned {w w' : World} {g : Nat} {x : Evt} {F : Nat → Prop} (h : EC w g x) (ht : Turned F w w') (hn : ¬ F g) : EC w' g x := ⟨ht.cell h.c0 hn, ht.cell h.c1 hn, ht.cell h.c2 hn⟩
theorem EC.below {w w' : World} {g : Nat} {x : Evt} (h : EC w g x) (hb : Below w.heap.size w w') : EC w' g x := h.turned (F := fun _ => False) (.of_below hb) id
def rvpV (p r gt : Nat) (s : Rst) (x : ByteArray) (g : Unit) : Nat → Value
 | 0 => .pointer (some ⟨p, 0, none⟩)
 | 1 => .pointer (some ⟨gt, 1, none⟩)
 | 2 => .string x
 | 3 => errV (s.takeE x)
 | 4 => .pointer (some ⟨r, 0, none⟩)
 | 5 => .pointer (some ⟨gt, 1, none⟩)
 | 6 => .string x
 | 7 => .int .i64 (s.takeE x)
 | 8 => .bool true
 | 9 => .bool false
 | _ => undef
def rvqV (p r gt m : Nat) (s : Rst) (g : Unit) : Nat → Value
 | 0 => .pointer (some ⟨p, 0, none⟩)
 | 1 => .pointer (some ⟨gt, 2, none⟩)
 | 2 => .int .u64 (m : Int)
 | 3 => .int .i64 ((s.crash m).sf : Int)
 | 4 => .pointer (some ⟨r, 0, none⟩)
 | 5 => .pointer (some ⟨gt, 2, none⟩)
 | 6 => .int .u64 (m : Int)
 | 7 => .int .i64 ((s.crash m).sf : Int)
 | 8 => .bool false
 | _ => undef
set_option maxHeartbeats 4000000 in
set_option maxRecDepth 100000 in
theorem walkRecvPlays (a : EvtArg) (w : World) (ha : Sl w w.heap.size 3 a.A a.n (a.l.flatMap evtCells) ∧ (∀ x ∈ a.l, evtFits x) ∧ a.n ≤ maxLen) (hg : Handle w) :
  Calls Tryz.prog 3 #[.slice a.A a.n a.c] w fun e w' => e = .returned (.bool true) ∧ Below w.heap.size w w' := by
 obtain ⟨A, ln, c, l⟩ := a
 obtain ⟨hs, hf, hlen⟩ := ha
 simp only at hs hf hlen
 by_cases h1 : 60 < ln
 ·have d1 : decide (60 < (ln : Int)) = true := decide_eq_true (by omega)
  go_enter Tryz.func3, Tryz.ntmps3
  go_wp2
  go_ret
  exact ⟨rfl, Below.refl _ _⟩
 have d1 : decide (60 < (ln : Int)) = false := decide_eq_false (by omega)
 have HH := Lib.hid hg
 have H60 := Lib.hid h1
 clear hlen h1 hg
 go_enter Tryz.func3, Tryz.ntmps3
 go_wp2_with fail
 refine (pnew_any w).mono ?_
 rintro e w1 ⟨Z, rfl, hP, hlo, hb1⟩
 go_wp2_with fail
 refine (rnewr_any w1).mono ?_
 rintro e w2 ⟨Y, rfl, hR, hlo2, hb2⟩
 have hT := Both.of_new hP hlo hb1 hR hlo2 hb2
 have hb : Below w.heap.size w w2 := hb1.trans (hb2.mono hb1.size)
 clear hP hlo hb1 hR hlo2 hb2 d1
 generalize Z.r = p at *
 generalize Y.r = r at *
 go_wp2
 go_loopw [20] (fun iv wr => ∃ (k : Nat) (s : Rst), k ≤ ln ∧ iv = .int .i64 (k : Int) ∧ Both wr w.heap.size (2 * k) p r s s (fun _ => False) ∧ Below w.heap.size w wr) (fun iv _ => ln - (intOf iv).toNat)
 case atStart => exact ⟨0, Rst.new, Nat.zero_le _, rfl, hT, hb⟩
 case round =>
  clear hT hb
  obtain ⟨k, s, hk, rfl, hT, hb⟩ := hrel
  by_cases hlt : k < ln
  ·have t0 : decide ((k : Int) < (ln : Int)) = true := decide_eq_true (by omega)
   obtain ⟨b, o, ⟨kd, x, mk⟩, rfl, hbl, hfx, c0, c1, c2⟩ := evt_at (hs.below hb) hf hlt
   simp only at hfx c0 c1 c2
   have bA := below1 wr (.cells #[.int .i64 kd, .string x, .int .u64 mk] 29)
   have hC : EC (wr.alloc (.cells #[.int .i64 kd, .string x, .int .u64 mk] 29)) wr.heap.size (kd, x, mk) := ⟨by rw [World.cell?_alloc_new]; rfl, by rw [World.cell?_alloc_new]; rfl, by rw [World.cell?_alloc_new]; rfl⟩
   have hTA := (hT.guest bA (g := wr.heap.size) (Nat.le_refl _) (by simp)).less (G' := fun i => i = wr.heap.size) (fun i q => .inr q)
   have hbA := hb.trans (bA.mono hb.size)
   obtain ⟨gt, hgt⟩ : ∃ gt, gt = wr.heap.size := ⟨_, rfl⟩
   have HKK : Hid (∀ q : Bool, 2 * k + q.toNat + 1 ≤ 1000000) := Lib.hid fun q => by have := H60.out; have := Bool.toNat_le q; omega
   have HK2 : Hid (2 * k + 1 ≤ 1000000 ∧ 2 * k + 1 + 1 ≤ 1000000) := Lib.hid (by have := H60.out; omega)
   have W1 := Lib.hid (w_in ((k : Int) + 1) (k + 1) (by omega) (by have := H60.out; omega))
   have HM : Hid (ln - ((k : Int) + 1).toNat < ln - k) := Lib.hid (by omega)
   rw [← hgt] at hC hTA
   by_cases hz : 600 < x.size
   ·have t1 : decide (600 < (x.size : Int)) = true := decide_eq_true (by omega)
    have HB := Lib.hid hbA
    clear hz hC hT hTA hb hbA bA
    go_wp2
    go_ret
    exact ⟨rfl, HB.out⟩
   have t1 : decide (600 < (x.size : Int)) = false := decide_eq_false (by omega)
   have HX : Hid (x.size ≤ 1000000) := Lib.hid (by omega)
   clear hz hT hb bA hbl
   go_upto_block 2 with fail
   rw [← hgt]
   clear hgt c0 c1 c2 t1
   generalize wr.alloc (.cells #[.int .i64 kd, .string x, .int .u64 mk] 29) = W at *
   have hT := hTA
   have hb := hbA
   clear hTA hbA
   go_cut [6] (fun v wx => v = .pointer (some ⟨gt, 0, none⟩) ∧ ∃ s' : Rst, Both wx w.heap.size (2 * k + 1 + 1) p r s' s' (fun i => i = gt) ∧ Below w.heap.size w wx)
   case first =>
    by_cases hk0 : kd = 0
    ·subst hk0
     go_wp2
     refine Flow.wp_region_go (by kernel_rfl) (by kernel_rfl) (by kernel_rfl) 107 rfl (by kernel_rfl) (rvpV p r gt s x) (fun _ L wz => Both wz w.heap.size (2 * k + (L 3).toNat + (L 7).toNat) p r (cond (L 3) (s.take x) s) (cond (L 7) (s.take x) s) (fun i => i = gt) ∧ EC wz gt (0, x, mk) ∧ Below w.heap.size w wz) (fun _ _ => False) (()) (⟨hT.below (Below.refl _ _).drew, hC.below (Below.refl _ _).drew, hb.trans ((Below.refl _ _).drew)⟩) ⟨?_, ?_, ?_, ?_, ?_, ?_, ?_, ?_, ?_, ?_, trivial⟩ ?_ ?_
     ·intro g L wz K ρ hc0 hf0 hF hO hU hcl hi hd hC hK
      have e3 : ρ (.tmp 3) = .pointer (some ⟨p, 0, none⟩) := hO 3 (by kernel_rfl)
      simp [go_sem, Flow.ylP_value, Flow.ylP_skip, Flow.ylP_enter, Flow.ylP_panic, hc0, hf0, e3]
      exact hK g wz hC (fun _ _ => rfl)
     ·intro g L wz K ρ hc0 hf0 hF hO hU hcl hi hd hC hK
      have e6 : ρ (.tmp 6) = .pointer (some ⟨gt, 0, none⟩) := hO 6 (by kernel_rfl)
      simp [go_sem, Flow.ylP_value, Flow.ylP_skip, Flow.ylP_enter, Flow.ylP_panic, hc0, hf0, e6]
      exact hK g wz hC (fun _ _ => rfl)
     ·intro g L wz K ρ hc0 hf0 hF hO hU hcl hi hd hC hK
      have d1 : L 1 = true := hd ⟨1, .data⟩ (by simp) rfl
      have e33 : ρ (.tmp 33) = .pointer (some ⟨gt, 1, none⟩) := hF 33 1 (by kernel_rfl) d1
      have cc := hC.2.1.c1
      simp [go_sem, Flow.ylP_value, Flow.ylP_skip, Flow.ylP_enter, Flow.ylP_panic, hc0, hf0, e33, cc]
      exact hK g wz hC (fun _ _ => rfl)
     ·intro g L wz K ρ hc0 hf0 hF hO hU hcl hi hd hC hK
      have d0 : L 0 = true := hd ⟨0, .data⟩ (by simp) rfl
      have e32 : ρ (.tmp 32) = .pointer (some ⟨p, 0, none⟩) := hF 32 0 (by kernel_rfl) d0
      have d2 : L 2 = true := hd ⟨2, .data⟩ (by simp) rfl
      have e34 : ρ (.tmp 34) = .string x := hF 34 2 (by kernel_rfl) d2
      simp [go_sem, Flow.ylP_value, Flow.ylP_skip, Flow.ylP_enter, Flow.ylP_panic, hc0, hf0, e32, e34]
      simp only [hi, cond_false, Bool.toNat_false, Nat.add_zero] at hC
      refine (both_ptake x hC.1 HX.out (HKK.out _)).mono ?_
      rintro r' wn ⟨rfl, hpn, hbn, htn⟩
      rw [show 2 * k + (L 7).toNat + 1 = 2 * k + 1 + (L 7).toNat by omega] at hpn
      exact ⟨_, rfl, hK () wn ⟨hpn, hC.2.1.turned htn (fun q => q rfl), hC.2.2.trans hbn⟩ (by intro j hj; unfold rvpV; split <;> first | rfl | (rw [hi] at hj; cases hj) | (have hz := hcl _ 3 (by kernel_rfl) hj; rw [hi] at hz; cases hz))⟩
     ·intro g L wz K ρ hc0 hf0 hF hO hU hcl hi hd hC hK
      have e4 : ρ (.tmp 4) = .pointer (some ⟨r, 0, none⟩) := hO 4 (by kernel_rfl)
      simp [go_sem, Flow.ylP_value, Flow.ylP_skip, Flow.ylP_enter, Flow.ylP_panic, hc0, hf0, e4]
      exact hK g wz hC (fun _ _ => rfl)
     ·intro g L wz K ρ hc0 hf0 hF hO hU hcl hi hd hC hK
      have e6 : ρ (.tmp 6) = .pointer (some ⟨gt, 0, none⟩) := hO 6 (by kernel_rfl)
      simp [go_sem, Flow.ylP_value, Flow.ylP_skip, Flow.ylP_enter, Flow.ylP_panic, hc0, hf0, e6]
      exact hK g wz hC (fun _ _ => rfl)
     ·intro g L wz K ρ hc0 hf0 hF hO hU hcl hi hd hC hK
      have d5 : L 5 = true := hd ⟨5, .data⟩ (by simp) rfl
      have e37 : ρ (.tmp 37) = .pointer (some ⟨gt, 1, none⟩) := hF 37 5 (by kernel_rfl) d5
      have cc := hC.2.1.c1
      simp [go_sem, Flow.ylP_value, Flow.ylP_skip, Flow.ylP_enter, Flow.ylP_panic, hc0, hf0, e37, cc]
      exact hK g wz hC (fun _ _ => rfl)
     ·intro g L wz K ρ hc0 hf0 hF hO hU hcl hi hd hC hK
      have d4 : L 4 = true := hd ⟨4, .data⟩ (by simp) rfl
      have e36 : ρ (.tmp 36) = .pointer (some ⟨r, 0, none⟩) := hF 36 4 (by kernel_rfl) d4
      have d6 : L 6 = true := hd ⟨6, .data⟩ (by simp) rfl
      have e38 : ρ (.tmp 38) = .string x := hF 38 6 (by kernel_rfl) d6
      simp [go_sem, Flow.ylP_value, Flow.ylP_skip, Flow.ylP_enter, Flow.ylP_panic, hc0, hf0, e36, e38]
      simp only [hi, cond_false, Bool.toNat_false, Nat.add_zero] at hC
      refine (both_rtake x hC.1 HX.out (HKK.out _)).mono ?_
      rintro r' wn ⟨rfl, hpn, hbn, htn⟩
      exact ⟨_, rfl, hK () wn ⟨hpn, hC.2.1.turned htn (fun q => q rfl), hC.2.2.trans hbn⟩ (by intro j hj; unfold rvpV; split <;> first | rfl | (rw [hi] at hj; cases hj) | (have hz := hcl _ 7 (by kernel_rfl) hj; rw [hi] at hz; cases hz))⟩
     ·intro g L wz K ρ hc0 hf0 hF hO hU hcl hi hd hC hK
      have d3 : L 3 = true := hd ⟨3, .data⟩ (by simp) rfl
      have e35 : ρ (.tmp 35) = errV (s.takeE x) := hF 35 3 (by kernel_rfl) d3
      have d7 : L 7 = true := hd ⟨7, .data⟩ (by simp) rfl
      have e39 : ρ (.tmp 39) = .int .i64 (s.takeE x) := hF 39 7 (by kernel_rfl) d7
      simp [go_sem, Flow.ylP_value, Flow.ylP_skip, Flow.ylP_enter, Flow.ylP_panic, hc0, hf0, e35, e39]
      refine (bare_any (errV_is wz (s.takeE x)) (Handle.below_ HH.out hC.2.2) (s.takeE x)).mono ?_
      rintro r' wn ⟨rfl, hbn⟩
      rw [yes_same]
      exact ⟨_, rfl, hK () wn ⟨hC.1.below hbn, hC.2.1.below hbn, hC.2.2.trans (hbn.mono hC.2.2.size)⟩ (by intro j hj; unfold rvpV; split <;> first | rfl | (rw [hi] at hj; cases hj) | (have hz := hcl _ 8 (by kernel_rfl) hj; rw [hi] at hz; cases hz))⟩
     ·intro g L wz K ρ hc0 hf0 hF hO hU hcl hi hd hC hK
      have d8 : L 8 = true := hd ⟨8, .data⟩ (by simp) rfl
      have e40 : ρ (.tmp 40) = .bool true := hF 40 8 (by kernel_rfl) d8
      simp [go_sem, Flow.ylP_value, Flow.ylP_skip, Flow.ylP_enter, Flow.ylP_panic, hc0, hf0, e40]
      exact hK g wz hC (fun _ _ => rfl)
     ·intro g L ch wz h; exact h.elim
     ·intro g L wz hL hC
      obtain ⟨p1, p2, p3⟩ := hC
      rw [hL 3 (by decide), hL 7 (by decide)] at p1
      simp only [cond_true, Bool.toNat_true] at p1
      clear p2
      simp only [Flow.putAll, rvpV]
      simp [Act.put]
      go_wp2
      go_meet
      exact ⟨rfl, _, p1, p3⟩
    have e0 : (kd == 0) = false := beq_eq_false_iff_ne.2 hk0
    by_cases hk1 : kd = 1
    ·subst hk1
     clear hk0 hC
     go_wp2_with fail
     refine (both_psave hT HK2.out.1).mono ?_
     rintro e w3 ⟨rfl, hT3, hb3, _⟩
     have hb4 := hb.trans hb3
     clear hT hb hb3
     go_wp2_with fail
     refine (both_rsave hT3 HK2.out.2).mono ?_
     rintro e w4 ⟨rfl, hT4, hb5, _⟩
     have hb6 := hb4.trans hb5
     clear hT3 hb4 hb5
     go_wp2
     go_meet
     exact ⟨rfl, _, hT4, hb6⟩
    have e1 : (kd == 1) = false := beq_eq_false_iff_ne.2 hk1
    by_cases hk2 : kd = 2
    ·subst hk2
     clear hk0 hk1 hC
     go_wp2_with fail
     refine (both_pflush hT HK2.out.1).mono ?_
     rintro e w3 ⟨rfl, hT3, hb3, _⟩
     have hb4 := hb.trans hb3
     clear hT hb hb3
     go_wp2_with fail
     refine (both_rflush hT3 HK2.out.2).mono ?_
     rintro e w4 ⟨rfl, hT4, hb5, _⟩
     have hb6 := hb4.trans hb5
     clear hT3 hb4 hb5
     go_wp2
     go_meet
     exact ⟨rfl, _, hT4, hb6⟩
    have e2 : (kd == 2) = false := beq_eq_false_iff_ne.2 hk2
    by_cases hk3 : kd = 3
    ·subst hk3
     clear hk0 hk1 hk2 hC
     go_wp2_with fail
     refine (both_pmark hT HK2.out.1).mono ?_
     rintro e w3 ⟨rfl, hT3, hb3, _⟩
     have hb4 := hb.trans hb3
     clear hT hb hb3
     go_wp2_with fail
     refine (both_rmark hT3 HK2.out.2).mono ?_
     rintro e w4 ⟨rfl, hT4, hb5, _⟩
     have hb6 := hb4.trans hb5
     clear hT3 hb4 hb5
     go_wp2
     go_meet
     exact ⟨rfl, _, hT4, hb6⟩
    have e3 : (kd == 3) = false := beq_eq_false_iff_ne.2 hk3
    by_cases hk4 : kd = 4
    ·subst hk4
     clear hk0 hk1 hk2 hk3
     obtain ⟨m, rfl⟩ := Int.eq_ofNat_of_zero_le hfx.1
     have hm : m < 18446744073709551616 := by have := hfx.2; simp only at this; omega
     clear hfx
     go_wp2
     refine Flow.wp_region_go (by kernel_rfl) (by kernel_rfl) (by kernel_rfl) 107 rfl (by kernel_rfl) (rvqV p r gt m s) (fun _ L wz => Both wz w.heap.size (2 * k + (L 3).toNat + (L 7).toNat) p r (cond (L 3) (s.crash m) s) (cond (L 7) (s.crash m) s) (fun i => i = gt) ∧ EC wz gt (4, x, (m : Int)) ∧ Below w.heap.size w wz) (fun _ _ => False) (()) (⟨hT.below (Below.refl _ _).drew, hC.below (Below.refl _ _).drew, hb.trans ((Below.refl _ _).drew)⟩) ⟨?_, ?_, ?_, ?_, ?_, ?_, ?_, ?_, ?_, trivial⟩ ?_ ?_
     ·intro g L wz K ρ hc0 hf0 hF hO hU hcl hi hd hC hK
      have e3 : ρ (.tmp 3) = .pointer (some ⟨p, 0, none⟩) := hO 3 (by kernel_rfl)
      simp [go_sem, Flow.ylP_value, Flow.ylP_skip, Flow.ylP_enter, Flow.ylP_panic, hc0, hf0, e3]
      exact hK g wz hC (fun _ _ => rfl)
     ·intro g L wz K ρ hc0 hf0 hF hO hU hcl hi hd hC hK
      have e6 : ρ (.tmp 6) = .pointer (some ⟨gt, 0, none⟩) := hO 6 (by kernel_rfl)
      simp [go_sem, Flow.ylP_value, Flow.ylP_skip, Flow.ylP_enter, Flow.ylP_panic, hc0, hf0, e6]
      exact hK g wz hC (fun _ _ => rfl)
     ·intro g L wz K ρ hc0 hf0 hF hO hU hcl hi hd hC hK
      have d1 : L 1 = true := hd ⟨1, .data⟩ (by simp) rfl
      have e63 : ρ (.tmp 63) = .pointer (some ⟨gt, 2, none⟩) := hF 63 1 (by kernel_rfl) d1
      have cc := hC.2.1.c2
      simp [go_sem, Flow.ylP_value, Flow.ylP_skip, Flow.ylP_enter, Flow.ylP_panic, hc0, hf0, e63, cc]
      exact hK g wz hC (fun _ _ => rfl)
     ·intro g L wz K ρ hc0 hf0 hF hO hU hcl hi hd hC hK
      have d0 : L 0 = true := hd ⟨0, .data⟩ (by simp) rfl
      have e62 : ρ (.tmp 62) = .pointer (some ⟨p, 0, none⟩) := hF 62 0 (by kernel_rfl) d0
      have d2 : L 2 = true := hd ⟨2, .data⟩ (by simp) rfl
      have e64 : ρ (.tmp 64) = .int .u64 (m : Int) := hF 64 2 (by kernel_rfl) d2
      simp [go_sem, Flow.ylP_value, Flow.ylP_skip, Flow.ylP_enter, Flow.ylP_panic, hc0, hf0, e62, e64]
      simp only [hi, cond_false, Bool.toNat_false, Nat.add_zero] at hC
      refine (both_pcrash (mask := m) hC.1 hm (HKK.out _)).mono ?_
      rintro r' wn ⟨rfl, hpn, hbn, htn⟩
      rw [show 2 * k + (L 7).toNat + 1 = 2 * k + 1 + (L 7).toNat by omega] at hpn
      exact ⟨_, rfl, hK () wn ⟨hpn, hC.2.1.turned htn (fun q => q rfl), hC.2.2.trans hbn⟩ (by intro j hj; unfold rvqV; split <;> first | rfl | (rw [hi] at hj; cases hj) | (have hz := hcl _ 3 (by kernel_rfl) hj; rw [hi] at hz; cases hz))⟩
     ·intro g L wz K ρ hc0 hf0 hF hO hU hcl hi hd hC hK
      have e4 : ρ (.tmp 4) = .pointer (some ⟨r, 0, none⟩) := hO 4 (by kernel_rfl)
      simp [go_sem, Flow.ylP_value, Flow.ylP_skip, Flow.ylP_enter, Flow.ylP_panic, hc0, hf0, e4]
      exact hK g wz hC (fun _ _ => rfl)
     ·intro g L wz K ρ hc0 hf0 hF hO hU hcl hi hd hC hK
      have e6 : ρ (.tmp 6) = .pointer (some ⟨gt, 0, none⟩) := hO 6 (by kernel_rfl)
      simp [go_sem, Flow.ylP_value, Flow.ylP_skip, Flow.ylP_enter, Flow.ylP_panic, hc0, hf0, e6]
      exact hK g wz hC (fun _ _ => rfl)
     ·intro g L wz K ρ hc0 hf0 hF hO hU hcl hi hd hC hK
      have d5 : L 5 = true := hd ⟨5, .data⟩ (by simp) rfl
      have e67 : ρ (.tmp 67) = .pointer (some ⟨gt, 2, none⟩) := hF 67 5 (by kernel_rfl) d5
      have cc := hC.2.1.c2
      simp [go_sem, Flow.ylP_value, Flow.ylP_skip, Flow.ylP_enter, Flow.ylP_panic, hc0, hf0, e67, cc]
      exact hK g wz hC (fun _ _ => rfl)
     ·intro g L wz K ρ hc0 hf0 hF hO hU hcl hi hd hC hK
      have d4 : L 4 = true := hd ⟨4, .data⟩ (by simp) rfl
      have e66 : ρ (.tmp 66) = .pointer (some ⟨r, 0, none⟩) := hF 66 4 (by kernel_rfl) d4
      have d6 : L 6 = true := hd ⟨6, .data⟩ (by simp) rfl
      have e68 : ρ (.tmp 68) = .int .u64 (m : Int) := hF 68 6 (by kernel_rfl) d6
      simp [go_sem, Flow.ylP_value, Flow.ylP_skip, Flow.ylP_enter, Flow.ylP_panic, hc0, hf0, e66, e68]
      simp only [hi, cond_false, Bool.toNat_false, Nat.add_zero] at hC
      refine (both_rcrash (mask := m) hC.1 hm (HKK.out _)).mono ?_
      rintro r' wn ⟨rfl, hpn, hbn, htn⟩
      exact ⟨_, rfl, hK () wn ⟨hpn, hC.2.1.turned htn (fun q => q rfl), hC.2.2.trans hbn⟩ (by intro j hj; unfold rvqV; split <;> first | rfl | (rw [hi] at hj; cases hj) | (have hz := hcl _ 7 (by kernel_rfl) hj; rw [hi] at hz; cases hz))⟩
     ·intro g L wz K ρ hc0 hf0 hF hO hU hcl hi hd hC hK
      have d3 : L 3 = true := hd ⟨3, .data⟩ (by simp) rfl
      have e65 : ρ (.tmp 65) = .int .i64 ((s.crash m).sf : Int) := hF 65 3 (by kernel_rfl) d3
      have d7 : L 7 = true := hd ⟨7, .data⟩ (by simp) rfl
      have e69 : ρ (.tmp 69) = .int .i64 ((s.crash m).sf : Int) := hF 69 7 (by kernel_rfl) d7
      simp [go_sem, Flow.ylP_value, Flow.ylP_skip, Flow.ylP_enter, Flow.ylP_panic, hc0, hf0, e65, e69]
      exact hK g wz hC (fun _ _ => rfl)
     ·intro g L ch wz h; exact h.elim
     ·intro g L wz hL hC
      obtain ⟨p1, p2, p3⟩ := hC
      rw [hL 3 (by decide), hL 7 (by decide)] at p1
      simp only [cond_true, Bool.toNat_true] at p1
      clear p2
      simp only [Flow.putAll, rvqV]
      simp [Act.put]
      go_wp2
      go_meet
      exact ⟨rfl, _, p1, p3⟩
    have e4 : (kd == 4) = false := beq_eq_false_iff_ne.2 hk4
    clear hk0 hk1 hk2 hk3 hk4 hC
    have hT2 := hT.more (K' := 2 * k + 1 + 1) (by omega) HK2.out.2
    clear hT
    go_wp2
    go_meet
    exact ⟨rfl, s, hT2, hb⟩
   case rest =>
    clear hT hC hb
    obtain ⟨rfl, s', hT, hb⟩ := hcut
    generalize hww : wc = w5 at *
    clear hww
    go_wp2_with fail
    refine (both_rtext hT).mono ?_
    rintro e w6 ⟨rfl, hb6⟩
    have hT6 := hT.below hb6
    have hb7 := hb.trans (hb6.mono hb.size)
    clear hT hb hb6
    go_wp2_with fail
    refine (both_ptext hT6).mono ?_
    rintro e w8 ⟨rfl, hb8⟩
    have hT8 := hT6.below hb8
    have hb9 := hb7.trans (hb8.mono hb7.size)
    clear hT6 hb7 hb8
    go_wp2
    have c5 := Inv.cell hT8.safeAt
    have GT := fun (x : Inv w8) => hT8.below x.below
    have GH := fun (x : Inv w8) => Handle.below_ HH.out (hb9.trans (x.below.mono hb9.size))
    have HB := Lib.hid hb9
    have HT := Lib.hid hT8
    clear hb9 hT8
    refine wp_region_inv (by kernel_rfl) (by kernel_rfl) ?_
    repeat (go_big_quiet_step ((first
     | (go_at_call 21; exact Calls.inv_same (both_poffer (GT _)))
     | (go_at_call 22; exact Calls.inv_same (both_roffer (GT _)))
     | (go_at_call 23; exact Calls.inv_same (both_psafe (GT _)))
     | (go_at_call 8; exact Calls.inv_of ((bare_any (errV_is _ s'.textE) (GH _) s'.textE).mono fun _ _ ⟨a, b⟩ => ⟨by rw [a, yes_same], b⟩)))))
    refine wpQuiet_nil ?_
    intro _ hw'
    obtain ⟨x9, rfl⟩ := hw'
    have hT9 := (HT.out.below x9.below).less (G' := fun _ => False) (fun _ q => q.elim)
    have hb10 := HB.out.trans (x9.below.mono HB.out.size)
    clear c5 GT GH
    generalize x9.w = w10 at *
    obtain ⟨wk1, wk2⟩ := W1.out
    have HR := Lib.hid (And.intro hT9 hb10)
    clear hT9 hb10 W1
    go_wp2
    go_roundw
    case rel => exact ⟨k + 1, s', by omega, by go_num, HR.out.1, HR.out.2⟩
    case measure => simpa [intOf] using HM.out
  ·obtain rfl : k = ln := by omega
   have t0 : decide ((k : Int) < (k : Int)) = false := decide_eq_false (by omega)
   clear hlt
   go_wp2
   go_ret
   exact ⟨rfl, hb⟩
end Go.Proofs.YtfefpcdgflgaeaaGreatDoor
end
