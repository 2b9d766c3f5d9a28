/- The program's receiver and the reference's, side by side.

The program's link and the reference's: New.

Both links in memory; Left.

The program's link: left, piece; the reference's Left. Printed by gen_linkp.py.

Within a step of a link: its block, and what stands. -/
import Derived.Test.YtfefpcdgflgaeaaGreatDoorZ14
import Derived.Test.YtfefpcdgflgaeaaGreatDoorZ2
import Derived.Test.YtfefpcdgflgaeaaGreatDoorZ7
import Derived.Deep.Cut
import Derived.Test.YtfefpcdgflgaeaaGreatDoorZ4
section
namespace Go.Proofs.YtfefpcdgflgaeaaGreatDoor
set_option linter.unusedSimpArgs false
set_option linter.unusedVariables false
open Go.RowKit As Go.Maps
/-- The program's at p tells s, the reference's at r tells t; both lie from B on, apart, and away from the blocks of G. -/
def Both (w : World) (B K p r : Nat) (s t : Rst) (G : Nat → Prop) : Prop := ∃ (L : PLoc) (R : RLoc), L.r = p ∧ R.r = r ∧ PR w K L s ∧ RR w K R t ∧ Within L.foot B w ∧ Within R.foot B w ∧ Apart L.foot R.foot ∧ B ≤ w.heap.size ∧ ∀ i, G i → ¬ L.foot i ∧ ¬ R.foot i ∧ i < w.heap.size
section
variable {w w' : World} {B K p r : Nat} {s s' t t' : Rst} {G : Nat → Prop}
theorem Both.of_new {w0 w1 w2 : World} {L : PLoc} {R : RLoc} (hp : PR w1 0 L s) (hl : ∀ i, L.foot i → w0.heap.size ≤ i) (hb : Below w0.heap.size w0 w1) (hr : RR w2 0 R t) (hl2 : ∀ i, R.foot i → w1.heap.size ≤ i) (hb2 : Below w1.heap.size w1 w2) : Both w2 w0.heap.size 0 L.r R.r s t (fun _ => False) :=
 ⟨L, R, rfl, rfl, hp.below hb2, hr, fun i hi => ⟨hl i hi, Nat.lt_of_lt_of_le (hp.low i hi) hb2.size⟩, fun i hi => ⟨Nat.le_trans hb.size (hl2 i hi), hr.low i hi⟩, fun i hi hg => by have := hp.low i hi; have := hl2 i hg; omega, Nat.le_trans hb.size hb2.size, fun _ q => q.elim⟩
theorem Both.below (h : Both w B K p r s t G) (hb : Below w.heap.size w w') : Both w' B K p r s t G := by
 obtain ⟨L, R, e1, e2, h1, h2, h3, h4, h5, h6, h7⟩ := h
 exact ⟨L, R, e1, e2, h1.below hb, h2.below hb, h3.grow hb.size, h4.grow hb.size, h5, Nat.le_trans h6 hb.size, fun i hi => ⟨(h7 i hi).1, (h7 i hi).2.1, Nat.lt_of_lt_of_le (h7 i hi).2.2 hb.size⟩⟩
theorem Both.more (h : Both w B K p r s t G) {K' : Nat} (hk : K ≤ K') (hK : K' ≤ 1000000) : Both w B K' p r s t G := by
 obtain ⟨L, R, e1, e2, h1, h2, h3, h4, h5, h6, h7⟩ := h
 exact ⟨L, R, e1, e2, h1.more hk hK, h2.more hk hK, h3, h4, h5, h6, h7⟩
theorem Both.size (h : Both w B K p r s t G) : B ≤ w.heap.size := by obtain ⟨L, R, e1, e2, h1, h2, h3, h4, h5, h6, h7⟩ := h; exact h6
/-- A new block is kept away from. -/
theorem Both.guest (h : Both w B K p r s t G) (hb : Below w.heap.size w w') {g : Nat} (h1 : w.heap.size ≤ g) (h2 : g < w'.heap.size) : Both w' B K p r s t (fun i => G i ∨ i = g) := by
 obtain ⟨L, R, e1, e2, k1, k2, k3, k4, k5, k6, k7⟩ := h
 refine ⟨L, R, e1, e2, k1.below hb, k2.below hb, k3.grow hb.size, k4.grow hb.size, k5, Nat.le_trans k6 hb.size, fun i hi => ?_⟩
 rcases hi with hi | rfl
 ·exact ⟨(k7 i hi).1, (k7 i hi).2.1, Nat.lt_of_lt_of_le (k7 i hi).2.2 hb.size⟩
 ·exact ⟨fun q => by have := (k3 i q).2; omega, fun q => by have := (k4 i q).2; omega, h2⟩
theorem Both.less (h : Both w B K p r s t G) {G' : Nat → Prop} (hg : ∀ i, G' i → G i) : Both w B K p r s t G' := by
 obtain ⟨L, R, e1, e2, k1, k2, k3, k4, k5, k6, k7⟩ := h
 exact ⟨L, R, e1, e2, k1, k2, k3, k4, k5, k6, fun i hi => k7 i (hg i hi)⟩
/-- The program's moves. -/
theorem Both.pmove {L L' : PLoc} {R : RLoc} (hE : K + 1 ≤ 1000000) (e2 : R.r = r) (h2 : RR w K R t) (h3 : Within L.foot B w) (h4 : Within R.foot B w) (h5 : Apart L.foot R.foot) (h6 : B ≤ w.heap.size) (h7 : ∀ i, G i → ¬ L.foot i ∧ ¬ R.foot i ∧ i < w.heap.size) (e1 : L'.r = p) (h : PR w' (K + 1) L' s') (hm : Moves L.foot L'.foot w w') : Both w' B (K + 1) p r s' t G ∧ Below B w w' ∧ Turned (fun i => ¬ G i) w w' := by
 refine ⟨⟨L', R, e1, e2, h, (h2.more (Nat.le_succ K) hE).stays hm.t (fun i hi hf => h5 i hf hi), h3.moved hm h6 h.low, h4.grow hm.size, h5.moved hm (fun i hi => (h4 i hi).2), Nat.le_trans h6 hm.size, fun i hi => ⟨fun q => by rcases hm.g i q with u | u; exact (h7 i hi).1 u; have := (h7 i hi).2.2; omega, (h7 i hi).2.1, Nat.lt_of_lt_of_le (h7 i hi).2.2 hm.size⟩⟩, hm.below h3 h6, hm.t.mono fun i hf hg => (h7 i hg).1 hf⟩
theorem Both.rmove {L : PLoc} {R R' : RLoc} (hE : K + 1 ≤ 1000000) (e1 : L.r = p) (h1 : PR w K L s) (h3 : Within L.foot B w) (h4 : Within R.foot B w) (h5 : Apart L.foot R.foot) (h6 : B ≤ w.heap.size) (h7 : ∀ i, G i → ¬ L.foot i ∧ ¬ R.foot i ∧ i < w.heap.size) (e2 : R'.r = r) (h : RR w' (K + 1) R' t') (hm : Moves R.foot R'.foot w w') : Both w' B (K + 1) p r s t' G ∧ Below B w w' ∧ Turned (fun i => ¬ G i) w w' := by
 refine ⟨⟨L, R', e1, e2, (h1.more (Nat.le_succ K) hE).stays hm.t (fun i hi hf => h5 i hi hf), h, h3.grow hm.size, h4.moved hm h6 h.low, (h5.symm.moved hm (fun i hi => (h3 i hi).2)).symm, Nat.le_trans h6 hm.size, fun i hi => ⟨(h7 i hi).1, fun q => by rcases hm.g i q with u | u; exact (h7 i hi).2.1 u; have := (h7 i hi).2.2; omega, Nat.lt_of_lt_of_le (h7 i hi).2.2 hm.size⟩⟩, hm.below h4 h6, hm.t.mono fun i hf hg => (h7 i hg).2.1 hf⟩
end
section
variable {w : World} {B K p r : Nat} {s t : Rst} {G : Nat → Prop}
theorem both_ptake (x : ByteArray) (h : Both w B K p r s t G) (hx : x.size ≤ 1000000) (hE : K + 1 ≤ 1000000) :
  Calls Tryz.prog 9 #[.pointer (some ⟨p, 0, none⟩), .string x] w fun e w' => e = .returned (errV (s.takeE x)) ∧ Both w' B (K + 1) p r (s.take x) t G ∧ Below B w w' ∧ Turned (fun i => ¬ G i) w w' := by
 obtain ⟨L, R, rfl, e2, h1, h2, h3, h4, h5, h6, h7⟩ := h
 refine (ptake_any x h1 hx hE).mono ?_
 rintro e w' ⟨rfl, L', e1, hp, hm⟩
 exact ⟨rfl, Both.pmove hE e2 h2 h3 h4 h5 h6 h7 e1 hp hm⟩
theorem both_rtake (x : ByteArray) (h : Both w B K p r s t G) (hx : x.size ≤ 1000000) (hE : K + 1 ≤ 1000000) :
  Calls Tryz.prog 10 #[.pointer (some ⟨r, 0, none⟩), .string x] w fun e w' => e = .returned (.int .i64 (t.takeE x)) ∧ Both w' B (K + 1) p r s (t.take x) G ∧ Below B w w' ∧ Turned (fun i => ¬ G i) w w' := by
 obtain ⟨L, R, e1, rfl, h1, h2, h3, h4, h5, h6, h7⟩ := h
 refine (rtake_any x h2 hx hE).mono ?_
 rintro e w' ⟨rfl, R', e2, hp, hm⟩
 exact ⟨rfl, Both.rmove hE e1 h1 h3 h4 h5 h6 h7 e2 hp hm⟩
theorem both_psave (h : Both w B K p r s t G) (hE : K + 1 ≤ 1000000) :
  Calls Tryz.prog 11 #[.pointer (some ⟨p, 0, none⟩)] w fun e w' => e = .returned (.tuple #[]) ∧ Both w' B (K + 1) p r s.save t G ∧ Below B w w' ∧ Turned (fun i => ¬ G i) w w' := by
 obtain ⟨L, R, rfl, e2, h1, h2, h3, h4, h5, h6, h7⟩ := h
 refine (psave_any h1 hE).mono ?_
 rintro e w' ⟨rfl, hp, ht⟩
 exact ⟨rfl, Both.pmove (L := L) hE e2 h2 h3 h4 h5 h6 h7 (by rfl) hp ⟨ht, fun _ q => .inl q⟩⟩
theorem both_rsave (h : Both w B K p r s t G) (hE : K + 1 ≤ 1000000) :
  Calls Tryz.prog 12 #[.pointer (some ⟨r, 0, none⟩)] w fun e w' => e = .returned (.tuple #[]) ∧ Both w' B (K + 1) p r s t.save G ∧ Below B w w' ∧ Turned (fun i => ¬ G i) w w' := by
 obtain ⟨L, R, e1, rfl, h1, h2, h3, h4, h5, h6, h7⟩ := h
 refine (rsave_any h2 hE).mono ?_
 rintro e w' ⟨rfl, hp, ht⟩
 exact ⟨rfl, Both.rmove (R := R) hE e1 h1 h3 h4 h5 h6 h7 (by rfl) hp ⟨ht, fun _ q => .inl q⟩⟩
theorem both_pflush (h : Both w B K p r s t G) (hE : K + 1 ≤ 1000000) :
  Calls Tryz.prog 13 #[.pointer (some ⟨p, 0, none⟩)] w fun e w' => e = .returned (.tuple #[]) ∧ Both w' B (K + 1) p r s.flush t G ∧ Below B w w' ∧ Turned (fun i => ¬ G i) w w' := by
 obtain ⟨L, R, rfl, e2, h1, h2, h3, h4, h5, h6, h7⟩ := h
 refine (pflush_any h1).mono ?_
 rintro e w' ⟨rfl, hp, ht⟩
 exact ⟨rfl, Both.pmove (L := L) hE e2 h2 h3 h4 h5 h6 h7 (by rfl) (hp.more (Nat.le_succ K) hE) ⟨ht, fun _ q => .inl q⟩⟩
theorem both_rflush (h : Both w B K p r s t G) (hE : K + 1 ≤ 1000000) :
  Calls Tryz.prog 14 #[.pointer (some ⟨r, 0, none⟩)] w fun e w' => e = .returned (.tuple #[]) ∧ Both w' B (K + 1) p r s t.flush G ∧ Below B w w' ∧ Turned (fun i => ¬ G i) w w' := by
 obtain ⟨L, R, e1, rfl, h1, h2, h3, h4, h5, h6, h7⟩ := h
 refine (rflush_any h2 hE).mono ?_
 rintro e w' ⟨rfl, R', e2, hp, hm⟩
 exact ⟨rfl, Both.rmove hE e1 h1 h3 h4 h5 h6 h7 e2 hp hm⟩
theorem both_pmark (h : Both w B K p r s t G) (hE : K + 1 ≤ 1000000) :
  Calls Tryz.prog 15 #[.pointer (some ⟨p, 0, none⟩)] w fun e w' => e = .returned (.tuple #[]) ∧ Both w' B (K + 1) p r s.mark t G ∧ Below B w w' ∧ Turned (fun i => ¬ G i) w w' := by
 obtain ⟨L, R, rfl, e2, h1, h2, h3, h4, h5, h6, h7⟩ := h
 refine (pmark_any h1 hE).mono ?_
 rintro e w' ⟨rfl, hp, ht⟩
 exact ⟨rfl, Both.pmove (L := L) hE e2 h2 h3 h4 h5 h6 h7 (by rfl) hp ⟨ht, fun _ q => .inl q⟩⟩
theorem both_rmark (h : Both w B K p r s t G) (hE : K + 1 ≤ 1000000) :
  Calls Tryz.prog 16 #[.pointer (some ⟨r, 0, none⟩)] w fun e w' => e = .returned (.tuple #[]) ∧ Both w' B (K + 1) p r s t.mark G ∧ Below B w w' ∧ Turned (fun i => ¬ G i) w w' := by
 obtain ⟨L, R, e1, rfl, h1, h2, h3, h4, h5, h6, h7⟩ := h
 refine (rmark_any h2 hE).mono ?_
 rintro e w' ⟨rfl, hp, ht⟩
 exact ⟨rfl, Both.rmove (R := R) hE e1 h1 h3 h4 h5 h6 h7 (by rfl) hp ⟨ht, fun _ q => .inl q⟩⟩
theorem both_pcrash {mask : Nat} (h : Both w B K p r s t G) (hm : mask < 18446744073709551616) (hE : K + 1 ≤ 1000000) :
  Calls Tryz.prog 17 #[.pointer (some ⟨p, 0, none⟩), .int .u64 (mask : Int)] w fun e w' => e = .returned (.int .i64 ((s.crash mask).sf : Int)) ∧ Both w' B (K + 1) p r (s.crash mask) t G ∧ Below B w w' ∧ Turned (fun i => ¬ G i) w w' := by
 obtain ⟨L, R, rfl, e2, h1, h2, h3, h4, h5, h6, h7⟩ := h
 refine (pcrash_any h1 hm).mono ?_
 rintro e w' ⟨rfl, L', e1, hp, hm⟩
 exact ⟨rfl, Both.pmove hE e2 h2 h3 h4 h5 h6 h7 e1 (hp.more (Nat.le_succ K) hE) hm⟩
theorem both_rcrash {mask : Nat} (h : Both w B K p r s t G) (hm : mask < 18446744073709551616) (hE : K + 1 ≤ 1000000) :
  Calls Tryz.prog 18 #[.pointer (some ⟨r, 0, none⟩), .int .u64 (mask : Int)] w fun e w' => e = .returned (.int .i64 ((t.crash mask).sf : Int)) ∧ Both w' B (K + 1) p r s (t.crash mask) G ∧ Below B w w' ∧ Turned (fun i => ¬ G i) w w' := by
 obtain ⟨L, R, e1, rfl, h1, h2, h3, h4, h5, h6, h7⟩ := h
 refine (rcrashr_any h2 hm hE).mono ?_
 rintro e w' ⟨rfl, R', e2, hp, hm⟩
 exact ⟨rfl, Both.rmove hE e1 h1 h3 h4 h5 h6 h7 e2 hp hm⟩
theorem both_poffer (h : Both w B K p r s t G) : Calls Tryz.prog 21 #[.pointer (some ⟨p, 0, none⟩)] w fun e w' => e = .returned (.int .i64 (s.offer : Int)) ∧ w = w' := by
 obtain ⟨L, R, rfl, e2, h1, _⟩ := h
 exact poffer_any h1
theorem both_roffer (h : Both w B K p r s t G) : Calls Tryz.prog 22 #[.pointer (some ⟨r, 0, none⟩)] w fun e w' => e = .returned (.int .i64 (t.offer : Int)) ∧ w = w' := by
 obtain ⟨L, R, e1, rfl, _, h2, _⟩ := h
 exact roffer_any h2
theorem Both.safeAt (h : Both w B K p r s t G) : w.cell? ⟨r, 5, none⟩ = some (.int .i64 (t.sf : Int)) := by
 obtain ⟨L, R, e1, rfl, _, h2, _⟩ := h
 exact h2.cell 5 rfl
end
end Go.Proofs.YtfefpcdgflgaeaaGreatDoor
end

section
namespace Go.Proofs.YtfefpcdgflgaeaaGreatDoor
set_option linter.unusedSimpArgs false
set_option linter.unusedVariables false
open Go.RowKit As Go.Maps
def StrRow (w : World) (A : Nat) (ps : List ByteArray) : Prop := ∀ (i : Nat) (t : ByteArray), ps[i]? = some t → w.cell? ⟨A, i, none⟩ = some (.string t)
def strs (ps : List ByteArray) : List Value := ps.map Value.string
theorem StrRow.turned {w w' : World} {A : Nat} {ps : List ByteArray} {F : Nat → Prop} (h : StrRow w A ps) (ht : Turned F w w') (hn : ¬ F A) : StrRow w' A ps := fun i t hi => ht.cell (h i t hi) hn
theorem StrRow.of_own {w : World} {B A n c : Nat} {E : TypeId} {ps : List ByteArray} (h : w.ownsRow B E 1 (.slice (some ⟨A, 0, none⟩) n c) n (strs ps)) (hl : ps.length = n) : StrRow w A ps := fun i t hi => by
 have hi2 : i < ps.length := Nat.lt_of_not_le fun q => by rw [List.getElem?_eq_none q] at hi; cases hi
 rw [h.cellAt i (by omega)]
 unfold strs
 rw [List.getElem?_map, hi]
 rfl
theorem Turned.grow_new {S : Nat → Prop} {w0 w w' : World} {row : Option Nat} (h : Turned S w0 w) (hg : w.grownBy w' row) (hr : ∀ b, row = some b → w0.heap.size ≤ b) : Turned S w0 w' :=
 ⟨hg.os.trans h.os, hg.tape.trans h.tape, hg.output.trans h.output, Nat.le_trans h.size hg.size, fun i hi hn => (hg.block i (Nat.lt_of_lt_of_le hi h.size) (fun e => by have := hr i e.symm; omega)).trans (h.block i hi hn)⟩
theorem Turned.of_grownO {w w' : World} {row : Option Nat} (h : w.grownBy w' row) : Turned (fun q => row = some q) w w' := ⟨h.os, h.tape, h.output, h.size, fun i hi hn => h.block i hi (fun e => hn e.symm)⟩
theorem own_cap {w : World} {base : Nat} {e : TypeId} {A n c : Nat} {xs : List Value} (h : w.ownsRow base e 1 (.slice (some ⟨A, 0, none⟩) n c) n xs) : n ≤ c := by
 rcases h.2 with ⟨hv, _⟩ | ⟨g, cap, cur, hv, hb, hh, hc, _⟩
 ·cases hv
 ·injection hv with _ _ h3
  rw [h3]
  exact hc
def lkVs (p : Nat) (v : Value) (z f : Nat) : List Value := [.pointer (some ⟨p, 0, none⟩), v, .int .i64 (z : Int), .int .i64 (f : Int)]
theorem strInfoL : (Tryz.prog.info? 9).map (fun i => (i.zero, i.size, i.bytes)) = some (some (.string ⟨#[]⟩), 1, 16) := by kernel_rfl
theorem strs_snoc {w : World} {base : Nat} {E : TypeId} {v : Value} {l : List ByteArray} {x : ByteArray} {n : Nat} (h : w.ownsRow base E 1 v (n + 1) (strs l ++ [Value.string x])) : w.ownsRow base E 1 v (n + 1) (strs (l ++ [x])) := by
 simpa [strs] using h
theorem sent_take {s : ByteArray} {z : Int} {k : Nat} {c : Chk} (h : (cutOf s z).1[k]? = some c) : (sentOf s z).take (k + 1) = (sentOf s z).take k ++ [sealOf (chkBytes c)] := by
 have h2 : (sentOf s z)[k]? = some (sealOf (chkBytes c)) := by unfold sentOf; rw [List.getElem?_map, h]; rfl
 rw [List.take_add_one, h2]
 rfl
theorem chk_at {w : World} {B n : Nat} {A : Option Addr} {l : List Chk} (h : Sl w B 4 A n (l.flatMap chkCells)) {k : Nat} (hk : k < n) :
  ∃ b o x, A = some ⟨b, o, none⟩ ∧ b < B ∧ l[k]? = some x ∧ w.cell? ⟨b, o + k * 4, none⟩ = some (.int .u32 x.1) ∧ w.cell? ⟨b, o + k * 4 + 1, none⟩ = some (.int .i64 x.2.1) ∧ w.cell? ⟨b, o + k * 4 + 2, none⟩ = some (.int .i64 x.2.2.1) ∧ w.cell? ⟨b, o + k * 4 + 3, none⟩ = some (.string x.2.2.2) := by
 have hl := slk_len chkCells 4 (by omega) (fun _ => rfl) h
 obtain ⟨b, o, x, e, hb, hx, hc⟩ := slk_at chkCells 4 (fun _ => rfl) h hl hk
 exact ⟨b, o, x, e, hb, hx, hc 0 _ rfl, hc 1 _ rfl, hc 2 _ rfl, hc 3 _ rfl⟩
theorem plnew_no (s : ByteArray) (z : Int) (w : World) (hs : s.size ≤ 1000000) (he : (cutOf s z).2 ≠ 0) :
  Calls Tryz.prog 25 #[.string s, .int .i64 z] w fun e w' => e = .returned (.tuple #[.pointer none, errV (cutOf s z).2]) ∧ Below w.heap.size w w' := by
 go_enter Tryz.func25, Tryz.ntmps25
 go_wp2_with fail
 refine (cut_any s z w hs).mono ?_
 rintro r w1 ⟨v, rfl, ho, hb⟩
 have E1 := Lib.hid (errV_of he)
 rw [E1.out]
 clear ho
 go_wp2
 go_ret2
 rw [E1.out]
 exact ⟨rfl, hb⟩
theorem rlnew_no (s : ByteArray) (z : Int) (w : World) (hs : s.size ≤ 1000000) (he : (cutOf s z).2 ≠ 0) :
  Calls Tryz.prog 24 #[.string s, .int .i64 z] w fun e w' => e = .returned (.tuple #[.pointer none, .int .i64 (cutOf s z).2]) ∧ Below w.heap.size w w' := by
 go_enter Tryz.func24, Tryz.ntmps24
 go_wp2_with fail
 refine (rcut_any s z w hs).mono ?_
 rintro r w1 ⟨v, rfl, ho, hb⟩
 have te : ((cutOf s z).2 != 0) = true := bne_iff_ne.2 he
 clear ho
 go_wp2
 go_ret2
 exact ⟨rfl, hb⟩
structure LkNew (w w' : World) (lp p A a z : Nat) (ps : List ByteArray) (foot : Nat → Prop) : Prop where
 rc : RC w' lp (lkVs p (.slice (some ⟨A, 0, none⟩) ps.length a) z 0)
 row : StrRow w' A ps
 cap : ps.length ≤ a
 lA : lp ≠ A
 nl : ¬ foot lp
 nA : ¬ foot A
 blp : w.heap.size ≤ lp
 bA : w.heap.size ≤ A
 llp : lp < w'.heap.size
 llA : A < w'.heap.size
 bel : Below w.heap.size w w'
set_option maxHeartbeats 2000000 in
set_option maxRecDepth 100000 in
theorem plnew_any (s : ByteArray) (z : Nat) (w : World) (hs : s.size ≤ 1000000) (he : (cutOf s z).2 = 0) :
  Calls Tryz.prog 25 #[.string s, .int .i64 (z : Int)] w fun e w' => ∃ (lp A a : Nat) (L : PLoc), e = .returned (.tuple #[.pointer (some ⟨lp, 0, none⟩), .nilIface]) ∧ PR w' 0 L Rst.new ∧ (∀ i, L.foot i → w.heap.size ≤ i) ∧ LkNew w w' lp L.r A a z (sentOf s z) L.foot := by
 obtain ⟨i0, hi, hz0, hz1, hz2⟩ := info_parts strInfoL
 go_enter Tryz.func25, Tryz.ntmps25
 go_wp2_with fail
 refine (cut_any s z w hs).mono ?_
 rintro r w1 ⟨v, rfl, ho, hb⟩
 rw [he, errV_zero]
 obtain ⟨hn1, hn2, hz1', hz2'⟩ := cut_some he
 have hcr := cut_right he
 obtain ⟨A0, c0, rfl⟩ := own_form ho
 have hsl := Sl.of_own ho
 obtain ⟨n, hn⟩ : ∃ n, n = (cutOf s z).1.length := ⟨_, rfl⟩
 rw [← hn] at hsl hn1 hn2 ⊢
 have HCR := Lib.hid hcr
 have HNN := Lib.hid hn
 have HPS : Hid ((sentOf s z).length = n) := Lib.hid (by unfold sentOf; rw [List.length_map, hn])
 clear he hcr ho hn
 go_wp2_with fail
 refine (pnew_any w1).mono ?_
 rintro r w2 ⟨L, rfl, hP, hlo, hb2⟩
 have hsl2 := hsl.below hb2
 have hb3 := hb.trans (hb2.mono hb.size)
 have bB := below1 w2 (.cells #[.pointer (some ⟨L.r, 0, none⟩), .slice none 0 0, .int .i64 (z : Int), .int .i64 0] 61)
 have hR0 : RC (w2.alloc (.cells #[.pointer (some ⟨L.r, 0, none⟩), .slice none 0 0, .int .i64 (z : Int), .int .i64 0] 61)) w2.heap.size (lkVs L.r (.slice none 0 0) z 0) := RC.new w2 (lkVs L.r (.slice none 0 0) z 0) 61
 have hP0 := hP.below bB
 have hsl3 := hsl2.below (bB.mono hb2.size)
 have HB12 := Lib.hid hb2.size
 have hb4 := hb3.trans (bB.mono hb3.size)
 have HLO : Hid (∀ i, L.foot i → w.heap.size ≤ i) := Lib.hid fun i hi => Nat.le_trans hb.size (hlo i hi)
 have HLW : Hid (∀ i, L.foot i → i < w2.heap.size) := Lib.hid hP.low
 clear hP hsl hsl2 hb hb2 hlo
 go_wp2_with fail
 obtain ⟨lp, hlp⟩ : ∃ lp, lp = w2.heap.size := ⟨_, rfl⟩
 rw [← hlp] at hR0 HLW ⊢
 have HLP : Hid (w.heap.size ≤ lp) := Lib.hid (by rw [hlp]; exact hb3.size)
 have HW1 : Hid (w1.heap.size ≤ lp) := Lib.hid (by rw [hlp]; exact HB12.out)
 generalize w2.alloc (.cells #[.pointer (some ⟨L.r, 0, none⟩), .slice none 0 0, .int .i64 (z : Int), .int .i64 0] 61) = w3 at *
 have HL3 : Hid (lp < w3.heap.size) := Lib.hid (cell_lt (hR0 0 _ rfl).1)
 have HSL := Lib.hid hsl3
 have HP0 := Lib.hid hP0
 have HB4 := Lib.hid hb4
 clear hlp hb3 bB hsl3 hP0 hb4
 go_loopw [28] (fun kv wr => ∃ (k : Nat) (v : Value), k ≤ n ∧ kv = .int .i64 (k : Int) ∧ RC wr lp (lkVs L.r v z 0) ∧ wr.ownsRow w3.heap.size 9 1 v k (strs ((sentOf s z).take k)) ∧ Turned (fun i => i = lp) w3 wr) (fun kv _ => n - (intOf kv).toNat)
 case atStart => exact ⟨0, .slice none 0 0, Nat.zero_le _, rfl, hR0, World.ownsRow_nil _ _ _ _, .refl _ _⟩
 case round =>
  clear hR0
  obtain ⟨k, v, hk, rfl, hR, ho, hT⟩ := hrel
  by_cases hlt : k < n
  ·have t0 : decide ((k : Int) < (n : Int)) = true := decide_eq_true (by omega)
   have t0' : decide (k < n) = true := decide_eq_true hlt
   have hslr := HSL.out.kept (w' := wr) fun q hq => World.cell?_of_block (hT.block q.block (by have := HW1.out; have := HL3.out; omega) (by have := HW1.out; omega))
   obtain ⟨b, o, ⟨m, t, a, d⟩, rfl, hbl, hx, c0', c1, c2, c3⟩ := chk_at hslr hlt
   simp only at c0' c1 c2 c3
   have hcm := HCR.out _ (List.mem_of_getElem? hx)
   simp only at hcm
   obtain ⟨hr1, hm0, hm1⟩ := hcm
   have hds : d.size ≤ 1000000 := by have := (chkRight_ok' hr1).2.2.2.2.1; omega
   have hck := chkOf_good (x := (m, t, a, d)) hr1
   have hst := sent_take hx
   obtain ⟨x, hxe⟩ : ∃ x, x = sealOf (chkBytes (m, t, a, d)) := ⟨_, rfl⟩
   rw [← hxe] at hck hst
   have hlen : ((sentOf s z).take k).length = k := by rw [List.length_take, HPS.out]; omega
   have bA := below1 wr (ckO m t a d)
   have hR1 := hR.below bA
   have ho1 := ho.alloc (ckO m t a d)
   have hT1 : Turned (fun i => i = lp) w3 (wr.alloc (ckO m t a d)) := hT.trans (.of_below bA)
   have W1 := Lib.hid (w_in ((k : Int) + 1) (k + 1) (by omega) (by omega))
   have HM : Hid (n - ((k : Int) + 1).toNat < n - k) := Lib.hid (by omega)
   have HX := Lib.hid (And.intro hr1 (And.intro hck hst))
   have hk4 : k ≤ 4096 := by omega
   have hcw := CkAt.new wr m t a d
   clear hr1 hck hst hxe hx hR ho hT hslr
   go_upto_region 8 with (fail)
   generalize wr.alloc (ckO m t a d) = w4 at *
   obtain ⟨k0, k1, k2, k3⟩ := hcw
   clear c0' c1 c2 c3
   go_wp2_with fail
   refine (cwrite_any m t a d w4 hm0 hm1 hds).mono ?_
   rintro r w5 ⟨rfl, hb5⟩
   rw [HX.out.2.1, HX.out.1, errV_zero]
   have hR2 := hR1.below hb5
   have ho2 := (Turned.of_below (S := fun _ => False) hb5).own ho1 (fun _ _ => id)
   have hT2 := hT1.trans (.of_below hb5)
   have hS2 : w3.heap.size ≤ w5.heap.size := hT2.size
   have k1 := (hR2 1 _ rfl).1
   have f1 := (hR2 1 _ rfl).2
   clear hR1 ho1 hT1 hb5 bA k0 k2 k3
   go_wp2_with (first
    | (at_builtin; refine wpList_append_own _ rfl (.tmp 44) (.tmp 46) 59 rfl w3.heap.size 9 i0 (.string ⟨#[]⟩) 1 16 Tryz.underlying59 hi hz0 hz1 hz2 rfl (by decide) v k (strs ((sentOf s z).take k)) rfl (ho2.alloc _) ⟨w5.heap.size, 0, none⟩ 1 1 [Value.string x] rfl rfl (cells_new1 _ _ _) (by intro u hu; simp at hu; subst hu; rfl) (by unfold maxLen; omega) (by omega) (by simp; omega) ?_; intro v1 w6 hO6 hg6 _; have hR3 := hR2.below (below1 w5 (.cells #[Value.string x] 9)); have hne6 := fun (q : Nat) (hq : v.ownBlock = some q) => (ho2.lt q hq).1; have hT6 := (hT2.trans (.of_below (below1 w5 (.cells #[Value.string x] 9)))).grow_new hg6 hne6; have hR6 : RC w6 lp (lkVs L.r v z 0) := hR3.turned (F := fun q => v.ownBlock = some q) (.of_grownO hg6) (fun q => by have := hne6 lp q; have := HL3.out; omega); have k1 := (hR6 1 _ rfl).1; have f1 := (hR6 1 _ rfl).2; clear hR2 hR3 ho2 hT2 hg6; obtain ⟨A1, cc1, rfl⟩ := own_form hO6))
   have hR7 := hR6.set 1 (.slice A1 (k + 1) cc1) (by simp [lkVs])
   have ho7 := own_set (s := lp) (j := 1) (.slice A1 (k + 1) cc1) (strs_snoc hO6) HL3.out
   have hT7 := hT6.trans (set_r w6 lp 1 (.slice A1 (k + 1) cc1))
   rw [← HX.out.2.2] at ho7
   have HR := Lib.hid (And.intro hR7 (And.intro ho7 hT7))
   clear hR6 hO6 hT6 hR7 ho7 hT7 hne6
   obtain ⟨wk1, wk2⟩ := W1.out
   go_wp2
   go_roundw
   case rel => exact ⟨k + 1, .slice A1 (k + 1) cc1, hlt, by go_num, HR.out.1, HR.out.2.1, HR.out.2.2⟩
   case measure => simpa [intOf] using HM.out
  ·obtain rfl : k = n := by omega
   have t0 : decide ((k : Int) < (k : Int)) = false := decide_eq_false (by omega)
   have t0' : decide (k < k) = false := decide_eq_false hlt
   obtain ⟨A, a, rfl, hA1, hA2⟩ := down_some ho (by omega)
   have HPL : Hid (PR wr 0 L Rst.new ∧ (∀ i, L.foot i → w.heap.size ≤ i) ∧ LkNew w wr lp L.r A a z (sentOf s z) L.foot) := Lib.hid (by
    have hnl : ¬ L.foot lp := fun q => by have := HLW.out lp q; omega
    have hnA : ¬ L.foot A := fun q => by have := HLW.out A q; have := HL3.out; omega
    refine ⟨HP0.out.stays hT (fun i hi q => by subst q; exact hnl hi), HLO.out, ⟨?_, ?_, ?_, ?_, hnl, hnA, HLP.out, ?_, cell_lt (hR 0 _ rfl).1, hA2, ?_⟩⟩
    ·rw [HPS.out]; exact hR
    ·have ho9 := ho
     rw [List.take_of_length_le (Nat.le_of_eq HPS.out)] at ho9
     exact StrRow.of_own ho9 HPS.out
    ·rw [HPS.out]; exact own_cap ho
    ·have := HL3.out; omega
    ·have := HL3.out; have := HLP.out; omega
    ·exact HB4.out.trans ⟨hT.os, hT.tape, hT.output, hT.size, fun i hi => hT.block i (Nat.lt_of_lt_of_le hi HB4.out.size) (by have := HLP.out; omega)⟩)
   clear hlt ho hR hT
   go_wp2
   go_ret2
   exact ⟨lp, A, a, L, rfl, HPL.out.1, HPL.out.2.1, HPL.out.2.2⟩
set_option maxHeartbeats 2000000 in
set_option maxRecDepth 100000 in
theorem rlnew_any (s : ByteArray) (z : Nat) (w : World) (hs : s.size ≤ 1000000) (he : (cutOf s z).2 = 0) :
  Calls Tryz.prog 24 #[.string s, .int .i64 (z : Int)] w fun e w' => ∃ (lp A a : Nat) (L : RLoc), e = .returned (.tuple #[.pointer (some ⟨lp, 0, none⟩), .int .i64 0]) ∧ RR w' 0 L Rst.new ∧ (∀ i, L.foot i → w.heap.size ≤ i) ∧ LkNew w w' lp L.r A a z (sentOf s z) L.foot := by
 obtain ⟨i0, hi, hz0, hz1, hz2⟩ := info_parts strInfoL
 go_enter Tryz.func24, Tryz.ntmps24
 go_wp2_with fail
 refine (rcut_any s z w hs).mono ?_
 rintro r w1 ⟨v, rfl, ho, hb⟩
 rw [he]
 obtain ⟨hn1, hn2, hz1', hz2'⟩ := cut_some he
 have hcr := cut_right he
 obtain ⟨A0, c0, rfl⟩ := own_form ho
 have hsl := Sl.of_own ho
 obtain ⟨n, hn⟩ : ∃ n, n = (cutOf s z).1.length := ⟨_, rfl⟩
 rw [← hn] at hsl hn1 hn2 ⊢
 have HCR := Lib.hid hcr
 have HNN := Lib.hid hn
 have HPS : Hid ((sentOf s z).length = n) := Lib.hid (by unfold sentOf; rw [List.length_map, hn])
 clear he hcr ho hn
 go_wp2_with fail
 refine (rnewr_any w1).mono ?_
 rintro r w2 ⟨L, rfl, hP, hlo, hb2⟩
 have hsl2 := hsl.below hb2
 have hb3 := hb.trans (hb2.mono hb.size)
 have bB := below1 w2 (.cells #[.pointer (some ⟨L.r, 0, none⟩), .slice none 0 0, .int .i64 (z : Int), .int .i64 0] 63)
 have hR0 : RC (w2.alloc (.cells #[.pointer (some ⟨L.r, 0, none⟩), .slice none 0 0, .int .i64 (z : Int), .int .i64 0] 63)) w2.heap.size (lkVs L.r (.slice none 0 0) z 0) := RC.new w2 (lkVs L.r (.slice none 0 0) z 0) 63
 have hP0 := hP.below bB
 have hsl3 := hsl2.below (bB.mono hb2.size)
 have HB12 := Lib.hid hb2.size
 have hb4 := hb3.trans (bB.mono hb3.size)
 have HLO : Hid (∀ i, L.foot i → w.heap.size ≤ i) := Lib.hid fun i hi => Nat.le_trans hb.size (hlo i hi)
 have HLW : Hid (∀ i, L.foot i → i < w2.heap.size) := Lib.hid hP.low
 clear hP hsl hsl2 hb hb2 hlo
 go_wp2_with fail
 obtain ⟨lp, hlp⟩ : ∃ lp, lp = w2.heap.size := ⟨_, rfl⟩
 rw [← hlp] at hR0 HLW ⊢
 have HLP : Hid (w.heap.size ≤ lp) := Lib.hid (by rw [hlp]; exact hb3.size)
 have HW1 : Hid (w1.heap.size ≤ lp) := Lib.hid (by rw [hlp]; exact HB12.out)
 generalize w2.alloc (.cells #[.pointer (some ⟨L.r, 0, none⟩), .slice none 0 0, .int .i64 (z : Int), .int .i64 0] 63) = w3 at *
 have HL3 : Hid (lp < w3.heap.size) := Lib.hid (cell_lt (hR0 0 _ rfl).1)
 have HSL := Lib.hid hsl3
 have HP0 := Lib.hid hP0
 have HB4 := Lib.hid hb4
 clear hlp hb3 bB hsl3 hP0 hb4
 go_loopw [28] (fun kv wr => ∃ (k : Nat) (v : Value), k ≤ n ∧ kv = .int .i64 (k : Int) ∧ RC wr lp (lkVs L.r v z 0) ∧ wr.ownsRow w3.heap.size 9 1 v k (strs ((sentOf s z).take k)) ∧ Turned (fun i => i = lp) w3 wr) (fun kv _ => n - (intOf kv).toNat)
 case atStart => exact ⟨0, .slice none 0 0, Nat.zero_le _, rfl, hR0, World.ownsRow_nil _ _ _ _, .refl _ _⟩
 case round =>
  clear hR0
  obtain ⟨k, v, hk, rfl, hR, ho, hT⟩ := hrel
  by_cases hlt : k < n
  ·have t0 : decide ((k : Int) < (n : Int)) = true := decide_eq_true (by omega)
   have t0' : decide (k < n) = true := decide_eq_true hlt
   have hslr := HSL.out.kept (w' := wr) fun q hq => World.cell?_of_block (hT.block q.block (by have := HW1.out; have := HL3.out; omega) (by have := HW1.out; omega))
   obtain ⟨b, o, ⟨m, t, a, d⟩, rfl, hbl, hx, c0', c1, c2, c3⟩ := chk_at hslr hlt
   simp only at c0' c1 c2 c3
   have hcm := HCR.out _ (List.mem_of_getElem? hx)
   simp only at hcm
   obtain ⟨hr1, hm0, hm1⟩ := hcm
   have hds : d.size ≤ 1000000 := by have := (chkRight_ok' hr1).2.2.2.2.1; omega
   have hck := chkOf_good (x := (m, t, a, d)) hr1
   have hst := sent_take hx
   obtain ⟨x, hxe⟩ : ∃ x, x = sealOf (chkBytes (m, t, a, d)) := ⟨_, rfl⟩
   rw [← hxe] at hck hst
   have hlen : ((sentOf s z).take k).length = k := by rw [List.length_take, HPS.out]; omega
   have bA := below1 wr (ckO m t a d)
   have hR1 := hR.below bA
   have ho1 := ho.alloc (ckO m t a d)
   have hT1 : Turned (fun i => i = lp) w3 (wr.alloc (ckO m t a d)) := hT.trans (.of_below bA)
   have W1 := Lib.hid (w_in ((k : Int) + 1) (k + 1) (by omega) (by omega))
   have HM : Hid (n - ((k : Int) + 1).toNat < n - k) := Lib.hid (by omega)
   have HX := Lib.hid (And.intro hr1 (And.intro hck hst))
   have hk4 : k ≤ 4096 := by omega
   have hcw := CkAt.new wr m t a d
   clear hr1 hck hst hxe hx hR ho hT hslr
   go_upto_region 8 with (fail)
   generalize wr.alloc (ckO m t a d) = w4 at *
   obtain ⟨k0, k1, k2, k3⟩ := hcw
   clear c0' c1 c2 c3
   go_wp2_with fail
   refine (rchunk_any m t a d w4 hm0 hm1 hds).mono ?_
   rintro r w5 ⟨rfl, hb5⟩
   rw [HX.out.2.1, HX.out.1]
   have hR2 := hR1.below hb5
   have ho2 := (Turned.of_below (S := fun _ => False) hb5).own ho1 (fun _ _ => id)
   have hT2 := hT1.trans (.of_below hb5)
   have hS2 : w3.heap.size ≤ w5.heap.size := hT2.size
   have k1 := (hR2 1 _ rfl).1
   have f1 := (hR2 1 _ rfl).2
   clear hR1 ho1 hT1 hb5 bA k0 k2 k3
   go_wp2_with (first
    | (at_builtin; refine wpList_append_own _ rfl (.tmp 41) (.tmp 43) 59 rfl w3.heap.size 9 i0 (.string ⟨#[]⟩) 1 16 Tryz.underlying59 hi hz0 hz1 hz2 rfl (by decide) v k (strs ((sentOf s z).take k)) rfl (ho2.alloc _) ⟨w5.heap.size, 0, none⟩ 1 1 [Value.string x] rfl rfl (cells_new1 _ _ _) (by intro u hu; simp at hu; subst hu; rfl) (by unfold maxLen; omega) (by omega) (by simp; omega) ?_; intro v1 w6 hO6 hg6 _; have hR3 := hR2.below (below1 w5 (.cells #[Value.string x] 9)); have hne6 := fun (q : Nat) (hq : v.ownBlock = some q) => (ho2.lt q hq).1; have hT6 := (hT2.trans (.of_below (below1 w5 (.cells #[Value.string x] 9)))).grow_new hg6 hne6; have hR6 : RC w6 lp (lkVs L.r v z 0) := hR3.turned (F := fun q => v.ownBlock = some q) (.of_grownO hg6) (fun q => by have := hne6 lp q; have := HL3.out; omega); have k1 := (hR6 1 _ rfl).1; have f1 := (hR6 1 _ rfl).2; clear hR2 hR3 ho2 hT2 hg6; obtain ⟨A1, cc1, rfl⟩ := own_form hO6))
   have hR7 := hR6.set 1 (.slice A1 (k + 1) cc1) (by simp [lkVs])
   have ho7 := own_set (s := lp) (j := 1) (.slice A1 (k + 1) cc1) (strs_snoc hO6) HL3.out
   have hT7 := hT6.trans (set_r w6 lp 1 (.slice A1 (k + 1) cc1))
   rw [← HX.out.2.2] at ho7
   have HR := Lib.hid (And.intro hR7 (And.intro ho7 hT7))
   clear hR6 hO6 hT6 hR7 ho7 hT7 hne6
   obtain ⟨wk1, wk2⟩ := W1.out
   go_wp2
   go_roundw
   case rel => exact ⟨k + 1, .slice A1 (k + 1) cc1, hlt, by go_num, HR.out.1, HR.out.2.1, HR.out.2.2⟩
   case measure => simpa [intOf] using HM.out
  ·obtain rfl : k = n := by omega
   have t0 : decide ((k : Int) < (k : Int)) = false := decide_eq_false (by omega)
   have t0' : decide (k < k) = false := decide_eq_false hlt
   obtain ⟨A, a, rfl, hA1, hA2⟩ := down_some ho (by omega)
   have HPL : Hid (RR wr 0 L Rst.new ∧ (∀ i, L.foot i → w.heap.size ≤ i) ∧ LkNew w wr lp L.r A a z (sentOf s z) L.foot) := Lib.hid (by
    have hnl : ¬ L.foot lp := fun q => by have := HLW.out lp q; omega
    have hnA : ¬ L.foot A := fun q => by have := HLW.out A q; have := HL3.out; omega
    refine ⟨HP0.out.stays hT (fun i hi q => by subst q; exact hnl hi), HLO.out, ⟨?_, ?_, ?_, ?_, hnl, hnA, HLP.out, ?_, cell_lt (hR 0 _ rfl).1, hA2, ?_⟩⟩
    ·rw [HPS.out]; exact hR
    ·have ho9 := ho
     rw [List.take_of_length_le (Nat.le_of_eq HPS.out)] at ho9
     exact StrRow.of_own ho9 HPS.out
    ·rw [HPS.out]; exact own_cap ho
    ·have := HL3.out; omega
    ·have := HL3.out; have := HLP.out; omega
    ·exact HB4.out.trans ⟨hT.os, hT.tape, hT.output, hT.size, fun i hi => hT.block i (Nat.lt_of_lt_of_le hi HB4.out.size) (by have := HLP.out; omega)⟩)
   clear hlt ho hR hT
   go_wp2
   go_ret2
   exact ⟨lp, A, a, L, rfl, HPL.out.1, HPL.out.2.1, HPL.out.2.2⟩
end Go.Proofs.YtfefpcdgflgaeaaGreatDoor
end

section
namespace Go.Proofs.YtfefpcdgflgaeaaGreatDoor
set_option linter.unusedSimpArgs false
set_option linter.unusedVariables false
open Go.RowKit As Go.Maps
structure LkC where
 lp : Nat
 lr : Nat
 p : Nat
 r : Nat
 A : Nat
 C : Nat
 a : Nat
 c : Nat
 z : Nat
def LkG (Q : LkC) (G : Nat → Prop) (i : Nat) : Prop := i = Q.lp ∨ i = Q.lr ∨ i = Q.A ∨ i = Q.C ∨ G i
/-- The program's link tells x, the reference's y. -/
structure Lk (w : World) (B K : Nat) (Q : LkC) (ps : List ByteArray) (x y : Lst) (G : Nat → Prop) : Prop where
 both : Both w B K Q.p Q.r x.s y.s (LkG Q G)
 pc : RC w Q.lp (lkVs Q.p (.slice (some ⟨Q.A, 0, none⟩) ps.length Q.a) Q.z x.f)
 rc : RC w Q.lr (lkVs Q.r (.slice (some ⟨Q.C, 0, none⟩) ps.length Q.c) Q.z y.f)
 pr : StrRow w Q.A ps
 rr : StrRow w Q.C ps
 ne : Q.lp ≠ Q.lr ∧ Q.lp ≠ Q.A ∧ Q.lp ≠ Q.C ∧ Q.lr ≠ Q.A ∧ Q.lr ≠ Q.C
 g : ∀ i, G i → i ≠ Q.lp ∧ i ≠ Q.lr ∧ i ≠ Q.A ∧ i ≠ Q.C
 lo : B ≤ Q.lp ∧ B ≤ Q.lr
 cap : ps.length ≤ Q.a ∧ ps.length ≤ Q.c
 z : 1 ≤ Q.z ∧ Q.z ≤ 256
 n : 0 < ps.length ∧ ps.length ≤ 4096
 sz : ∀ t ∈ ps, 4 ≤ t.size ∧ t.size ≤ 300
 fx : x.f ≤ 4096 ∧ y.f ≤ 4096
/-- What a step leaves. -/
def LkTo (w : World) (B K : Nat) (Q : LkC) (ps : List ByteArray) (x y : Lst) (G : Nat → Prop) (w' : World) : Prop := Lk w' B K Q ps x y G ∧ Below B w w' ∧ Turned (fun i => ¬ G i) w w'
section
variable {w w' w'' : World} {B K K' : Nat} {Q : LkC} {ps : List ByteArray} {x y x' y' : Lst} {G : Nat → Prop}
theorem Lk.turned (h : Lk w B K Q ps x y G) {s' t' : Rst} (hb : Both w' B K' Q.p Q.r s' t' (LkG Q G)) (ht : Turned (fun i => ¬ LkG Q G i) w w') : Lk w' B K' Q ps ⟨x.f, s'⟩ ⟨y.f, t'⟩ G :=
 ⟨hb, h.pc.turned ht (fun q => q (.inl rfl)), h.rc.turned ht (fun q => q (.inr (.inl rfl))), h.pr.turned ht (fun q => q (.inr (.inr (.inl rfl)))), h.rr.turned ht (fun q => q (.inr (.inr (.inr (.inl rfl))))), h.ne, h.g, h.lo, h.cap, h.z, h.n, h.sz, h.fx⟩
theorem Lk.below (h : Lk w B K Q ps x y G) (hb : Below w.heap.size w w') : Lk w' B K Q ps x y G := h.turned (h.both.below hb) (.of_below hb)
theorem Lk.more (h : Lk w B K Q ps x y G) (hk : K ≤ K') (hK : K' ≤ 1000000) : Lk w B K' Q ps x y G := ⟨h.both.more hk hK, h.pc, h.rc, h.pr, h.rr, h.ne, h.g, h.lo, h.cap, h.z, h.n, h.sz, h.fx⟩
theorem Lk.to (h : Lk w B K Q ps x y G) {s' t' : Rst} (hb : Both w' B K' Q.p Q.r s' t' (LkG Q G)) (h2 : Below B w w') (ht : Turned (fun i => ¬ LkG Q G i) w w') : LkTo w B K' Q ps ⟨x.f, s'⟩ ⟨y.f, t'⟩ G w' :=
 ⟨h.turned hb ht, h2, ht.mono fun i hi hg => hi (.inr (.inr (.inr (.inr hg))))⟩
theorem LkTo.trans (h : LkTo w B K Q ps x y G w') (k : LkTo w' B K' Q ps x' y' G w'') : LkTo w B K' Q ps x' y' G w'' := ⟨k.1, h.2.1.trans k.2.1, h.2.2.trans k.2.2⟩
theorem LkTo.of_below (h : Lk w B K Q ps x y G) (hb : Below w.heap.size w w') : LkTo w B K Q ps x y G w' := ⟨h.below hb, hb.mono h.both.size, .of_below hb⟩
theorem Lk.guest (h : Lk w B K Q ps x y G) (hb : Below w.heap.size w w') {g : Nat} (h1 : w.heap.size ≤ g) (h2 : g < w'.heap.size) : Lk w' B K Q ps x y (fun i => i = g) := by
 have h3 := h.below hb
 refine ⟨(h.both.guest hb h1 h2).less fun i hi => ?_, h3.pc, h3.rc, h3.pr, h3.rr, h3.ne, fun i hi => ?_, h3.lo, h3.cap, h3.z, h3.n, h3.sz, h3.fx⟩
 ·rcases hi with q | q | q | q | q
  ·exact .inl (.inl q)
  ·exact .inl (.inr (.inl q))
  ·exact .inl (.inr (.inr (.inl q)))
  ·exact .inl (.inr (.inr (.inr (.inl q))))
  ·exact .inr q
 ·subst hi
  have e1 := cell_lt (h.pc 0 _ rfl).1
  have e2 := cell_lt (h.rc 0 _ rfl).1
  have e3 := cell_lt (h.pr 0 _ (List.getElem?_eq_getElem h.n.1))
  have e4 := cell_lt (h.rr 0 _ (List.getElem?_eq_getElem h.n.1))
  simp only at e1 e2 e3 e4
  omega
theorem Lk.less (h : Lk w B K Q ps x y G) {G' : Nat → Prop} (hg : ∀ i, G' i → G i) : Lk w B K Q ps x y G' :=
 ⟨h.both.less fun i hi => by
  rcases hi with q | q | q | q | q
  ·exact .inl q
  ·exact .inr (.inl q)
  ·exact .inr (.inr (.inl q))
  ·exact .inr (.inr (.inr (.inl q)))
  ·exact .inr (.inr (.inr (.inr (hg i q)))), h.pc, h.rc, h.pr, h.rr, h.ne, fun i hi => h.g i (hg i hi), h.lo, h.cap, h.z, h.n, h.sz, h.fx⟩
/-- Left, either. -/
theorem lk_div {f z : Nat} : (f : Int) / (z : Int) = ((f / z : Nat) : Int) := (Int.natCast_ediv f z).symm
end
section
variable {w : World} {B K : Nat} {Q : LkC} {ps : List ByteArray} {x y : Lst} {G : Nat → Prop}
set_option maxHeartbeats 1000000 in
set_option maxRecDepth 100000 in
theorem pleft_any (h : Lk w B K Q ps x y G) : Calls Tryz.prog 29 #[.pointer (some ⟨Q.lp, 0, none⟩)] w fun e w' => e = .returned (.int .i64 (leftN ps Q.z x.f)) ∧ Below w.heap.size w w' := by
 have c1 := (h.pc 1 _ rfl).1
 have c2 := (h.pc 2 _ rfl).1
 have c3 := (h.pc 3 _ rfl).1
 have hz := h.z
 have hn := h.n.2
 have hf := h.fx.1
 obtain ⟨q, hq⟩ : ∃ q, q = x.f / Q.z := ⟨_, rfl⟩
 have hqf : q ≤ 4096 := by rw [hq]; exact Nat.le_trans (Nat.div_le_self _ _) hf
 have hd : (x.f : Int) / (Q.z : Int) = (q : Int) := by rw [hq]; exact lk_div
 have hd2 : Int.tdiv (x.f : Int) (Q.z : Int) = (q : Int) := by rw [Int.tdiv_eq_ediv_of_nonneg (by omega)]; exact hd
 have HE : Hid (leftN ps Q.z x.f = (ps.length : Int) - (q : Int)) := Lib.hid (by unfold leftN; rw [hq])
 have hz0 : ¬ (Q.z : Int) = 0 := by omega
 have W1 := Lib.hid (show IntKind.i64.wrap ((ps.length : Int) - (q : Int)) = (ps.length : Int) - (q : Int) ∧ wrap64 ((ps.length : Int) - (q : Int)) = (ps.length : Int) - (q : Int) from ⟨IntWalk.i64_in _ (by omega), IntWalk.wrap64_in _ (by omega)⟩)
 have W2 := Lib.hid (w_in (q : Int) q rfl (by omega))
 clear h hq
 obtain ⟨w1, w2⟩ := W1.out
 obtain ⟨w3, w4⟩ := W2.out
 go_enter Tryz.func29, Tryz.ntmps29
 go_wp2
 go_quiet (fail)
 go_wp2
 go_ret
 exact ⟨retI HE.out.symm, below_drewN (Below.refl _ _) _⟩
end
end Go.Proofs.YtfefpcdgflgaeaaGreatDoor
end

section
namespace Go.Proofs.YtfefpcdgflgaeaaGreatDoor
set_option linter.unusedSimpArgs false
set_option linter.unusedVariables false
open Go.RowKit As Go.Maps
def lkT (A c u : Nat) : Option Addr := if c = u then some ⟨A, 0, none⟩ else some ⟨A, u, none⟩
theorem run_stail (A n c u : Nat) (h : u ≤ n) (hc : n ≤ c) (w : World) : (Instr.slice 59 (.slice (some ⟨A, 0, none⟩) n c) (some (.int .i64 (u : Int))) none none).run Tryz.prog w = .ok (.slice (lkT A c u) (n - u) (c - u)) w := by
 rw [run_slice_l w _ (some ⟨A, 0, none⟩) n c (by kernel_rfl) .i64 (u : Int) (by omega) (by omega), show (sizeOf (Tryz.prog.elem 59)).run Tryz.prog w = .ok 1 w by kernel_rfl]
 show Result.ok (sliced (some ⟨A, 0, none⟩) (u : Int).toNat n c 1) w = _
 unfold sliced lkT
 rw [show (u : Int).toNat = u by omega]
 by_cases h0 : u = 0 <;> simp [Addr.add, h0]
theorem sliceAt_isS (x : Value) (lo hi mx : Option Value) (w : World) : (Instr.sliceAt 59 x lo hi mx).run Tryz.prog w = (Instr.slice 59 x lo hi mx).run Tryz.prog w := by
 unfold Instr.sliceAt
 simp [go_sem]
theorem num_wrap (N : Int) : IntKind.u64.wrap N = (numOf N : Int) := by
 unfold numOf
 show N % 18446744073709551616 = _
 omega
theorem num_small {n : Nat} (h : n ≤ 1000000000) : IntKind.u64.wrap (n : Int) = (n : Int) := by
 show (n : Int) % 18446744073709551616 = _
 omega
def pieceV : Option ByteArray → Value
 | none => .tuple #[.string ⟨#[]⟩, .bool false]
 | some t => .tuple #[.string t, .bool true]
section
variable {w : World} {B K : Nat} {Q : LkC} {ps : List ByteArray} {x y : Lst} {G : Nat → Prop}
set_option maxHeartbeats 1000000 in
set_option maxRecDepth 100000 in
theorem pleft0_any (h : Lk w B K Q ps x y G) : Calls Tryz.prog 79 #[.pointer (some ⟨Q.lp, 0, none⟩)] w fun e w' => e = .returned (.int .i64 ((ps.length - min ps.length (x.f / Q.z) : Nat) : Int)) ∧ Below w.heap.size w w' := by
 obtain ⟨m, hm⟩ : ∃ m, m = leftN ps Q.z x.f := ⟨_, rfl⟩
 have HM : Hid (max 0 m = ((ps.length - min ps.length (x.f / Q.z) : Nat) : Int)) := Lib.hid (by rw [hm]; unfold leftN; omega)
 go_enter Tryz.func79, Tryz.ntmps79
 go_wp2_with fail
 refine (pleft_any h).mono ?_
 rintro e w' ⟨rfl, hb⟩
 rw [← hm]
 clear hm
 have HB := Lib.hid hb
 clear hb
 go_wp2
 go_ret
 exact ⟨retI (by first | exact HM.out | (have := HM.out; simpa using this)), HB.out⟩
end
def pieV (Q : LkC) (n u : Nat) (g : Unit) : Nat → Value
 | 0 => .pointer (some ⟨Q.lp, 0, none⟩)
 | 1 => .pointer (some ⟨Q.lp, 0, none⟩)
 | 2 => .pointer (some ⟨Q.lp, 1, none⟩)
 | 3 => .slice (some ⟨Q.A, 0, none⟩) n Q.a
 | 4 => .pointer (some ⟨Q.lp, 0, none⟩)
 | 5 => .pointer (some ⟨Q.lp, 0, none⟩)
 | 6 => .pointer (some ⟨Q.lp, 1, none⟩)
 | 7 => .slice (some ⟨Q.A, 0, none⟩) n Q.a
 | 8 => .int .i64 (n : Int)
 | 9 => .pointer (some ⟨Q.lp, 0, none⟩)
 | 10 => .int .i64 ((n - u : Nat) : Int)
 | 11 => .int .i64 (u : Int)
 | 12 => .slice (lkT Q.A Q.a u) (n - u) (Q.a - u)
 | 13 => .slice (lkT Q.A Q.a u) (n - u) (Q.a - u)
 | _ => undef
section
variable {w : World} {B K : Nat} {Q : LkC} {ps : List ByteArray} {x y : Lst} {G : Nat → Prop}
set_option maxHeartbeats 1000000 in
set_option maxRecDepth 100000 in
theorem ppiece_any (h : Lk w B K Q ps x y G) (N : Int) : Calls Tryz.prog 58 #[.pointer (some ⟨Q.lp, 0, none⟩), .int .i64 N] w fun e w' => e = .returned (pieceV (pick1 ps Q.z x.f N)) ∧ Below w.heap.size w w' := by
 obtain ⟨n, hn⟩ : ∃ n, n = ps.length := ⟨_, rfl⟩
 obtain ⟨u, hu0⟩ : ∃ u, u = min n (x.f / Q.z) := ⟨_, rfl⟩
 have hu : u ≤ n := by omega
 have hna : n ≤ Q.a := by rw [hn]; exact h.cap.1
 have HN4 : Hid (n ≤ 4096) := Lib.hid (by rw [hn]; exact h.n.2)
 have hn4 := HN4.out
 have HC1 : Hid (∀ wz, Lk wz B K Q ps x y G → wz.cell? ⟨Q.lp, 1, none⟩ = some (.slice (some ⟨Q.A, 0, none⟩) n Q.a)) := Lib.hid fun wz hz => by rw [hn]; exact (hz.pc 1 _ rfl).1
 have HU : Hid (((ps.length - min ps.length (x.f / Q.z) : Nat) : Int) = ((n - u : Nat) : Int)) := Lib.hid (by rw [hu0, hn])
 have HP : Hid ((u < n → ∃ t, ps[u + numOf N % (n - u)]? = some t ∧ pick1 ps Q.z x.f N = some t) ∧ (n ≤ u → pick1 ps Q.z x.f N = none)) := Lib.hid ⟨fun hlt => by
  have e : u = x.f / Q.z := by omega
  rw [e, hn]
  exact pick1_some (by omega), fun hge => pick1_none (by omega)⟩
 have W1 := Lib.hid (w_in ((n : Int) - ((n - u : Nat) : Int)) u (by omega) (by omega))
 obtain ⟨wu1, wu2⟩ := W1.out
 clear hn hu0 W1 hn4
 go_enter Tryz.func58, Tryz.ntmps58
 go_wp2
 refine Flow.wp_region_go (by kernel_rfl) (by kernel_rfl) (by kernel_rfl) 33 rfl (by kernel_rfl) (pieV Q n u) (fun _ L wz => Lk wz B K Q ps x y G ∧ Below w.heap.size w wz) (fun _ _ => False) (()) (⟨h.below (Below.refl _ _).drew, (Below.refl _ _).drew⟩) ⟨?_, ?_, ?_, ?_, ?_, ?_, ?_, ?_, ?_, ?_, ?_, ?_, ?_, ?_, trivial⟩ ?_ ?_
 ·intro g L wz K ρ hc0 hf0 hF hO hU hcl hi hd hC hK
  have e0 : ρ (.tmp 0) = .pointer (some ⟨Q.lp, 0, none⟩) := hO 0 (by kernel_rfl)
  simp [go_sem, Flow.ylP_value, Flow.ylP_skip, Flow.ylP_enter, Flow.ylP_panic, hc0, hf0, e0]
  exact hK g wz hC (fun _ _ => rfl)
 ·intro g L wz K ρ hc0 hf0 hF hO hU hcl hi hd hC hK
  have d0 : L 0 = true := hd ⟨0, .data⟩ (by simp) rfl
  have e7 : ρ (.tmp 7) = .pointer (some ⟨Q.lp, 0, none⟩) := hF 7 0 (by kernel_rfl) d0
  simp [go_sem, Flow.ylP_value, Flow.ylP_skip, Flow.ylP_enter, Flow.ylP_panic, hc0, hf0, e7]
  exact hK g wz hC (fun _ _ => rfl)
 ·intro g L wz K ρ hc0 hf0 hF hO hU hcl hi hd hC hK
  have d1 : L 1 = true := hd ⟨1, .data⟩ (by simp) rfl
  have e8 : ρ (.tmp 8) = .pointer (some ⟨Q.lp, 0, none⟩) := hF 8 1 (by kernel_rfl) d1
  simp [go_sem, Flow.ylP_value, Flow.ylP_skip, Flow.ylP_enter, Flow.ylP_panic, hc0, hf0, e8]
  exact hK g wz hC (fun _ _ => rfl)
 ·intro g L wz K ρ hc0 hf0 hF hO hU hcl hi hd hC hK
  have d2 : L 2 = true := hd ⟨2, .data⟩ (by simp) rfl
  have e9 : ρ (.tmp 9) = .pointer (some ⟨Q.lp, 1, none⟩) := hF 9 2 (by kernel_rfl) d2
  have cc := HC1.out wz hC.1
  simp [go_sem, Flow.ylP_value, Flow.ylP_skip, Flow.ylP_enter, Flow.ylP_panic, hc0, hf0, e9, cc]
  exact hK g wz hC (fun _ _ => rfl)
 ·intro g L wz K ρ hc0 hf0 hF hO hU hcl hi hd hC hK
  have e0 : ρ (.tmp 0) = .pointer (some ⟨Q.lp, 0, none⟩) := hO 0 (by kernel_rfl)
  simp [go_sem, Flow.ylP_value, Flow.ylP_skip, Flow.ylP_enter, Flow.ylP_panic, hc0, hf0, e0]
  exact hK g wz hC (fun _ _ => rfl)
 ·intro g L wz K ρ hc0 hf0 hF hO hU hcl hi hd hC hK
  have d4 : L 4 = true := hd ⟨4, .data⟩ (by simp) rfl
  have e11 : ρ (.tmp 11) = .pointer (some ⟨Q.lp, 0, none⟩) := hF 11 4 (by kernel_rfl) d4
  simp [go_sem, Flow.ylP_value, Flow.ylP_skip, Flow.ylP_enter, Flow.ylP_panic, hc0, hf0, e11]
  exact hK g wz hC (fun _ _ => rfl)
 ·intro g L wz K ρ hc0 hf0 hF hO hU hcl hi hd hC hK
  have d5 : L 5 = true := hd ⟨5, .data⟩ (by simp) rfl
  have e12 : ρ (.tmp 12) = .pointer (some ⟨Q.lp, 0, none⟩) := hF 12 5 (by kernel_rfl) d5
  simp [go_sem, Flow.ylP_value, Flow.ylP_skip, Flow.ylP_enter, Flow.ylP_panic, hc0, hf0, e12]
  exact hK g wz hC (fun _ _ => rfl)
 ·intro g L wz K ρ hc0 hf0 hF hO hU hcl hi hd hC hK
  have d6 : L 6 = true := hd ⟨6, .data⟩ (by simp) rfl
  have e13 : ρ (.tmp 13) = .pointer (some ⟨Q.lp, 1, none⟩) := hF 13 6 (by kernel_rfl) d6
  have cc := HC1.out wz hC.1
  simp [go_sem, Flow.ylP_value, Flow.ylP_skip, Flow.ylP_enter, Flow.ylP_panic, hc0, hf0, e13, cc]
  exact hK g wz hC (fun _ _ => rfl)
 ·intro g L wz K ρ hc0 hf0 hF hO hU hcl hi hd hC hK
  have d7 : L 7 = true := hd ⟨7, .data⟩ (by simp) rfl
  have e14 : ρ (.tmp 14) = .slice (some ⟨Q.A, 0, none⟩) n Q.a := hF 14 7 (by kernel_rfl) d7
  simp [go_sem, Flow.ylP_value, Flow.ylP_skip, Flow.ylP_enter, Flow.ylP_panic, hc0, hf0, e14]
  exact hK g wz hC (fun _ _ => rfl)
 ·intro g L wz K ρ hc0 hf0 hF hO hU hcl hi hd hC hK
  have e0 : ρ (.tmp 0) = .pointer (some ⟨Q.lp, 0, none⟩) := hO 0 (by kernel_rfl)
  simp [go_sem, Flow.ylP_value, Flow.ylP_skip, Flow.ylP_enter, Flow.ylP_panic, hc0, hf0, e0]
  exact hK g wz hC (fun _ _ => rfl)
 ·intro g L wz K ρ hc0 hf0 hF hO hU hcl hi hd hC hK
  have d9 : L 9 = true := hd ⟨9, .data⟩ (by simp) rfl
  have e16 : ρ (.tmp 16) = .pointer (some ⟨Q.lp, 0, none⟩) := hF 16 9 (by kernel_rfl) d9
  simp [go_sem, Flow.ylP_value, Flow.ylP_skip, Flow.ylP_enter, Flow.ylP_panic, hc0, hf0, e16]
  refine (pleft0_any hC.1).mono ?_
  rintro r wn ⟨rfl, hb⟩
  rw [HU.out]
  exact ⟨_, rfl, hK () wn ⟨hC.1.below hb, hC.2.trans (hb.mono hC.2.size)⟩ (by intro j hj; unfold pieV; split <;> first | rfl | (rw [hi] at hj; cases hj) | (have hz := hcl _ 10 (by kernel_rfl) hj; rw [hi] at hz; cases hz))⟩
 ·intro g L wz K ρ hc0 hf0 hF hO hU hcl hi hd hC hK
  have d8 : L 8 = true := hd ⟨8, .data⟩ (by simp) rfl
  have e15 : ρ (.tmp 15) = .int .i64 (n : Int) := hF 15 8 (by kernel_rfl) d8
  have d10 : L 10 = true := hd ⟨10, .data⟩ (by simp) rfl
  have e17 : ρ (.tmp 17) = .int .i64 ((n - u : Nat) : Int) := hF 17 10 (by kernel_rfl) d10
  simp [go_sem, Flow.ylP_value, Flow.ylP_skip, Flow.ylP_enter, Flow.ylP_panic, hc0, hf0, e15, e17, wu1, wu2]
  exact hK g wz hC (fun _ _ => rfl)
 ·intro g L wz K ρ hc0 hf0 hF hO hU hcl hi hd hC hK
  have d3 : L 3 = true := hd ⟨3, .data⟩ (by simp) rfl
  have e10 : ρ (.tmp 10) = .slice (some ⟨Q.A, 0, none⟩) n Q.a := hF 10 3 (by kernel_rfl) d3
  have d11 : L 11 = true := hd ⟨11, .data⟩ (by simp) rfl
  have e18 : ρ (.tmp 18) = .int .i64 (u : Int) := hF 18 11 (by kernel_rfl) d11
  have hsl := run_stail Q.A n Q.a u hu hna wz
  unfold execOp
  simp only [resolve, Sem.run_bind, Sem.run_pure, Result.andThen_ok, Option.map_some, Option.map_none, e10, e18, sliceAt_isS, hsl]
  exact hK g wz hC (fun _ _ => rfl)
 ·intro g L wz K ρ hc0 hf0 hF hO hU hcl hi hd hC hK
  have d12 : L 12 = true := hd ⟨12, .data⟩ (by simp) rfl
  have e19 : ρ (.tmp 19) = .slice (lkT Q.A Q.a u) (n - u) (Q.a - u) := hF 19 12 (by kernel_rfl) d12
  simp [go_sem, Flow.ylP_value, Flow.ylP_skip, Flow.ylP_enter, Flow.ylP_panic, hc0, hf0, e19]
  exact hK g wz hC (fun _ _ => rfl)
 ·intro g L ch wz h; exact h.elim
 ·intro g L wz hL hC
  simp only [Flow.putAll, pieV]
  simp [Act.put]
  have HB := Lib.hid hC.2
  have hrow := hC.1.pr
  clear hC HC1
  have hn4 := HN4.out
  by_cases hq : u < n
  ·obtain ⟨t, ht1, ht2⟩ := HP.out.1 hq
   obtain ⟨d, hd⟩ : ∃ d, d = n - u := ⟨_, rfl⟩
   obtain ⟨m, hm⟩ : ∃ m, m = numOf N := ⟨_, rfl⟩
   obtain ⟨r, hr⟩ : ∃ r, r = m % d := ⟨_, rfl⟩
   have hrd : r < d := by rw [hr]; exact Nat.mod_lt _ (by omega)
   have hc := hrow _ t ht1
   rw [← hd, ← hm, ← hr] at hc
   have T1 : decide (d = 0) = false := decide_eq_false (by omega)
   have T2 : ((d : Int) == 0) = false := by simp; omega
   have T3 : ¬ d = 0 := by omega
   have T4 : ¬ ((d : Int) = 0) := by omega
   have M1 : Int.tmod (m : Int) (d : Int) = (r : Int) := by rw [hr]; rfl
   have M2 : (m : Int) % (d : Int) = (r : Int) := by rw [hr]; rfl
   have M3 : IntKind.u64.wrap N = (m : Int) := by rw [hm]; exact num_wrap N
   have M4 : IntKind.u64.wrap (d : Int) = (d : Int) := num_small (by omega)
   have M5 : IntKind.u64.wrap (r : Int) = (r : Int) := num_small (by omega)
   have M6 : IntKind.i64.wrap (r : Int) = (r : Int) := (w_in (r : Int) r rfl (by omega)).1
   have eT : lkT Q.A Q.a u = some ⟨Q.A, u, none⟩ := by unfold lkT; rw [if_neg (by omega)]
   have HT := Lib.hid ht2
   rw [← hd, eT]
   clear ht1 ht2 HP hd hm hr eT hn4 hu hna HN4
   go_wp2
   go_ret2
   rw [HT.out]
   exact ⟨rfl, HB.out⟩
  ·have hz : n - u = 0 := by omega
   have HT := Lib.hid (HP.out.2 (by omega))
   rw [hz]
   clear HP hrow
   go_wp2
   go_ret2
   rw [HT.out]
   exact ⟨rfl, HB.out⟩
end
end Go.Proofs.YtfefpcdgflgaeaaGreatDoor
end

section
namespace Go.Proofs.YtfefpcdgflgaeaaGreatDoor
set_option linter.unusedSimpArgs false
set_option linter.unusedVariables false
open Go.RowKit As Go.Maps
theorem Lk.guest2 {w w' : World} {B K : Nat} {Q : LkC} {ps : List ByteArray} {x y : Lst} {G : Nat → Prop} (h : Lk w B K Q ps x y G) (hb : Below w.heap.size w w') {g : Nat} (h1 : w.heap.size ≤ g) (h2 : g < w'.heap.size) : Lk w' B K Q ps x y (fun i => G i ∨ i = g) := by
 have h3 := h.below hb
 refine ⟨(h.both.guest hb h1 h2).less fun i hi => ?_, h3.pc, h3.rc, h3.pr, h3.rr, h3.ne, fun i hi => ?_, h3.lo, h3.cap, h3.z, h3.n, h3.sz, h3.fx⟩
 ·rcases hi with q | q | q | q | q | q
  ·exact .inl (.inl q)
  ·exact .inl (.inr (.inl q))
  ·exact .inl (.inr (.inr (.inl q)))
  ·exact .inl (.inr (.inr (.inr (.inl q))))
  ·exact .inl (.inr (.inr (.inr (.inr q))))
  ·exact .inr q
 ·rcases hi with hi | hi
  ·exact h.g i hi
  subst hi
  have e1 := cell_lt (h.pc 0 _ rfl).1
  have e2 := cell_lt (h.rc 0 _ rfl).1
  have e3 := cell_lt (h.pr 0 _ (List.getElem?_eq_getElem h.n.1))
  have e4 := cell_lt (h.rr 0 _ (List.getElem?_eq_getElem h.n.1))
  simp only at e1 e2 e3 e4
  omega
def stVs (kd N : Int) (m : Nat) : List Value := [.int .i64 kd, .int .i64 N, .int .u64 (m : Int)]
/-- Within a step whose block is sb. -/
structure St (w0 w : World) (B K : Nat) (Q : LkC) (ps : List ByteArray) (x y : Lst) (G : Nat → Prop) (sb : Nat) (vs : List Value) : Prop where
 lk : Lk w B K Q ps x y (fun i => G i ∨ i = sb)
 rc : RC w sb vs
 bel : Below B w0 w
 trn : Turned (fun i => ¬ G i) w0 w
 new : w0.heap.size ≤ sb
section
variable {w0 w w' : World} {B K K' : Nat} {Q : LkC} {ps : List ByteArray} {x y : Lst} {G : Nat → Prop} {sb : Nat} {vs : List Value}
theorem St.start (h : Lk w B K Q ps x y G) (vs : List Value) (t : TypeId) : St w (w.alloc (.cells vs.toArray t)) B K Q ps x y G w.heap.size vs :=
 ⟨h.guest2 (below1 w _) (Nat.le_refl _) (by simp), RC.new w vs t, (below1 w _).mono h.both.size, .of_below (below1 w _), Nat.le_refl _⟩
theorem St.below (h : St w0 w B K Q ps x y G sb vs) (hb : Below w.heap.size w w') : St w0 w' B K Q ps x y G sb vs :=
 ⟨h.lk.below hb, h.rc.below hb, h.bel.trans (hb.mono h.lk.both.size), h.trn.trans (.of_below hb), h.new⟩
theorem St.turn (h : St w0 w B K Q ps x y G sb vs) {x' y' : Lst} (hl : Lk w' B K' Q ps x' y' (fun i => G i ∨ i = sb)) (h2 : Below B w w') (ht : Turned (fun i => ¬ (G i ∨ i = sb)) w w') : St w0 w' B K' Q ps x' y' G sb vs :=
 ⟨hl, h.rc.turned ht (fun q => q (.inr rfl)), h.bel.trans h2, h.trn.trans (ht.mono fun i hi hg => hi (.inl hg)), h.new⟩
theorem St.to (h : St w0 w B K Q ps x y G sb vs) {s' t' : Rst} (hb : Both w' B K' Q.p Q.r s' t' (LkG Q (fun i => G i ∨ i = sb))) (h2 : Below B w w') (ht : Turned (fun i => ¬ LkG Q (fun i => G i ∨ i = sb) i) w w') : St w0 w' B K' Q ps ⟨x.f, s'⟩ ⟨y.f, t'⟩ G sb vs :=
 h.turn (h.lk.turned hb ht) h2 (ht.mono fun i hi hg => hi (.inr (.inr (.inr (.inr hg)))))
theorem St.done (h : St w0 w B K Q ps x y G sb vs) (hk : K ≤ K') (hK : K' ≤ 1000000) : LkTo w0 B K' Q ps x y G w :=
 ⟨(h.lk.more hk hK).less fun i hi => .inl hi, h.bel, h.trn⟩
theorem Both.outside {p r : Nat} {s t : Rst} {S : Nat → Prop} (h : Both w B K p r s t G) (ht : Turned S w w') (hs : ∀ i, S i → G i) : Both w' B K p r s t G := by
 obtain ⟨L, R, e1, e2, h1, h2, h3, h4, h5, h6, h7⟩ := h
 exact ⟨L, R, e1, e2, h1.stays ht (fun i hi q => (h7 i (hs i q)).1 hi), h2.stays ht (fun i hi q => (h7 i (hs i q)).2.1 hi), h3.grow ht.size, h4.grow ht.size, h5, Nat.le_trans h6 ht.size, fun i hi => ⟨(h7 i hi).1, (h7 i hi).2.1, Nat.lt_of_lt_of_le (h7 i hi).2.2 ht.size⟩⟩
theorem St.setp (h : St w0 w B K Q ps x y G sb vs) (f : Nat) (hf : f ≤ 4096) : St w0 (w.setCell ⟨Q.lp, 3, none⟩ (.int .i64 (f : Int))) B K Q ps ⟨f, x.s⟩ y G sb vs := by
 have ht : Turned (fun i => i = Q.lp) w (w.setCell ⟨Q.lp, 3, none⟩ (.int .i64 (f : Int))) := .set w 3 _ rfl
 have hl := h.lk
 refine h.turn ⟨hl.both.outside ht (fun i hi => .inl hi), hl.pc.set 3 _ (by simp [lkVs]), hl.rc.turned ht hl.ne.1.symm, hl.pr.turned ht (fun q => hl.ne.2.1 q.symm), hl.rr.turned ht (fun q => hl.ne.2.2.1 q.symm), hl.ne, hl.g, hl.lo, hl.cap, hl.z, hl.n, hl.sz, hf, hl.fx.2⟩ (ht.below (fun i hi => by rw [hi]; exact hl.lo.1) hl.both.size) (ht.mono fun i hi hg => (hl.g i hg).1 hi)
theorem St.setr (h : St w0 w B K Q ps x y G sb vs) (f : Nat) (hf : f ≤ 4096) : St w0 (w.setCell ⟨Q.lr, 3, none⟩ (.int .i64 (f : Int))) B K Q ps x ⟨f, y.s⟩ G sb vs := by
 have ht : Turned (fun i => i = Q.lr) w (w.setCell ⟨Q.lr, 3, none⟩ (.int .i64 (f : Int))) := .set w 3 _ rfl
 have hl := h.lk
 refine h.turn ⟨hl.both.outside ht (fun i hi => .inr (.inl hi)), hl.pc.turned ht hl.ne.1, hl.rc.set 3 _ (by simp [lkVs]), hl.pr.turned ht (fun q => hl.ne.2.2.2.1 q.symm), hl.rr.turned ht (fun q => hl.ne.2.2.2.2 q.symm), hl.ne, hl.g, hl.lo, hl.cap, hl.z, hl.n, hl.sz, hl.fx.1, hf⟩ (ht.below (fun i hi => by rw [hi]; exact hl.lo.2) hl.both.size) (ht.mono fun i hi hg => (hl.g i hg).2.1 hi)
theorem St.more (h : St w0 w B K Q ps x y G sb vs) (hk : K ≤ K') (hK : K' ≤ 1000000) : St w0 w B K' Q ps x y G sb vs := ⟨h.lk.more hk hK, h.rc, h.bel, h.trn, h.new⟩
theorem offer_fit {w : World} {B K p r : Nat} {s t : Rst} {G : Nat → Prop} (h : Both w B K p r s t G) : s.offer ≤ 4096 ∧ t.offer ≤ 4096 := by
 obtain ⟨L, R, e1, e2, h1, h2, _⟩ := h
 exact ⟨Nat.le_trans (offer_le _ _) h1.fit.tot, Nat.le_trans (offer_le _ _) h2.fit.tot⟩
theorem turnB_size (t : ByteArray) (m : Nat) : (turnB t m).size = t.size := by
 show (Turn.turn t.data.toList m).toArray.size = _
 rw [List.size_toArray]
 unfold Turn.turn
 split
 ·simp
 ·rw [Turn.to_len]; simp
theorem pick1_mem {ps : List ByteArray} {z f : Nat} {N : Int} {t : ByteArray} (h : pick1 ps z f N = some t) : t ∈ ps := by
 by_cases hl : f / z < ps.length
 ·obtain ⟨t', h1, h2⟩ := pick1_some (N := N) hl
  rw [h] at h2
  injection h2 with h2
  rw [h2]
  exact List.mem_of_getElem? h1
 ·rw [pick1_none (by omega)] at h
  cases h
end
end Go.Proofs.YtfefpcdgflgaeaaGreatDoor
end
