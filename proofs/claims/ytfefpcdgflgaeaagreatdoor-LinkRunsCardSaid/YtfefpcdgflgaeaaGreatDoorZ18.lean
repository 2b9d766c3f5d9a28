/- The steps of a link, as arguments.

The program's link: Run.

A region that draws its order and some of whose operations are guarded, all guards being met: by an invariant, each operation looked at once (as FlowGo). Any program.

Both links, new.

The law LinkRuns: Run counts what goes well. Printed by gen_linkruns.py out of linkruns.src. -/
import Derived.Test.YtfefpcdgflgaeaaGreatDoorZ17
import Derived.Test.YtfefpcdgflgaeaaGreatDoorRows
import Derived.Test.YtfefpcdgflgaeaaGreatDoorZ1
import Derived.KernelRfl
import Derived.Test.YtfefpcdgflgaeaaGreatDoorZ4
section
namespace Go.Proofs.YtfefpcdgflgaeaaGreatDoor
set_option maxRecDepth 100000
set_option linter.unusedVariables false
open Go.ChangeShapes Go.WideShapes Go.ChangeAt Go.RowKit
abbrev Stp := Int × Int × Int
def stpCells (x : Stp) : List Value := [.int .i64 x.1, .int .i64 x.2.1, .int .u64 x.2.2]
def stpFits (x : Stp) : Prop := 0 ≤ x.2.2 ∧ x.2.2 ≤ 18446744073709551615
structure StpArg where
 A : Option Addr
 n : Nat
 c : Nat
 l : List Stp
section
variable {H : Type} {enc : TypeId × Value → H} {w : World} {base : Nat} {spare : Nat → Bool} {held : Bool}
theorem cellsStp : Tryz.prog.cellsOf 56 = 3 := by kernel_rfl
theorem cellsIntS : Tryz.prog.cellsOf 3 = 1 := by kernel_rfl
theorem cellsU64S : Tryz.prog.cellsOf 27 = 1 := by kernel_rfl
theorem open_stp (cs : List Value) (m : Nat) (y : DataW H × List MemPlace) (h : DataW.trod enc Tryz.prog w base spare held m 56 cs = some y) : ∃ x : Stp, cs = stpCells x ∧ stpFits x := by
 obtain ⟨hcl, hg⟩ := fielded Tryz.underlying56 h
 rw [cellsStp] at hcl
 obtain ⟨a, g0, w0⟩ := field_int hg 0 0 3 rfl rfl rfl Tryz.underlying3 cellsIntS
 obtain ⟨c, g1, w1⟩ := field_int hg 1 1 3 rfl rfl rfl Tryz.underlying3 cellsIntS
 obtain ⟨d, g2, w2⟩ := field_int hg 2 2 27 rfl rfl rfl Tryz.underlying27 cellsU64S
 refine ⟨(a, c, d), ?_, bounds_u64 w2⟩
 match cs, hcl with
 | [p, q, r], _ =>
  simp at g0 g1 g2
  subst g0 g1 g2
  rfl
theorem open_stps {r : Reach} {b0 : Nat} {v : Value} {d : DataW H} {p : List MemPlace} (hv : Value.okWide Tryz.prog w r b0 48 v) (h : DataW.Trod enc Tryz.prog w base spare held 48 v d p) :
  ∃ a : StpArg, v = .slice a.A a.n a.c ∧ (Sl w w.heap.size 3 a.A a.n (a.l.flatMap stpCells) ∧ (∀ x ∈ a.l, stpFits x) ∧ a.n ≤ maxLen) := by
 obtain ⟨A, n, c, l, rfl, hn, hl, hs, ho⟩ := open_elems stpCells 3 (by omega) (fun _ => rfl) stpFits Tryz.underlying48 cellsStp open_stp hv h
 exact ⟨⟨A, n, c, l⟩, rfl, hs, ho, hn⟩
end
end Go.Proofs.YtfefpcdgflgaeaaGreatDoor
end

section
namespace Go.Proofs.YtfefpcdgflgaeaaGreatDoor
set_option linter.unusedSimpArgs false
set_option linter.unusedVariables false
open Go.RowKit As Go.Maps
def oneStep (ps : List ByteArray) (z : Nat) (r : Lst × Nat) (t : Stp) : Lst × Nat := (stepL ps z r.1 t.1 t.2.1 t.2.2.toNat, if stepE ps z r.1 t.1 t.2.1 t.2.2.toNat = 0 then r.2 + 1 else r.2)
/-- After k steps: the link, and how many went well. -/
def runAt (ps : List ByteArray) (z : Nat) (x : Lst) (l : List Stp) : Nat → Lst × Nat
 | 0 => (x, 0)
 | k + 1 => match l[k]? with
  | some t => oneStep ps z (runAt ps z x l k) t
  | none => runAt ps z x l k
theorem runAt_succ {ps : List ByteArray} {z : Nat} {x : Lst} {l : List Stp} {k : Nat} {t : Stp} (h : l[k]? = some t) : runAt ps z x l (k + 1) = oneStep ps z (runAt ps z x l k) t := by
 rw [runAt, h]
theorem stp_get {w : World} {B n : Nat} {A : Option Addr} {l : List Stp} (h : Sl w B 3 A n (l.flatMap stpCells)) (hf : ∀ x ∈ l, stpFits x) {k : Nat} (hk : k < n) :
  ∃ b o x, A = some ⟨b, o, none⟩ ∧ b < B ∧ stpFits x ∧ l[k]? = some x ∧ w.cell? ⟨b, o + k * 3, none⟩ = some (.int .i64 x.1) ∧ w.cell? ⟨b, o + k * 3 + 1, none⟩ = some (.int .i64 x.2.1) ∧ w.cell? ⟨b, o + k * 3 + 2, none⟩ = some (.int .u64 x.2.2) := by
 obtain ⟨b, o, e, hb, hc⟩ := h.2 (by omega)
 have hl : l.length = n := by have := h.1; rw [flat_len _ 3 (fun _ => rfl)] at this; omega
 have hx : l[k]? = some l[k] := List.getElem?_eq_getElem (by omega)
 exact ⟨b, o, l[k], e, hb, hf _ (List.getElem_mem _), hx, hc (k * 3 + 0) _ (flat_get stpCells 3 (fun _ => rfl) l k 0 _ hx (by omega)), hc (k * 3 + 1) _ (flat_get stpCells 3 (fun _ => rfl) l k 1 _ hx (by omega)), hc (k * 3 + 2) _ (flat_get stpCells 3 (fun _ => rfl) l k 2 _ hx (by omega))⟩
theorem runAt_le (ps : List ByteArray) (z : Nat) (x : Lst) (l : List Stp) (k : Nat) : (runAt ps z x l k).2 ≤ k := by
 induction k with
 | zero => exact Nat.le_refl _
 | succ k ih =>
  unfold runAt
  split
  ·unfold oneStep
   simp only []
   split <;> omega
  ·omega
section
variable {w : World} {B K : Nat} {Q : LkC} {ps : List ByteArray} {x y : Lst} {G : Nat → Prop}
set_option maxHeartbeats 2000000 in
set_option maxRecDepth 100000 in
theorem prun_any (h : Lk w B K Q ps x y G) {l : List Stp} {A : Option Addr} {n c : Nat} (hs : Sl w B 3 A n (l.flatMap stpCells)) (hf : ∀ x ∈ l, stpFits x) (hn : n ≤ 1000) (hK : K + 5 * n ≤ 1000000) : Calls Tryz.prog 27 #[.pointer (some ⟨Q.lp, 0, none⟩), .slice A n c] w fun e w' => e = .returned (.int .i64 ((runAt ps Q.z x l n).2 : Int)) ∧ LkTo w B (K + 5 * n) Q ps (runAt ps Q.z x l n).1 y G w' := by
 have hT : LkTo w B K Q ps x y G w := ⟨h, .refl _ _, .refl _ _⟩
 clear h
 go_enter Tryz.func27, Tryz.ntmps27
 go_wp2
 go_loopw [5, 10] (fun cv iv wr => ∃ (k q : Nat) (x' : Lst), k ≤ n ∧ Hid (runAt ps Q.z x l k = (x', q)) ∧ cv = .int .i64 (q : Int) ∧ iv = .int .i64 (k : Int) ∧ LkTo w B (K + 5 * k) Q ps x' y G wr) (fun _ iv _ => n - (intOf iv).toNat)
 case atStart => exact ⟨0, 0, x, Nat.zero_le _, Lib.hid rfl, rfl, rfl, hT⟩
 case round =>
  clear hT
  obtain ⟨k, q, x', hk, HR, rfl, rfl, hT⟩ := hrel
  by_cases hlt : k < n
  ·have t0 : decide ((k : Int) < (n : Int)) = true := decide_eq_true (by omega)
   obtain ⟨b, o, ⟨kd, N, mk⟩, rfl, hbl, hfx, hget, c0, c1, c2⟩ := stp_get (hs.below hT.2.1) hf hlt
   simp only at hfx c0 c1 c2
   obtain ⟨m, rfl⟩ := Int.eq_ofNat_of_zero_le hfx.1
   have hm : m < 18446744073709551616 := by have := hfx.2; simp only at this; omega
   have bA := below1 wr (.cells #[.int .i64 kd, .int .i64 N, .int .u64 (m : Int)] 56)
   have k0 : (wr.alloc (.cells #[.int .i64 kd, .int .i64 N, .int .u64 (m : Int)] 56)).cell? ⟨wr.heap.size, 0, none⟩ = some (.int .i64 kd) := by rw [World.cell?_alloc_new]; rfl
   have k1 : (wr.alloc (.cells #[.int .i64 kd, .int .i64 N, .int .u64 (m : Int)] 56)).cell? ⟨wr.heap.size, 1, none⟩ = some (.int .i64 N) := by rw [World.cell?_alloc_new]; rfl
   have k2 : (wr.alloc (.cells #[.int .i64 kd, .int .i64 N, .int .u64 (m : Int)] 56)).cell? ⟨wr.heap.size, 2, none⟩ = some (.int .u64 (m : Int)) := by rw [World.cell?_alloc_new]; rfl
   have hTA := hT.trans (LkTo.of_below hT.1 bA)
   have hqk : q ≤ k := by have := runAt_le ps Q.z x l k; rw [HR.out] at this; exact this
   have HN : Hid (runAt ps Q.z x l (k + 1) = oneStep ps Q.z (x', q) (kd, N, (m : Int))) := Lib.hid (by rw [runAt_succ hget, HR.out])
   have HKK : Hid (K + 5 * k + 5 ≤ 1000000 ∧ K + 5 * (k + 1) = K + 5 * k + 5) := Lib.hid (by omega)
   have W1 := Lib.hid (w_in ((k : Int) + 1) (k + 1) (by omega) (by omega))
   have W2 := Lib.hid (w_in ((q : Int) + 1) (q + 1) (by omega) (by omega))
   have HM : Hid (n - ((k : Int) + 1).toNat < n - k) := Lib.hid (by omega)
   have HK1 : Hid (k + 1 ≤ n) := Lib.hid (by omega)
   clear hT bA hbl hqk hfx hget hlt hk
   go_wp2_with fail
   refine (pstep_any hTA.1 kd N m hm HKK.out.1).mono ?_
   rintro e w2 ⟨rfl, hT2⟩
   have hT3 := hTA.trans hT2
   clear hTA hT2 c0 c1 c2 k0 k1 k2
   obtain ⟨wk1, wk2⟩ := W1.out
   obtain ⟨wq1, wq2⟩ := W2.out
   clear W1 W2
   by_cases he : stepE ps Q.z x' kd N m = 0
   ·have HN2 : Hid (runAt ps Q.z x l (k + 1) = (stepL ps Q.z x' kd N m, q + 1)) := Lib.hid (by rw [HN.out]; unfold oneStep; simp only [Int.toNat_natCast]; rw [if_pos he])
    rw [he, errV_zero]
    clear he
    go_wp2
    go_roundw
    case rel => exact ⟨k + 1, q + 1, _, HK1.out, HN2, by go_num, by go_num, by rw [HKK.out.2]; exact hT3⟩
    case measure => simpa [intOf] using HM.out
   ·have HN2 : Hid (runAt ps Q.z x l (k + 1) = (stepL ps Q.z x' kd N m, q)) := Lib.hid (by rw [HN.out]; unfold oneStep; simp only [Int.toNat_natCast]; rw [if_neg he])
    have E1 := Lib.hid (errV_of he)
    rw [E1.out]
    clear he
    go_wp2
    go_roundw
    case rel => exact ⟨k + 1, q, _, HK1.out, HN2, rfl, by go_num, by rw [HKK.out.2]; exact hT3⟩
    case measure => simpa [intOf] using HM.out
  ·obtain rfl : k = n := by omega
   have t0 : decide ((k : Int) < (k : Int)) = false := decide_eq_false (by omega)
   clear hlt
   go_wp2
   go_ret
   rw [HR.out]
   exact ⟨retI rfl, hT⟩
end
end Go.Proofs.YtfefpcdgflgaeaaGreatDoor
end

section
namespace Go.Proofs.YtfefpcdgflgaeaaGreatDoor.Flow
open Go
section
variable {P : Program} {ops : Array Oper} {Q : Exit → Act → World → Prop} {Z : List PanicEntry → World → Prop}
/-- Each operation waits for earlier ones alone; what guards it is among these, and is listed in ps. -/
def lexH (ops : Array Oper) (ps : List (Nat × Bool)) : Bool := (List.range ops.size).all fun i => match ops[i]? with
 | some o => (match o.guard with
  | none => true
  | some g => ps.contains g && (o.after.toList.any fun e => Region.binds .any e && e.on == g.1) && ((ops[g.1]?).bind (·.dst)).isSome) && o.after.toList.all fun e => !Region.binds .any e || decide (e.on < i)
 | none => true
theorem lexH_of {ps : List (Nat × Bool)} (h : lexH ops ps = true) {i : Nat} {o : Oper} (ho : ops[i]? = some o) :
  (∀ g, o.guard = some g → g ∈ ps ∧ (∃ e ∈ o.after, Region.binds .any e = true ∧ e.on = g.1) ∧ ((ops[g.1]?).bind (·.dst)).isSome = true) ∧ ∀ e ∈ o.after, Region.binds .any e = true → e.on < i := by
 have hi := (Array.getElem?_eq_some_iff.1 ho).1
 have := List.all_eq_true.1 h i (List.mem_range.2 hi)
 rw [ho] at this
 simp only [Bool.and_eq_true] at this
 refine ⟨fun g hg => ?_, fun e he hb => ?_⟩
 ·have h1 := this.1
  rw [hg] at h1
  simp only [Bool.and_eq_true, List.any_eq_true, beq_iff_eq] at h1
  obtain ⟨⟨h2, e, he, h3⟩, h4⟩ := h1
  exact ⟨by simpa using h2, ⟨e, by simpa using he, h3⟩, h4⟩
 ·have h2 := List.all_eq_true.1 this.2 e (by simpa using he)
  rw [hb] at h2
  simpa using h2
theorem allH_of_ready {ps : List (Nat × Bool)} (hlex : lexH ops ps = true) {L : Array Bool} (hs : L.size = ops.size) (h : Region.ready .any ops L = []) (i : Nat) : i < ops.size → L.getD i false = true := by
 induction i using Nat.strongRecOn with
 | ind i ih =>
  intro hi
  rcases hb : L.getD i false with _ | _
  ·exfalso
   have hm : i ∈ Region.ready .any ops L := mem_ready.2 ⟨by rw [getD_in (by omega) true false]; exact hb, ops[i], Array.getElem?_eq_getElem hi, fun e he hbe => ih e.on ((lexH_of hlex (Array.getElem?_eq_getElem hi)).2 e he hbe) (by have := (lexH_of hlex (Array.getElem?_eq_getElem hi)).2 e he hbe; omega)⟩
   rw [h] at hm
   cases hm
  ·rfl
theorem wanted_of {ps : List (Nat × Bool)} (hlex : lexH ops ps = true) (hok : okB ops = true) {a0 : Act} {n : Nat} (hn : a0.tmps.size = n) (hfit : fitB ops n = true) {v : Nat → Value} (hv : ∀ p ∈ ps, v p.1 = .bool p.2) {L : Nat → Bool} {i : Nat} {o : Oper} (ho : ops[i]? = some o)
  (hd : ∀ e ∈ o.after, Region.binds .any e = true → L e.on = true) : Region.wanted o (yielded ops (frame ops a0 v L).tmps) = true := by
 unfold Region.wanted
 cases hg : o.guard with
 | none => rfl
 | some g =>
  obtain ⟨h1, ⟨e, he, hb, heq⟩, h3⟩ := (lexH_of hlex ho).1 g hg
  obtain ⟨j, b⟩ := g
  simp only at heq h3 ⊢
  have hL : L j = true := by rw [← heq]; exact hd e he hb
  obtain ⟨t, ht⟩ := Option.isSome_iff_exists.1 h3
  obtain ⟨oj, hoj, hdj⟩ := Option.bind_eq_some_iff.1 ht
  have hw := ok_of hok hoj hdj
  have htn := fit_of hfit hw
  have hfr : (frame ops a0 v L).tmps[t]? = some (v j) := by
   rw [frame_at, Array.getElem?_eq_getElem (by omega)]
   simp [slot, hw, hL]
  have hy : yielded ops (frame ops a0 v L).tmps j = some b := by
   unfold yielded
   rw [ht]
   simp only [Option.bind_some, hfr]
   have := hv (j, b) h1
   simp only at this
   rw [this]
  rw [hy]
  simp
theorem wp_region_guard {G : Type} {id : Nat} {l : List Oper} {a0 : Act} {w0 : World} (ps : List (Nat × Bool)) (hm : P.follows .mixedOrders = true) (hlex : lexH l.toArray ps = true) (hok : okB l.toArray = true) (n : Nat) (hn : a0.tmps.size = n) (hfit : fitB l.toArray n = true)
  (v : G → Nat → Value) (hps : ∀ g, ∀ p ∈ ps, v g p.1 = .bool p.2) (C : G → (Nat → Bool) → World → Prop) (Z : List PanicEntry → World → Prop) (g0 : G) (h0 : C g0 (fun _ => false) w0.drew)
  (hstep : Steps (Step4 P l.toArray a0 v C Z) 0 l) (hthrow : ∀ g L ch w, Z ch w → Q (.panic ch) (frame l.toArray a0 (v g) L) w)
  (hdone : ∀ g L w, (∀ i, i < l.length → L i = true) → C g L w → Q .normal (putAll (v g) 0 l a0) w) :
  (Code.region id l.toArray true).wp P Q a0 w0 := by
 refine wp_region_any hm ?_
 refine wpAny_inv (fun L a w => ∃ g, a = frame l.toArray a0 (v g) (fun i => L.getD i false) ∧ Closed l.toArray (fun i => L.getD i false) ∧ C g (fun i => L.getD i false) w) ?_ ?_ _ _ _ _ (by simp) ?_ ?_
 ·rintro L a w i o hs ⟨g, rfl, hcl, hC⟩ ho hi hd
  have hst := hstep.at_ (i := i) (o := o) (by simpa using ho)
  rw [Nat.zero_add] at hst
  have hin : i < L.size := by rw [hs]; exact (Array.getElem?_eq_some_iff.1 ho).1
  have hi' : L.getD i false = false := by rw [getD_in hin false true]; exact hi
  have hfun : (fun j => (L.setIfInBounds i true).getD j false) = fun j => j == i || L.getD j false := by
   funext j
   by_cases hj : j = i
   ·subst hj
    simp [Array.getD, hin]
   ·have hb : (j == i) = false := by simpa using hj
    rw [hb, Bool.false_or]
    simp only [Array.getD_eq_getD_getElem?, Array.getElem?_setIfInBounds]
    rw [if_neg (fun e => hj e.symm)]
  unfold wpOp
  rw [ho]
  simp only
  rw [if_pos (wanted_of hlex hok hn hfit (hps g) ho hd)]
  refine .inl (YlP.upon (hst g _ w (fun u w' => ∃ g', u = v g' i ∧ C g' (fun j => j == i || L.getD j false) w' ∧ ∀ j, L.getD j false = true → v g' j = v g j) _ (fun _ => rfl) (fun _ => rfl) (fun t j h1 h2 => frame_dst h1 (by rw [hn]; exact fit_of hfit h1) h2) (fun t h1 => frame_old h1) (fun t j h1 h2 => frame_not h1 h2) (fun i j => hcl.reach _ i j) hi' hd hC (fun g' w' h1 h2 => ⟨g', rfl, h1, h2⟩)) ?_ (fun ch w' hz => hthrow g _ ch w' hz))
  rintro u w' ⟨g', rfl, hC', hv⟩
  refine ⟨g', ?_, ?_, ?_⟩
  ·rw [hfun]; exact frame_put hok ho hv
  ·rw [hfun]
   intro j oj hoj hlj e he hb
   simp only [Bool.or_eq_true, beq_iff_eq] at hlj ⊢
   rcases hlj with rfl | hlj
   ·rw [ho] at hoj
    injection hoj with hoj
    subst hoj
    exact .inr (hd e he hb)
   ·exact .inr (hcl j oj hoj hlj e he hb)
  ·rw [hfun]; exact hC'
 ·rintro L a w hs ⟨g, rfl, _, hC⟩ hr
  have hall := allH_of_ready hlex hs hr
  rw [frame_all hall, putAll_all hok]
  exact hdone g _ w (fun i hi => hall i (by simpa using hi)) hC
 ·have hz : (fun i => (Array.replicate l.toArray.size false).getD i false) = fun _ => false := by
   funext i
   simp [Array.getD]
  refine ⟨g0, ?_, ?_, ?_⟩
  ·rw [hz, frame_none]
  ·rw [hz]; intro i o _ h; cases h
  ·rw [hz]; exact h0
 ·unfold left
  simp only [Array.toList_replicate]
  exact Nat.le_trans List.countP_le_length (by simp)
end
end Go.Proofs.YtfefpcdgflgaeaaGreatDoor.Flow
end

section
namespace Go.Proofs.YtfefpcdgflgaeaaGreatDoor
set_option linter.unusedSimpArgs false
set_option linter.unusedVariables false
open Go.RowKit As Go.Maps
theorem Lk.of_new {w w1 w2 : World} {lr C c lp A a z : Nat} {ps : List ByteArray} {R : RLoc} {L : PLoc} (hR : RR w1 0 R Rst.new) (hr : ∀ i, R.foot i → w.heap.size ≤ i) (hN : LkNew w w1 lr R.r C c z ps R.foot) (hP : PR w2 0 L Rst.new) (hp : ∀ i, L.foot i → w1.heap.size ≤ i) (hM : LkNew w1 w2 lp L.r A a z ps L.foot)
  (hz : 1 ≤ z ∧ z ≤ 256) (hn : 0 < ps.length ∧ ps.length ≤ 4096) (hs : ∀ t ∈ ps, 4 ≤ t.size ∧ t.size ≤ 300) : Lk w2 w.heap.size 0 ⟨lp, lr, L.r, R.r, A, C, a, c, z⟩ ps ⟨0, Rst.new⟩ ⟨0, Rst.new⟩ (fun _ => False) := by
 have s1 := hN.bel.size
 have s2 := hM.bel.size
 have b1 := hN.blp
 have b2 := hN.bA
 have b3 := hN.llp
 have b4 := hN.llA
 have b5 := hM.blp
 have b6 := hM.bA
 have b7 := hM.llp
 have b8 := hM.llA
 have hRl := hR.low
 refine ⟨⟨L, R, rfl, rfl, hP, hR.below hM.bel, fun i hi => ⟨Nat.le_trans s1 (hp i hi), hP.low i hi⟩, fun i hi => ⟨hr i hi, Nat.lt_of_lt_of_le (hR.low i hi) s2⟩, fun i hi hg => ?_, Nat.le_trans s1 s2, fun i hi => ?_⟩, hM.rc, hN.rc.below hM.bel, hM.row, hN.row.turned (F := fun _ => False) (.of_below hM.bel) id, ?_, fun i hi => hi.elim, ⟨?_, ?_⟩, ⟨hM.cap, hN.cap⟩, hz, hn, hs, ⟨Nat.zero_le _, Nat.zero_le _⟩⟩
 ·have := hR.low i hg; have := hp i hi; omega
 ·rcases hi with rfl | rfl | rfl | rfl | q
  ·exact ⟨hM.nl, fun q => by have := hRl _ q; omega, hM.llp⟩
  ·exact ⟨fun q => by have := hp _ q; omega, hN.nl, by omega⟩
  ·exact ⟨hM.nA, fun q => by have := hRl _ q; omega, hM.llA⟩
  ·exact ⟨fun q => by have := hp _ q; omega, hN.nA, by omega⟩
  ·exact q.elim
 ·have := hM.lA; have := hN.lA
  refine ⟨?_, ?_, ?_, ?_, ?_⟩ <;> dsimp only <;> omega
 ·show w.heap.size ≤ lp; omega
 ·show w.heap.size ≤ lr; omega
theorem yes_same2 {x : Int} : decide (x = x ∧ (-1 : Int) = -1) = true := by simp
theorem Handle.below2 {w w' : World} (h : Handle w) (hb : Below w.heap.size w w') : Handle w' := h.below hb
end Go.Proofs.YtfefpcdgflgaeaaGreatDoor
end

section
namespace Go.Proofs.YtfefpcdgflgaeaaGreatDoor
set_option linter.unusedSimpArgs false
set_option linter.unusedVariables false
open Go.RowKit As Go.Maps
def lruV (Q : LkC) (A : Option Addr) (ln c q : Nat) (x' : Lst) (g : Unit) : Nat → Value
 | 0 => .pointer (some ⟨Q.lp, 0, none⟩)
 | 1 => .slice A ln c
 | 2 => .int .i64 (q : Int)
 | 3 => .int .i64 (q : Int)
 | 4 => .bool true
 | 5 => .bool true
 | 6 => .pointer (some ⟨Q.lp, 0, none⟩)
 | 7 => .pointer (some ⟨Q.lp, 0, none⟩)
 | 8 => .pointer (some ⟨Q.lp, 0, none⟩)
 | 9 => .pointer (some ⟨Q.p, 0, none⟩)
 | 10 => .int .i64 (x'.s.offer : Int)
 | 11 => .pointer (some ⟨Q.lr, 0, none⟩)
 | 12 => .pointer (some ⟨Q.lr, 0, none⟩)
 | 13 => .pointer (some ⟨Q.lr, 0, none⟩)
 | 14 => .pointer (some ⟨Q.r, 0, none⟩)
 | 15 => .int .i64 (x'.s.offer : Int)
 | 16 => .bool true
 | 17 => .bool true
 | 18 => .bool true
 | _ => undef
theorem runsEarly (s : ByteArray) (z : Int) (A : Option Addr) (n c : Nat) (w : World) (h : 600 < s.size ∨ 60 < n) :
  Calls Tryz.prog 4 #[.string s, .int .i64 z, .slice A n c] w fun e w' => e = .returned (.bool true) ∧ Below w.heap.size w w' := by
 by_cases h1 : 600 < s.size
 ·have d1 : decide (600 < (s.size : Int)) = true := decide_eq_true (by omega)
  clear h h1
  go_enter Tryz.func4, Tryz.ntmps4
  go_wp2
  go_ret
  exact ⟨rfl, Below.refl _ _⟩
 have d1 : decide (600 < (s.size : Int)) = false := decide_eq_false (by omega)
 have d4 : decide (60 < (n : Int)) = true := decide_eq_true (by omega)
 clear h h1
 go_enter Tryz.func4, Tryz.ntmps4
 go_wp2
 go_ret
 exact ⟨rfl, Below.refl _ _⟩
theorem runsNo (s : ByteArray) (z : Int) (A : Option Addr) (n c : Nat) (w : World) (hg : Handle w) (h : s.size ≤ 600) (hn : n ≤ 60) (he : (cutOf s z).2 ≠ 0) :
  Calls Tryz.prog 4 #[.string s, .int .i64 z, .slice A n c] w fun e w' => e = .returned (.bool true) ∧ Below w.heap.size w w' := by
 have HS : Hid (s.size ≤ 1000000) := Lib.hid (by omega)
 have HE := Lib.hid he
 have HH := Lib.hid hg
 have te : ((cutOf s z).2 == 0) = false := beq_eq_false_iff_ne.2 he
 have te2 : ((cutOf s z).2 != 0) = true := bne_iff_ne.2 he
 have d1 : decide (600 < (s.size : Int)) = false := decide_eq_false (by omega)
 have d4 : decide (60 < (n : Int)) = false := decide_eq_false (by omega)
 generalize hE : (cutOf s z).2 = E at te te2
 have HEE := Lib.hid hE
 clear h hn he hg hE
 go_enter Tryz.func4, Tryz.ntmps4
 go_wp2_with fail
 refine (rlnew_no s z w HS.out HE.out).mono ?_
 rintro e w1 ⟨rfl, hb1⟩
 rw [HEE.out]
 go_wp2_with fail
 refine (plnew_no s z w1 HS.out HE.out).mono ?_
 rintro e w2 ⟨rfl, hb2⟩
 rw [HEE.out]
 have hb := hb1.trans (hb2.mono hb1.size)
 clear hb1 hb2
 go_wp2_with fail
 refine (bare_any (errV_is w2 E) (Handle.below2 HH.out hb) E).mono ?_
 rintro e w3 ⟨rfl, hb3⟩
 have HB := Lib.hid (hb.trans (hb3.mono hb.size))
 rw [yes_same2]
 clear hb hb3
 go_wp2
 go_ret
 exact ⟨rfl, HB.out⟩
set_option maxHeartbeats 4000000 in
set_option maxRecDepth 100000 in
theorem walkLinkRuns (s : ByteArray) (zz : Int) (a : StpArg) (w : World) (_ : s.size ≤ maxLen) (_ : (Lit.int .i64 zz).wf = true) (ha : Sl w w.heap.size 3 a.A a.n (a.l.flatMap stpCells) ∧ (∀ x ∈ a.l, stpFits x) ∧ a.n ≤ maxLen) (hg : Handle w) :
  Calls Tryz.prog 4 #[.string s, .int .i64 zz, .slice a.A a.n a.c] w fun e w' => e = .returned (.bool true) ∧ Below w.heap.size w w' := by
 obtain ⟨A, ln, c, l⟩ := a
 obtain ⟨hs, hf, hlen⟩ := ha
 simp only at hs hf hlen
 by_cases h1 : 600 < s.size ∨ 60 < ln
 ·exact runsEarly s zz A ln c w h1
 have hs9 : s.size ≤ 600 := by omega
 have hln : ln ≤ 60 := by omega
 by_cases he : (cutOf s zz).2 = 0
 case neg => exact runsNo s zz A ln c w hg hs9 hln he
 obtain ⟨hq1, hq2, hq3, hq4⟩ := cut_some he
 obtain ⟨z, rfl⟩ := Int.eq_ofNat_of_zero_le (show 0 ≤ zz by omega)
 have d1 : decide (600 < (s.size : Int)) = false := decide_eq_false (by omega)
 have d4 : decide (60 < (ln : Int)) = false := decide_eq_false (by omega)
 have HS : Hid (s.size ≤ 1000000) := Lib.hid (by omega)
 have HE := Lib.hid he
 have HH := Lib.hid hg
 have H60 : Hid (ln ≤ 1000 ∧ 5 * ln + 5 * ln ≤ 1000000) := Lib.hid (by omega)
 have HSL := Lib.hid hs
 have HF := Lib.hid hf
 have hpl : (sentOf s z).length = (cutOf s z).1.length := by unfold sentOf; rw [List.length_map]
 have HZ : Hid ((1 ≤ z ∧ z ≤ 256) ∧ (0 < (sentOf s z).length ∧ (sentOf s z).length ≤ 4096) ∧ ∀ t ∈ sentOf s z, 4 ≤ t.size ∧ t.size ≤ 300) := Lib.hid ⟨by omega, by rw [hpl]; exact ⟨hq1, hq2⟩, sent_size he⟩
 clear h1 hln he hq1 hq2 hq3 hq4 hs9 hg hpl hlen
 generalize hps : sentOf s z = ps at HZ
 have HPS := Lib.hid hps
 clear hps
 go_enter Tryz.func4, Tryz.ntmps4
 go_wp2_with fail
 refine (rlnew_any s z w HS.out HE.out).mono ?_
 rintro e w1 ⟨lr, C, cc, R, rfl, hR, hr, hN⟩
 rw [HPS.out] at hN
 go_wp2_with fail
 refine (plnew_any s z w1 HS.out HE.out).mono ?_
 rintro e w2 ⟨lp, AA, aa, L, rfl, hP, hp, hM⟩
 rw [HPS.out] at hM
 have hT := Lk.of_new hR hr hN hP hp hM HZ.out.1 HZ.out.2.1 HZ.out.2.2
 have hb : Below w.heap.size w w2 := hN.bel.trans (hM.bel.mono hN.bel.size)
 generalize hQ : (⟨lp, lr, L.r, R.r, AA, C, aa, cc, z⟩ : LkC) = Q at hT
 have hlp : lp = Q.lp := by rw [← hQ]
 have hlr : lr = Q.lr := by rw [← hQ]
 rw [hlp, hlr]
 clear hR hr hN hP hp hM hQ hlp hlr d1 d4
 obtain ⟨x0, hx0⟩ : ∃ x0 : Lst, x0 = ⟨0, Rst.new⟩ := ⟨_, rfl⟩
 rw [← hx0] at hT
 clear hx0
 go_wp2
 go_loopw [11, 56] (fun cv iv wr => ∃ (k q : Nat) (x' : Lst), k ≤ ln ∧ Hid (runAt ps Q.z x0 l k = (x', q)) ∧ cv = .int .i64 (q : Int) ∧ iv = .int .i64 (k : Int) ∧ Lk wr w.heap.size (5 * k) Q ps x0 x' (fun _ => False) ∧ Below w.heap.size w wr) (fun _ iv _ => ln - (intOf iv).toNat)
 case atStart => exact ⟨0, 0, x0, Nat.zero_le _, Lib.hid rfl, rfl, rfl, hT, hb⟩
 case round =>
  clear hT hb
  obtain ⟨k, q, x', hk, HR, rfl, rfl, hT, hb⟩ := hrel
  by_cases hlt : k < ln
  ·have t0 : decide ((k : Int) < (ln : Int)) = true := decide_eq_true (by omega)
   obtain ⟨b, o, ⟨kd, N, mk⟩, rfl, hbl, hfx, hget, c0, c1, c2⟩ := stp_get (hs.below hb) hf hlt
   simp only at hfx c0 c1 c2
   obtain ⟨m, rfl⟩ := Int.eq_ofNat_of_zero_le hfx.1
   have hm : m < 18446744073709551616 := by have := hfx.2; simp only at this; omega
   have bA := below1 wr (.cells #[.int .i64 kd, .int .i64 N, .int .u64 (m : Int)] 56)
   have k0 : (wr.alloc (.cells #[.int .i64 kd, .int .i64 N, .int .u64 (m : Int)] 56)).cell? ⟨wr.heap.size, 0, none⟩ = some (.int .i64 kd) := by rw [World.cell?_alloc_new]; rfl
   have k1 : (wr.alloc (.cells #[.int .i64 kd, .int .i64 N, .int .u64 (m : Int)] 56)).cell? ⟨wr.heap.size, 1, none⟩ = some (.int .i64 N) := by rw [World.cell?_alloc_new]; rfl
   have k2 : (wr.alloc (.cells #[.int .i64 kd, .int .i64 N, .int .u64 (m : Int)] 56)).cell? ⟨wr.heap.size, 2, none⟩ = some (.int .u64 (m : Int)) := by rw [World.cell?_alloc_new]; rfl
   have hTA := hT.below bA
   have hbA := hb.trans (bA.mono hb.size)
   have hqk : q ≤ k := by have := runAt_le ps Q.z x0 l k; rw [HR.out] at this; exact this
   have HN : Hid (runAt ps Q.z x0 l (k + 1) = oneStep ps Q.z (x', q) (kd, N, (m : Int))) := Lib.hid (by rw [runAt_succ hget, HR.out])
   have HKK : Hid (5 * k + 5 ≤ 1000000 ∧ 5 * (k + 1) = 5 * k + 5) := Lib.hid (by have := H60.out; omega)
   have W1 := Lib.hid (w_in ((k : Int) + 1) (k + 1) (by omega) (by have := H60.out; omega))
   have W2 := Lib.hid (w_in ((q : Int) + 1) (q + 1) (by omega) (by have := H60.out; omega))
   have HM : Hid (ln - ((k : Int) + 1).toNat < ln - k) := Lib.hid (by omega)
   have HK1 : Hid (k + 1 ≤ ln) := Lib.hid (by omega)
   clear hT hb bA hbl hqk hfx hget hlt hk
   go_wp2_with fail
   refine (rstep_any hTA kd N m hm HKK.out.1).mono ?_
   rintro e w2 ⟨rfl, hT2, hb2, _⟩
   have hb3 := hbA.trans hb2
   clear hTA hbA hb2 c0 c1 c2 k0 k1 k2
   obtain ⟨wk1, wk2⟩ := W1.out
   obtain ⟨wq1, wq2⟩ := W2.out
   clear W1 W2
   by_cases he : stepE ps Q.z x' kd N m = 0
   ·have HN2 : Hid (runAt ps Q.z x0 l (k + 1) = (stepL ps Q.z x' kd N m, q + 1)) := Lib.hid (by rw [HN.out]; unfold oneStep; simp only [Int.toNat_natCast]; rw [if_pos he])
    rw [he]
    clear he
    go_wp2
    go_roundw
    case rel => exact ⟨k + 1, q + 1, _, HK1.out, HN2, by go_num, by go_num, by rw [HKK.out.2]; exact hT2, hb3⟩
    case measure => simpa [intOf] using HM.out
   ·have HN2 : Hid (runAt ps Q.z x0 l (k + 1) = (stepL ps Q.z x' kd N m, q)) := Lib.hid (by rw [HN.out]; unfold oneStep; simp only [Int.toNat_natCast]; rw [if_neg he])
    have te : (stepE ps Q.z x' kd N m == 0) = false := beq_eq_false_iff_ne.2 he
    obtain ⟨E, hE⟩ : ∃ E, E = stepE ps Q.z x' kd N m := ⟨_, rfl⟩
    rw [← hE] at te ⊢
    clear he hE
    go_wp2
    go_roundw
    case rel => exact ⟨k + 1, q, _, HK1.out, HN2, rfl, by go_num, by rw [HKK.out.2]; exact hT2, hb3⟩
    case measure => simpa [intOf] using HM.out
  ·obtain rfl : k = ln := by omega
   have t0 : decide ((k : Int) < (k : Int)) = false := decide_eq_false (by omega)
   clear hlt hk
   generalize k = ln at *
   go_wp2
   refine Flow.wp_region_guard [(5, true)] (by kernel_rfl) (by kernel_rfl) (by kernel_rfl) 85 rfl (by kernel_rfl) (lruV Q A ln c q x') (by intro g p hp; simp only [List.mem_cons, List.not_mem_nil, or_false] at hp; rcases hp with rfl <;> rfl) (fun _ L wz => Lk wz w.heap.size (cond (L 2) (5 * ln + 5 * ln) (5 * ln)) Q ps (cond (L 2) x' x0) x' (fun _ => False) ∧ Below w.heap.size w wz) (fun _ _ => False) (()) (⟨hT.below (Below.refl _ _).drew, hb.trans ((Below.refl _ _).drew)⟩) ⟨?_, ?_, ?_, ?_, ?_, ?_, ?_, ?_, ?_, ?_, ?_, ?_, ?_, ?_, ?_, ?_, ?_, ?_, ?_, trivial⟩ ?_ ?_
   ·intro g L wz K ρ hc0 hf0 hF hO hU hcl hi hd hC hK
    have e9 : ρ (.tmp 9) = .pointer (some ⟨Q.lp, 0, none⟩) := hO 9 (by kernel_rfl)
    simp [go_sem, Flow.ylP_value, Flow.ylP_skip, Flow.ylP_enter, Flow.ylP_panic, hc0, hf0, e9]
    exact hK g wz hC (fun _ _ => rfl)
   ·intro g L wz K ρ hc0 hf0 hF hO hU hcl hi hd hC hK
    have e2 : ρ (.tmp 2) = .slice A ln c := hO 2 (by kernel_rfl)
    simp [go_sem, Flow.ylP_value, Flow.ylP_skip, Flow.ylP_enter, Flow.ylP_panic, hc0, hf0, e2]
    exact hK g wz hC (fun _ _ => rfl)
   ·intro g L wz K ρ hc0 hf0 hF hO hU hcl hi hd hC hK
    have d0 : L 0 = true := hd ⟨0, .data⟩ (by simp) rfl
    have e67 : ρ (.tmp 67) = .pointer (some ⟨Q.lp, 0, none⟩) := hF 67 0 (by kernel_rfl) d0
    have d1 : L 1 = true := hd ⟨1, .data⟩ (by simp) rfl
    have e68 : ρ (.tmp 68) = .slice A ln c := hF 68 1 (by kernel_rfl) d1
    simp [go_sem, Flow.ylP_value, Flow.ylP_skip, Flow.ylP_enter, Flow.ylP_panic, hc0, hf0, e67, e68]
    simp only [hi, cond_false] at hC
    refine (prun_any hC.1 (HSL.out.below hC.2) HF.out H60.out.1 H60.out.2).mono ?_
    rintro r' wn ⟨rfl, hpn, hbn, htn⟩
    rw [HR.out] at hpn ⊢
    exact ⟨_, rfl, hK () wn ⟨hpn, hC.2.trans hbn⟩ (by intro j hj; unfold lruV; split <;> first | rfl | (rw [hi] at hj; cases hj) | (have hz := hcl _ 2 (by kernel_rfl) hj; rw [hi] at hz; cases hz))⟩
   ·intro g L wz K ρ hc0 hf0 hF hO hU hcl hi hd hC hK
    have e11 : ρ (.tmp 11) = .int .i64 (q : Int) := hO 11 (by kernel_rfl)
    simp [go_sem, Flow.ylP_value, Flow.ylP_skip, Flow.ylP_enter, Flow.ylP_panic, hc0, hf0, e11]
    exact hK g wz hC (fun _ _ => rfl)
   ·intro g L wz K ρ hc0 hf0 hF hO hU hcl hi hd hC hK
    have d2 : L 2 = true := hd ⟨2, .data⟩ (by simp) rfl
    have e69 : ρ (.tmp 69) = .int .i64 (q : Int) := hF 69 2 (by kernel_rfl) d2
    have d3 : L 3 = true := hd ⟨3, .data⟩ (by simp) rfl
    have e70 : ρ (.tmp 70) = .int .i64 (q : Int) := hF 70 3 (by kernel_rfl) d3
    simp [go_sem, Flow.ylP_value, Flow.ylP_skip, Flow.ylP_enter, Flow.ylP_panic, hc0, hf0, e69, e70]
    exact hK g wz hC (fun _ _ => rfl)
   ·intro g L wz K ρ hc0 hf0 hF hO hU hcl hi hd hC hK
    have d4 : L 4 = true := hd ⟨4, .data⟩ (by simp) rfl
    have e71 : ρ (.tmp 71) = .bool true := hF 71 4 (by kernel_rfl) d4
    simp [go_sem, Flow.ylP_value, Flow.ylP_skip, Flow.ylP_enter, Flow.ylP_panic, hc0, hf0, e71]
    exact hK g wz hC (fun _ _ => rfl)
   ·intro g L wz K ρ hc0 hf0 hF hO hU hcl hi hd hC hK
    have e9 : ρ (.tmp 9) = .pointer (some ⟨Q.lp, 0, none⟩) := hO 9 (by kernel_rfl)
    simp [go_sem, Flow.ylP_value, Flow.ylP_skip, Flow.ylP_enter, Flow.ylP_panic, hc0, hf0, e9]
    exact hK g wz hC (fun _ _ => rfl)
   ·intro g L wz K ρ hc0 hf0 hF hO hU hcl hi hd hC hK
    have d6 : L 6 = true := hd ⟨6, .data⟩ (by simp) rfl
    have e73 : ρ (.tmp 73) = .pointer (some ⟨Q.lp, 0, none⟩) := hF 73 6 (by kernel_rfl) d6
    simp [go_sem, Flow.ylP_value, Flow.ylP_skip, Flow.ylP_enter, Flow.ylP_panic, hc0, hf0, e73]
    exact hK g wz hC (fun _ _ => rfl)
   ·intro g L wz K ρ hc0 hf0 hF hO hU hcl hi hd hC hK
    have d7 : L 7 = true := hd ⟨7, .data⟩ (by simp) rfl
    have e74 : ρ (.tmp 74) = .pointer (some ⟨Q.lp, 0, none⟩) := hF 74 7 (by kernel_rfl) d7
    simp [go_sem, Flow.ylP_value, Flow.ylP_skip, Flow.ylP_enter, Flow.ylP_panic, hc0, hf0, e74]
    exact hK g wz hC (fun _ _ => rfl)
   ·intro g L wz K ρ hc0 hf0 hF hO hU hcl hi hd hC hK
    have d8 : L 8 = true := hd ⟨8, .data⟩ (by simp) rfl
    have e75 : ρ (.tmp 75) = .pointer (some ⟨Q.lp, 0, none⟩) := hF 75 8 (by kernel_rfl) d8
    have cc := (hC.1.pc 0 _ rfl).1
    simp [go_sem, Flow.ylP_value, Flow.ylP_skip, Flow.ylP_enter, Flow.ylP_panic, hc0, hf0, e75, cc]
    exact hK g wz hC (fun _ _ => rfl)
   ·intro g L wz K ρ hc0 hf0 hF hO hU hcl hi hd hC hK
    have d9 : L 9 = true := hd ⟨9, .data⟩ (by simp) rfl
    have e76 : ρ (.tmp 76) = .pointer (some ⟨Q.p, 0, none⟩) := hF 76 9 (by kernel_rfl) d9
    simp [go_sem, Flow.ylP_value, Flow.ylP_skip, Flow.ylP_enter, Flow.ylP_panic, hc0, hf0, e76]
    have l2 := hcl 9 2 (by kernel_rfl) d9
    refine (both_poffer hC.1.both).mono ?_
    rintro r' wn ⟨rfl, hww⟩
    have hbn : Below wz.heap.size wz wn := by rw [← hww]; exact .refl _ _
    simp only [l2, cond_true]
    exact ⟨_, rfl, hK () wn ⟨hC.1.below hbn, hC.2.trans (hbn.mono hC.2.size)⟩ (by intro j hj; unfold lruV; split <;> first | rfl | (rw [hi] at hj; cases hj) | (have hz := hcl _ 10 (by kernel_rfl) hj; rw [hi] at hz; cases hz))⟩
   ·intro g L wz K ρ hc0 hf0 hF hO hU hcl hi hd hC hK
    have e7 : ρ (.tmp 7) = .pointer (some ⟨Q.lr, 0, none⟩) := hO 7 (by kernel_rfl)
    simp [go_sem, Flow.ylP_value, Flow.ylP_skip, Flow.ylP_enter, Flow.ylP_panic, hc0, hf0, e7]
    exact hK g wz hC (fun _ _ => rfl)
   ·intro g L wz K ρ hc0 hf0 hF hO hU hcl hi hd hC hK
    have d11 : L 11 = true := hd ⟨11, .data⟩ (by simp) rfl
    have e78 : ρ (.tmp 78) = .pointer (some ⟨Q.lr, 0, none⟩) := hF 78 11 (by kernel_rfl) d11
    simp [go_sem, Flow.ylP_value, Flow.ylP_skip, Flow.ylP_enter, Flow.ylP_panic, hc0, hf0, e78]
    exact hK g wz hC (fun _ _ => rfl)
   ·intro g L wz K ρ hc0 hf0 hF hO hU hcl hi hd hC hK
    have d12 : L 12 = true := hd ⟨12, .data⟩ (by simp) rfl
    have e79 : ρ (.tmp 79) = .pointer (some ⟨Q.lr, 0, none⟩) := hF 79 12 (by kernel_rfl) d12
    simp [go_sem, Flow.ylP_value, Flow.ylP_skip, Flow.ylP_enter, Flow.ylP_panic, hc0, hf0, e79]
    exact hK g wz hC (fun _ _ => rfl)
   ·intro g L wz K ρ hc0 hf0 hF hO hU hcl hi hd hC hK
    have d13 : L 13 = true := hd ⟨13, .data⟩ (by simp) rfl
    have e80 : ρ (.tmp 80) = .pointer (some ⟨Q.lr, 0, none⟩) := hF 80 13 (by kernel_rfl) d13
    have cc := (hC.1.rc 0 _ rfl).1
    simp [go_sem, Flow.ylP_value, Flow.ylP_skip, Flow.ylP_enter, Flow.ylP_panic, hc0, hf0, e80, cc]
    exact hK g wz hC (fun _ _ => rfl)
   ·intro g L wz K ρ hc0 hf0 hF hO hU hcl hi hd hC hK
    have d14 : L 14 = true := hd ⟨14, .data⟩ (by simp) rfl
    have e81 : ρ (.tmp 81) = .pointer (some ⟨Q.r, 0, none⟩) := hF 81 14 (by kernel_rfl) d14
    simp [go_sem, Flow.ylP_value, Flow.ylP_skip, Flow.ylP_enter, Flow.ylP_panic, hc0, hf0, e81]
    refine (both_roffer hC.1.both).mono ?_
    rintro r' wn ⟨rfl, hww⟩
    have hbn : Below wz.heap.size wz wn := by rw [← hww]; exact .refl _ _
    exact ⟨_, rfl, hK () wn ⟨hC.1.below hbn, hC.2.trans (hbn.mono hC.2.size)⟩ (by intro j hj; unfold lruV; split <;> first | rfl | (rw [hi] at hj; cases hj) | (have hz := hcl _ 15 (by kernel_rfl) hj; rw [hi] at hz; cases hz))⟩
   ·intro g L wz K ρ hc0 hf0 hF hO hU hcl hi hd hC hK
    have d10 : L 10 = true := hd ⟨10, .data⟩ (by simp) rfl
    have e77 : ρ (.tmp 77) = .int .i64 (x'.s.offer : Int) := hF 77 10 (by kernel_rfl) d10
    have d15 : L 15 = true := hd ⟨15, .data⟩ (by simp) rfl
    have e82 : ρ (.tmp 82) = .int .i64 (x'.s.offer : Int) := hF 82 15 (by kernel_rfl) d15
    simp [go_sem, Flow.ylP_value, Flow.ylP_skip, Flow.ylP_enter, Flow.ylP_panic, hc0, hf0, e77, e82]
    exact hK g wz hC (fun _ _ => rfl)
   ·intro g L wz K ρ hc0 hf0 hF hO hU hcl hi hd hC hK
    have d5 : L 5 = true := hd ⟨5, .data⟩ (by simp) rfl
    have e72 : ρ (.tmp 72) = .bool true := hF 72 5 (by kernel_rfl) d5
    have d16 : L 16 = true := hd ⟨16, .data⟩ (by simp) rfl
    have e83 : ρ (.tmp 83) = .bool true := hF 83 16 (by kernel_rfl) d16
    simp [go_sem, Flow.ylP_value, Flow.ylP_skip, Flow.ylP_enter, Flow.ylP_panic, hc0, hf0, e72, e83]
    exact hK g wz hC (fun _ _ => rfl)
   ·intro g L wz K ρ hc0 hf0 hF hO hU hcl hi hd hC hK
    have d17 : L 17 = true := hd ⟨17, .data⟩ (by simp) rfl
    have e84 : ρ (.tmp 84) = .bool true := hF 84 17 (by kernel_rfl) d17
    simp [go_sem, Flow.ylP_value, Flow.ylP_skip, Flow.ylP_enter, Flow.ylP_panic, hc0, hf0, e84]
    exact hK g wz hC (fun _ _ => rfl)
   ·intro g L ch wz h; exact h.elim
   ·intro g L wz hL hC
    have HB := Lib.hid hC.2
    clear hC hT hb
    simp only [Flow.putAll, lruV]
    simp [Act.put]
    go_wp2
    go_ret
    exact ⟨rfl, HB.out⟩
end Go.Proofs.YtfefpcdgflgaeaaGreatDoor
end
