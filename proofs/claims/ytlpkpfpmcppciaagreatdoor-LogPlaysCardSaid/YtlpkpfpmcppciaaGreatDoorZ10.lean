/- Rows that a run of stores turns. Any program.

sort.SliceStable over writes, by the reference's order.

How the arguments of a law are opened: slices of structs, strings and numbers, and structs by value, as lists and tuples of mine. Any program.

Entries and ids as arguments.

Batches in memory. Any program.

Batches and writes as arguments.

The reference's log: Writes. -/
import Derived.Test.YtlpkpfpmcppciaaGreatDoorZ3b
import Derived.Laws.IdiomCopy
import Derived.Deep.MidRow
import Derived.Lib.AppendZeros
import Derived.Shelf.Spec.SlicesInsertGrow
import Derived.Test.YtlpkpfpmcppciaaGreatDoorZ5
import Derived.Test.YtlpkpfpmcppciaaGreatDoorShelfStable
import Derived.Test.YtlpkpfpmcppciaaGreatDoorZ9b
import Derived.Shelf.GgSortMore.Stable
import Derived.Shelf.GgSortFunc.SmallK
import Derived.Test.YtlpkpfpmcppciaaGreatDoorZ1
import Derived.ProofKit
import Derived.OpenShut
import Derived.Deep.Slices
import Derived.Deep.Fields
import Derived.Test.YtlpkpfpmcppciaaGreatDoorRows
import Derived.KernelRfl
import Derived.OwnWalk
section
namespace Go.Proofs.YtlpkpfpmcppciaaGreatDoor
set_option linter.unusedSimpArgs false
set_option linter.unusedVariables false
open Go.RowKit
theorem heap_setCells {g : Nat} {e : TypeId} : ∀ (vs : List Value) (o : Nat) (w : World) (cur : Array Value), w.heap[g]? = some (.cells cur e (0, 0)) → o + vs.length ≤ cur.size →
  ∃ cur' : Array Value, (w.setCells g o vs).heap[g]? = some (.cells cur' e (0, 0)) ∧ cur'.size = cur.size ∧ cur'.toList = cur.toList.take o ++ vs ++ cur.toList.drop (o + vs.length)
 | [], o, w, cur, h, _ => ⟨cur, h, rfl, by simp⟩
 | v :: vs, o, w, cur, h, hs => by
  simp only [List.length_cons] at hs
  have h1 := heap_setCell_same w g o cur e v h
  obtain ⟨cur', h2, h3, h4⟩ := heap_setCells vs (o + 1) _ (cur.setIfInBounds o v) h1 (by simp; omega)
  refine ⟨cur', h2, by rw [h3]; simp, ?_⟩
  rw [h4, Array.toList_setIfInBounds]
  have ho : o < cur.toList.length := by rw [Array.length_toList]; omega
  rw [List.drop_set_of_lt (by omega), List.take_set]
  rw [List.take_succ_eq_append_getElem ho]
  rw [List.set_append_right _ _ (by rw [List.length_take]; omega)]
  have : o - (List.take o cur.toList).length = 0 := by rw [List.length_take]; omega
  rw [this]
  simp [Nat.add_assoc, Nat.add_comm 1]
theorem setCells_other (g : Nat) : ∀ (vs : List Value) (o : Nat) (w : World) (k : Nat), k ≠ g → (w.setCells g o vs).heap[k]? = w.heap[k]?
 | [], _, _, _, _ => rfl
 | v :: vs, o, w, k, h => (setCells_other g vs (o + 1) _ k h).trans (heap_setCell_other w ⟨g, o, none⟩ k v h)
theorem setCells_size (g : Nat) : ∀ (vs : List Value) (o : Nat) (w : World), (w.setCells g o vs).heap.size = w.heap.size
 | [], _, _ => rfl
 | v :: vs, o, w => (setCells_size g vs (o + 1) _).trans (by simp)
theorem setCells_plain (g : Nat) : ∀ (vs : List Value) (o : Nat) (w : World), (w.setCells g o vs).os = w.os ∧ (w.setCells g o vs).tape = w.tape ∧ (w.setCells g o vs).output = w.output
 | [], _, _ => ⟨rfl, rfl, rfl⟩
 | v :: vs, o, w => by
  obtain ⟨a, b, c⟩ := setCells_plain g vs (o + 1) (w.setCell ⟨g, o, none⟩ v)
  exact ⟨a.trans (by rfl), b.trans (by rfl), c.trans (by rfl)⟩
theorem Turned.setCells {S : Nat → Prop} (w : World) (g o : Nat) (vs : List Value) (hg : S g) : Turned S w (w.setCells g o vs) := by
 obtain ⟨a, b, c⟩ := setCells_plain g vs o w
 exact ⟨a, b, c, by rw [setCells_size]; exact Nat.le_refl _, fun k _ hn => setCells_other g vs o w k (fun e => hn (by rw [e]; exact hg))⟩
theorem RC.there {w : World} {r : Nat} {vs : List Value} (h : RC w r vs) {n : Nat} (hn : n = vs.length) : w.there r 0 n := fun j hj => by
 obtain ⟨h1, h2⟩ := h j _ (List.getElem?_eq_getElem (by omega))
 rw [Nat.zero_add]
 exact ⟨by rw [h1]; rfl, h2⟩
theorem RC.fill {w : World} {r : Nat} {vs : List Value} (h : RC w r vs) (us : List Value) (hl : us.length = vs.length) : RC (w.setCells r 0 us) r us := fun i v hv => by
 have hi : i < us.length := (List.getElem?_eq_some_iff.1 hv).1
 have h1 := World.cell?_setCells_in r us 0 w (fun j hj => by rw [Nat.zero_add, (h j _ (List.getElem?_eq_getElem (by omega))).1]; rfl) i hi
 rw [Nat.zero_add] at h1
 refine ⟨?_, ?_⟩
 ·rw [h1, ← hv, List.getElem?_eq_getElem hi]
 ·rw [World.frozen?_setCells]
  exact (h i _ (List.getElem?_eq_getElem (by omega))).2
theorem lst_shift {α : Type} (C X : List α) (i : Nat) (t : α) (hx : C.take X.length = X) (hi : i ≤ X.length) (hl : X.length + 1 ≤ C.length) {C1 : List α} (h1 : C1 = C.take (i + 1) ++ X.drop i ++ C.drop (i + 1 + (X.drop i).length)) :
  (C1.take i ++ [t] ++ C1.drop (i + 1)).take (X.length + 1) = X.take i ++ t :: X.drop i := by
 have ht : (C.take (i + 1)).length = i + 1 := by rw [List.length_take]; omega
 have e1 : C1.take i = X.take i := by
  rw [h1, List.append_assoc, List.take_append_of_le_length (by omega), List.take_take, Nat.min_eq_left (by omega), ← hx, List.take_take, Nat.min_eq_left hi]
 have e2 : C1.drop (i + 1) = X.drop i ++ C.drop (i + 1 + (X.drop i).length) := by
  rw [h1, List.append_assoc, List.drop_append_of_le_length (by omega), List.drop_eq_nil_of_le (by omega), List.nil_append]
 rw [e1, e2]
 have e3 : X.take i ++ [t] ++ (X.drop i ++ C.drop (i + 1 + (X.drop i).length)) = (X.take i ++ t :: X.drop i) ++ C.drop (i + 1 + (X.drop i).length) := by simp
 rw [e3]
 refine List.take_left' ?_
 simp only [List.length_append, List.length_cons, List.length_take, List.length_drop]
 omega
end Go.Proofs.YtlpkpfpmcppciaaGreatDoor
end

section
namespace Go.Proofs.YtlpkpfpmcppciaaGreatDoor
set_option linter.unusedSimpArgs false
set_option linter.unusedVariables false
open Go.RowKit
open Go.Sort (SWO)
theorem idCmp_neg {a b : Int × Int} : idCmp a b < 0 ↔ a.1 < b.1 ∨ (a.1 = b.1 ∧ a.2 < b.2) := by
 unfold idCmp
 by_cases h : a.1 < b.1 ∨ (a.1 = b.1 ∧ a.2 < b.2)
 ·rw [if_pos h]; exact ⟨fun _ => h, fun _ => by omega⟩
 ·rw [if_neg h]
  refine ⟨fun h' => ?_, fun h' => absurd h' h⟩
  split at h' <;> omega
theorem wlt_swo : SWO wlt where
 irrefl x := by
  unfold wlt
  exact decide_eq_false (fun h => by have := idCmp_neg.1 h; simp only at this; omega)
 trans x y z h1 h2 := by
  unfold wlt at *
  have a := idCmp_neg.1 (of_decide_eq_true h1)
  have b := idCmp_neg.1 (of_decide_eq_true h2)
  refine decide_eq_true (idCmp_neg.2 ?_)
  simp only at *
  omega
 ntrans x y z h1 h2 := by
  unfold wlt at *
  have a := mt idCmp_neg.2 (of_decide_eq_false h1)
  have b := mt idCmp_neg.2 (of_decide_eq_false h2)
  refine decide_eq_false (fun h => ?_)
  have c := idCmp_neg.1 h
  simp only at *
  omega
theorem flat_set {α : Type} (f : α → List Value) (k : Nat) (hk : ∀ x, (f x).length = k) : ∀ (D : List α) (i : Nat) (y : α), i < D.length → (D.set i y).flatMap f = (D.flatMap f).take (i * k) ++ f y ++ (D.flatMap f).drop (i * k + k)
 | [], i, y, h => by simp at h
 | x :: D, 0, y, _ => by
  simp only [List.set_cons_zero, List.flatMap_cons, Nat.zero_mul, List.take_zero, List.nil_append, Nat.zero_add]
  rw [List.drop_append_of_le_length (by rw [hk]; exact Nat.le_refl _), List.drop_eq_nil_of_le (by rw [hk]; exact Nat.le_refl _), List.nil_append]
 | x :: D, i + 1, y, h => by
  simp only [List.set_cons_succ, List.flatMap_cons]
  rw [flat_set f k hk D i y (by simpa using h)]
  have e : (i + 1) * k = (f x).length + i * k := by rw [hk, Nat.add_mul, Nat.one_mul, Nat.add_comm]
  rw [e, List.take_length_add_append, Nat.add_assoc, List.drop_length_add_append]
  simp
theorem own_setElem {α : Type} (f : α → List Value) {k : Nat} (hk : ∀ x, (f x).length = k) {W : World} {B g n cap : Nat} {e : TypeId} {D : List α} (h : W.ownsRow B e k (.slice (some ⟨g, 0, none⟩) n cap) n (D.flatMap f)) (hD : D.length = n) {i : Nat} (hi : i < D.length) (y : α) :
  (W.setCells g (i * k) (f y)).ownsRow B e k (.slice (some ⟨g, 0, none⟩) n cap) n ((D.set i y).flatMap f) := by
 rcases h.2 with ⟨e', _⟩ | ⟨g', cap', cur, e', hb, hg, hn, hm, hs, ht⟩
 ·injection e' with e1; cases e1
 ·injection e' with e1 e2 e3
  injection e1 with e1
  injection e1 with e1
  subst e1 e3
  have hik : i * k + k ≤ n * k := by
   have := Nat.mul_le_mul_right k (show i + 1 ≤ n by omega)
   rwa [Nat.add_mul, Nat.one_mul] at this
  have hnc : n * k ≤ cap * k := Nat.mul_le_mul_right k hn
  obtain ⟨cur', k1, k2, k3⟩ := heap_setCells (f y) (i * k) W cur hg (by rw [hk, hs]; omega)
  refine ⟨by rw [flat_len f k hk, List.length_set, hD], .inr ⟨g, cap, cur', rfl, hb, k1, hn, hm, by rw [k2, hs], ?_⟩⟩
  rw [k3, flat_set f k hk D i y hi, ← ht, hk]
  have hl : (cur.toList.take (i * k)).length = i * k := by rw [List.length_take, Array.length_toList]; omega
  rw [List.take_take, Nat.min_eq_left (by omega), List.append_assoc, List.append_assoc]
  rw [List.take_append, hl, List.take_take, Nat.min_eq_right (by omega)]
  congr 1
  rw [List.take_append, hk, List.take_of_length_le (by rw [hk]; omega)]
  congr 1
  rw [List.drop_take]
  congr 1
  omega
noncomputable def wrIe : TypeInfo := (Tryz.prog.info? 32).get (by kernel_rfl)
noncomputable def wrsIe : TypeInfo := (Tryz.prog.info? 22).get (by kernel_rfl)
theorem wrK (n : Nat) (h2 : 2 ≤ n) : Lib.swapperK n wrIe 25 = 9 := by
 have a : wrIe.hasPointers = true := by kernel_rfl
 have b : wrIe.bytes = 64 := by kernel_rfl
 have c : (n == 0) = false := by simp; omega
 have d : (n == 1) = false := by simp; omega
 simp [Lib.swapperK, a, b, c, d]
structure StW (B g n cap gv : Nat) (W : World) (D : List Wr) : Prop where
 own : W.ownsRow B 32 6 (.slice (some ⟨g, 0, none⟩) n cap) n (D.flatMap wrCells)
 len : D.length = n
 var : W.cell? ⟨gv, 0, none⟩ = some (.slice (some ⟨g, 0, none⟩) n cap)
theorem StW.turned {B g n cap gv : Nat} {W W' : World} {D : List Wr} (h : StW B g n cap gv W D) (hb : Below W.heap.size W W') : StW B g n cap gv W' D :=
 ⟨(Turned.of_below (S := fun _ => False) hb).own h.own (fun _ _ q => q), h.len, (hb.cell (cell_lt h.var)).trans h.var⟩
set_option maxRecDepth 100000 in
theorem srtW {B g n cap gv : Nat} (hgv : gv ≠ g) (hn : n ≤ 1000000) : Srt 68 #[.pointer (some ⟨gv, 0, none⟩)] 118 #[.slice (some ⟨g, 0, none⟩) n cap, typeHandle Tryz.prog 32] g wlt (StW B g n cap gv) where
 eg := enters_of Tryz.func68 (by kernel_rfl) rfl
 less := fun W D i j x y h hx hy => (sless_any h.own h.len h.var hx hy).mono fun e w' ⟨he, hb⟩ => ⟨he, h.turned hb, .of_below hb⟩
 swap := fun W D i j x y h hx hy => by
  have hi := (List.getElem?_eq_some_iff.1 hx).1
  have hj := (List.getElem?_eq_some_iff.1 hy).1
  have ex : D[i] = x := by rw [List.getElem?_eq_getElem hi] at hx; injection hx
  have ey : D[j] = y := by rw [List.getElem?_eq_getElem hj] at hy; injection hy
  have ho := h.own
  have hlen := h.len
  have hs := swapSwapsK_of_literal (P := Tryz.prog) (α := Wr) false 118 (fun args W => run_callFunc_extern Tryz.func118 (by kernel_rfl) (by kernel_rfl) (by kernel_rfl) (e := Extern.ReflectliteSwapper.swap false) (by kernel_rfl) args W)
   32 wrIe (by kernel_rfl) wrCells 6 (fun _ => rfl) (by kernel_rfl) (fun _ => by kernel_rfl) (fun x v hv => by simp only [wrCells, List.mem_cons, List.not_mem_nil, or_false] at hv; rcases hv with rfl | rfl | rfl | rfl | rfl | rfl <;> rfl) g 0 n cap
   W D.toArray (holdsK_own (enc := wrCells) (k := 6) (L := D) (fun _ => rfl) (by rw [hlen]; exact ho)) (by simpa using hlen) i j (by omega) (by omega)
  have e1 : D.toArray[i]! = x := by simp [hi, ex]
  have e2 : D.toArray[j]! = y := by simp [hj, ey]
  rw [e1, e2, Nat.zero_add, Nat.zero_add] at hs
  have o1 := own_setElem wrCells (fun _ => rfl) ho hlen hi y
  have o2 := own_setElem wrCells (fun _ => rfl) o1 (by rw [List.length_set]; exact hlen) (i := j) (by rw [List.length_set]; exact hj) x
  have T1 : Turned (fun k => k = g) W (W.setCells g (i * 6) (wrCells y)) := .setCells W g _ _ rfl
  have T2 := T1.trans (.setCells _ g (j * 6) (wrCells x) rfl)
  exact ⟨_, hs, ⟨o2, by rw [List.length_set, List.length_set]; exact hlen, T2.cell h.var hgv⟩, T2⟩
 alloc := fun W D o h => h.turned ((Below.refl _ _).alloc (Nat.le_refl _) o)
 here := fun W D h => (h.own.lt g rfl).2
 size := fun W D h => by rw [h.len]; exact hn
set_option maxRecDepth 100000 in
theorem slstab_any {w : World} {B g n cap gv : Nat} {D : List Wr} (h : StW B g n cap gv w D) (hgv : gv ≠ g) (h2 : 2 ≤ n) (hn : n ≤ 1000000) :
  Calls Tryz.prog 67 #[.iface 22 (.slice (some ⟨g, 0, none⟩) n cap), .func (.func 68) #[] #[.pointer (some ⟨gv, 0, none⟩)]] w fun e w' => e = .returned (.tuple #[]) ∧ ∃ M : List Wr, M.Perm D ∧ Srd wlt M ∧ StW B g n cap gv w' M ∧ Turned (fun k => k = g) w w' := by
 refine Any.sort_SliceStable_of_stable (P := Tryz.prog) Tryz.laysGt8 22 32 wrsIe wrIe (by kernel_rfl) (by kernel_rfl) (by kernel_rfl) (by kernel_rfl) 25 (fun _ => by kernel_rfl) (some ⟨g, 0, none⟩) n cap (by omega) 118 (by rw [wrK n h2]; kernel_rfl) (.func 68) #[] #[.pointer (some ⟨gv, 0, none⟩)] w _ ?_
 have hB : sliceBound Tryz.prog 32 wrIe 25 (some ⟨g, 0, none⟩) n cap = #[.slice (some ⟨g, 0, none⟩) n cap, typeHandle Tryz.prog 32] := by
  unfold sliceBound; rw [if_neg (swapperK_gt _ _ _ h2)]
 rw [hB]
 unfold stableWorld
 have H := srtW (B := B) (cap := cap) hgv hn
 have b1 : Below w.heap.size w ((w.alloc (.cells #[.slice (some ⟨g, 0, none⟩) n cap] 22)).alloc (.cells #[.pointer (some ⟨Tryz.prog.globals.size, 22, none⟩), .pointer (some ⟨w.heap.size, 0, none⟩), .int .u64 151] (Tryz.laysGt8_ren.t 36))) := by
  have a1 : Below w.heap.size w (w.alloc (.cells #[.slice (some ⟨g, 0, none⟩) n cap] 22)) := (Below.refl _ _).alloc (Nat.le_refl _) _
  exact a1.alloc a1.size _
 refine (stab_any H wlt_swo (h.turned b1) h.len).mono ?_
 rintro e w' ⟨rfl, M, hM, hs, hS, hT⟩
 exact ⟨rfl, M, hM, hs, hS, (Turned.of_below b1).trans hT⟩
end Go.Proofs.YtlpkpfpmcppciaaGreatDoor
end

section
namespace Go.Proofs.YtlpkpfpmcppciaaGreatDoor
open Go.ChangeShapes Go.WideShapes Go.ChangeAt Go.RowKit
open Go.ChangeMaps (open_string)
section
variable {H : Type} {enc : TypeId × Value → H} {P : Program} {w : World} {base : Nat} {spare : Nat → Bool} {held : Bool}

/-- A slice whose elements' cells are k each: every element's cells are those of an x of mine. -/
theorem open_cells {α : Type} (f : α → List Value) (k : Nat) (hk0 : 0 < k) (hf : ∀ x, (f x).length = k) (ok : α → Prop) {t e fuel : Nat} {cs : List Value} {y : DataW H × List MemPlace}
  (ht : P.underlying t = some (.slice e)) (hk : P.cellsOf e = k)
  (helem : ∀ (cs : List Value) (m : Nat) (y : DataW H × List MemPlace), DataW.trod enc P w base spare held m e cs = some y → ∃ x, cs = f x ∧ ok x)
  (hfu : DataW.trod enc P w base spare held fuel t cs = some y) :
  ∃ (A : Option Addr) (n c : Nat) (l : List α), cs = [.slice A n c] ∧ n ≤ maxLen ∧ l.length = n ∧ Sl w w.heap.size k A n (l.flatMap f) ∧ ∀ x ∈ l, ok x := by
 rcases Go.Deep.open_slice ht hfu with ⟨hcs, _⟩ | ⟨a, n, c, m, n', D, Pl, hcs, _, hl, hm, hmm, _, hi⟩
 ·exact ⟨none, 0, 0, [], hcs, Nat.zero_le _, rfl, Sl.nil, fun x hx => by simp at hx⟩
 ·have hlm : n ≤ m := by rw [hmm]; split <;> omega
  obtain ⟨l, hll, hP⟩ := exists_list n (fun i x => (∀ j, j < k → w.cell? (a.add (i * k + j)) = (f x)[j]?) ∧ ok x) (fun i him => by
   obtain ⟨cs', hc, ht'⟩ := hi i (by omega)
   obtain ⟨x, rfl, hx⟩ := helem cs' n' _ ht'
   obtain ⟨_, hcl, hat⟩ := World.cells?_some hc
   rw [hk] at hat
   exact ⟨x, fun j hj => by rw [← Go.Deep.add_add]; exact hat j hj, hx⟩)
  refine ⟨some a, n, c, l, hcs, Nat.le_trans hl hm, hll, ⟨by rw [flat_len f k hf, hll], fun hn => ?_⟩, fun x hx => ?_⟩
  ·have h0 := (hP 0 _ (List.getElem?_eq_getElem (by omega : 0 < l.length))).1 0 hk0
   rw [List.getElem?_eq_getElem (by rw [hf]; exact hk0)] at h0
   have hspot := World.cell?_spot h0
   obtain ⟨b, o, sp⟩ := a
   have hsp : sp = none := by simpa [Addr.add] using hspot
   subst hsp
   have hadd : ∀ j, (⟨b, o, none⟩ : Addr).add j = ⟨b, o + j, none⟩ := fun j => by unfold Addr.add; split <;> simp_all
   refine ⟨b, o, rfl, ?_, fun j u hu => ?_⟩
   ·have := cell_lt h0
    rw [hadd] at this
    exact this
   ·obtain ⟨i, j', x, rfl, hj', hx, hu'⟩ := flat_at f k hf l j u hu
    have := (hP i x hx).1 j' hj'
    rw [hadd] at this
    rw [this, hu']
  ·obtain ⟨i, hi', rfl⟩ := List.mem_iff_getElem.1 hx
   exact (hP i _ (List.getElem?_eq_getElem hi')).2
theorem open_elems {α : Type} (f : α → List Value) (k : Nat) (hk0 : 0 < k) (hf : ∀ x, (f x).length = k) (ok : α → Prop) {r : Reach} {b0 : Nat} {t e : TypeId} {v : Value} {d : DataW H} {p : List MemPlace}
  (ht : P.underlying t = some (.slice e)) (hk : P.cellsOf e = k)
  (helem : ∀ (cs : List Value) (m : Nat) (y : DataW H × List MemPlace), DataW.trod enc P w base spare held m e cs = some y → ∃ x, cs = f x ∧ ok x)
  (hv : Value.okWide P w r b0 t v) (h : DataW.Trod enc P w base spare held t v d p) :
  ∃ (A : Option Addr) (n c : Nat) (l : List α), v = .slice A n c ∧ n ≤ maxLen ∧ l.length = n ∧ Sl w w.heap.size k A n (l.flatMap f) ∧ ∀ x ∈ l, ok x := by
 obtain ⟨A, n, c, rfl⟩ := okWide_slice ht hv
 obtain ⟨fuel, hfu⟩ := h
 obtain ⟨A', n', c', l, hcs, r⟩ := open_cells f k hk0 hf ok ht hk helem hfu
 simp [Value.cells] at hcs
 obtain ⟨rfl, rfl, rfl⟩ := hcs
 exact ⟨A, n, c, l, rfl, r⟩

/-- A struct's field of one cell. -/
theorem field1 {fs : Array Field} {cs : List Value} {xs : List (DataW H × List MemPlace)} {m : Nat} (hlen : xs.length = fs.size)
  (hg : ∀ (i : Nat) (f : Field), fs[i]? = some f → DataW.trod enc P w base spare held m f.type ((cs.drop f.offset).take (P.cellsOf f.type)) = xs[i]?) (i : Nat) (f : Field) (hf : fs[i]? = some f) :
  ∃ y, DataW.trod enc P w base spare held m f.type ((cs.drop f.offset).take (P.cellsOf f.type)) = some y := by
 have hi : i < xs.length := by rw [hlen]; exact (Array.getElem?_eq_some_iff.1 hf).1
 exact ⟨xs[i], by rw [hg i f hf, List.getElem?_eq_getElem hi]⟩
theorem take1 {cs : List Value} {o : Nat} {v : Value} (h : (cs.drop o).take 1 = [v]) : cs[o]? = some v := by
 have e : ((cs.drop o).take 1)[0]? = some v := by rw [h]; rfl
 rw [List.getElem?_take_of_lt (by omega), List.getElem?_drop] at e
 simpa using e
/-- What a struct's reading says of all its fields. -/
def Fielded (P : Program) (w : World) (base : Nat) (spare : Nat → Bool) (held : Bool) (enc : TypeId × Value → H) (fs : Array Field) (cs : List Value) : Prop :=
 ∃ m, ∀ (i : Nat) (f : Field), fs[i]? = some f → ∃ y, DataW.trod enc P w base spare held m f.type ((cs.drop f.offset).take (P.cellsOf f.type)) = some y
theorem fielded {t : TypeId} {fs : Array Field} {m : Nat} {cs : List Value} {x : DataW H × List MemPlace} (ht : P.underlying t = some (.struct fs)) (h : DataW.trod enc P w base spare held m t cs = some x) :
  cs.length = P.cellsOf t ∧ Fielded P w base spare held enc fs cs := by
 obtain ⟨xs, n, _, _, hcl, hlen, hg⟩ := DataW.trod_struct ht h
 exact ⟨hcl, n, fun i f hf => field1 hlen hg i f hf⟩
theorem field_sub {fs : Array Field} {cs : List Value} (h : Fielded P w base spare held enc fs cs) (i o T k : Nat) {f : Field} (hf : fs[i]? = some f) (hT : f.type = T) (ho : f.offset = o) (hc : P.cellsOf T = k) :
  ∃ m y, DataW.trod enc P w base spare held m T ((cs.drop o).take k) = some y := by
 obtain ⟨m, hg⟩ := h
 obtain ⟨y, hy⟩ := hg i f hf
 subst hT ho hc
 exact ⟨m, y, hy⟩
theorem field_int {fs : Array Field} {cs : List Value} (h : Fielded P w base spare held enc fs cs) (i o T : Nat) {f : Field} {k : IntKind} (hf : fs[i]? = some f) (hT : f.type = T) (ho : f.offset = o) (hu : P.underlying T = some (.int k)) (hc : P.cellsOf T = 1) :
  ∃ n, cs[o]? = some (.int k n) ∧ (Lit.int k n).wf = true := by
 obtain ⟨m, y, hy⟩ := field_sub h i o T 1 hf hT ho hc
 obtain ⟨n, e, _, wn⟩ := DataW.trod_int hu hy
 exact ⟨n, take1 e, wn⟩
theorem field_string {fs : Array Field} {cs : List Value} (h : Fielded P w base spare held enc fs cs) (i o T : Nat) {f : Field} (hf : fs[i]? = some f) (hT : f.type = T) (ho : f.offset = o) (hu : P.underlying T = some .string) (hc : P.cellsOf T = 1) :
  ∃ s : ByteArray, cs[o]? = some (.string s) ∧ s.size ≤ maxLen := by
 obtain ⟨m, y, hy⟩ := field_sub h i o T 1 hf hT ho hc
 obtain ⟨n, e, _, wn⟩ := DataW.trod_string hu hy
 exact ⟨n, take1 e, wn⟩
end
end Go.Proofs.YtlpkpfpmcppciaaGreatDoor
end

section
namespace Go.Proofs.YtlpkpfpmcppciaaGreatDoor
set_option maxRecDepth 100000
open Go.ChangeShapes Go.WideShapes Go.ChangeAt Go.RowKit
section
variable {H : Type} {enc : TypeId × Value → H} {w : World} {base : Nat} {spare : Nat → Bool} {held : Bool}
theorem cellsEnt : Tryz.prog.cellsOf 73 = 2 := by kernel_rfl
theorem cellsInt : Tryz.prog.cellsOf 3 = 1 := by kernel_rfl
theorem open_ent (cs : List Value) (m : Nat) (y : DataW H × List MemPlace) (h : DataW.trod enc Tryz.prog w base spare held m 73 cs = some y) : ∃ x : Ent, cs = entCells x ∧ entFits x := by
 obtain ⟨hcl, hg⟩ := fielded Tryz.underlying73 h
 rw [cellsEnt] at hcl
 obtain ⟨r, g0, w0⟩ := field_int hg 0 0 3 rfl rfl rfl Tryz.underlying3 cellsInt
 obtain ⟨t, g1, w1⟩ := field_int hg 1 1 3 rfl rfl rfl Tryz.underlying3 cellsInt
 refine ⟨(r, t), ?_, bounds_i64 w0, bounds_i64 w1⟩
 match cs, hcl with
 | [a, b], _ =>
  simp at g0 g1
  subst g0 g1
  rfl
end
end Go.Proofs.YtlpkpfpmcppciaaGreatDoor
end

section
namespace Go.Proofs.YtlpkpfpmcppciaaGreatDoor
open Go.RowKit
/-- A batch in an argument: three slices. -/
structure BatArg where
 A : Option Addr
 n : Nat
 c : Nat
 A' : Option Addr
 n' : Nat
 c' : Nat
 A'' : Option Addr
 n'' : Nat
 c'' : Nat
 f : List Ent
 h : List Ent
 l : List Wr
def BatArg.v (b : BatArg) : Value := .agg #[.slice b.A b.n b.c, .slice b.A' b.n' b.c', .slice b.A'' b.n'' b.c'']
structure Bat (w : World) (b : BatArg) : Prop where
 f : Sl w w.heap.size 2 b.A b.n (b.f.flatMap entCells)
 h : Sl w w.heap.size 2 b.A' b.n' (b.h.flatMap entCells)
 l : Sl w w.heap.size 6 b.A'' b.n'' (b.l.flatMap wrCells)
 nf : b.n ≤ maxLen
 nh : b.n' ≤ maxLen
 nl : b.n'' ≤ maxLen
theorem Bat.grow {w w' : World} {b : BatArg} (h : Bat w b) (hb : Below w.heap.size w w') : Bat w' b := ⟨h.f.grow hb, h.h.grow hb, h.l.grow hb, h.nf, h.nh, h.nl⟩
end Go.Proofs.YtlpkpfpmcppciaaGreatDoor
end

section
namespace Go.Proofs.YtlpkpfpmcppciaaGreatDoor
set_option maxRecDepth 100000
open Go.ChangeShapes Go.WideShapes Go.ChangeAt Go.RowKit
section
variable {H : Type} {enc : TypeId × Value → H} {w : World} {base : Nat} {spare : Nat → Bool} {held : Bool}
theorem cellsWr : Tryz.prog.cellsOf 32 = 6 := by kernel_rfl
theorem cellsIdT : Tryz.prog.cellsOf 30 = 2 := by kernel_rfl
theorem cellsStrT : Tryz.prog.cellsOf 9 = 1 := by kernel_rfl
theorem cellsEntsT : Tryz.prog.cellsOf 24 = 1 := by kernel_rfl
theorem cellsWrsT : Tryz.prog.cellsOf 22 = 1 := by kernel_rfl
def i64Fits (n : Int) : Prop := -9223372036854775808 ≤ n ∧ n ≤ 9223372036854775807
def wrFits (x : Wr) : Prop := i64Fits x.1 ∧ i64Fits x.2.1 ∧ i64Fits x.2.2.1 ∧ x.2.2.2.1.size ≤ maxLen ∧ x.2.2.2.2.1.size ≤ maxLen ∧ i64Fits x.2.2.2.2.2
theorem six {cs : List Value} (h : cs.length = 6) {a b c d e f : Value} (h0 : cs[0]? = some a) (h1 : cs[1]? = some b) (h2 : cs[2]? = some c) (h3 : cs[3]? = some d) (h4 : cs[4]? = some e) (h5 : cs[5]? = some f) : cs = [a, b, c, d, e, f] := by
 match cs, h with
 | [_, _, _, _, _, _], _ =>
  simp at h0 h1 h2 h3 h4 h5
  subst h0 h1 h2 h3 h4 h5
  rfl
theorem open_wr (cs : List Value) (m : Nat) (y : DataW H × List MemPlace) (h : DataW.trod enc Tryz.prog w base spare held m 32 cs = some y) : ∃ x : Wr, cs = wrCells x ∧ wrFits x := by
 obtain ⟨hcl, hg⟩ := fielded Tryz.underlying32 h
 rw [cellsWr] at hcl
 obtain ⟨m', y', hid⟩ := field_sub hg 0 0 30 2 rfl rfl rfl cellsIdT
 obtain ⟨_, hgi⟩ := fielded Tryz.underlying30 hid
 obtain ⟨a, g0, w0⟩ := field_int hgi 0 0 3 rfl rfl rfl Tryz.underlying3 cellsInt
 obtain ⟨b, g1, w1⟩ := field_int hgi 1 1 3 rfl rfl rfl Tryz.underlying3 cellsInt
 obtain ⟨c, g2, w2⟩ := field_int hg 1 2 3 rfl rfl rfl Tryz.underlying3 cellsInt
 obtain ⟨d, g3, w3⟩ := field_string hg 2 3 9 rfl rfl rfl Tryz.underlying9 cellsStrT
 obtain ⟨e, g4, w4⟩ := field_string hg 3 4 9 rfl rfl rfl Tryz.underlying9 cellsStrT
 obtain ⟨f, g5, w5⟩ := field_int hg 4 5 3 rfl rfl rfl Tryz.underlying3 cellsInt
 rw [List.getElem?_take_of_lt (by omega), List.drop_zero] at g0 g1
 exact ⟨(a, b, c, d, e, f), six hcl g0 g1 g2 g3 g4 g5, bounds_i64 w0, bounds_i64 w1, bounds_i64 w2, w3, w4, bounds_i64 w5⟩
/-- What a batch among the arguments holds fits. -/
structure BatFits (b : BatArg) : Prop where
 f : ∀ x ∈ b.f, entFits x
 h : ∀ x ∈ b.h, entFits x
 l : ∀ x ∈ b.l, wrFits x
end
end Go.Proofs.YtlpkpfpmcppciaaGreatDoor
end

section
namespace Go.Proofs.YtlpkpfpmcppciaaGreatDoor
set_option linter.unusedSimpArgs false
set_option linter.unusedVariables false
open Go.RowKit
theorem grow_below (w : World) (os : Array Obj) : Below w.heap.size w (Go.Sort.grow w os) := ⟨rfl, rfl, rfl, by simp [Go.Sort.grow], fun i hi => Go.Sort.heap_grow_old _ _ hi⟩
theorem srd_small {l : List Wr} (h : l.length ≤ 1) : Srd wlt l := by
 match l, h with
 | [], _ => exact List.Pairwise.nil
 | [x], _ => exact srd_one x
set_option maxRecDepth 100000 in
theorem slst_any {w : World} {B gv : Nat} {v : Value} {D : List Wr} (ho : w.ownsRow B 32 6 v D.length (D.flatMap wrCells)) (cv : w.cell? ⟨gv, 0, none⟩ = some v) (hgv : v.ownBlock ≠ some gv) (hn : D.length ≤ 1000000) :
  Calls Tryz.prog 67 #[.iface 22 v, .func (.func 68) #[] #[.pointer (some ⟨gv, 0, none⟩)]] w fun e w' => e = .returned (.tuple #[]) ∧ ∃ M : List Wr, M.Perm D ∧ Srd wlt M ∧ w'.ownsRow B 32 6 v D.length (M.flatMap wrCells) ∧ w'.cell? ⟨gv, 0, none⟩ = some v ∧ Turned (fun k => v.ownBlock = some k) w w' := by
 have tiny : ∀ (p : Option Addr) (c : Nat), v = .slice p D.length c → D.length ≤ 1 → Calls Tryz.prog 67 #[.iface 22 v, .func (.func 68) #[] #[.pointer (some ⟨gv, 0, none⟩)]] w fun e w' => e = .returned (.tuple #[]) ∧ ∃ M : List Wr, M.Perm D ∧ Srd wlt M ∧ w'.ownsRow B 32 6 v D.length (M.flatMap wrCells) ∧ w'.cell? ⟨gv, 0, none⟩ = some v ∧ Turned (fun k => v.ownBlock = some k) w w' := by
  rintro p c rfl h1
  have ht : Calls Tryz.prog 67 #[.iface 22 (.slice p D.length c), .func (.func 68) #[] #[.pointer (some ⟨gv, 0, none⟩)]] w fun e w' => e = .returned (.tuple #[]) ∧ ∃ os, w' = Go.Sort.grow w os := by
   rcases Nat.lt_or_ge D.length 1 with h0 | h0
   ·have h0' : D.length = 0 := by omega
    rw [h0']
    exact Any.sort_SliceStable_tiny (P := Tryz.prog) Tryz.laysGt8 22 32 wrsIe wrIe (by kernel_rfl) (by kernel_rfl) (by kernel_rfl) (by kernel_rfl) 25 (fun _ => by kernel_rfl) p 0 c (by omega) 110 (by kernel_rfl) (.func 68) #[] #[.pointer (some ⟨gv, 0, none⟩)] w
   ·have h0' : D.length = 1 := by omega
    rw [h0']
    exact Any.sort_SliceStable_tiny (P := Tryz.prog) Tryz.laysGt8 22 32 wrsIe wrIe (by kernel_rfl) (by kernel_rfl) (by kernel_rfl) (by kernel_rfl) 25 (fun _ => by kernel_rfl) p 1 c (by omega) 111 (by kernel_rfl) (.func 68) #[] #[.pointer (some ⟨gv, 0, none⟩)] w
  refine ht.mono ?_
  rintro e w' ⟨rfl, os, rfl⟩
  have hb := grow_below w os
  exact ⟨rfl, D, .refl _, srd_small h1, (Turned.of_below (S := fun _ => False) hb).own ho (fun _ _ q => q), (hb.cell (cell_lt cv)).trans cv, .of_below hb⟩
 rcases ho.2 with ⟨e, h0⟩ | ⟨g, cap, cur, e, hb, hg, _⟩
 ·exact tiny none 0 (by rw [h0]; exact e) (by omega)
 ·rcases Nat.lt_or_ge D.length 2 with h1 | h1
  ·exact tiny (some ⟨g, 0, none⟩) cap e (by omega)
  ·subst e
   have hne : gv ≠ g := fun e => hgv (by rw [e]; rfl)
   refine (slstab_any (w := w) (B := B) (D := D) ⟨ho, rfl, cv⟩ hne h1 hn).mono ?_
   rintro e w' ⟨rfl, M, hM, hs, hS, hT⟩
   exact ⟨rfl, M, hM, hs, hS.own, hS.var, hT.mono (fun k hk => by rw [hk]; rfl)⟩
theorem wrsInfo : (Tryz.prog.info? 32).map (fun i => (i.zero, i.size, i.bytes)) = some (some (.agg #[.int .i64 0, .int .i64 0, .int .i64 0, .string ⟨#[]⟩, .string ⟨#[]⟩, .int .i64 0]), 6, 64) := by kernel_rfl
theorem wrCells_one {l : List Wr} : ∀ u ∈ l.flatMap wrCells, u.oneCell' = true := by
 intro u hu
 obtain ⟨x, _, hx⟩ := List.mem_flatMap.1 hu
 simp only [wrCells, List.mem_cons, List.not_mem_nil, or_false] at hx
 rcases hx with rfl | rfl | rfl | rfl | rfl | rfl <;> rfl
/-- append of one row of writes behind another one of one's own. -/
theorem app_wrs {w : World} {H n : Nat} {v : Value} {xs : List Value} (ho : w.ownsRow H 32 6 v n xs) {B : Nat} {u : Value} {l : List Wr} (hu : w.ownsRow B 32 6 u l.length (l.flatMap wrCells)) (hb : (n + l.length) * 64 ≤ 140737488355328) (hH : H ≤ w.heap.size) (ty : TypeId) :
  ∃ v' w', (Builtin.append_ #[22, 22] ty #[v, u]).run Tryz.prog w = .ok v' w' ∧ w'.ownsRow H 32 6 v' (n + l.length) (xs ++ l.flatMap wrCells) ∧ w.grownBy w' v.ownBlock := by
 obtain ⟨i0, hi, hz0, hz1, hz2⟩ := info_parts wrsInfo
 rcases hu.2 with ⟨rfl, h0⟩ | ⟨g, cap, cur, rfl, _, hg, _⟩
 ·have hl : l = [] := List.eq_nil_of_length_eq_zero h0
  subst hl
  refine ⟨v, w, run_append_owned_none (P := Tryz.prog) w H 22 ty 32 i0 6 Tryz.underlying22 hi v n xs ho, by simpa using ho, .refl _ _⟩
 ·obtain ⟨v', w', h1', h2, h3, _⟩ := run_append_own (P := Tryz.prog) w H 22 ty 32 i0 (.agg #[.int .i64 0, .int .i64 0, .int .i64 0, .string ⟨#[]⟩, .string ⟨#[]⟩, .int .i64 0]) 6 64 Tryz.underlying22 hi hz0 hz1 hz2 rfl (by decide) v n xs ho ⟨g, 0, none⟩ l.length cap (l.flatMap wrCells) (flat_len wrCells 6 (fun _ => rfl) l)
   (fun j x hj => by
    have hjl : j < l.length * 6 := by have := (List.getElem?_eq_some_iff.1 hj).1; rwa [flat_len wrCells 6 (fun _ => rfl)] at this
    have e : (⟨g, 0, none⟩ : Addr).add j = ⟨g, j, none⟩ := by unfold Addr.add; split <;> simp_all
    rw [e, hu.cellAt j hjl]
    exact hj) wrCells_one (by unfold maxLen; omega) hb hH
  exact ⟨v', w', h1', h2, h3⟩
set_option maxHeartbeats 2000000 in
set_option maxRecDepth 100000 in
theorem rwrites_any {w : World} {r B : Nat} {rep hv lv : Value} {l : List Wr} (rc : RC w r [rep, hv, lv]) (hl : w.ownsRow B 32 6 lv l.length (l.flatMap wrCells)) (hn : l.length ≤ 1000) :
  Calls Tryz.prog 27 #[.pointer (some ⟨r, 0, none⟩)] w fun e w' => ∃ (v : Value) (M : List Wr), e = .returned v ∧ M.Perm l ∧ Srd wlt M ∧ w'.ownsRow w.heap.size 32 6 v M.length (M.flatMap wrCells) ∧ Below w.heap.size w w' := by
 have c2 := (rc 2 _ rfl).1
 obtain ⟨v1, w1, hrun, ho1, hg1⟩ := app_wrs (World.ownsRow_nil w w.heap.size 32 6) hl (by omega) (Nat.le_refl _) 22
 rw [Nat.zero_add, List.nil_append] at ho1
 have hb1 : Below w.heap.size w w1 := ⟨hg1.os, hg1.tape, hg1.output, hg1.size, fun i hi => hg1.block i hi (by intro e; cases e)⟩
 obtain ⟨A1, c1, rfl⟩ := own_form ho1
 obtain ⟨AL, cL, rfl⟩ := own_form hl
 have HN := Lib.hid hn
 have hs1 := hb1.size
 have bV : Below w1.heap.size w1 (w1.alloc (.cells #[.slice A1 l.length c1] 22)) := (Below.refl _ _).alloc (Nat.le_refl _) _
 have hoV := ho1.alloc (.cells #[.slice A1 l.length c1] 22)
 have cV : (w1.alloc (.cells #[.slice A1 l.length c1] 22)).cell? ⟨w1.heap.size, 0, none⟩ = some (.slice A1 l.length c1) := by rw [World.cell?_alloc_new]; rfl
 have hgv : (Value.slice A1 l.length c1).ownBlock ≠ some w1.heap.size := fun e => by have := (ho1.lt _ e).2; omega
 have hbV := hb1.trans (bV.mono hb1.size)
 have hsl := slst_any hoV cV hgv (by omega)
 have HB := Lib.hid (And.intro hbV hoV)
 clear rc hl hn ho1 hg1 hb1 bV hoV hgv hbV
 go_enter Tryz.func27, Tryz.ntmps27
 go_upto_region 2 with (at_builtin; refine Lib.wpList_append_run _ rfl _ _ _ _ rfl _ _ rfl rfl _ _ hrun ?_)
 clear hrun
 generalize w1.alloc (.cells #[.slice A1 l.length c1] 22) = W1 at *
 generalize w1.heap.size = gv at *
 go_upto_region 3 with (first
  | (go_at_call 67; refine hsl.mono ?_; rintro e w2 ⟨rfl, M, hM, hS, hO, hC, hT⟩))
 go_wp2
 go_ret
 have hO' : w2.ownsRow w.heap.size 32 6 (.slice A1 l.length c1) M.length (M.flatMap wrCells) := by rw [hM.length_eq]; exact hO
 refine ⟨_, M, rfl, hM, hS, hO', HB.out.1.trans (hT.below ?_ HB.out.1.size)⟩
 intro i hi
 exact (HB.out.2.lt _ hi).1
end Go.Proofs.YtlpkpfpmcppciaaGreatDoor
end
