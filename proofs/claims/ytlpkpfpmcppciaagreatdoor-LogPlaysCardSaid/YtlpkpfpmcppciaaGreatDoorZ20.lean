/- The law's own function sameCells, at one list of cells.

The Go function Table of the reference computes what the plain function tab says.

What the reference's Cells uses: parts of a list of texts, appended; sort.Strings. -/
import Derived.Test.YtlpkpfpmcppciaaGreatDoorZ13
import Derived.Test.YtlpkpfpmcppciaaGreatDoorZ9b
import Derived.Test.YtlpkpfpmcppciaaGreatDoorZ11b
import Derived.Test.YtlpkpfpmcppciaaGreatDoorShelfStore
import Derived.WalkKit
import Derived.Sort.OwnSorted
section
namespace Go.Proofs.YtlpkpfpmcppciaaGreatDoor
set_option linter.unusedSimpArgs false
set_option linter.unusedVariables false
open Go.RowKit As Go.Maps
theorem LstOk.cells {w : World} {B : Nat} {x : CelX} (h : LstOk w B x) {g n cap : Nat} (e : x.lv = .slice (some ⟨g, 0, none⟩) n cap) : ∀ j, j < x.2.1.list.length → w.cell? ⟨g, 0 + j, none⟩ = some (.string (x.2.1.list.getD j ByteArray.empty)) := by
 intro j hj
 have ho := h.1
 have hn := h.slice
 rw [e] at hn
 injection hn with _ hn
 subst hn
 rw [e] at ho
 rw [Nat.zero_add, ho.cellAt j (by omega)]
 unfold strsV
 rw [List.getElem?_map, List.getElem?_eq_getElem hj, List.getD_eq_getElem?_getD, List.getElem?_eq_getElem hj]
 rfl
set_option maxRecDepth 100000 in
theorem sleq_any {W : World} {B B' : Nat} {x y : CelX} (hx : LstOk W B x) (hy : LstOk W B' y) (he : x.2.1.list = y.2.1.list) :
  Calls Tryz.prog 39 #[x.lv, y.lv] W fun e w' => e = .returned (.bool true) ∧ ∃ q, w' = W.drewN q := by
 by_cases h0 : x.2.1.list = []
 ·rw [hx.2 h0, hy.2 (he ▸ h0)]
  refine (Tryz.slices_Equal_string_empty none none 0 0 0 W (by omega)).mono ?_
  rintro e w' ⟨rfl, rfl⟩
  exact ⟨rfl, 0, rfl⟩
 ·have hlen : x.2.1.list.length ≠ 0 := fun e => h0 (List.eq_nil_of_length_eq_zero e)
  rcases hx.1.2 with ⟨_, e⟩ | ⟨g, cap, cur, e, _, _, hnc, hcm, _⟩
  ·exact absurd e hlen
  rcases hy.1.2 with ⟨_, e'⟩ | ⟨g', cap', cur', e', _, _, hnc', hcm', _⟩
  ·exact absurd (he ▸ e') hlen
  have c1 := hx.cells e
  have c2 := hy.cells e'
  rw [e, e', ← he]
  rw [← he] at c2 hnc'
  have hb : x.2.1.list.length ≤ 9223372036854775807 := by unfold maxLen at hcm; omega
  refine (Tryz.slices_Equal_string g 0 x.2.1.list.length cap g' 0 x.2.1.list.length cap' x.2.1.list x.2.1.list W (Nat.le_refl _) (Nat.le_refl _) hb hb c1 c2).mono ?_
  rintro r w' ⟨rfl, q, rfl⟩
  exact ⟨by simp, q, rfl⟩
set_option maxHeartbeats 2000000 in
set_option maxRecDepth 100000 in
theorem sclo_any {W : World} {B B' : Nat} {x y : CelX} (hx : LstOk W B x) (hy : LstOk W B' y) (he : cutX x = cutX y) :
  Calls Tryz.prog 38 #[.agg (celV x).toArray, .agg (celV y).toArray] W fun e w' => e = .returned (.bool true) ∧ Below W.heap.size W w' := by
 obtain ⟨kx, ⟨hs, tx, sm, ls⟩, lx⟩ := x
 obtain ⟨ky, ⟨hs', tx', sm', ls'⟩, ly⟩ := y
 simp only [cutX, Prod.mk.injEq, Cel.mk.injEq] at he
 obtain ⟨rfl, rfl, rfl, rfl, rfl⟩ := he
 have b1 := bel1 W (.cells (celV (kx, ⟨hs, tx, sm, ls⟩, lx)).toArray 90)
 have b2 := bel1 (W.alloc (.cells (celV (kx, ⟨hs, tx, sm, ls⟩, lx)).toArray 90)) (.cells (celV (kx, ⟨hs, tx, sm, ls⟩, ly)).toArray 90)
 have b12 := b1.trans (b2.mono b1.size)
 have r1 := (RC.new W (celV (kx, ⟨hs, tx, sm, ls⟩, lx)) 90).below b2
 have r2 := RC.new (W.alloc (.cells (celV (kx, ⟨hs, tx, sm, ls⟩, lx)).toArray 90)) (celV (kx, ⟨hs, tx, sm, ls⟩, ly)) 90
 rw [show (W.alloc (.cells (celV (kx, ⟨hs, tx, sm, ls⟩, lx)).toArray 90)).heap.size = W.heap.size + 1 by simp] at r2
 have heq := sleq_any (hx.below b12) (hy.below b12) rfl
 unfold CelX.lv at heq
 simp only at heq
 unfold celV CelX.lv at b1 b2 b12 r1 r2 heq ⊢
 simp only at b1 b2 b12 r1 r2 heq ⊢
 have x0 := (r1 0 _ rfl).1
 have x1 := (r1 1 _ rfl).1
 have x2 := (r1 2 _ rfl).1
 have x3 := (r1 3 _ rfl).1
 have x4 := (r1 4 _ rfl).1
 have y0 := (r2 0 _ rfl).1
 have y1 := (r2 1 _ rfl).1
 have y2 := (r2 2 _ rfl).1
 have y3 := (r2 3 _ rfl).1
 have y4 := (r2 4 _ rfl).1
 have d1 : (hs == hs) = true := by simp
 have d3 : (sm == sm) = true := by simp
 clear b1 b2 r1 r2 hx hy
 go_enter Tryz.func38, Tryz.ntmps38
 go_upto_region 1 with fail
 generalize (W.alloc (.cells #[.string kx, .bool hs, .string tx, .int .i64 sm, .slice lx.1 lx.2.1 lx.2.2] 90)).alloc (.cells #[.string kx, .bool hs, .string tx, .int .i64 sm, .slice ly.1 ly.2.1 ly.2.2] 90) = W2 at *
 go_wp2_with (go_at_call 39; refine heq.mono ?_; rintro e w' ⟨rfl, q, rfl⟩)
 go_ret
 exact ⟨rfl, below_drewN b12 q⟩
theorem w_suc63 {k n : Nat} (h : k < n) (hn : n ≤ maxLen) : IntKind.i64.wrap ((k : Int) + 1) = ((k + 1 : Nat) : Int) ∧ wrap64 ((k : Int) + 1) = ((k + 1 : Nat) : Int) := by
 rw [show (k : Int) + 1 = ((k + 1 : Nat) : Int) by omega]
 unfold maxLen at hn
 exact ⟨IntWalk.i64_in _ (by omega), IntWalk.wrap64_in _ (by omega)⟩
theorem own_cap {w : World} {B : Nat} {e : TypeId} {size n : Nat} {v : Value} {xs : List Value} (h : w.ownsRow B e size v n xs) : n ≤ maxLen := by
 rcases h.2 with ⟨_, h0⟩ | ⟨g, cap, cur, _, _, _, h1, h2, _⟩
 ·rw [h0]; exact Nat.zero_le _
 ·exact Nat.le_trans h1 h2
set_option maxHeartbeats 2000000 in
set_option maxRecDepth 100000 in
theorem seqf_any {w : World} {B B' : Nat} {v v' : Value} {L L' : List CelX} (ho : w.ownsRow B 90 5 v L.length (L.flatMap celV)) (ho' : w.ownsRow B' 90 5 v' L'.length (L'.flatMap celV)) (hL : ∀ x ∈ L, LstOk w B x) (hL' : ∀ x ∈ L', LstOk w B' x) (he : L.map cutX = L'.map cutX) :
  Calls Tryz.prog 37 #[v, v', .func (.func 38) #[] #[]] w fun e w' => e = .returned (.bool true) ∧ Below w.heap.size w w' := by
 have hlen : L'.length = L.length := by have := congrArg List.length he; simpa using this.symm
 have HM := Lib.hid (own_cap ho)
 obtain ⟨A, c, rfl⟩ := own_form ho
 obtain ⟨A', c', rfl⟩ := own_form ho'
 have hS := Sl.of_own ho
 have hS' := Sl.of_own ho'
 rw [hlen] at hS' ⊢
 have HL := Lib.hid (And.intro hL (And.intro hL' he))
 have HLE := Lib.hid hlen
 clear ho ho' hL hL' he hlen
 go_enter Tryz.func37, Tryz.ntmps37
 go_wp2
 go_loopw [7, 8, 9, 17] (fun _ _ _ i wr => ∃ k : Nat, k ≤ L.length ∧ i = .int .i64 k ∧ Below w.heap.size w wr) (fun _ _ _ i _ => L.length - (intOf i).toNat)
 case atStart => exact ⟨0, by omega, rfl, Below.refl _ _⟩
 case round =>
  obtain ⟨k, hk, rfl, hb⟩ := hrel
  by_cases hlt : k < L.length
  ·obtain ⟨b, o, x, rfl, hbl, hx, hc⟩ := slk_at celV 5 (fun _ => rfl) hS rfl hlt
   obtain ⟨b', o', y, rfl, hbl', hy, hc'⟩ := slk_at celV 5 (fun _ => rfl) hS' HLE.out hlt
   have hcut : cutX x = cutX y := by
    have := congrArg (fun l => l[k]?) HL.out.2.2
    simp only [List.getElem?_map, hx, hy, Option.map_some, Option.some.injEq] at this
    exact this
   have hlx := HL.out.1 x (List.mem_of_getElem? hx)
   have hly := HL.out.2.1 y (List.mem_of_getElem? hy)
   have c0 := (hb.cell (p := ⟨b, _, none⟩) hbl).trans (hc 0 _ rfl)
   have c1 := (hb.cell (p := ⟨b, _, none⟩) hbl).trans (hc 1 _ rfl)
   have c2 := (hb.cell (p := ⟨b, _, none⟩) hbl).trans (hc 2 _ rfl)
   have c3 := (hb.cell (p := ⟨b, _, none⟩) hbl).trans (hc 3 _ rfl)
   have c4 := (hb.cell (p := ⟨b, _, none⟩) hbl).trans (hc 4 _ rfl)
   have hb2 : Below w.heap.size w (wr.alloc (.cells (celV x).toArray 90)) := hb.alloc hb.size _
   have e0 := (hb2.cell (p := ⟨b', _, none⟩) hbl').trans (hc' 0 _ rfl)
   have e1 := (hb2.cell (p := ⟨b', _, none⟩) hbl').trans (hc' 1 _ rfl)
   have e2 := (hb2.cell (p := ⟨b', _, none⟩) hbl').trans (hc' 2 _ rfl)
   have e3 := (hb2.cell (p := ⟨b', _, none⟩) hbl').trans (hc' 3 _ rfl)
   have e4 := (hb2.cell (p := ⟨b', _, none⟩) hbl').trans (hc' 4 _ rfl)
   have hb3 : Below w.heap.size w ((wr.alloc (.cells (celV x).toArray 90)).alloc (.cells (celV y).toArray 90)) := hb2.alloc hb2.size _
   have hcl := sclo_any (hlx.below hb3) (hly.below hb3) hcut
   simp only [Nat.add_zero] at c0 e0
   obtain ⟨hw63, hw64⟩ := w_suc63 hlt HM.out
   have HB := Lib.hid hb3
   have HK : Hid (k + 1 ≤ L.length) := Lib.hid hlt
   have HMS : Hid (L.length - (k + 1) < L.length - k) := Lib.hid (by omega)
   clear hx hy hc hc' hb hb2 hb3 hlx hly hcut hbl hbl'
   unfold celV CelX.lv at hcl e0 e1 e2 e3 e4
   simp only [CelX.lv] at c4
   go_wp2_with (first
    | (go_at_call 38; refine hcl.mono ?_; rintro r w4 ⟨rfl, hb4⟩; have hb5 := HB.out.trans (hb4.mono HB.out.size)))
   go_roundw
   case rel => exact ⟨k + 1, HK.out, by go_num, hb5⟩
   case measure => exact HMS.out
  ·obtain rfl : k = L.length := by omega
   go_wp2
   go_ret
   exact ⟨rfl, hb⟩
end Go.Proofs.YtlpkpfpmcppciaaGreatDoor
end

section
namespace Go.Proofs.YtlpkpfpmcppciaaGreatDoor.Keys
open Go.RowKit Go.Maps
def lastTo (T : List ByteArray) (s : ByteArray) (j : Nat) : Int := if s ∈ T.take j then (T.idxOf s : Int) else -1
theorem lastTo_0 (T : List ByteArray) (s : ByteArray) : lastTo T s 0 = -1 := by simp [lastTo]
theorem lastTo_hit {T : List ByteArray} {s : ByteArray} {j : Nat} (hT : T.Nodup) (h : T[j]? = some s) : lastTo T s (j + 1) = j := by
 have hj : j < T.length := (List.getElem?_eq_some_iff.1 h).1
 have hs : T[j] = s := (List.getElem?_eq_some_iff.1 h).2
 have hm : s ∈ T.take (j + 1) := by rw [List.take_succ_eq_append_getElem hj, hs]; simp
 unfold lastTo
 rw [if_pos hm, ← hs]
 have := hT.idxOf_getElem j hj
 rw [this]
theorem lastTo_miss {T : List ByteArray} {s x : ByteArray} {j : Nat} (h : T[j]? = some x) (hx : ¬ x = s) : lastTo T s (j + 1) = lastTo T s j := by
 have hj : j < T.length := (List.getElem?_eq_some_iff.1 h).1
 have hs : T[j] = x := (List.getElem?_eq_some_iff.1 h).2
 unfold lastTo
 have e : (s ∈ T.take (j + 1)) ↔ (s ∈ T.take j) := by
  rw [List.take_succ_eq_append_getElem hj, hs]
  simp
  rintro rfl
  exact absurd rfl hx
 simp only [e]
theorem lastTo_in {T : List ByteArray} {s : ByteArray} (h : s ∈ T) : lastTo T s T.length = T.idxOf s := by unfold lastTo; rw [List.take_length, if_pos h]
theorem lastTo_out {T : List ByteArray} {s : ByteArray} (h : ¬ s ∈ T) : lastTo T s T.length = -1 := by unfold lastTo; rw [List.take_length, if_neg h]
structure RefRel (S I : TypeId) (B : Nat) (t : Tab) (v2 v3 : Value) (w : World) : Prop where
 tab : w.ownsRow B S 1 v2 t.1.length (strV t.1)
 at_ : w.ownsRow B I 1 v3 t.2.length (intV t.2)
theorem rrel_in {S I : TypeId} {B : Nat} {t : Tab} {s : ByteArray} {u2 u3 v' : Value} {wr w1 : World} {o : Obj} (hne : I ≠ S)
  (hT : wr.ownsRow B S 1 u2 t.1.length (strV t.1)) (hA : wr.ownsRow B I 1 u3 t.2.length (intV t.2)) (hm : s ∈ t.1)
  (hA1 : w1.ownsRow B I 1 v' (t.2.length + 1) (intV t.2 ++ [.int .i64 (List.idxOf s t.1 : Int)])) (hg : (wr.alloc o).grownBy w1 u3.ownBlock) :
  RefRel S I B (step t s) u2 v' w1 := by
 rw [step_in hm]
 refine ⟨(hT.alloc o).kept hg (own_ne hT hA (Ne.symm hne)), ?_⟩
 simpa [intV] using hA1
theorem rrel_out {S I : TypeId} {B : Nat} {t : Tab} {s : ByteArray} {u2 u3 v2 v3 : Value} {w1 w2 w3 : World} {o o' : Obj} (hne : I ≠ S)
  (hT1 : w1.ownsRow B S 1 u2 t.1.length (strV t.1)) (hA1 : w1.ownsRow B I 1 u3 t.2.length (intV t.2)) (hm : ¬ s ∈ t.1)
  (hT2 : w2.ownsRow B S 1 v2 (t.1.length + 1) (strV t.1 ++ [.string s])) (hg2 : (w1.alloc o).grownBy w2 u2.ownBlock)
  (hA3 : w3.ownsRow B I 1 v3 (t.2.length + 1) (intV t.2 ++ [.int .i64 (t.1.length : Int)])) (hg3 : (w2.alloc o').grownBy w3 u3.ownBlock) :
  RefRel S I B (step t s) v2 v3 w3 := by
 have hA2 : w2.ownsRow B I 1 u3 t.2.length (intV t.2) := (hA1.alloc o).kept hg2 (own_ne hA1 hT1 hne)
 rw [step_out hm]
 refine ⟨?_, ?_⟩
 ·have := (hT2.alloc o').kept hg3 (own_ne hT2 hA2 (Ne.symm hne))
  simpa [strV] using this
 ·simpa [intV] using hA3
theorem map_flat {α : Type} (f : α → Value) (l : List α) : (l.flatMap fun x => [f x]) = l.map f := by induction l <;> simp_all
set_option maxRecDepth 100000 in
theorem rtable_any (n c : Nat) (A : Option Addr) (l : List ByteArray) (w : World) (h : Strs w A n l) (hn : n ≤ 4000000000000) :
  Calls Tryz.prog 44 #[.slice A n c] w fun e w' => ∃ v2 v3, e = .returned (.tuple #[v2, v3]) ∧ w'.ownsRow w.heap.size 9 1 v2 (tab l).1.length (strV (tab l).1) ∧ w'.ownsRow w.heap.size 3 1 v3 (tab l).2.length (intV (tab l).2) ∧ Below w.heap.size w w' := by
 obtain ⟨i0, hi, hz0, hz1, hz2⟩ := info_parts strInfo
 obtain ⟨j0, hj, hy0, hy1, hy2⟩ := info_parts intInfo
 have hl := Lib.hid (sl1_len Value.string h)
 go_enter Tryz.func44, Tryz.ntmps44
 go_wp2
 go_loopw [4, 5, 7, 8, 9, 12] (fun v2 v3 _ _ _ i wr => ∃ k : Nat, k ≤ n ∧ i = .int .i64 k ∧ RefRel 9 3 w.heap.size (tab (l.take k)) v2 v3 wr ∧ Below w.heap.size w wr) (fun _ _ _ _ _ i _ => n - (intOf i).toNat)
 case atStart => exact ⟨0, by omega, rfl, ⟨World.ownsRow_nil _ _ _ _, World.ownsRow_nil _ _ _ _⟩, Below.refl _ _⟩
 case round =>
  obtain ⟨k, hk, rfl, hR, hbel⟩ := hrel
  obtain ⟨hT, hA⟩ := hR
  by_cases hlt : k < n
  ·obtain ⟨b, o, s, rfl, hb, hx, hc⟩ := sl1_at Value.string h hl.out hlt
   have hc' := (hbel.cell (p := ⟨b, o + k, none⟩) hb).trans hc
   clear hc
   have hkn : (k : Int) < (n : Int) := by omega
   have htk := Lib.hid (tab_take l k s hx)
   have hlen := Lib.hid (tab_len (l.take k))
   have b1 : (tab (l.take k)).1.length ≤ 4000000000000 := by have := hlen.out.1; simp at this; omega
   have b2 : (tab (l.take k)).2.length ≤ 4000000000000 := by have := hlen.out.2.1; simp at this; omega
   have hB := hbel.size
   generalize htt : tab (l.take k) = t at *
   have Htt := Lib.hid htt
   clear htt
   have hX := Lib.hid hx
   clear hx
   obtain ⟨A2, c2, rfl⟩ := own_form hT
   go_upto_block 2 with fail
   go_cut [8] (fun v wx => v = .int .i64 (lastTo t.1 s t.1.length) ∧ wr = wx)
   case first =>
    go_wp2_with fail
    go_loop [8, 9, 18] (fun v _ i => ∃ j : Nat, j ≤ t.1.length ∧ i = .int .i64 j ∧ v = .int .i64 (lastTo t.1 s j)) (fun _ _ i => t.1.length - (intOf i).toNat)
    case atStart => exact ⟨0, by omega, rfl, valI (lastTo_0 _ _).symm⟩
    case round =>
     obtain ⟨j, hj', rfl, rfl⟩ := hrel
     by_cases hlt2 : j < t.1.length
     ·have hSl := Sl.of_own hT
      rw [show strV t.1 = (t.1.flatMap fun x => [Value.string x]) from (map_flat _ _).symm] at hSl
      obtain ⟨b', o', x, rfl, hb', hx, hcx⟩ := sl1_at Value.string hSl rfl hlt2
      clear hSl
      by_cases hxs : x = s
      ·subst hxs
       have hh := Lib.hid (lastTo_hit hlen.out.2.2.1 hx)
       clear hx
       go_wp2_with fail
       go_round
       case rel => exact ⟨j + 1, by omega, by go_num, valI hh.out.symm⟩
       case measure => simp [intOf]; omega
      ·have hh := Lib.hid (lastTo_miss hx hxs)
       clear hx
       have hne := toList_ne hxs
       have hne' : (x.toList == s.toList) = false := by simpa using hne
       go_wp2_with fail
       go_round
       case rel => exact ⟨j + 1, by omega, by go_num, valI hh.out.symm⟩
       case measure => simp [intOf]; omega
     ·obtain rfl : j = t.1.length := by omega
      go_wp2_with fail
      go_meet
      exact ⟨rfl, rfl⟩
   case rest =>
    obtain ⟨rfl, rfl⟩ := hcut
    by_cases hm : s ∈ t.1
    ·have hlast := lastTo_in hm
     have hst := Lib.hid (step_in hm)
     rw [hlast]
     clear hlast
     go_wp2_with (first
      | (at_builtin; refine wpList_append_own _ rfl (.tmp 37) (.tmp 39) 103 rfl w.heap.size 3 j0 (.int .i64 0) 1 8 Tryz.underlying103 hj hy0 hy1 hy2 rfl (by decide) u5 t.2.length (intV t.2) rfl (hA.alloc _) ⟨wr.heap.size, 0, none⟩ 1 1 [.int .i64 (List.idxOf s t.1 : Int)] rfl rfl (cell_one_new _ _ _) (ints_oneCell .i64 [(List.idxOf s t.1 : Int)]) (by unfold maxLen; omega) (by omega) (by simp; omega) ?_; intro v' w1 hA1 hg1 _))
     go_roundw
     case rel => exact ⟨k + 1, by omega, by go_num, by rw [htk.out]; exact rrel_in (by decide) hT hA hm hA1 hg1, grown_own (hbel.alloc hB _) hg1 (by simp; omega) (hA.alloc _)⟩
     case measure => simp [intOf]; omega
    ·have hlast := lastTo_out hm
     rw [hlast]
     clear hlast
     go_wp2_with (first
      | (at_builtin; refine wpList_append_own _ rfl (.tmp 33) (.tmp 35) 88 rfl w.heap.size 9 i0 (.string ⟨#[]⟩) 1 16 Tryz.underlying88 hi hz0 hz1 hz2 rfl (by decide) _ t.1.length (strV t.1) rfl (hT.alloc _) ⟨wr.heap.size, 0, none⟩ 1 1 [.string s] rfl rfl (cell_one_new _ _ _) (by intro u hu; simp at hu; subst hu; rfl) (by unfold maxLen; omega) (by omega) (by simp; omega) ?_; intro v2' w2 hT2 hg2 _; have hA2 := (hA.alloc _).kept hg2 (own_ne hA hT (by decide)); have hb2 := grown_own (hbel.alloc hB _) hg2 (by simp; omega) (hT.alloc _))
      | (at_builtin; refine wpList_append_own _ rfl (.tmp 37) (.tmp 39) 103 rfl w.heap.size 3 j0 (.int .i64 0) 1 8 Tryz.underlying103 hj hy0 hy1 hy2 rfl (by decide) u5 t.2.length (intV t.2) rfl (hA2.alloc _) ⟨w2.heap.size, 0, none⟩ 1 1 [.int .i64 (t.1.length : Int)] rfl rfl (cell_one_new _ _ _) (ints_oneCell .i64 [(t.1.length : Int)]) (by unfold maxLen; omega) (by omega) (by have := hb2.size; simp; omega) ?_; intro v3' w3 hA3 hg3 _; have hb3 := grown_own (hb2.alloc hb2.size _) hg3 (by have := hb2.size; simp; omega) (hA2.alloc _)))
     go_roundw
     case rel => exact ⟨k + 1, by omega, by go_num, by rw [htk.out]; exact rrel_out (by decide) hT hA hm hT2 hg2 hA3 hg3, hb3⟩
     case measure => simp [intOf]; omega
  ·obtain rfl : k = n := by omega
   have htl : l.take k = l := List.take_of_length_le (by rw [hl.out]; exact Nat.le_refl _)
   rw [htl] at hT hA
   go_wp2_with fail
   go_ret2
   exact ⟨_, _, rfl, hT, hA, hbel⟩
end Go.Proofs.YtlpkpfpmcppciaaGreatDoor.Keys
end

section
namespace Go.Proofs.YtlpkpfpmcppciaaGreatDoor
set_option linter.unusedSimpArgs false
set_option linter.unusedVariables false
open Go.RowKit
theorem strsInfo : (Tryz.prog.info? 9).map (fun i => (i.zero, i.size, i.bytes)) = some (some (.string ⟨#[]⟩), 1, 16) := by kernel_rfl
theorem run_head (A : Option Addr) (n c i : Nat) (hi : i ≤ c) (w : World) : (Instr.slice 88 (.slice A n c) none (some (.int .i64 (i : Int))) none).run Tryz.prog w = .ok (.slice (if c = 0 then A else A.map (·.add (0 * 1))) i c) w := by
 rw [run_slice_h w _ A n c (by kernel_rfl) .i64 i (by omega) (by omega), show (sizeOf (Tryz.prog.elem 88)).run Tryz.prog w = .ok 1 w by kernel_rfl]
 simp [sliced]
theorem run_rest (A : Option Addr) (n c i : Nat) (hi : i ≤ n) (w : World) : (Instr.slice 88 (.slice A n c) (some (.int .i64 (i : Int))) none none).run Tryz.prog w = .ok (.slice (if c = i then A else A.map (·.add (i * 1))) (n - i) (c - i)) w := by
 rw [run_slice_l w _ A n c (by kernel_rfl) .i64 i (by omega) (by omega), show (sizeOf (Tryz.prog.elem 88)).run Tryz.prog w = .ok 1 w by kernel_rfl]
 simp [sliced]
theorem run_headA (A : Option Addr) (n c i : Nat) (hi : i ≤ c) (w : World) : (Instr.sliceAt 88 (.slice A n c) none (some (.int .i64 (i : Int))) none).run Tryz.prog w = .ok (.slice (if c = 0 then A else A.map (·.add (0 * 1))) i c) w := by
 rw [run_sliceAt_slice w _ _ _ _ _ (by kernel_rfl)]
 exact run_head A n c i hi w
theorem run_restA (A : Option Addr) (n c i : Nat) (hi : i ≤ n) (w : World) : (Instr.sliceAt 88 (.slice A n c) (some (.int .i64 (i : Int))) none none).run Tryz.prog w = .ok (.slice (if c = i then A else A.map (·.add (i * 1))) (n - i) (c - i)) w := by
 rw [run_sliceAt_slice w _ _ _ _ _ (by kernel_rfl)]
 exact run_rest A n c i hi w
theorem min_cast (z n : Nat) : min (z : Int) (n : Int) = ((min z n : Nat) : Int) := by omega
theorem ls_big {a b n : Nat} (h : a ≤ b) (h2 : b + 1 ≤ n) (h3 : n ≤ 2200000000000) : (a + 1) * 16 ≤ 140737488355328 := by omega
/-- A slice that reads as texts. -/
def Rd (w : World) (A : Option Addr) (m c : Nat) (ys : List Value) : Prop := ys.length = m ∧ (A = none → m = 0 ∧ c = 0) ∧ ∀ a, A = some a → ∀ j u, ys[j]? = some u → w.cell? (a.add j) = some u
theorem add_at (g o j : Nat) : (⟨g, o, none⟩ : Addr).add j = ⟨g, o + j, none⟩ := by unfold Addr.add; split <;> simp_all
section
variable {w : World} {B : Nat} {A : Option Addr} {n c : Nat} {l : List ByteArray}
theorem own_le (ho : w.ownsRow B 9 1 (.slice A n c) l.length (strsV l)) : n = l.length ∧ l.length ≤ c := by
 rcases ho.2 with ⟨e, h0⟩ | ⟨g, cap, cur, e, _, _, hn, _⟩
 ·injection e with _ e2 e3
  omega
 ·injection e with _ e2 e3
  omega
theorem rd_head (ho : w.ownsRow B 9 1 (.slice A n c) l.length (strsV l)) (i : Nat) (hi : i ≤ l.length) : Rd w (if c = 0 then A else A.map (·.add (0 * 1))) i c ((strsV l).take i) := by
 rcases ho.2 with ⟨e, h0⟩ | ⟨g, cap, cur, e, _, hg, hn, _⟩
 ·injection e with e1 e2 e3
  subst e1 e2 e3
  have : i = 0 := by omega
  subst this
  exact ⟨rfl, fun _ => ⟨rfl, rfl⟩, fun a ha => by simp at ha⟩
 ·injection e with e1 e2 e3
  subst e1 e2 e3
  refine ⟨by rw [List.length_take]; unfold strsV; rw [List.length_map]; omega, fun h => ?_, fun a ha j u hu => ?_⟩
  ·split at h <;> simp at h
  ·have ea : a = ⟨g, 0, none⟩ := by
    split at ha
    ·injection ha with ha; exact ha.symm
    ·simp [Addr.add] at ha; exact ha.symm
   subst ea
   have hj : j < i := by
    have := (List.getElem?_eq_some_iff.1 hu).1
    rw [List.length_take] at this
    omega
   rw [List.getElem?_take_of_lt hj] at hu
   rw [add_at, Nat.zero_add, ho.cellAt j (by omega)]
   exact hu
theorem rd_rest (ho : w.ownsRow B 9 1 (.slice A n c) l.length (strsV l)) (i : Nat) (hi : i ≤ l.length) : Rd w (if c = i then A else A.map (·.add (i * 1))) (l.length - i) (c - i) ((strsV l).drop i) := by
 rcases ho.2 with ⟨e, h0⟩ | ⟨g, cap, cur, e, _, hg, hn, _⟩
 ·injection e with e1 e2 e3
  subst e1 e2 e3
  have : i = 0 := by omega
  subst this
  rw [h0]
  refine ⟨by rw [List.length_drop]; unfold strsV; rw [List.length_map, h0], fun _ => ⟨rfl, rfl⟩, fun a ha => by simp at ha⟩
 ·injection e with e1 e2 e3
  subst e1 e2 e3
  refine ⟨by rw [List.length_drop]; unfold strsV; rw [List.length_map], fun h => ?_, fun a ha j u hu => ?_⟩
  ·split at h <;> simp at h
  ·have hj : j < l.length - i := by
    have := (List.getElem?_eq_some_iff.1 hu).1
    rw [List.length_drop] at this
    unfold strsV at this
    rw [List.length_map] at this
    exact this
   have ea : a = ⟨g, i, none⟩ := by
    rw [if_neg (by omega)] at ha
    simp only [Option.map_some, Option.some.injEq] at ha
    rw [add_at] at ha
    simpa using ha.symm
   subst ea
   rw [List.getElem?_drop] at hu
   rw [add_at, ho.cellAt (i + j) (by omega)]
   exact hu
theorem Rd.turned {F : Nat → Prop} {w' : World} {m : Nat} {ys : List Value} (h : Rd w A m c ys) (ht : Turned F w w') (hn : ∀ a, A = some a → ¬ F a.block) : Rd w' A m c ys :=
 ⟨h.1, h.2.1, fun a ha j u hu => ht.cell (h.2.2 a ha j u hu) (by
  have : (a.add j).block = a.block := by unfold Addr.add; split <;> rfl
  rw [this]; exact hn a ha)⟩
end
theorem rd_one {w : World} {g : Nat} {v : ByteArray} (h : w.cell? ⟨g, 0, none⟩ = some (.string v)) : Rd w (some ⟨g, 0, none⟩) 1 1 [.string v] := by
 refine ⟨rfl, (fun e => by cases e), fun a ha j u hu => ?_⟩
 injection ha with ha
 subst ha
 cases j with
 | zero =>
  simp at hu
  subst hu
  rw [add_at]
  exact h
 | succ j => simp at hu
theorem app_strs {w : World} {H n : Nat} {v : Value} {xs : List Value} (ho : w.ownsRow H 9 1 v n xs) {A : Option Addr} {m c : Nat} {ys : List Value} (hr : Rd w A m c ys) (h1 : ∀ u ∈ ys, u.oneCell' = true) (hb : (n + m) * 16 ≤ 140737488355328) (hH : H ≤ w.heap.size) (ty : TypeId) :
  ∃ v' w', (Builtin.append_ #[88, 88] ty #[v, .slice A m c]).run Tryz.prog w = .ok v' w' ∧ w'.ownsRow H 9 1 v' (n + m) (xs ++ ys) ∧ w.grownBy w' v.ownBlock := by
 obtain ⟨i0, hi, hz0, hz1, hz2⟩ := info_parts strsInfo
 cases A with
 | none =>
  obtain ⟨rfl, rfl⟩ := hr.2.1 rfl
  have hys : ys = [] := List.eq_nil_of_length_eq_zero hr.1
  subst hys
  refine ⟨v, w, run_append_owned_none (P := Tryz.prog) w H 88 ty 9 i0 1 Tryz.underlying88 hi v n xs ho, by simpa using ho, .refl _ _⟩
 | some a =>
  obtain ⟨v', w', h1', h2, h3, _⟩ := run_append_own (P := Tryz.prog) w H 88 ty 9 i0 (.string ⟨#[]⟩) 1 16 Tryz.underlying88 hi hz0 hz1 hz2 rfl (by decide) v n xs ho a m c ys (by rw [hr.1, Nat.mul_one]) (hr.2.2 a rfl) h1 (by unfold maxLen; omega) hb hH
  exact ⟨v', w', h1', h2, h3⟩
set_option maxRecDepth 100000 in
theorem sstr_any {w : World} {B : Nat} {v : Value} {T : List ByteArray} (ho : w.ownsRow B 9 1 v T.length (strsV T)) (hl : T.length < 4611686018427387904) :
  Calls Tryz.prog 45 #[v] w fun e w' => e = .returned (.tuple #[]) ∧ w'.ownsRow B 9 1 v T.length (strsV (sortK T)) ∧ Turned (fun i => v.ownBlock = some i) w w' := by
 rcases ho.2 with ⟨rfl, h0⟩ | ⟨g, cap, cur, rfl, hb, hg, hn, hm, hs, ht⟩
 ·have hT : T = [] := List.eq_nil_of_length_eq_zero h0
  subst hT
  refine (Tryz.sort_Strings_none none 0 w).mono ?_
  rintro e w' ⟨rfl, rfl⟩
  exact ⟨rfl, by rw [show sortK [] = [] by simp [sortK]]; exact ho, .refl _ _⟩
 ·have hgl : g < w.heap.size := (Array.getElem?_eq_some_iff.1 hg).1
  have hmap : (T.map fun s => s.data.toList).map encStr = strsV T := by
   unfold strsV
   rw [List.map_map]
   refine List.map_congr_left fun s _ => ?_
   show encStr s.data.toList = Value.string s
   cases s
   simp [encStr]
  have hlen : (T.map fun s => s.data.toList).length = T.length := List.length_map ..
  have hH := holds_of_block (ss := T.map fun s => s.data.toList) hg (by rw [hlen, hmap]; rw [Nat.mul_one] at ht; exact ht)
  have h := Tryz.sort_Strings g 0 cap (T.map fun s => s.data.toList) w hH hgl (by rw [hlen]; exact hl)
  rw [hlen] at h
  refine h.mono ?_
  rintro e w' ⟨rfl, q, os, rfl⟩
  refine ⟨rfl, ?_, ?_⟩
  ·have hsl : ((T.map fun s => s.data.toList).mergeSort fun x y => decide (x ≤ y)).length = (T.map fun s => s.data.toList).length := (List.mergeSort_perm _ _).length_eq
   have := ownsRow_sorted (w := w) (base := B) (g := g) (cap := cap) (n := q) (os := os) hsl hb hg (by rw [hlen]; exact hn) hm hs
   rw [hlen] at this
   have e : ((T.map fun s => s.data.toList).mergeSort fun x y => decide (x ≤ y)).map encStr = strsV (sortK T) := by
    unfold strsV sortK
    rw [List.map_map]
    rfl
   rw [e] at this
   exact this
  ·exact (Turned.of_grown (grownBy_sorted _) rfl)
theorem step_len (c : Cel) (x : Wr) : (c.step x).list.length ≤ c.list.length + 1 := by
 unfold Cel.step
 repeat' split
 all_goals first | (simp only [insAt, List.length_append, List.length_cons, List.length_take, List.length_drop]; omega) | (simp [Cel.zero]) | omega
theorem cellOf_len (k : ByteArray) (l : List Wr) : (cellOf k l).list.length ≤ l.length := by
 suffices h : ∀ r : List Wr, (cellOf k r.reverse).list.length ≤ r.reverse.length by
  have := h l.reverse
  simpa using this
 intro r
 induction r with
 | nil => exact Nat.le_refl _
 | cons x r ih =>
  rw [List.reverse_cons, cellOf_snoc]
  have := step_len (cellOf k r.reverse) x
  simp only [List.length_append, List.length_cons, List.length_nil]
  split <;> omega
theorem tab_all (l : List ByteArray) : ∀ s ∈ l, s ∈ (Keys.tab l).1 := by
 suffices h : ∀ r : List ByteArray, ∀ s ∈ r.reverse, s ∈ (Keys.tab r.reverse).1 by
  have := h l.reverse
  simpa using this
 intro r
 induction r with
 | nil => intro s hs; simp at hs
 | cons x r ih =>
  intro s hs
  rw [List.reverse_cons] at hs ⊢
  rw [Keys.tab_snoc]
  unfold Keys.step
  rcases List.mem_append.1 hs with h | h
  ·split
   ·exact ih s h
   ·exact List.mem_append_left _ (ih s h)
  ·rw [List.mem_singleton.1 h]
   split
   ·assumption
   ·simp
end Go.Proofs.YtlpkpfpmcppciaaGreatDoor
end
