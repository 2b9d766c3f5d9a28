/- The reference's Dirty: the map's keys, sorted. -/
import Derived.Test.YthodlccjnbadhaaDoorRDiskW
import Derived.Maps.RangeWalk
import Derived.Sort.OwnSortedInts
namespace Go.Proofs.YthodlccjnbadhaaDoor
set_option linter.unusedSimpArgs false
set_option linter.unusedVariables false
open Go.RowKit As Go.Maps Go.Sort
/-- No key twice; a key is on the list just where the map has it and it is no longer to come. -/
structure Got (D : DataW Unit) (left : Lit → Bool) (l : List Int) : Prop where
  nd : l.Nodup
  mem : ∀ x : Int, x ∈ l ↔ (Maps.has D (.int .i64 x) = true ∧ left (.int .i64 x) = false)
  len : l.length ≤ 140
theorem dirty_mem_iff {N : Nat} {X : DF} {D : DataW Unit} {S : DF} (hd : MapIs D X) (hf : DFit N S X) (x : Int) : Maps.has D (.int .i64 x) = true ↔ x ∈ (dirty N X).map (fun i : Nat => (i : Int)) := by
  rw [List.mem_map]
  constructor
  · intro h
    by_cases hx : ∃ i : Nat, x = (i : Int) ∧ (X i).isSome = true
    · obtain ⟨i, rfl, hi⟩ := hx
      obtain ⟨s, hs⟩ := Option.isSome_iff_exists.1 hi
      refine ⟨i, ?_, rfl⟩
      unfold dirty
      rw [List.mem_filter, List.mem_range]
      exact ⟨(hf.x i s hs).2, hi⟩
    · have := hd.no x (fun i hi => by
        cases h' : X i with
        | none => rfl
        | some s => exact absurd ⟨i, hi, by rw [h']; rfl⟩ hx)
      rw [this] at h
      cases h
  · rintro ⟨i, hi, rfl⟩
    obtain ⟨_, s, hs⟩ := dirty_mem hi
    exact (hd.yes i s hs).2.1
theorem dirty_nodup (N : Nat) (X : DF) : ((dirty N X).map (fun i : Nat => (i : Int))).Nodup := by
  unfold dirty
  refine List.pairwise_map.2 ((List.nodup_range.filter _).imp fun {a b} h e => h (by omega))
theorem dirty_sorted (N : Nat) (X : DF) : ((dirty N X).map (fun i : Nat => (i : Int))).Pairwise (fun x y => decide (x ≤ y) = true) := by
  unfold dirty
  refine List.pairwise_map.2 ((List.pairwise_lt_range.filter _).imp fun {a b} h => by simp only [decide_eq_true_eq]; omega)
theorem Got.start (D : DataW Unit) : Got D (Maps.has D) [] := ⟨List.nodup_nil, fun x => by cases Maps.has D (.int .i64 x) <;> simp, by simp⟩
theorem nodup_le : ∀ (l m : List Int), l.Nodup → l ⊆ m → l.length ≤ m.length
  | [], m, _, _ => Nat.zero_le _
  | a :: l, m, h, hs => by
    have ha : a ∈ m := hs (List.mem_cons_self ..)
    have h1 := nodup_le l (m.erase a) (List.nodup_cons.1 h).2 (fun x hx => (List.mem_erase_of_ne (fun e => by subst e; exact (List.nodup_cons.1 h).1 hx)).2 (hs (List.mem_cons_of_mem _ hx)))
    rw [List.length_erase_of_mem ha] at h1
    have : 0 < m.length := List.length_pos_of_mem ha
    simp only [List.length_cons]
    omega
theorem Got.sub {N : Nat} {X S : DF} {D : DataW Unit} {left : Lit → Bool} {l : List Int} (hd : MapIs D X) (hf : DFit N S X) (h : l.Nodup) (hm : ∀ x ∈ l, Maps.has D (.int .i64 x) = true) : l.length ≤ 140 := by
  have hs : l ⊆ (dirty N X).map (fun i : Nat => (i : Int)) := fun x hx => (dirty_mem_iff hd hf x).1 (hm x hx)
  have := nodup_le l _ h hs
  rw [List.length_map] at this
  have := dirty_le N X
  have := hf.n
  omega
theorem Got.step {N : Nat} {X S : DF} {D : DataW Unit} {left : Lit → Bool} {l : List Int} (hd : MapIs D X) (hf : DFit N S X) (h : Got D left l) {x : Int} {y : DataW Unit} (hl : left (.int .i64 x) = true) (hat : ∀ zd, D.atKey (.int .i64 x) zd = y) : Got D (fun z => left z && !z.sameKey (.int .i64 x)) (l ++ [x]) := by
  have hhas : Maps.has D (.int .i64 x) = true := has_true_of_atKey hat
  have hnew : x ∉ l := fun hx => by have := ((h.mem x).1 hx).2; rw [hl] at this; cases this
  have nd : (l ++ [x]).Nodup := List.nodup_append.2 ⟨h.nd, by simp, fun a ha b hb => by simp at hb; subst hb; exact fun e => hnew (e ▸ ha)⟩
  have mem : ∀ y, y ∈ l ++ [x] ↔ (Maps.has D (.int .i64 y) = true ∧ (left (.int .i64 y) && !(Lit.int .i64 y).sameKey (.int .i64 x)) = false) := fun y => by
    by_cases hy : y = x
    · subst hy; simp [hhas, Lit.sameKey]
    · simp [h.mem y, hy, Lit.sameKey]
  exact ⟨nd, mem, Got.sub (left := left) hd hf nd (fun y hy => ((mem y).1 hy).1)⟩
theorem Got.sorted {N : Nat} {X S : DF} {D : DataW Unit} {left : Lit → Bool} {l : List Int} (hd : MapIs D X) (hf : DFit N S X) (h : Got D left l) (hl : ∀ kl, left kl = false) : l.mergeSort (fun x y => decide (x ≤ y)) = (dirty N X).map (fun i : Nat => (i : Int)) ∧ l.length = (dirty N X).length := by
  have hp : l.Perm ((dirty N X).map (fun i : Nat => (i : Int))) := (List.perm_ext_iff_of_nodup h.nd (dirty_nodup N X)).2 fun x => by rw [h.mem x, hl, ← dirty_mem_iff hd hf x]; simp
  have tr : ∀ a b c : Int, decide (a ≤ b) = true → decide (b ≤ c) = true → decide (a ≤ c) = true := fun a b c h1 h2 => by simp only [decide_eq_true_eq] at *; omega
  have tot : ∀ a b : Int, (decide (a ≤ b) || decide (b ≤ a)) = true := fun a b => by simp only [Bool.or_eq_true, decide_eq_true_eq]; omega
  refine ⟨List.Perm.eq_of_pairwise (le := fun a b => decide (a ≤ b) = true) (fun a b _ _ h1 h2 => by simp only [decide_eq_true_eq] at h1 h2; omega) (List.pairwise_mergeSort tr tot l) (dirty_sorted N X) ((List.mergeSort_perm l _).trans hp), ?_⟩
  have := hp.length_eq
  rw [List.length_map] at this
  exact this
theorem natV_eq (l : List Nat) : (l.map (fun i : Nat => (i : Int))).map (Value.int .i64) = natV l := by unfold natV; rw [List.map_map]; rfl
set_option maxHeartbeats 2000000 in
set_option maxRecDepth 100000 in
theorem rdirty_any {w : World} {d M1 M2 N n1 n2 : Nat} {S X : DF} (h : RD w d M1 M2 N n1 n2 S X) :
    Calls Tryd.prog 16 #[.pointer (some ⟨d, 0, none⟩)] w fun e w' => ∃ v, e = .returned v ∧ w'.ownsRow w.heap.size 3 1 v (dirty N X).length (natV (dirty N X)) ∧ Below w.heap.size w w' := by
  obtain ⟨j0, hj, hy0, hy1, hy2⟩ := info_parts diInt
  have c2 := h.c2
  obtain ⟨D, hown, hd⟩ := h.i2
  have hf := h.fit
  have hM2 : M2 < w.heap.size := h.i2.lt
  go_enter Tryd.func16, Tryd.ntmps16
  go_wp2_with (first
    | (refine wpList_range_own _ rfl _ _ rfl 3 9 im_law im_under (plainElem Tryd.prog 9) M2 n2 D rfl hown ?_; intro w1 hrg0 hg0 hs0))
  have hb0 : Below w.heap.size w w1 := ⟨hg0.os, hg0.tape, hg0.output, hg0.size, fun i hi => hg0.block i hi (by simp)⟩
  simp [Act.put]
  go_wp2
  go_loopw [3, 4] (fun ov _ wr => ∃ (l : List Int) (left : Lit → Bool) (cnt : Nat), wr.ranges Tryd.prog 3 (plainElem Tryd.prog 9) M2 w.heap.size n2 D left cnt ∧ wr.ownsRow w.heap.size 3 1 ov l.length (l.map (Value.int .i64)) ∧ Hid (Got D left l) ∧ Below w.heap.size w wr) (fun _ _ wr => wr.rangeLeft M2 w.heap.size)
  case atStart => exact ⟨[], _, _, hrg0, World.ownsRow_nil _ _ _ _, Lib.hid (Got.start D), hb0⟩
  case round =>
    clear hrg0 hg0 hb0 hs0
    obtain ⟨l, left, cnt, hrg, ho, HG, hb⟩ := hrel
    go_wp2_with (first
      | (at_next; refine wpList_next_ranges_is _ rfl _ rfl 3 9 .i64 im_law im_int im_str M2 w.heap.size n2 _ _ _ rfl hrg ?_ ?_))
    · intro h0 hl0
      obtain ⟨hso, hln⟩ := HG.out.sorted hd hf hl0
      have HSO := Lib.hid hso
      have HLN := Lib.hid hln
      clear hso hln
      have hln' := HG.out.len
      rcases ho.2 with ⟨rfl, h0'⟩ | ⟨g, cap, cur, rfl, hg, hgb, hle, hcm, hsz, htk⟩
      · have hl0 : l = [] := List.eq_nil_of_length_eq_zero h0'
        subst hl0
        have hdn : dirty N X = [] := List.eq_nil_of_length_eq_zero HLN.out.symm
        have HDN := Lib.hid hdn
        clear hdn hln'
        go_wp2_with fail
        refine (Tryd.sort_Ints_none none 0 wr).mono ?_
        rintro r w2 ⟨rfl, rfl⟩
        go_wp2
        go_ret
        rw [HDN.out]
        exact ⟨_, rfl, World.ownsRow_nil _ _ _ _, hb⟩
      · rw [Nat.mul_one] at htk hsz
        have hH := holds_of_blockI hgb htk
        have hgl : g < wr.heap.size := (Array.getElem?_eq_some_iff.1 hgb).1
        have HH := Lib.hid (And.intro hH (And.intro hgl (And.intro hgb (And.intro hsz htk))))
        have HL2 := Lib.hid (And.intro hg (And.intro hle hcm))
        have hl63 : l.length < 4611686018427387904 := by omega
        clear hH hgl hgb hsz htk hg hle hcm ho hln'
        go_wp2_with fail
        refine (Tryd.sort_Ints g 0 cap l wr HH.out.1 HH.out.2.1 hl63).mono ?_
        rintro r w2 ⟨rfl, nn, os, rfl⟩
        rw [HSO.out]
        have hown2 := ownsRow_sortedI (w := wr) (base := w.heap.size) (g := g) (cap := cap) (n := nn) (e := 3) (os := os) (cur := cur) (ss := l) (ts := (dirty N X).map (fun i : Nat => (i : Int))) (by rw [List.length_map]; exact HLN.out.symm) HL2.out.1 HH.out.2.2.1 HL2.out.2.1 HL2.out.2.2 (by rw [Nat.mul_one]; exact HH.out.2.2.2.1)
        have hgr2 := grownBy_sortedI (w := wr) (g := g) (n := nn) (os := os) ((dirty N X).map (fun i : Nat => (i : Int))).toArray
        rw [natV_eq] at hown2
        have hb3 := hb.grown hgr2 hb.size (fun k hk => by injection hk with hk; rw [← hk]; exact HL2.out.1)
        generalize grow (putRow (Value.int .i64) (Sort.ahead wr nn) g 0 ((dirty N X).map (fun i : Nat => (i : Int))).toArray) os = W9 at *
        go_wp2
        go_ret
        rw [HLN.out] at hown2 ⊢
        exact ⟨_, rfl, hown2, hb3⟩
    · intro x c w1 cnt1 hwx hwc hlx hat hrg1 hlt hg1 hs1 hen
      have hne := Go.row_ne_iter ho hrg
      have ho1 := ho.kept hg1 (.inr (fun e => hne e.symm))
      have hlow := Go.row_ne_low ho (b := M2) hM2
      have hbw : Below w.heap.size w w1 := hb.grown hg1 hb.size (fun k hk => by injection hk with hk; omega)
      have HG2 := Lib.hid (HG.out.step (x := x) hd hf hlx hat)
      have hlen := HG2.out.len
      rw [List.length_append] at hlen
      simp only [List.length_cons, List.length_nil] at hlen
      have HLE := Lib.hid (show l.length + 1 ≤ maxLen ∧ (l.length + 1) * 8 ≤ 140737488355328 by unfold maxLen; omega)
      have HNE := Lib.hid (And.intro hne hlow)
      have HLT := Lib.hid hlt
      have HLS := Lib.hid (And.intro hrg1.left_eq hrg.left_eq)
      clear hne hlow hlen hlt hat hlx hwx hwc hs1
      go_wp2_with (first
        | (at_builtin; refine wpList_append_own _ rfl (.tmp 14) (.tmp 16) 43 rfl w.heap.size 3 j0 (.int .i64 0) 1 8 Tryd.underlying43 hj hy0 hy1 hy2 rfl (by decide) u3 l.length (l.map (Value.int .i64)) rfl (ho1.alloc _) ⟨w1.heap.size, 0, none⟩ 1 1 [.int .i64 x] rfl rfl (cell_one_new _ _ _) (by intro u hu; simp at hu; subst hu; rfl) HLE.out.1 HLE.out.2 (by have := hbw.size; simp; omega) ?_; intro v1 w2 hS1 hg2 _; have b2 := grown_own (hbw.alloc hbw.size _) hg2 (by have := hbw.size; simp; omega) (ho1.alloc _); have hrg2 := (hrg1.alloc _).kept hg2 HNE.out.2 HNE.out.1))
      go_roundw
      case rel => exact ⟨l ++ [x], _, cnt1, hrg2, by rw [List.length_append]; simpa using hS1, HG2, b2⟩
      case measure => rw [hrg2.left_eq, HLS.out.2]; exact HLT.out
end Go.Proofs.YthodlccjnbadhaaDoor
