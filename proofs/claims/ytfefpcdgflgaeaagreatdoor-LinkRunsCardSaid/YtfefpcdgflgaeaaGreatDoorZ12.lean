/- The reference's Dirty: the map's keys, sorted.

The reference's disk: Crash. Printed by gen_rcrash.py.

The reference's disk: Crash, behind what the mask tells.

The reference's receiver in memory; Offer, Flush.

The reference's receiver: bytes, Text, New. -/
import Derived.Test.YtfefpcdgflgaeaaGreatDoorZ11
import Derived.Maps.RangeWalk
import Derived.Sort.OwnSortedInts
import Derived.Test.YtfefpcdgflgaeaaGreatDoorZ5
section
namespace Go.Proofs.YtfefpcdgflgaeaaGreatDoor
set_option linter.unusedSimpArgs false
set_option linter.unusedVariables false
open Go.RowKit As Go.Maps Go.Sort
/-- No key twice; a key is on the list just where the map has it and it is no longer to come. -/
structure Got (D : DataW Unit) (left : Lit → Bool) (l : List Int) : Prop where
 nd : l.Nodup
 mem : ∀ x : Int, x ∈ l ↔ (Maps.has D (.int .i64 x) = true ∧ left (.int .i64 x) = false)
 len : l.length ≤ 140
theorem dirty_mem_iff {N : Nat} {X : DF} {D : DataW Unit} {S : DF} (hd : MapIs D X) (hf : DFit N S X) (x : Int) : Maps.has D (.int .i64 x) = true ↔ x ∈ (dirty N X).map (fun i : Nat => (i : Int)) := by
 rw [List.mem_map]
 constructor
 ·intro h
  by_cases hx : ∃ i : Nat, x = (i : Int) ∧ (X i).isSome = true
  ·obtain ⟨i, rfl, hi⟩ := hx
   obtain ⟨s, hs⟩ := Option.isSome_iff_exists.1 hi
   refine ⟨i, ?_, rfl⟩
   unfold dirty
   rw [List.mem_filter, List.mem_range]
   exact ⟨(hf.x i s hs).2, hi⟩
  ·have := hd.no x (fun i hi => by
    cases h' : X i with
    | none => rfl
    | some s => exact absurd ⟨i, hi, by rw [h']; rfl⟩ hx)
   rw [this] at h
   cases h
 ·rintro ⟨i, hi, rfl⟩
  obtain ⟨_, s, hs⟩ := dirty_mem hi
  exact (hd.yes i s hs).2.1
theorem dirty_nodup (N : Nat) (X : DF) : ((dirty N X).map (fun i : Nat => (i : Int))).Nodup := by
 unfold dirty
 refine List.pairwise_map.2 ((List.nodup_range.filter _).imp fun {a b} h e => h (by omega))
theorem dirty_sorted (N : Nat) (X : DF) : ((dirty N X).map (fun i : Nat => (i : Int))).Pairwise (fun x y => decide (x ≤ y) = true) := by
 unfold dirty
 refine List.pairwise_map.2 ((List.pairwise_lt_range.filter _).imp fun {a b} h => by simp only [decide_eq_true_eq]; omega)
theorem Got.start (D : DataW Unit) : Got D (Maps.has D) [] := ⟨List.nodup_nil, fun x => by cases Maps.has D (.int .i64 x) <;> simp, by simp⟩
theorem nodup_le : ∀ (l m : List Int), l.Nodup → l ⊆ m → l.length ≤ m.length
 | [], m, _, _ => Nat.zero_le _
 | a :: l, m, h, hs => by
  have ha : a ∈ m := hs (List.mem_cons_self ..)
  have h1 := nodup_le l (m.erase a) (List.nodup_cons.1 h).2 (fun x hx => (List.mem_erase_of_ne (fun e => by subst e; exact (List.nodup_cons.1 h).1 hx)).2 (hs (List.mem_cons_of_mem _ hx)))
  rw [List.length_erase_of_mem ha] at h1
  have : 0 < m.length := List.length_pos_of_mem ha
  simp only [List.length_cons]
  omega
theorem Got.sub {N : Nat} {X S : DF} {D : DataW Unit} {left : Lit → Bool} {l : List Int} (hd : MapIs D X) (hf : DFit N S X) (h : l.Nodup) (hm : ∀ x ∈ l, Maps.has D (.int .i64 x) = true) : l.length ≤ 140 := by
 have hs : l ⊆ (dirty N X).map (fun i : Nat => (i : Int)) := fun x hx => (dirty_mem_iff hd hf x).1 (hm x hx)
 have := nodup_le l _ h hs
 rw [List.length_map] at this
 have := dirty_le N X
 have := hf.n
 omega
theorem Got.step {N : Nat} {X S : DF} {D : DataW Unit} {left : Lit → Bool} {l : List Int} (hd : MapIs D X) (hf : DFit N S X) (h : Got D left l) {x : Int} {y : DataW Unit} (hl : left (.int .i64 x) = true) (hat : ∀ zd, D.atKey (.int .i64 x) zd = y) : Got D (fun z => left z && !z.sameKey (.int .i64 x)) (l ++ [x]) := by
 have hhas : Maps.has D (.int .i64 x) = true := has_true_of_atKey hat
 have hnew : x ∉ l := fun hx => by have := ((h.mem x).1 hx).2; rw [hl] at this; cases this
 have nd : (l ++ [x]).Nodup := List.nodup_append.2 ⟨h.nd, by simp, fun a ha b hb => by simp at hb; subst hb; exact fun e => hnew (e ▸ ha)⟩
 have mem : ∀ y, y ∈ l ++ [x] ↔ (Maps.has D (.int .i64 y) = true ∧ (left (.int .i64 y) && !(Lit.int .i64 y).sameKey (.int .i64 x)) = false) := fun y => by
  by_cases hy : y = x
  ·subst hy; simp [hhas, Lit.sameKey]
  ·simp [h.mem y, hy, Lit.sameKey]
 exact ⟨nd, mem, Got.sub (left := left) hd hf nd (fun y hy => ((mem y).1 hy).1)⟩
theorem Got.sorted {N : Nat} {X S : DF} {D : DataW Unit} {left : Lit → Bool} {l : List Int} (hd : MapIs D X) (hf : DFit N S X) (h : Got D left l) (hl : ∀ kl, left kl = false) : l.mergeSort (fun x y => decide (x ≤ y)) = (dirty N X).map (fun i : Nat => (i : Int)) ∧ l.length = (dirty N X).length := by
 have hp : l.Perm ((dirty N X).map (fun i : Nat => (i : Int))) := (List.perm_ext_iff_of_nodup h.nd (dirty_nodup N X)).2 fun x => by rw [h.mem x, hl, ← dirty_mem_iff hd hf x]; simp
 have tr : ∀ a b c : Int, decide (a ≤ b) = true → decide (b ≤ c) = true → decide (a ≤ c) = true := fun a b c h1 h2 => by simp only [decide_eq_true_eq] at *; omega
 have tot : ∀ a b : Int, (decide (a ≤ b) || decide (b ≤ a)) = true := fun a b => by simp only [Bool.or_eq_true, decide_eq_true_eq]; omega
 refine ⟨List.Perm.eq_of_pairwise (le := fun a b => decide (a ≤ b) = true) (fun a b _ _ h1 h2 => by simp only [decide_eq_true_eq] at h1 h2; omega) (List.pairwise_mergeSort tr tot l) (dirty_sorted N X) ((List.mergeSort_perm l _).trans hp), ?_⟩
 have := hp.length_eq
 rw [List.length_map] at this
 exact this
theorem natV_eq (l : List Nat) : (l.map (fun i : Nat => (i : Int))).map (Value.int .i64) = natV l := by unfold natV; rw [List.map_map]; rfl
set_option maxHeartbeats 2000000 in
set_option maxRecDepth 100000 in
theorem rdirty_any {w : World} {d M1 M2 N n1 n2 : Nat} {S X : DF} (h : RD w d M1 M2 N n1 n2 S X) :
  Calls Tryz.prog 72 #[.pointer (some ⟨d, 0, none⟩)] w fun e w' => ∃ v, e = .returned v ∧ w'.ownsRow w.heap.size 3 1 v (dirty N X).length (natV (dirty N X)) ∧ Below w.heap.size w w' := by
 obtain ⟨j0, hj, hy0, hy1, hy2⟩ := info_parts diInt
 have c2 := h.c2
 obtain ⟨D, hown, hd⟩ := h.i2
 have hf := h.fit
 have hM2 : M2 < w.heap.size := h.i2.lt
 go_enter Tryz.func72, Tryz.ntmps72
 go_wp2_with (first
  | (refine wpList_range_own _ rfl _ _ rfl 3 9 im_law im_under (plainElem Tryz.prog 9) M2 n2 D rfl hown ?_; intro w1 hrg0 hg0 hs0))
 have hb0 : Below w.heap.size w w1 := ⟨hg0.os, hg0.tape, hg0.output, hg0.size, fun i hi => hg0.block i hi (by simp)⟩
 simp [Act.put]
 go_wp2
 go_loopw [3, 4] (fun ov _ wr => ∃ (l : List Int) (left : Lit → Bool) (cnt : Nat), wr.ranges Tryz.prog 3 (plainElem Tryz.prog 9) M2 w.heap.size n2 D left cnt ∧ wr.ownsRow w.heap.size 3 1 ov l.length (l.map (Value.int .i64)) ∧ Hid (Got D left l) ∧ Below w.heap.size w wr) (fun _ _ wr => wr.rangeLeft M2 w.heap.size)
 case atStart => exact ⟨[], _, _, hrg0, World.ownsRow_nil _ _ _ _, Lib.hid (Got.start D), hb0⟩
 case round =>
  clear hrg0 hg0 hb0 hs0
  obtain ⟨l, left, cnt, hrg, ho, HG, hb⟩ := hrel
  go_wp2_with (first
   | (at_next; refine wpList_next_ranges_is _ rfl _ rfl 3 9 .i64 im_law im_int im_str M2 w.heap.size n2 _ _ _ rfl hrg ?_ ?_))
  ·intro h0 hl0
   obtain ⟨hso, hln⟩ := HG.out.sorted hd hf hl0
   have HSO := Lib.hid hso
   have HLN := Lib.hid hln
   clear hso hln
   have hln' := HG.out.len
   rcases ho.2 with ⟨rfl, h0'⟩ | ⟨g, cap, cur, rfl, hg, hgb, hle, hcm, hsz, htk⟩
   ·have hl0 : l = [] := List.eq_nil_of_length_eq_zero h0'
    subst hl0
    have hdn : dirty N X = [] := List.eq_nil_of_length_eq_zero HLN.out.symm
    have HDN := Lib.hid hdn
    clear hdn hln'
    go_wp2_with fail
    refine (Tryz.sort_Ints_none none 0 wr).mono ?_
    rintro r w2 ⟨rfl, rfl⟩
    go_wp2
    go_ret
    rw [HDN.out]
    exact ⟨_, rfl, World.ownsRow_nil _ _ _ _, hb⟩
   ·rw [Nat.mul_one] at htk hsz
    have hH := holds_of_blockI hgb htk
    have hgl : g < wr.heap.size := (Array.getElem?_eq_some_iff.1 hgb).1
    have HH := Lib.hid (And.intro hH (And.intro hgl (And.intro hgb (And.intro hsz htk))))
    have HL2 := Lib.hid (And.intro hg (And.intro hle hcm))
    have hl63 : l.length < 4611686018427387904 := by omega
    clear hH hgl hgb hsz htk hg hle hcm ho hln'
    go_wp2_with fail
    refine (Tryz.sort_Ints g 0 cap l wr HH.out.1 HH.out.2.1 hl63).mono ?_
    rintro r w2 ⟨rfl, nn, os, rfl⟩
    rw [HSO.out]
    have hown2 := ownsRow_sortedI (w := wr) (base := w.heap.size) (g := g) (cap := cap) (n := nn) (e := 3) (os := os) (cur := cur) (ss := l) (ts := (dirty N X).map (fun i : Nat => (i : Int))) (by rw [List.length_map]; exact HLN.out.symm) HL2.out.1 HH.out.2.2.1 HL2.out.2.1 HL2.out.2.2 (by rw [Nat.mul_one]; exact HH.out.2.2.2.1)
    have hgr2 := grownBy_sortedI (w := wr) (g := g) (n := nn) (os := os) ((dirty N X).map (fun i : Nat => (i : Int))).toArray
    rw [natV_eq] at hown2
    have hb3 := hb.grown hgr2 hb.size (fun k hk => by injection hk with hk; rw [← hk]; exact HL2.out.1)
    generalize grow (putRow (Value.int .i64) (Sort.ahead wr nn) g 0 ((dirty N X).map (fun i : Nat => (i : Int))).toArray) os = W9 at *
    go_wp2
    go_ret
    rw [HLN.out] at hown2 ⊢
    exact ⟨_, rfl, hown2, hb3⟩
  ·intro x c w1 cnt1 hwx hwc hlx hat hrg1 hlt hg1 hs1 hen
   have hne := Go.row_ne_iter ho hrg
   have ho1 := ho.kept hg1 (.inr (fun e => hne e.symm))
   have hlow := Go.row_ne_low ho (b := M2) hM2
   have hbw : Below w.heap.size w w1 := hb.grown hg1 hb.size (fun k hk => by injection hk with hk; omega)
   have HG2 := Lib.hid (HG.out.step (x := x) hd hf hlx hat)
   have hlen := HG2.out.len
   rw [List.length_append] at hlen
   simp only [List.length_cons, List.length_nil] at hlen
   have HLE := Lib.hid (show l.length + 1 ≤ maxLen ∧ (l.length + 1) * 8 ≤ 140737488355328 by unfold maxLen; omega)
   have HNE := Lib.hid (And.intro hne hlow)
   have HLT := Lib.hid hlt
   have HLS := Lib.hid (And.intro hrg1.left_eq hrg.left_eq)
   clear hne hlow hlen hlt hat hlx hwx hwc hs1
   go_wp2_with (first
    | (at_builtin; refine wpList_append_own _ rfl (.tmp 14) (.tmp 16) 134 rfl w.heap.size 3 j0 (.int .i64 0) 1 8 Tryz.underlying134 hj hy0 hy1 hy2 rfl (by decide) u3 l.length (l.map (Value.int .i64)) rfl (ho1.alloc _) ⟨w1.heap.size, 0, none⟩ 1 1 [.int .i64 x] rfl rfl (cell_one_new _ _ _) (by intro u hu; simp at hu; subst hu; rfl) HLE.out.1 HLE.out.2 (by have := hbw.size; simp; omega) ?_; intro v1 w2 hS1 hg2 _; have b2 := grown_own (hbw.alloc hbw.size _) hg2 (by have := hbw.size; simp; omega) (ho1.alloc _); have hrg2 := (hrg1.alloc _).kept hg2 HNE.out.2 HNE.out.1))
   go_roundw
   case rel => exact ⟨l ++ [x], _, cnt1, hrg2, by rw [List.length_append]; simpa using hS1, HG2, b2⟩
   case measure => rw [hrg2.left_eq, HLS.out.2]; exact HLT.out
end Go.Proofs.YtfefpcdgflgaeaaGreatDoor
end

section
namespace Go.Proofs.YtfefpcdgflgaeaaGreatDoor
set_option linter.unusedSimpArgs false
set_option linter.unusedVariables false
open Go.RowKit As Go.Maps
def rbV (mask k m : Nat) (g : Unit) : Nat → Value
 | 0 => .int .u64 (mask : Int)
 | 1 => .int .i64 (k : Int)
 | 2 => .int .i64 (m : Int)
 | 3 => .int .u64 ((2 ^ m : Nat) : Int)
 | 4 => .int .u64 ((mask : Int) / 2 ^ m)
 | 5 => .int .u64 ((mask : Int) / 2 ^ m % 2)
 | 6 => .bool ((mask : Int) / 2 ^ m % 2 == 1)
 | 7 => .bool ((mask : Int) / 2 ^ m % 2 == 1)
 | _ => undef
def rksV (d M1 M2 i : Nat) (t : ByteArray) (g : Unit) : Nat → Value
 | 0 => .pointer (some ⟨d, 0, none⟩)
 | 1 => .pointer (some ⟨d, 0, none⟩)
 | 2 => .pointer (some ⟨d, 1, none⟩)
 | 3 => .map (some M1)
 | 4 => .int .i64 (i : Int)
 | 5 => .pointer (some ⟨d, 0, none⟩)
 | 6 => .pointer (some ⟨d, 0, none⟩)
 | 7 => .pointer (some ⟨d, 2, none⟩)
 | 8 => .map (some M2)
 | 9 => .int .i64 (i : Int)
 | 10 => .string t
 | _ => undef
theorem w64 {q : Nat} (h : q < 18446744073709551616) : IntKind.u64.wrap (q : Int) = (q : Int) := by simp [IntKind.wrap, IntKind.bits, IntKind.signed]; omega
theorem w64' {q : Nat} : IntKind.u64.wrap ((q : Int) % 2) = (q : Int) % 2 := by simp [IntKind.wrap, IntKind.bits, IntKind.signed]; omega
theorem rpow2_any (k : Nat) (w : World) (hk : k ≤ 63) :
  Calls Tryz.prog 71 #[.int .u64 2, .int .i64 (k : Int)] w fun e w' => e = .returned (.int .u64 ((2 ^ k : Nat) : Int)) ∧ Below w.heap.size w w' := by
 obtain ⟨z, hz⟩ : ∃ z, z = 2 ^ k := ⟨_, rfl⟩
 have h : z < 18446744073709551616 := by rw [hz]; exact Nat.lt_of_le_of_lt (Nat.pow_le_pow_right (by omega) hk) (by decide)
 rw [← hz]
 have Hz := Lib.hid hz
 clear hz
 go_enter Tryz.func71, Tryz.ntmps71
 go_wp2
 go_loop [5, 7] (fun v i => ∃ j x : Nat, j ≤ k ∧ i = .int .i64 (j : Int) ∧ v = .int .u64 (x : Int) ∧ Hid (x = 2 ^ j)) (fun _ i => k - (intOf i).toNat)
 case atStart => exact ⟨0, 1, by omega, rfl, rfl, Lib.hid rfl⟩
 case round =>
  obtain ⟨j, x, hj, rfl, rfl, Hx⟩ := hrel
  by_cases hlt : j < k
  ·have hle : x * 2 ≤ z := by
    rw [Hx.out, Hz.out, ← Nat.pow_succ]
    exact Nat.pow_le_pow_right (by omega) hlt
   have hlt2 : (x : Int) * 2 ≤ 18446744073709551615 := by omega
   have h0 : (0 : Int) ≤ (x : Int) * 2 := by omega
   have hw : IntKind.u64.wrap ((x : Int) * 2) = (x : Int) * 2 := by have := w64 (q := x * 2) (by omega); simpa using this
   go_wp2
   go_round
   case rel => exact ⟨j + 1, x * 2, by omega, by go_num, by simp, Lib.hid (by rw [Nat.pow_succ, Hx.out])⟩
   case measure => simp [intOf]; omega
  ·obtain rfl : j = k := by omega
   go_wp2
   go_ret
   exact ⟨by rw [Hz.out, ← Hx.out]; rfl, Below.refl _ _⟩
set_option maxHeartbeats 1000000 in
set_option maxRecDepth 100000 in
theorem rbit_any {w : World} {g k mask : Nat} (hc : w.cell? ⟨g, 0, none⟩ = some (.int .u64 (mask : Int))) (hm : mask < 18446744073709551616) (hk : k ≤ 1000) :
    Calls Tryz.prog 70 #[.int .i64 (k : Int), .pointer (some ⟨g, 0, none⟩)] w fun e w' => e = .returned (.bool (mbit mask k)) ∧ Below w.heap.size w w' := by
  obtain ⟨m, hm63⟩ : ∃ m, m = min k 63 := ⟨_, rfl⟩
  have hmn : min (k : Int) 63 = (m : Int) := by omega
  have hm63' : m ≤ 63 := by omega
  have hp : 0 < 2 ^ m := Nat.pow_pos (by omega)
  have hpi : (0 : Int) < 2 ^ m := by have : ((2 ^ m : Nat) : Int) = 2 ^ m := by simp
                                     omega
  have hq : ¬ ((2 : Int) ^ m = 0) := by omega
  have e1 : (mask : Int) / 2 ^ m = ((mask / 2 ^ m : Nat) : Int) := by simp
  have hle := Nat.div_le_self mask (2 ^ m)
  have hq2 : IntKind.u64.wrap ((mask : Int) / 2 ^ m) = (mask : Int) / 2 ^ m := by rw [e1]; exact w64 (Nat.lt_of_le_of_lt hle hm)
  have hr : IntKind.u64.wrap ((mask : Int) / 2 ^ m % 2) = (mask : Int) / 2 ^ m % 2 := by rw [e1]; exact w64'
  have HT := Lib.hid (show ((mask : Int) / 2 ^ m % 2 == 1) = mbit mask k by
    rw [e1]
    unfold mbit
    rw [← hm63]
    rcases Nat.mod_two_eq_zero_or_one (mask / 2 ^ m) with q | q
    · rw [q]; have : ((mask / 2 ^ m : Nat) : Int) % 2 = 0 := by omega
      rw [this]; rfl
    · rw [q]; have : ((mask / 2 ^ m : Nat) : Int) % 2 = 1 := by omega
      rw [this]; rfl)
  clear e1 hle
  clear hm63
  go_enter Tryz.func70, Tryz.ntmps70
  go_wp2
  refine Flow.wp_region_go (by kernel_rfl) (by kernel_rfl) (by kernel_rfl) 11 rfl (by kernel_rfl) (rbV mask k m) (fun _ L wz => wz.cell? ⟨g, 0, none⟩ = some (.int .u64 (mask : Int)) ∧ Below w.heap.size w wz) (fun _ _ => False) (()) (⟨hc, (Below.refl _ _).drew⟩) ⟨?_, ?_, ?_, ?_, ?_, ?_, ?_, ?_, trivial⟩ ?_ ?_
  · intro gz L wz K ρ hc0 hf0 hF hO hU hcl hi hd hC hK
    have e1 : ρ (.tmp 1) = .pointer (some ⟨g, 0, none⟩) := hO 1 (by kernel_rfl)
    have cc := hC.1
    simp [go_sem, Flow.ylP_value, Flow.ylP_skip, Flow.ylP_enter, Flow.ylP_panic, hc0, hf0, e1, cc]
    exact hK gz wz hC (fun _ _ => rfl)
  · intro gz L wz K ρ hc0 hf0 hF hO hU hcl hi hd hC hK
    have e0 : ρ (.tmp 0) = .int .i64 (k : Int) := hO 0 (by kernel_rfl)
    simp [go_sem, Flow.ylP_value, Flow.ylP_skip, Flow.ylP_enter, Flow.ylP_panic, hc0, hf0, e0]
    exact hK gz wz hC (fun _ _ => rfl)
  · intro gz L wz K ρ hc0 hf0 hF hO hU hcl hi hd hC hK
    have d1 : L 1 = true := hd ⟨1, .data⟩ (by simp) rfl
    have e5 : ρ (.tmp 5) = .int .i64 (k : Int) := hF 5 1 (by kernel_rfl) d1
    simp [go_sem, Flow.ylP_value, Flow.ylP_skip, Flow.ylP_enter, Flow.ylP_panic, hc0, hf0, e5, hmn]
    exact hK gz wz hC (fun _ _ => rfl)
  · intro gz L wz K ρ hc0 hf0 hF hO hU hcl hi hd hC hK
    have d2 : L 2 = true := hd ⟨2, .data⟩ (by simp) rfl
    have e6 : ρ (.tmp 6) = .int .i64 (m : Int) := hF 6 2 (by kernel_rfl) d2
    simp [go_sem, Flow.ylP_value, Flow.ylP_skip, Flow.ylP_enter, Flow.ylP_panic, hc0, hf0, e6]
    refine (rpow2_any m wz hm63').mono ?_
    rintro r wn ⟨rfl, hbn⟩
    exact ⟨_, rfl, hK () wn ⟨(hbn.cell (cell_lt hC.1)).trans hC.1, hC.2.trans (hbn.mono hC.2.size)⟩ (by intro j hj; unfold rbV; split <;> first | rfl | (rw [hi] at hj; cases hj) | (have hz := hcl _ 3 (by kernel_rfl) hj; rw [hi] at hz; cases hz))⟩
  · intro gz L wz K ρ hc0 hf0 hF hO hU hcl hi hd hC hK
    have d0 : L 0 = true := hd ⟨0, .data⟩ (by simp) rfl
    have e4 : ρ (.tmp 4) = .int .u64 (mask : Int) := hF 4 0 (by kernel_rfl) d0
    have d3 : L 3 = true := hd ⟨3, .data⟩ (by simp) rfl
    have e7 : ρ (.tmp 7) = .int .u64 ((2 ^ m : Nat) : Int) := hF 7 3 (by kernel_rfl) d3
    simp [go_sem, Flow.ylP_value, Flow.ylP_skip, Flow.ylP_enter, Flow.ylP_panic, hc0, hf0, e4, e7, hq, hq2]
    exact hK gz wz hC (fun _ _ => rfl)
  · intro gz L wz K ρ hc0 hf0 hF hO hU hcl hi hd hC hK
    have d4 : L 4 = true := hd ⟨4, .data⟩ (by simp) rfl
    have e8 : ρ (.tmp 8) = .int .u64 ((mask : Int) / 2 ^ m) := hF 8 4 (by kernel_rfl) d4
    simp [go_sem, Flow.ylP_value, Flow.ylP_skip, Flow.ylP_enter, Flow.ylP_panic, hc0, hf0, e8, hr]
    exact hK gz wz hC (fun _ _ => rfl)
  · intro gz L wz K ρ hc0 hf0 hF hO hU hcl hi hd hC hK
    have d5 : L 5 = true := hd ⟨5, .data⟩ (by simp) rfl
    have e9 : ρ (.tmp 9) = .int .u64 ((mask : Int) / 2 ^ m % 2) := hF 9 5 (by kernel_rfl) d5
    simp [go_sem, Flow.ylP_value, Flow.ylP_skip, Flow.ylP_enter, Flow.ylP_panic, hc0, hf0, e9]
    exact hK gz wz hC (fun _ _ => rfl)
  · intro gz L wz K ρ hc0 hf0 hF hO hU hcl hi hd hC hK
    have d6 : L 6 = true := hd ⟨6, .data⟩ (by simp) rfl
    have e10 : ρ (.tmp 10) = .bool ((mask : Int) / 2 ^ m % 2 == 1) := hF 10 6 (by kernel_rfl) d6
    simp [go_sem, Flow.ylP_value, Flow.ylP_skip, Flow.ylP_enter, Flow.ylP_panic, hc0, hf0, e10]
    exact hK gz wz hC (fun _ _ => rfl)
  · intro gz L ch wz h; exact h.elim
  · intro gz L wz hL hC
    simp only [Flow.putAll, rbV]
    simp [Act.put]
    go_wp2
    go_ret
    exact ⟨by rw [← HT.out]; rfl, hC.2⟩
end Go.Proofs.YtfefpcdgflgaeaaGreatDoor
end

section
namespace Go.Proofs.YtfefpcdgflgaeaaGreatDoor
set_option linter.unusedSimpArgs false
set_option linter.unusedVariables false
open Go.RowKit As Go.Maps
section
variable {w w' : World} {d M1 M2 N n1 n2 : Nat} {S X : DF}
theorem RD.lasted {i n1' : Nat} {t : ByteArray} (h : RD w d M1 M2 N n1 n2 S X) (hg : w.grownBy w' (some M1)) (hm : IM w' M1 n1' (upd S i t)) (hi : i < N) (ht : t.size = 32) : RD w' d M1 M2 N n1' n2 (upd S i t) X := by
 have hT : Turned (fun i => i = M1) w w' := .of_grown hg rfl
 refine ⟨hT.cell h.c0 h.d1, hT.cell h.c1 h.d1, hT.cell h.c2 h.d1, (hT.frozen (a := ⟨d, 2, none⟩) (cell_lt h.c2) h.d1).trans h.f2, hm, hT.im h.i2 (Ne.symm h.m12), ⟨h.fit.n, fun j s hj => ?_, h.fit.x⟩, h.d1, h.d2, h.m12⟩
 by_cases e : j = i
 ·subst e
  rw [upd_same] at hj
  injection hj with hj
  subst hj
  exact ⟨ht, hi⟩
 ·rw [upd_other S t e] at hj
  exact h.fit.s j s hj
theorem RD.more {n1' : Nat} (h : RD w d M1 M2 N n1 n2 S X) (hn : n1 ≤ n1') : RD w d M1 M2 N n1' n2 S X := ⟨h.c0, h.c1, h.c2, h.f2, h.i1.mono hn, h.i2, h.fit, h.d1, h.d2, h.m12⟩
theorem RD.cleared (h : RD w d M1 M2 N n1 n2 S X) : RD ((w.alloc (.map #[] 0)).setCell ⟨d, 2, none⟩ (.map (some w.heap.size))) d M1 w.heap.size N n1 0 S (fun _ => none) := by
 have hW := h.below (below1 w (.map #[] 0))
 have hi := IM.made w
 have hd : d < w.heap.size := cell_lt h.c0
 have h1 : M1 < w.heap.size := h.i1.lt
 generalize w.alloc (.map #[] 0) = W at *
 have hT : Turned (fun i => i = d) W (W.setCell ⟨d, 2, none⟩ (.map (some w.heap.size))) := .set W 2 _ rfl
 refine ⟨?_, ?_, World.cell?_setCell_same _ _ _ hW.c2, by rw [World.frozen?_setCell]; exact hW.f2, hT.im hW.i1 (Ne.symm h.d1), hT.im hi (by omega), ⟨h.fit.n, h.fit.s, fun _ _ h => (by cases h)⟩, h.d1, by omega, by omega⟩
 ·rw [World.cell?_setCell_other _ _ _ _ (by intro h; injection h with _ h2; cases h2)]; exact hW.c0
 ·rw [World.cell?_setCell_other _ _ _ _ (by intro h; injection h with _ h2; cases h2)]; exact hW.c1
structure CrLoc (w : World) (B gm : Nat) (A : Option Addr) (l : List Nat) (c9 mask : Nat) : Prop where
 cm : w.cell? ⟨gm, 0, none⟩ = some (.int .u64 (mask : Int))
 row : w.ownsRow B 3 1 (.slice A l.length c9) l.length (natV l)
theorem CrLoc.below {B gm c9 mask : Nat} {A : Option Addr} {l : List Nat} (h : CrLoc w B gm A l c9 mask) (hb : Below w.heap.size w w') : CrLoc w' B gm A l c9 mask :=
 have hT : Turned (fun _ => False) w w' := .of_below hb
 ⟨hT.cell h.cm id, hT.own h.row fun _ _ => id⟩
theorem CrLoc.kept {B gm c9 mask : Nat} {A : Option Addr} {l : List Nat} (h : CrLoc w B gm A l c9 mask) (hg : w.grownBy w' (some M1)) (hn : gm ≠ M1 ∧ M1 < B) : CrLoc w' B gm A l c9 mask := by
 have hT : Turned (fun i => i = M1) w w' := .of_grown hg rfl
 refine ⟨hT.cell h.cm hn.1, hT.own h.row fun k hk e => ?_⟩
 rcases h.row.2 with ⟨hv, _⟩ | ⟨g, cap, cur, hv, hb, _⟩
 ·rw [hv] at hk; cases hk
 ·rw [hv] at hk
  injection hk with hk
  have := hn.2
  have hb' : B ≤ g := hb
  subst e
  have : g = k := hk
  omega
end
set_option maxHeartbeats 2000000 in
set_option maxRecDepth 100000 in
theorem rcrash_any {w : World} {d M1 M2 N n1 n2 mask : Nat} {S X : DF} (h : RD w d M1 M2 N n1 n2 S X) (hm : mask < 18446744073709551616) (hn1 : n1 + 140 < maxLen) :
  Calls Tryz.prog 40 #[.pointer (some ⟨d, 0, none⟩), .int .u64 (mask : Int)] w fun e w' => ∃ M, e = .returned (.tuple #[]) ∧ RD w' d M1 M N (n1 + 140) 0 (crashed N mask S X) (fun _ => none) ∧ w.heap.size ≤ M ∧ Turned (RFoot d M1 M2) w w' := by
 have H140 := Lib.hid h.fit.n
 have HN1 := Lib.hid hn1
 clear hn1
 have hmf : ∀ (fn : Fn) (first cap : Array Value) (w : World), (Instr.makeFunc fn first cap).run Tryz.prog w = .ok (.func fn first cap) w := fun _ _ _ _ => rfl
 have hmm := @run_makeMap Tryz.prog
 have hbw := below1 w (.cells #[.int .u64 (mask : Int)] 27)
 have hcm : (w.alloc (.cells #[.int .u64 (mask : Int)] 27)).cell? ⟨w.heap.size, 0, none⟩ = some (.int .u64 (mask : Int)) := by rw [World.cell?_alloc_new]; rfl
 have hRw := h.below hbw
 have HM := Lib.hid (And.intro h.i1.lt (cell_lt h.c0))
 have hws : (w.alloc (.cells #[.int .u64 (mask : Int)] 27)).heap.size = w.heap.size + 1 := by simp
 obtain ⟨gm, hgm⟩ : ∃ gm, gm = w.heap.size := ⟨_, rfl⟩
 have HGM := Lib.hid hgm
 go_enter Tryz.func40, Tryz.ntmps40
 go_wp2_with fail
 rw [← hgm]
 rw [← hgm] at hcm
 have hgs : gm < w.heap.size + 1 := by omega
 have HG1 := Lib.hid hgs
 generalize hW : w.alloc (.cells #[.int .u64 (mask : Int)] 27) = W at *
 clear hW
 refine (rdirty_any hRw).mono ?_
 rintro e w1 ⟨v, rfl, ho, hb1⟩
 rw [hws] at ho
 have hP := hRw.below hb1
 have hT : Turned (RFoot d M1 M2) w w1 := (Turned.of_below hbw).trans (.of_below hb1)
 have hle := dirty_le N X
 obtain ⟨A, c9, rfl⟩ := own_form ho
 have hLo : CrLoc w1 (w.heap.size + 1) gm A (dirty N X) c9 mask := ⟨(Turned.of_below (S := fun _ => False) hb1).cell hcm id, ho⟩
 obtain ⟨B, hB⟩ : ∃ B, B = w.heap.size + 1 := ⟨_, rfl⟩
 rw [← hB] at hLo
 have HBM := Lib.hid (show gm ≠ M1 ∧ M1 < B by have := HM.out.1; have := HGM.out; omega)
 clear hB hbw hcm hRw hws hgm hgs ho hb1
 go_wp2
 go_loopw [5, 6, 11] (fun _ _ iv wr => ∃ k : Nat, k ≤ (dirty N X).length ∧ iv = .int .i64 (k : Int) ∧ RD wr d M1 M2 N (n1 + k) n2 (lasts mask X (dirty N X) S k) X ∧ CrLoc wr B gm A (dirty N X) c9 mask ∧ Turned (RFoot d M1 M2) w wr) (fun _ _ iv _ => (dirty N X).length - (intOf iv).toNat)
 case atStart => exact ⟨0, Nat.zero_le _, rfl, hP, hLo, hT⟩
 case round =>
  clear hP hLo hT
  obtain ⟨k, hk, rfl, hP, hLo, hT⟩ := hrel
  by_cases hlt : k < (dirty N X).length
  ·have t0 : decide ((k : Int) < ((dirty N X).length : Int)) = true := decide_eq_true (by omega)
   obtain ⟨q1, q2, t, q3⟩ := dirty_at hlt
   obtain ⟨i, hi⟩ : ∃ i, i = (dirty N X).getD k 0 := ⟨_, rfl⟩
   rw [← hi] at q1 q2 q3
   have ho := hLo.row
   obtain ⟨g, c8, hA, hg1, hg2⟩ := down_some ho (by omega)
   obtain rfl : A = some ⟨g, 0, none⟩ := by injection hA
   have cK : wr.cell? ⟨g, k, none⟩ = some (.int .i64 (i : Int)) := by rw [ho.cellAt k (by omega)]; unfold natV; rw [List.getElem?_map, q1]; rfl
   have k0 : (0 : Int) ≤ (k : Int) := by omega
   have k1 : (k : Int) < ((dirty N X).length : Int) := by omega
   have hi6 : i ≤ 1000000 := by have := H140.out; omega
   have hk1000 : k ≤ 1000 := by have := H140.out; omega
   have wk : IntKind.i64.wrap ((k : Int) + 1) = ((k + 1 : Nat) : Int) := IntWalk.i64_in _ (by have := H140.out; omega)
   have hcm := hLo.cm
   have HI := Lib.hid hi
   have HQ1 := Lib.hid q1
   have hn9 : n1 + k < maxLen := by have := HN1.out; have := H140.out; omega
   have HN9 := Lib.hid hn9
   clear hi q1 ho hg1 hg2 hA hn9
   go_wp2_with fail
   refine (rbit_any hcm hm hk1000).mono ?_
   rintro r w2 ⟨rfl, hb2⟩
   have hP2 := hP.below hb2
   have hLo2 := hLo.below hb2
   have hT2 : Turned (RFoot d M1 M2) w w2 := hT.trans (.of_below hb2)
   clear hP hLo hT hb2 hcm cK
   cases hb : mbit mask k with
   | true =>
    have HLS := Lib.hid (show lasts mask X (dirty N X) S (k + 1) = upd (lasts mask X (dirty N X) S k) i t by rw [lasts, if_pos hb, ← HI.out, q3]; rfl)
    have ht32 := (hP2.fit.x i t q3).1
    have hn9 := HN9.out
    have hBM := HBM
    clear hb
    go_wp2
    refine Flow.wp_region_go (by kernel_rfl) (by kernel_rfl) (by kernel_rfl) 35 rfl (by kernel_rfl) (rksV d M1 M2 i t) (fun _ L wz => RD wz d M1 M2 N (cond (L 11) (n1 + (k + 1)) (n1 + k)) n2 (cond (L 11) (upd (lasts mask X (dirty N X) S k) i t) (lasts mask X (dirty N X) S k)) X ∧ CrLoc wz B gm (some ⟨g, 0, none⟩) (dirty N X) c9 mask ∧ Turned (RFoot d M1 M2) w wz) (fun _ _ => False) (()) (⟨hP2.below (Below.refl _ _).drew, hLo2.below (Below.refl _ _).drew, hT2.trans (.of_below (Below.refl _ _).drew)⟩) ⟨?_, ?_, ?_, ?_, ?_, ?_, ?_, ?_, ?_, ?_, ?_, ?_, trivial⟩ ?_ ?_
    ·intro gz L wz K ρ hc0 hf0 hF hO hU hcl hi hd hC hK
     have e0 : ρ (.tmp 0) = .pointer (some ⟨d, 0, none⟩) := hO 0 (by kernel_rfl)
     simp [go_sem, Flow.ylP_value, Flow.ylP_skip, Flow.ylP_enter, Flow.ylP_panic, hc0, hf0, e0]
     exact hK gz wz hC (fun _ _ => rfl)
    ·intro gz L wz K ρ hc0 hf0 hF hO hU hcl hi hd hC hK
     have d0 : L 0 = true := hd ⟨0, .data⟩ (by simp) rfl
     have e19 : ρ (.tmp 19) = .pointer (some ⟨d, 0, none⟩) := hF 19 0 (by kernel_rfl) d0
     simp [go_sem, Flow.ylP_value, Flow.ylP_skip, Flow.ylP_enter, Flow.ylP_panic, hc0, hf0, e19]
     exact hK gz wz hC (fun _ _ => rfl)
    ·intro gz L wz K ρ hc0 hf0 hF hO hU hcl hi hd hC hK
     have d1 : L 1 = true := hd ⟨1, .data⟩ (by simp) rfl
     have e20 : ρ (.tmp 20) = .pointer (some ⟨d, 0, none⟩) := hF 20 1 (by kernel_rfl) d1
     simp [go_sem, Flow.ylP_value, Flow.ylP_skip, Flow.ylP_enter, Flow.ylP_panic, hc0, hf0, e20]
     exact hK gz wz hC (fun _ _ => rfl)
    ·intro gz L wz K ρ hc0 hf0 hF hO hU hcl hi hd hC hK
     have d2 : L 2 = true := hd ⟨2, .data⟩ (by simp) rfl
     have e21 : ρ (.tmp 21) = .pointer (some ⟨d, 1, none⟩) := hF 21 2 (by kernel_rfl) d2
     have cc := hC.1.c1
     simp [go_sem, Flow.ylP_value, Flow.ylP_skip, Flow.ylP_enter, Flow.ylP_panic, hc0, hf0, e21, cc]
     exact hK gz wz hC (fun _ _ => rfl)
    ·intro gz L wz K ρ hc0 hf0 hF hO hU hcl hi hd hC hK
     have e6 : ρ (.tmp 6) = .int .i64 (i : Int) := hO 6 (by kernel_rfl)
     simp [go_sem, Flow.ylP_value, Flow.ylP_skip, Flow.ylP_enter, Flow.ylP_panic, hc0, hf0, e6]
     exact hK gz wz hC (fun _ _ => rfl)
    ·intro gz L wz K ρ hc0 hf0 hF hO hU hcl hi hd hC hK
     have e0 : ρ (.tmp 0) = .pointer (some ⟨d, 0, none⟩) := hO 0 (by kernel_rfl)
     simp [go_sem, Flow.ylP_value, Flow.ylP_skip, Flow.ylP_enter, Flow.ylP_panic, hc0, hf0, e0]
     exact hK gz wz hC (fun _ _ => rfl)
    ·intro gz L wz K ρ hc0 hf0 hF hO hU hcl hi hd hC hK
     have d5 : L 5 = true := hd ⟨5, .data⟩ (by simp) rfl
     have e24 : ρ (.tmp 24) = .pointer (some ⟨d, 0, none⟩) := hF 24 5 (by kernel_rfl) d5
     simp [go_sem, Flow.ylP_value, Flow.ylP_skip, Flow.ylP_enter, Flow.ylP_panic, hc0, hf0, e24]
     exact hK gz wz hC (fun _ _ => rfl)
    ·intro gz L wz K ρ hc0 hf0 hF hO hU hcl hi hd hC hK
     have d6 : L 6 = true := hd ⟨6, .data⟩ (by simp) rfl
     have e25 : ρ (.tmp 25) = .pointer (some ⟨d, 0, none⟩) := hF 25 6 (by kernel_rfl) d6
     simp [go_sem, Flow.ylP_value, Flow.ylP_skip, Flow.ylP_enter, Flow.ylP_panic, hc0, hf0, e25]
     exact hK gz wz hC (fun _ _ => rfl)
    ·intro gz L wz K ρ hc0 hf0 hF hO hU hcl hi hd hC hK
     have d7 : L 7 = true := hd ⟨7, .data⟩ (by simp) rfl
     have e26 : ρ (.tmp 26) = .pointer (some ⟨d, 2, none⟩) := hF 26 7 (by kernel_rfl) d7
     have cc := hC.1.c2
     simp [go_sem, Flow.ylP_value, Flow.ylP_skip, Flow.ylP_enter, Flow.ylP_panic, hc0, hf0, e26, cc]
     exact hK gz wz hC (fun _ _ => rfl)
    ·intro gz L wz K ρ hc0 hf0 hF hO hU hcl hi hd hC hK
     have e6 : ρ (.tmp 6) = .int .i64 (i : Int) := hO 6 (by kernel_rfl)
     simp [go_sem, Flow.ylP_value, Flow.ylP_skip, Flow.ylP_enter, Flow.ylP_panic, hc0, hf0, e6]
     exact hK gz wz hC (fun _ _ => rfl)
    ·intro gz L wz K ρ hc0 hf0 hF hO hU hcl hi hd hC hK
     have d8 : L 8 = true := hd ⟨8, .data⟩ (by simp) rfl
     have e27 : ρ (.tmp 27) = .map (some M2) := hF 27 8 (by kernel_rfl) d8
     have d9 : L 9 = true := hd ⟨9, .data⟩ (by simp) rfl
     have e28 : ρ (.tmp 28) = .int .i64 (i : Int) := hF 28 9 (by kernel_rfl) d9
     have hl := hC.1.i2.look i hi6 q3
     simp [go_sem, Flow.ylP_value, Flow.ylP_skip, Flow.ylP_enter, Flow.ylP_panic, hc0, hf0, e27, e28, hl]
     exact hK () wz hC (fun _ _ => rfl)
    ·intro gz L wz K ρ hc0 hf0 hF hO hU hcl hi hd hC hK
     have d3 : L 3 = true := hd ⟨3, .data⟩ (by simp) rfl
     have e22 : ρ (.tmp 22) = .map (some M1) := hF 22 3 (by kernel_rfl) d3
     have d4 : L 4 = true := hd ⟨4, .data⟩ (by simp) rfl
     have e23 : ρ (.tmp 23) = .int .i64 (i : Int) := hF 23 4 (by kernel_rfl) d4
     have d10 : L 10 = true := hd ⟨10, .data⟩ (by simp) rfl
     have e29 : ρ (.tmp 29) = .string t := hF 29 10 (by kernel_rfl) d10
     rw [hi] at hC
     obtain ⟨w9, hrun, him, hg9⟩ := hC.1.i1.put i hi6 hn9 (s := t) (by rw [ht32]; unfold maxLen; omega)
     unfold execOp
     simp only [resolve, Sem.run_bind, Sem.run_pure, Result.andThen_ok, e22, e23, e29, hrun]
     refine hK () w9 ?_ (fun _ _ => rfl)
     exact ⟨hC.1.lasted hg9 him q2 ht32, hC.2.1.kept hg9 hBM.out, hC.2.2.trans (.of_grown hg9 (.inr (.inl rfl)))⟩
    ·intro gz L ch wz h; exact h.elim
    ·intro gz L wz hL hC
     rw [hL 11 (by decide)] at hC
     simp only [Flow.putAll, rksV]
     go_wp2
     go_roundw
     case rel => exact ⟨k + 1, hlt, by go_num, by rw [HLS.out]; exact hC.1, hC.2.1, hC.2.2⟩
     case measure => simp [intOf]; omega
   | false =>
    have HLS := Lib.hid (show lasts mask X (dirty N X) S (k + 1) = lasts mask X (dirty N X) S k by rw [lasts, hb]; rfl)
    clear hb
    go_wp2
    go_roundw
    case rel => exact ⟨k + 1, hlt, by go_num, by rw [HLS.out]; exact hP2.more (by omega), hLo2, hT2⟩
    case measure => simp [intOf]; omega
  ·obtain rfl : k = (dirty N X).length := by omega
   have t0 : decide (((dirty N X).length : Int) < ((dirty N X).length : Int)) = false := decide_eq_false (by omega)
   have hE := hP.cleared
   have hb3 := below1 wr (.map #[] 0)
   have hPW := hP.below hb3
   have hT3 : Turned (RFoot d M1 M2) w ((wr.alloc (.map #[] 0)).setCell ⟨d, 2, none⟩ (.map (some wr.heap.size))) := (hT.trans (.of_below hb3)).trans (.set _ 2 _ (.inl rfl))
   have hsz := hT.size
   have cd2 := hPW.c2
   have fd2 := hPW.f2
   have hlt2 := HN1.out
   have HE2 := Lib.hid (hE.more (n1' := n1 + 140) (by have := H140.out; omega))
   have HT3 := Lib.hid hT3
   clear hlt hE hPW hT3 hlt2
   go_wp2
   go_end0
   exact ⟨_, rfl, HE2.out, hsz, HT3.out⟩
end Go.Proofs.YtfefpcdgflgaeaaGreatDoor
end

section
namespace Go.Proofs.YtfefpcdgflgaeaaGreatDoor
set_option linter.unusedSimpArgs false
set_option linter.unusedVariables false
open Go.RowKit As Go.Maps
structure RLoc where
 r : Nat
 D : Nat
 M1 : Nat
 M2 : Nat
 n1 : Nat
 n2 : Nat
 B : Nat
 b : Nat
def RLoc.foot (L : RLoc) (i : Nat) : Prop := i = L.r ∨ i = L.D ∨ i = L.M1 ∨ i = L.M2 ∨ i = L.B
def refVs (D nm tot B sv sf mks : Nat) : List Value := [.pointer (some ⟨D, 0, none⟩), .int .u32 (nm : Int), .int .i64 (tot : Int), .map (some B), .int .i64 (sv : Int), .int .i64 (sf : Int), .int .i64 (mks : Int)]
theorem Turned.bm {F : Nat → Prop} {w w' : World} {b n : Nat} {f : CF} (h : Turned F w w') (hi : BM w b n f) (hn : ¬ F b) : BM w' b n f := by
 obtain ⟨D, ⟨es, clock, hb, G, hs, hD⟩, hd⟩ := hi
 exact ⟨D, ⟨es, clock, (h.block b (Array.getElem?_eq_some_iff.1 hb).1 hn).trans hb, G, hs, hD⟩, hd⟩
structure RR (w : World) (K : Nat) (L : RLoc) (s : Rst) : Prop where
 cells : RC w L.r (refVs L.D s.nm s.tot L.B s.sv s.sf s.mks)
 disk : RD w L.D L.M1 L.M2 140 L.n1 L.n2 s.S s.X
 came : BM w L.B L.b s.came
 rD : L.r ≠ L.D
 r1 : L.r ≠ L.M1
 r2 : L.r ≠ L.M2
 rB : L.r ≠ L.B
 BD : L.B ≠ L.D
 B1 : L.B ≠ L.M1
 B2 : L.B ≠ L.M2
 low : ∀ i, L.foot i → i < w.heap.size
 fit : RFit K s
 c1 : L.n1 ≤ 200 * K
 c2 : L.n2 ≤ 200 * K
 cb : L.b ≤ 5000 * K
section
variable {w w' : World} {K : Nat} {L : RLoc} {s : Rst} {F : Nat → Prop}
theorem RR.stays (h : RR w K L s) (ht : Turned F w w') (hn : ∀ i, L.foot i → ¬ F i) : RR w' K L s :=
 ⟨h.cells.turned ht (hn _ (.inl rfl)), h.disk.stays ht (hn _ (.inr (.inl rfl))) (hn _ (.inr (.inr (.inl rfl)))) (hn _ (.inr (.inr (.inr (.inl rfl))))), ht.bm h.came (hn _ (.inr (.inr (.inr (.inr rfl))))), h.rD, h.r1, h.r2, h.rB, h.BD, h.B1, h.B2, fun i hi => Nat.lt_of_lt_of_le (h.low i hi) ht.size, h.fit, h.c1, h.c2, h.cb⟩
theorem RR.below (h : RR w K L s) (hb : Below w.heap.size w w') : RR w' K L s := h.stays (F := fun _ => False) (.of_below hb) (fun _ _ => id)
theorem RR.drewN (h : RR w K L s) (n : Nat) : RR (w.drewN n) K L s := h.below (below_drewN (Below.refl _ _) _)
theorem RR.cell (h : RR w K L s) (i : Nat) {v : Value} (hv : (refVs L.D s.nm s.tot L.B s.sv s.sf s.mks)[i]? = some v) : w.cell? ⟨L.r, i, none⟩ = some v := (h.cells i v hv).1
theorem RR.free (h : RR w K L s) (i : Nat) {v : Value} (hv : (refVs L.D s.nm s.tot L.B s.sv s.sf s.mks)[i]? = some v) : w.frozen? ⟨L.r, i, none⟩ = false := (h.cells i v hv).2
theorem RR.more (h : RR w K L s) {K' : Nat} (hk : K ≤ K') (hK : K' ≤ 1000000) : RR w K' L s := ⟨h.cells, h.disk, h.came, h.rD, h.r1, h.r2, h.rB, h.BD, h.B1, h.B2, h.low, h.fit.mono hk hK, by have := h.c1; omega, by have := h.c2; omega, by have := h.cb; omega⟩
theorem foot_D {L : RLoc} {i : Nat} (h : RFoot L.D L.M1 L.M2 i) : L.foot i := by
 rcases h with h | h | h
 ·exact .inr (.inl h)
 ·exact .inr (.inr (.inl h))
 ·exact .inr (.inr (.inr (.inl h)))
theorem RR.off (h : RR w K L s) : ¬ RFoot L.D L.M1 L.M2 L.r ∧ ¬ RFoot L.D L.M1 L.M2 L.B :=
 ⟨fun q => by rcases q with q | q | q; exact h.rD q; exact h.r1 q; exact h.r2 q, fun q => by rcases q with q | q | q; exact h.BD q; exact h.B1 q; exact h.B2 q⟩
/-- The disk turns; its second map may be a new one. -/
theorem RR.disked (h : RR w K L s) {n1 n2 M2 : Nat} {S X : DF} (hd : RD w' L.D L.M1 M2 140 n1 n2 S X) (ht : Turned (RFoot L.D L.M1 L.M2) w w') (hM : M2 = L.M2 ∨ w.heap.size ≤ M2) (hf : RFit K { s with S := S, X := X }) (c1 : n1 ≤ 200 * K) (c2 : n2 ≤ 200 * K) : RR w' K { L with n1 := n1, n2 := n2, M2 := M2 } { s with S := S, X := X } := by
 have hr := h.low L.r (.inl rfl)
 have hB := h.low L.B (.inr (.inr (.inr (.inr rfl))))
 refine ⟨h.cells.turned ht h.off.1, hd, ht.bm h.came h.off.2, h.rD, h.r1, ?_, h.rB, h.BD, h.B1, ?_, fun i hi => ?_, hf, c1, c2, h.cb⟩
 ·rcases hM with q | q
  ·rw [q]; exact h.r2
  ·show L.r ≠ M2; omega
 ·rcases hM with q | q
  ·rw [q]; exact h.B2
  ·show L.B ≠ M2; omega
 ·rcases hi with q | q | q | q | q
  ·exact Nat.lt_of_lt_of_le (h.low i (.inl q)) ht.size
  ·exact Nat.lt_of_lt_of_le (h.low i (.inr (.inl q))) ht.size
  ·exact Nat.lt_of_lt_of_le (h.low i (.inr (.inr (.inl q)))) ht.size
  ·rw [q]; exact hd.i2.lt
  ·exact Nat.lt_of_lt_of_le (h.low i (.inr (.inr (.inr (.inr q))))) ht.size
theorem disked_moves {L : RLoc} {n1 n2 M2 : Nat} (ht : Turned (RFoot L.D L.M1 L.M2) w w') (hM : M2 = L.M2 ∨ w.heap.size ≤ M2) : Moves L.foot ({ L with n1 := n1, n2 := n2, M2 := M2 } : RLoc).foot w w' :=
 ⟨ht.mono fun i => foot_D, fun i hi => by
  rcases hi with q | q | q | q | q
  ·exact .inl (.inl q)
  ·exact .inl (.inr (.inl q))
  ·exact .inl (.inr (.inr (.inl q)))
  ·rcases hM with u | u
   ·exact .inl (.inr (.inr (.inr (.inl (by rw [← u]; exact q)))))
   ·exact .inr (by rw [q]; exact u)
  ·exact .inl (.inr (.inr (.inr (.inr q))))⟩
/-- A number of the receiver turns. -/
theorem RR.stored (h : RR w K L s) (i : Nat) (x : Value) (s' : Rst) (h1 : s'.S = s.S) (h2 : s'.X = s.X) (h4 : s'.came = s.came) (hv : (refVs L.D s.nm s.tot L.B s.sv s.sf s.mks).set i x = refVs L.D s'.nm s'.tot L.B s'.sv s'.sf s'.mks) (hi : i < 7) (hf : RFit K s') : RR (w.setCell ⟨L.r, i, none⟩ x) K L s' := by
 have ht : Turned (fun j => j = L.r) w (w.setCell ⟨L.r, i, none⟩ x) := .set w i _ rfl
 refine ⟨?_, ?_, ?_, h.rD, h.r1, h.r2, h.rB, h.BD, h.B1, h.B2, fun j hj => Nat.lt_of_lt_of_le (h.low j hj) ht.size, hf, h.c1, h.c2, h.cb⟩
 ·rw [← hv]
  exact h.cells.set i x hi
 ·rw [h1, h2]
  exact h.disk.stays ht (Ne.symm h.rD) (Ne.symm h.r1) (Ne.symm h.r2)
 ·rw [h4]
  exact ht.bm h.came (Ne.symm h.rB)
end
def RGoes (w : World) (E : Nat) (Z : RLoc) (s : Rst) (w' : World) : Prop := ∃ Z' : RLoc, Z'.r = Z.r ∧ RR w' E Z' s ∧ Moves Z.foot Z'.foot w w'
set_option maxHeartbeats 1000000 in
set_option maxRecDepth 100000 in
theorem roffer_any {w : World} {K : Nat} {L : RLoc} {s : Rst} (h : RR w K L s) :
  Calls Tryz.prog 22 #[.pointer (some ⟨L.r, 0, none⟩)] w fun e w' => e = .returned (.int .i64 (s.offer : Int)) ∧ w = w' := by
 have c3 := h.cell 3 rfl
 have H4 := Lib.hid h.fit.tot
 have HO := Lib.hid h.fit.out
 have HB := Lib.hid h.came
 clear h
 go_enter Tryz.func22, Tryz.ntmps22
 go_wp2
 go_loop [3] (fun v => ∃ k : Nat, k ≤ s.tot ∧ v = .int .i64 (k : Int) ∧ Hid (∀ i, i < k → (s.came i).isSome = true)) (fun v => s.tot + 1 - (intOf v).toNat)
 case atStart => exact ⟨0, Nat.zero_le _, rfl, Lib.hid fun i hi => absurd hi (Nat.not_lt_zero _)⟩
 case round =>
  obtain ⟨k, hk, rfl, hall⟩ := hrel
  have hl := HB.out.look_ok k (by have := H4.out; omega)
  have W1 := Lib.hid (w_in ((k : Int) + 1) (k + 1) (by omega) (by have := H4.out; omega))
  have HM : Hid (s.tot + 1 - ((k : Int) + 1).toNat < s.tot + 1 - k) := Lib.hid (by omega)
  cases hx : (s.came k).isSome with
  | true =>
   have hlt : k < s.tot := by
    rcases Nat.lt_or_ge k s.tot with q | q
    ·exact q
    ·rw [HO.out k q] at hx; cases hx
   have hn : Hid (∀ i, i < k + 1 → (s.came i).isSome = true) := Lib.hid fun i hi => by
    rcases Nat.lt_or_ge i k with q | q
    ·exact hall.out i q
    ·obtain rfl : i = k := by omega
     exact hx
   rw [hx] at hl
   clear hx
   obtain ⟨wk1, wk2⟩ := W1.out
   clear W1
   go_wp2
   go_round
   case rel => exact ⟨k + 1, hlt, by go_num, hn⟩
   case measure => simpa [intOf] using HM.out
  | false =>
   have ho := Lib.hid (offer_is hk hall.out (.inr hx))
   rw [hx] at hl
   clear hx
   go_wp2
   go_ret
   exact ⟨retI (congrArg _ ho.out.symm), rfl⟩
set_option maxHeartbeats 1000000 in
theorem rflush_any {w : World} {E : Nat} {Z : RLoc} {s : Rst} (h : RR w E Z s) (hE : E + 1 ≤ 1000000) :
  Calls Tryz.prog 14 #[.pointer (some ⟨Z.r, 0, none⟩)] w fun e w' => e = .returned (.tuple #[]) ∧ RGoes w (E + 1) Z s.flush w' := by
 have c0 := h.cell 0 rfl
 go_enter Tryz.func14, Tryz.ntmps14
 go_wp2_with fail
 refine (rcrash_any (mask := 18446744073709551615) h.disk (by decide) (by have := h.c1; unfold maxLen; omega)).mono ?_
 rintro e w1 ⟨M, rfl, hd, hM, ht⟩
 have hf := (h.more (K' := E + 1) (by omega) hE).fit
 have h1 := (h.more (K' := E + 1) (by omega) hE).disked hd ht (.inr hM) ⟨hf.d.crash, hf.nm, hf.tot, hf.out, hf.sv, hf.sf, hf.mks, hf.k, hf.rcrash _, fun _ _ _ h => (by cases h)⟩ (by have := h.c1; omega) (Nat.zero_le _)
 have hm1 : Moves Z.foot ({ Z with n1 := Z.n1 + 140, n2 := 0, M2 := M } : RLoc).foot w w1 := disked_moves ht (.inr hM)
 have HH := Lib.hid (And.intro hm1 hf.flush)
 clear h c0 hd hM ht hf hm1
 have c4 := h1.cell 4 rfl
 have c5 := h1.cell 5 rfl
 have f5 := h1.free 5 rfl
 simp only at c4 c5 f5
 go_wp2
 go_end0
 have hs := h1.stored 5 (.int .i64 (s.sv : Int)) s.flush rfl rfl rfl rfl (by omega) HH.out.2
 exact ⟨rfl, ({ Z with n1 := Z.n1 + 140, n2 := 0, M2 := M } : RLoc), rfl, hs, HH.out.1.trans (Moves.set _ _ _ _ (Or.inl rfl))⟩
end Go.Proofs.YtfefpcdgflgaeaaGreatDoor
end

section
namespace Go.Proofs.YtfefpcdgflgaeaaGreatDoor
set_option linter.unusedSimpArgs false
set_option linter.unusedVariables false
open Go.RowKit As Go.Maps
def blkL (c : CF) (a k : Nat) : List UInt8 := (List.range k).map fun i => (c (a + i)).getD 0
theorem blkL_len (c : CF) (a k : Nat) : (blkL c a k).length = k := by simp [blkL]
theorem blkL_next (c : CF) (a k : Nat) : blkL c a (k + 1) = blkL c a k ++ [(c (a + k)).getD 0] := by unfold blkL; rw [List.range_succ]; simp
theorem blkL_blk (c : CF) (a b : Nat) : blk c a b = strOf (blkL c a (b - a)) := rfl
set_option maxHeartbeats 1000000 in
set_option maxRecDepth 100000 in
theorem rbytes_any {w : World} {E : Nat} {Z : RLoc} {s : Rst} (h : RR w E Z s) (a b : Nat) (hab : a < b) (hb : b ≤ 4096) :
  Calls Tryz.prog 38 #[.pointer (some ⟨Z.r, 0, none⟩), .int .i64 (a : Int), .int .i64 (b : Int)] w fun e w' => e = .returned (.string (blk s.came a b)) ∧ Below w.heap.size w w' := by
 obtain ⟨i0, hi, hz0, hz1, hz2⟩ := info_parts byteInfo
 have HH := Lib.hid h
 clear h
 go_enter Tryz.func38, Tryz.ntmps38
 go_wp2
 have hr0 := HH.out
 go_loopw [7, 8] (fun v kv wr => ∃ k : Nat, a + k ≤ b ∧ kv = .int .i64 ((a + k : Nat) : Int) ∧ wr.ownsRow w.heap.size 5 1 v k (bytesV (blkL s.came a k)) ∧ Below w.heap.size w wr) (fun _ kv _ => b - (intOf kv).toNat)
 case atStart => exact ⟨0, by omega, rfl, World.ownsRow_lit w #[] 0 (Nat.le_refl _) (by unfold maxLen; omega) rfl, below1 _ _⟩
 case round =>
  clear hr0
  obtain ⟨k, hk, rfl, ho, hbel⟩ := hrel
  have hB := hbel.size
  obtain ⟨q, hq⟩ : ∃ q, q = a + k := ⟨_, rfl⟩
  rw [← hq]
  by_cases hlt : q < b
  ·have t0 : decide ((q : Int) < (b : Int)) = true := decide_eq_true (by omega)
   have t0' : decide (q < b) = true := decide_eq_true hlt
   have hR := HH.out.below hbel
   have c3 := hR.cell 3 rfl
   have hl := hR.came.look q (by omega)
   have W1 := Lib.hid (w_in ((q : Int) + 1) (q + 1) (by omega) (by omega))
   have HM : Hid (b - ((q : Int) + 1).toNat < b - q) := Lib.hid (by omega)
   have hnx := blkL_next s.came a k
   rw [← hq] at hnx
   have HN := Lib.hid hnx
   have HQ : Hid (a + (k + 1) = q + 1 ∧ a + (k + 1) ≤ b) := Lib.hid (by omega)
   have HLN := Lib.hid (blkL_len s.came a k)
   have hk4 : k ≤ 4096 := by omega
   generalize (s.came q).getD 0 = x at *
   have hl2 : (bytesV (blkL s.came a k)).length = k := by simp [blkL_len]
   clear hR hnx hq
   obtain ⟨wk1, wk2⟩ := W1.out
   go_wp2_with (first
    | (at_builtin; refine wpList_append_own _ rfl (.tmp 16) (.tmp 23) 69 rfl w.heap.size 5 i0 (.int .u8 0) 1 1 Tryz.underlying69 hi hz0 hz1 hz2 rfl (by decide) u7 k (bytesV (blkL s.came a k)) rfl (ho.alloc _) ⟨wr.heap.size, 0, none⟩ 1 1 [byteV x] rfl rfl (cells_new1 _ _ _) (by intro u hu; simp at hu; subst hu; rfl) (by unfold maxLen; omega) (by omega) (by simp; omega) ?_; intro v1 w1 hT1 hg1 _; have hb1 := grown_own (hbel.alloc hB _) hg1 (by simp; omega) (ho.alloc _)))
   go_roundw
   case rel => exact ⟨k + 1, HQ.out.2, by rw [HQ.out.1]; go_num, by rw [HN.out]; simpa [bytesV] using hT1, hb1⟩
   case measure => simpa [intOf] using HM.out
  ·obtain rfl : q = b := by omega
   have t0 : decide ((q : Int) < (q : Int)) = false := decide_eq_false (by omega)
   have t0' : decide (q < q) = false := decide_eq_false hlt
   have hkn : k = q - a := by omega
   obtain ⟨A1, c1, rfl⟩ := own_form ho
   have hs1 := string_own (P := Tryz.prog) 69 5 9 Tryz.underlying69 Tryz.underlying5 Tryz.underlying9 ho (blkL_len _ _ _) (by omega)
   have HE : Hid ((⟨(blkL s.came a k).toArray⟩ : ByteArray) = blk s.came a q) := Lib.hid (by rw [blkL_blk, hkn])
   clear hlt hkn
   go_wp2
   go_ret
   exact ⟨congrArg (fun x => Ending.returned (.string x)) HE.out, hbel⟩
theorem rnewr_any (w : World) :
  Calls Tryz.prog 7 #[] w fun e w' => ∃ Z : RLoc, e = .returned (.pointer (some ⟨Z.r, 0, none⟩)) ∧ RR w' 0 Z Rst.new ∧ (∀ i, Z.foot i → w.heap.size ≤ i) ∧ Below w.heap.size w w' := by
 have hmm := @run_makeMap Tryz.prog
 go_enter Tryz.func7, Tryz.ntmps7
 go_wp2_with fail
 refine (rnew_any 140 (by omega) w).mono ?_
 rintro r w1 ⟨D, M1, M2, rfl, hP, hlo, hb1⟩
 have hlt : D < w1.heap.size ∧ M1 < w1.heap.size ∧ M2 < w1.heap.size := ⟨cell_lt hP.c0, hP.i1.lt, hP.i2.lt⟩
 have hs := hb1.size
 go_wp2
 have b2 := below1 w1 (.map #[] 0)
 have b3 := below1 (w1.alloc (.map #[] 0)) (.cells #[.pointer (some ⟨D, 0, none⟩), .int .u32 0, .int .i64 0, .map (some w1.heap.size), .int .i64 0, .int .i64 0, .int .i64 0] 46)
 have hR := RC.new (w1.alloc (.map #[] 0)) (refVs D 0 0 w1.heap.size 0 0 0) 46
 have hB : BM ((w1.alloc (.map #[] 0)).alloc (.cells #[.pointer (some ⟨D, 0, none⟩), .int .u32 0, .int .i64 0, .map (some w1.heap.size), .int .i64 0, .int .i64 0, .int .i64 0] 46)) w1.heap.size 0 (fun _ => none) := (Turned.of_below (S := fun _ => False) b3).bm (BM.made w1) id
 go_ret
 have hz : (w1.alloc (.map #[] 0)).heap.size = w1.heap.size + 1 := by simp
 refine ⟨⟨w1.heap.size + 1, D, M1, M2, 0, 0, w1.heap.size, 0⟩, rfl, ⟨by rw [hz] at hR; exact hR, (hP.below b2).below b3, hB, ?_, ?_, ?_, ?_, ?_, ?_, ?_, fun i hi => ?_, RFit.new (by omega), by simp only; omega, by simp only; omega, by simp only; omega⟩, fun i hi => ?_, (hb1.trans (b2.mono hb1.size)).trans (b3.mono (by simp; omega))⟩
 ·simp only; omega
 ·simp only; omega
 ·simp only; omega
 ·simp only; omega
 ·simp only; omega
 ·simp only; omega
 ·simp only; omega
 ·rcases hi with q | q | q | q | q <;> simp only at q <;> simp <;> omega
 ·rcases hi with q | q | q | q | q <;> simp only at q <;> omega
end Go.Proofs.YtfefpcdgflgaeaaGreatDoor
end
