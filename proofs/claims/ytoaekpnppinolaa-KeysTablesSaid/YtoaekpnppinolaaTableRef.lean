/- The Go function Table of the reference computes what the plain function tab says. -/
import Derived.Test.YtoaekpnppinolaaTableWalks
namespace Go.Proofs.Ytoaekpnppinolaa.Keys
open Go.RowKit Go.Maps
def lastTo (T : List ByteArray) (s : ByteArray) (j : Nat) : Int := if s ∈ T.take j then (T.idxOf s : Int) else -1
theorem lastTo_0 (T : List ByteArray) (s : ByteArray) : lastTo T s 0 = -1 := by simp [lastTo]
theorem lastTo_hit {T : List ByteArray} {s : ByteArray} {j : Nat} (hT : T.Nodup) (h : T[j]? = some s) : lastTo T s (j + 1) = j := by
  have hj : j < T.length := (List.getElem?_eq_some_iff.1 h).1
  have hs : T[j] = s := (List.getElem?_eq_some_iff.1 h).2
  have hm : s ∈ T.take (j + 1) := by rw [List.take_succ_eq_append_getElem hj, hs]; simp
  unfold lastTo
  rw [if_pos hm, ← hs]
  have := hT.idxOf_getElem j hj
  rw [this]
theorem lastTo_miss {T : List ByteArray} {s x : ByteArray} {j : Nat} (h : T[j]? = some x) (hx : ¬ x = s) : lastTo T s (j + 1) = lastTo T s j := by
  have hj : j < T.length := (List.getElem?_eq_some_iff.1 h).1
  have hs : T[j] = x := (List.getElem?_eq_some_iff.1 h).2
  unfold lastTo
  have e : (s ∈ T.take (j + 1)) ↔ (s ∈ T.take j) := by
    rw [List.take_succ_eq_append_getElem hj, hs]
    simp
    rintro rfl
    exact absurd rfl hx
  simp only [e]
theorem lastTo_in {T : List ByteArray} {s : ByteArray} (h : s ∈ T) : lastTo T s T.length = T.idxOf s := by unfold lastTo; rw [List.take_length, if_pos h]
theorem lastTo_out {T : List ByteArray} {s : ByteArray} (h : ¬ s ∈ T) : lastTo T s T.length = -1 := by unfold lastTo; rw [List.take_length, if_neg h]
structure RefRel (S I : TypeId) (B : Nat) (t : Tab) (v2 v3 : Value) (w : World) : Prop where
  tab : w.ownsRow B S 1 v2 t.1.length (strV t.1)
  at_ : w.ownsRow B I 1 v3 t.2.length (intV t.2)
theorem rrel_in {S I : TypeId} {B : Nat} {t : Tab} {s : ByteArray} {u2 u3 v' : Value} {wr w1 : World} {o : Obj} (hne : I ≠ S)
    (hT : wr.ownsRow B S 1 u2 t.1.length (strV t.1)) (hA : wr.ownsRow B I 1 u3 t.2.length (intV t.2)) (hm : s ∈ t.1)
    (hA1 : w1.ownsRow B I 1 v' (t.2.length + 1) (intV t.2 ++ [.int .i64 (List.idxOf s t.1 : Int)])) (hg : (wr.alloc o).grownBy w1 u3.ownBlock) :
    RefRel S I B (step t s) u2 v' w1 := by
  rw [step_in hm]
  refine ⟨(hT.alloc o).kept hg (own_ne hT hA (Ne.symm hne)), ?_⟩
  simpa [intV] using hA1
theorem rrel_out {S I : TypeId} {B : Nat} {t : Tab} {s : ByteArray} {u2 u3 v2 v3 : Value} {w1 w2 w3 : World} {o o' : Obj} (hne : I ≠ S)
    (hT1 : w1.ownsRow B S 1 u2 t.1.length (strV t.1)) (hA1 : w1.ownsRow B I 1 u3 t.2.length (intV t.2)) (hm : ¬ s ∈ t.1)
    (hT2 : w2.ownsRow B S 1 v2 (t.1.length + 1) (strV t.1 ++ [.string s])) (hg2 : (w1.alloc o).grownBy w2 u2.ownBlock)
    (hA3 : w3.ownsRow B I 1 v3 (t.2.length + 1) (intV t.2 ++ [.int .i64 (t.1.length : Int)])) (hg3 : (w2.alloc o').grownBy w3 u3.ownBlock) :
    RefRel S I B (step t s) v2 v3 w3 := by
  have hA2 : w2.ownsRow B I 1 u3 t.2.length (intV t.2) := (hA1.alloc o).kept hg2 (own_ne hA1 hT1 hne)
  rw [step_out hm]
  refine ⟨?_, ?_⟩
  · have := (hT2.alloc o').kept hg3 (own_ne hT2 hA2 (Ne.symm hne))
    simpa [strV] using this
  · simpa [intV] using hA3
theorem map_flat {α : Type} (f : α → Value) (l : List α) : (l.flatMap fun x => [f x]) = l.map f := by induction l <;> simp_all
set_option maxRecDepth 100000 in
theorem rtable_any (n c : Nat) (A : Option Addr) (l : List ByteArray) (w : World) (h : Strs w A n l) (hn : n ≤ 1000) :
    Calls Try.prog 27 #[.slice A n c] w fun e w' => ∃ v2 v3, e = .returned (.tuple #[v2, v3]) ∧ w'.ownsRow w.heap.size 9 1 v2 (tab l).1.length (strV (tab l).1) ∧ w'.ownsRow w.heap.size 3 1 v3 (tab l).2.length (intV (tab l).2) ∧ Below w.heap.size w w' := by
  obtain ⟨i0, hi, hz0, hz1, hz2⟩ := info_parts strInfo
  obtain ⟨j0, hj, hy0, hy1, hy2⟩ := info_parts intInfo
  have hl := Lib.hid (sl1_len Value.string h)
  go_enter Try.func27, Try.ntmps27
  go_wp2
  go_loopw [4, 5, 7, 8, 9, 12] (fun v2 v3 _ _ _ i wr => ∃ k : Nat, k ≤ n ∧ i = .int .i64 k ∧ RefRel 9 3 w.heap.size (tab (l.take k)) v2 v3 wr ∧ Below w.heap.size w wr) (fun _ _ _ _ _ i _ => n - (intOf i).toNat)
  case atStart => exact ⟨0, by omega, rfl, ⟨World.ownsRow_nil _ _ _ _, World.ownsRow_nil _ _ _ _⟩, Below.refl _ _⟩
  case round =>
    obtain ⟨k, hk, rfl, hR, hbel⟩ := hrel
    obtain ⟨hT, hA⟩ := hR
    by_cases hlt : k < n
    · obtain ⟨b, o, s, rfl, hb, hx, hc⟩ := sl1_at Value.string h hl.out hlt
      have hc' := (hbel.cell (p := ⟨b, o + k, none⟩) hb).trans hc
      clear hc
      have hkn : (k : Int) < (n : Int) := by omega
      have htk := Lib.hid (tab_take l k s hx)
      have hlen := Lib.hid (tab_len (l.take k))
      have b1 : (tab (l.take k)).1.length ≤ 1000 := by have := hlen.out.1; simp at this; omega
      have b2 : (tab (l.take k)).2.length ≤ 1000 := by have := hlen.out.2.1; simp at this; omega
      have hB := hbel.size
      generalize htt : tab (l.take k) = t at *
      have Htt := Lib.hid htt
      clear htt
      have hX := Lib.hid hx
      clear hx
      obtain ⟨A2, c2, rfl⟩ := own_form hT
      go_upto_block 2 with fail
      go_cut [8] (fun v wx => v = .int .i64 (lastTo t.1 s t.1.length) ∧ wr = wx)
      case first =>
        go_wp2_with fail
        go_loop [8, 9, 18] (fun v _ i => ∃ j : Nat, j ≤ t.1.length ∧ i = .int .i64 j ∧ v = .int .i64 (lastTo t.1 s j)) (fun _ _ i => t.1.length - (intOf i).toNat)
        case atStart => exact ⟨0, by omega, rfl, valI (lastTo_0 _ _).symm⟩
        case round =>
          obtain ⟨j, hj', rfl, rfl⟩ := hrel
          by_cases hlt2 : j < t.1.length
          · have hSl := Sl.of_own hT
            rw [show strV t.1 = (t.1.flatMap fun x => [Value.string x]) from (map_flat _ _).symm] at hSl
            obtain ⟨b', o', x, rfl, hb', hx, hcx⟩ := sl1_at Value.string hSl rfl hlt2
            clear hSl
            by_cases hxs : x = s
            · subst hxs
              have hh := Lib.hid (lastTo_hit hlen.out.2.2.1 hx)
              clear hx
              go_wp2_with fail
              go_round
              case rel => exact ⟨j + 1, by omega, by go_num, valI hh.out.symm⟩
              case measure => simp [intOf]; omega
            · have hh := Lib.hid (lastTo_miss hx hxs)
              clear hx
              have hne := toList_ne hxs
              have hne' : (x.toList == s.toList) = false := by simpa using hne
              go_wp2_with fail
              go_round
              case rel => exact ⟨j + 1, by omega, by go_num, valI hh.out.symm⟩
              case measure => simp [intOf]; omega
          · obtain rfl : j = t.1.length := by omega
            go_wp2_with fail
            go_meet
            exact ⟨rfl, rfl⟩
      case rest =>
        obtain ⟨rfl, rfl⟩ := hcut
        by_cases hm : s ∈ t.1
        · have hlast := lastTo_in hm
          have hst := Lib.hid (step_in hm)
          rw [hlast]
          clear hlast
          go_wp2_with (first
            | (at_builtin; refine wpList_append_own _ rfl (.tmp 37) (.tmp 39) 42 rfl w.heap.size 3 j0 (.int .i64 0) 1 8 Try.underlying42 hj hy0 hy1 hy2 rfl (by decide) u5 t.2.length (intV t.2) rfl (hA.alloc _) ⟨wr.heap.size, 0, none⟩ 1 1 [.int .i64 (List.idxOf s t.1 : Int)] rfl rfl (cell_one_new _ _ _) (ints_oneCell .i64 [(List.idxOf s t.1 : Int)]) (by unfold maxLen; omega) (by omega) (by simp; omega) ?_; intro v' w1 hA1 hg1 _))
          go_roundw
          case rel => exact ⟨k + 1, by omega, by go_num, by rw [htk.out]; exact rrel_in (by decide) hT hA hm hA1 hg1, grown_own (hbel.alloc hB _) hg1 (by simp; omega) (hA.alloc _)⟩
          case measure => simp [intOf]; omega
        · have hlast := lastTo_out hm
          rw [hlast]
          clear hlast
          go_wp2_with (first
            | (at_builtin; refine wpList_append_own _ rfl (.tmp 33) (.tmp 35) 41 rfl w.heap.size 9 i0 (.string ⟨#[]⟩) 1 16 Try.underlying41 hi hz0 hz1 hz2 rfl (by decide) _ t.1.length (strV t.1) rfl (hT.alloc _) ⟨wr.heap.size, 0, none⟩ 1 1 [.string s] rfl rfl (cell_one_new _ _ _) (by intro u hu; simp at hu; subst hu; rfl) (by unfold maxLen; omega) (by omega) (by simp; omega) ?_; intro v2' w2 hT2 hg2 _; have hA2 := (hA.alloc _).kept hg2 (own_ne hA hT (by decide)); have hb2 := grown_own (hbel.alloc hB _) hg2 (by simp; omega) (hT.alloc _))
            | (at_builtin; refine wpList_append_own _ rfl (.tmp 37) (.tmp 39) 42 rfl w.heap.size 3 j0 (.int .i64 0) 1 8 Try.underlying42 hj hy0 hy1 hy2 rfl (by decide) u5 t.2.length (intV t.2) rfl (hA2.alloc _) ⟨w2.heap.size, 0, none⟩ 1 1 [.int .i64 (t.1.length : Int)] rfl rfl (cell_one_new _ _ _) (ints_oneCell .i64 [(t.1.length : Int)]) (by unfold maxLen; omega) (by omega) (by have := hb2.size; simp; omega) ?_; intro v3' w3 hA3 hg3 _; have hb3 := grown_own (hb2.alloc hb2.size _) hg3 (by have := hb2.size; simp; omega) (hA2.alloc _)))
          go_roundw
          case rel => exact ⟨k + 1, by omega, by go_num, by rw [htk.out]; exact rrel_out (by decide) hT hA hm hT2 hg2 hA3 hg3, hb3⟩
          case measure => simp [intOf]; omega
    · obtain rfl : k = n := by omega
      have htl : l.take k = l := List.take_of_length_le (by rw [hl.out]; exact Nat.le_refl _)
      rw [htl] at hT hA
      go_wp2_with fail
      go_ret2
      exact ⟨_, _, rfl, hT, hA, hbel⟩
end Go.Proofs.Ytoaekpnppinolaa.Keys
