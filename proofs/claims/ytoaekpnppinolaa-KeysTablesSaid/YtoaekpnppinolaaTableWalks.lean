/- The Go functions Table of package keys and of the reference compute what the plain function tab says. -/
import Derived.Test.YtoaekpnppinolaaTableLaw
import Derived.KernelRfl
import Derived.OwnWalk
import Derived.Maps.AppendAt
import Derived.Deep.DeepCutAuto
import Derived.Deep.Cut
import Derived.Deep.CutBlock
namespace Go.Proofs.Ytoaekpnppinolaa.Keys
open Go.RowKit Go.Maps
theorem strLaw : Keyed Try.prog 9 := string_keyed Try.underlying9
theorem intZero (w : World) : (zeroValue 3).run Try.prog w = .ok (.int .i64 0) w := by kernel_rfl
theorem strInfo : (Try.prog.info? 9).map (fun i => (i.zero, i.size, i.bytes)) = some (some (.string ⟨#[]⟩), 1, 16) := by kernel_rfl
theorem intInfo : (Try.prog.info? 3).map (fun i => (i.zero, i.size, i.bytes)) = some (some (.int .i64 0), 1, 8) := by kernel_rfl
abbrev strV (T : List ByteArray) : List Value := T.map Value.string
abbrev intV (T : List Int) : List Value := T.map (Value.int .i64)
/-- What the loop holds after k keys. -/
structure TabRel (P : Program) (S I : TypeId) (B : Nat) (t : Tab) (k : Nat) (v2 v3 : Value) (w : World) : Prop where
  tab : w.ownsRow B S 1 v2 t.1.length (strV t.1)
  at_ : w.ownsRow B I 1 v3 t.2.length (intV t.2)
  map : ∃ D : DataW Unit, w.ownsMap P S (plainElem P I) B k D ∧ Tied D t.1
theorem own_map_ne {P : Program} {w : World} {base : Nat} {e : TypeId} {size n : Nat} {v : Value} {xs : List Value} {k : TypeId} {R : Value → Option (DataW Unit × List MemPlace)} {b m : Nat} {D : DataW Unit}
    (h : w.ownsRow base e size v n xs) (hm : w.ownsMap P k R b m D) : some b ≠ v.ownBlock := by
  obtain ⟨es, clock, hb, _⟩ := hm
  rcases h.2 with ⟨rfl, _⟩ | ⟨g, cap, cur, rfl, _, hh, _⟩
  · simp [Value.ownBlock]
  · intro e0
    have : b = g := by simpa [Value.ownBlock] using e0
    subst this
    rw [hb] at hh
    injection hh with hh
    cases hh
theorem rel_in {P : Program} {S I : TypeId} {B k : Nat} {t : Tab} {s : ByteArray} {u2 u3 v' : Value} {wr w1 : World} {o : Obj} {D : DataW Unit} {c1 : Int} (hne : I ≠ S)
    (hT : wr.ownsRow B S 1 u2 t.1.length (strV t.1)) (hA : wr.ownsRow B I 1 u3 t.2.length (intV t.2)) (hM : wr.ownsMap P S (plainElem P I) B k D) (hD : Tied D t.1) (hm : s ∈ t.1)
    (hat : D.atKey (.string s.data.toList) (.lit (.int .i64 0)) = .lit (.int .i64 c1)) (hA1 : w1.ownsRow B I 1 v' (t.2.length + 1) (intV t.2 ++ [.int .i64 c1])) (hg : (wr.alloc o).grownBy w1 u3.ownBlock) :
    TabRel P S I B (step t s) (k + 1) u2 v' w1 := by
  have hc : c1 = (t.1.idxOf s : Int) := by
    have := (hD s).2 hm
    rw [hat] at this
    injection this with this
    injection this
  rw [step_in hm]
  refine ⟨(hT.alloc o).kept hg (own_ne hT hA (Ne.symm hne)), ?_, D, ((hM.alloc o).kept hg (own_map_ne hA hM)).mono (by omega), hD⟩
  subst hc
  simpa [intV] using hA1
theorem rel_out {P : Program} {S I : TypeId} {B k : Nat} {t : Tab} {s : ByteArray} {u2 u3 v2 v3 : Value} {wr w1 w2 w3 : World} {o o' : Obj} {D : DataW Unit} (hne : I ≠ S)
    (hT : wr.ownsRow B S 1 u2 t.1.length (strV t.1)) (hA : wr.ownsRow B I 1 u3 t.2.length (intV t.2)) (hM : wr.ownsMap P S (plainElem P I) B k D) (hD : Tied D t.1) (hm : ¬ s ∈ t.1)
    (hM1 : w1.ownsMap P S (plainElem P I) B (k + 1) (D.put (.string s.data.toList) (.lit (.int .i64 (t.1.length : Int))))) (hg1 : wr.grownBy w1 (some B))
    (hT2 : w2.ownsRow B S 1 v2 (t.1.length + 1) (strV t.1 ++ [.string s])) (hg2 : (w1.alloc o).grownBy w2 u2.ownBlock)
    (hA3 : w3.ownsRow B I 1 v3 (t.2.length + 1) (intV t.2 ++ [.int .i64 (t.1.length : Int)])) (hg3 : (w2.alloc o').grownBy w3 u3.ownBlock) :
    TabRel P S I B (step t s) (k + 1) v2 v3 w3 := by
  have hT1 : w1.ownsRow B S 1 u2 t.1.length (strV t.1) := hT.kept hg1 (.inr (own_map_ne hT hM).symm)
  have hA1 : w1.ownsRow B I 1 u3 t.2.length (intV t.2) := hA.kept hg1 (.inr (own_map_ne hA hM).symm)
  have hA2 : w2.ownsRow B I 1 u3 t.2.length (intV t.2) := (hA1.alloc o).kept hg2 (own_ne hA1 hT1 hne)
  have hM2 := (hM1.alloc o).kept hg2 (own_map_ne hT1 hM1)
  rw [step_out hm]
  refine ⟨?_, ?_, _, (hM2.alloc o').kept hg3 (own_map_ne hA2 hM2), hD.put hM.isMap hm⟩
  · have := (hT2.alloc o').kept hg3 (own_ne hT2 hA2 (Ne.symm hne))
    simpa [strV] using this
  · simpa [intV] using hA3
set_option maxRecDepth 100000 in
theorem table_any (n c : Nat) (A : Option Addr) (l : List ByteArray) (w : World) (h : Strs w A n l) (hn : n ≤ 1000) (hsz : ∀ s ∈ l, s.size ≤ maxLen) :
    Calls Try.prog 28 #[.slice A n c] w fun e w' => ∃ v2 v3, e = .returned (.tuple #[v2, v3]) ∧ w'.ownsRow w.heap.size 9 1 v2 (tab l).1.length (strV (tab l).1) ∧ w'.ownsRow w.heap.size 3 1 v3 (tab l).2.length (intV (tab l).2) ∧ Below w.heap.size w w' := by
  have hmm := @run_makeMap Try.prog
  obtain ⟨i0, hi, hz0, hz1, hz2⟩ := info_parts strInfo
  obtain ⟨j0, hj, hy0, hy1, hy2⟩ := info_parts intInfo
  have hl := Lib.hid (sl1_len Value.string h)
  go_enter Try.func28, Try.ntmps28
  go_wp2
  go_loopw [2, 3, 6, 7, 8, 12] (fun v2 v3 _ _ _ i wr => ∃ k : Nat, k ≤ n ∧ i = .int .i64 k ∧ TabRel Try.prog 9 3 w.heap.size (tab (l.take k)) k v2 v3 wr ∧ Below w.heap.size w wr) (fun _ _ _ _ _ i _ => n - (intOf i).toNat)
  case atStart => exact ⟨0, by omega, rfl, ⟨World.ownsRow_nil _ _ _ _, World.ownsRow_nil _ _ _ _, ⟨_, World.ownsMap_made _ _ _ _, Tied.nil⟩⟩, (Below.refl _ _).alloc (Nat.le_refl _) _⟩
  case round =>
    obtain ⟨k, hk, rfl, hR, hbel⟩ := hrel
    obtain ⟨hT, hA, D, hM, hD⟩ := hR
    by_cases hlt : k < n
    · obtain ⟨b, o, s, rfl, hb, hx, hc⟩ := sl1_at Value.string h hl.out hlt
      have hc' := (hbel.cell (p := ⟨b, o + k, none⟩) hb).trans hc
      clear hc
      have hs : s.size ≤ maxLen := hsz s (List.mem_of_getElem? hx)
      have hkn : (k : Int) < (n : Int) := by omega
      have htk := Lib.hid (tab_take l k s hx)
      have hlen := Lib.hid (tab_len (l.take k))
      have b1 : (tab (l.take k)).1.length ≤ 1000 := by have := hlen.out.1; simp at this; omega
      have b2 : (tab (l.take k)).2.length ≤ 1000 := by have := hlen.out.2.1; simp at this; omega
      have hB := hbel.size
      have hone := own_ne hA hT (by decide)
      have hone' := own_ne hT hA (by decide)
      have hmA := own_map_ne hA hM
      have hmT := own_map_ne hT hM
      generalize htt : tab (l.take k) = t at *
      have Htt := Lib.hid htt
      clear htt
      have hX := Lib.hid hx
      clear hx
      by_cases hm : s ∈ t.1
      · have hhas : Maps.has D (.string s.data.toList) = true := by rw [(hD s).1]; simpa using hm
        have hidx := Lib.hid ((hD s).2 hm)
        have hst := Lib.hid (step_in hm)
        go_wp2_with (first
          | (at_lookup; refine wpList_lookup_own_ok_int _ rfl _ _ 74 rfl 9 3 .i64 strLaw Try.underlying74 Try.underlying3 (intZero _) w.heap.size k D rfl hM _ _ rfl (WideMaps.keyOf_string_mk Try.underlying9 hs) ?_; intro c1 hat hwc; rw [hhas])
          | (at_builtin; refine wpList_append_own _ rfl (.tmp 33) (.tmp 35) 42 rfl w.heap.size 3 j0 (.int .i64 0) 1 8 Try.underlying42 hj hy0 hy1 hy2 rfl (by decide) u3 t.2.length (intV t.2) rfl (hA.alloc _) ⟨wr.heap.size, 0, none⟩ 1 1 [.int .i64 c1] rfl rfl (cell_one_new _ _ _) (ints_oneCell .i64 [c1]) (by unfold maxLen; omega) (by omega) (by simp; omega) ?_; intro v' w1 hA1 hg1 _))
        go_roundw
        case rel => exact ⟨k + 1, by omega, by go_num, by rw [htk.out]; exact rel_in (by decide) hT hA hM hD hm hat hA1 hg1, grown_own (hbel.alloc hB _) hg1 (by simp; omega) (hA.alloc _)⟩
        case measure => simp [intOf]; omega
      · have hhas : Maps.has D (.string s.data.toList) = false := by rw [(hD s).1]; simpa using hm
        have hst := Lib.hid (step_out hm)
        obtain ⟨A2, c2, rfl⟩ := own_form hT
        go_wp2_with (first
          | (at_lookup; refine wpList_lookup_own_ok_int _ rfl _ _ 74 rfl 9 3 .i64 strLaw Try.underlying74 Try.underlying3 (intZero _) w.heap.size k D rfl hM _ _ rfl (WideMaps.keyOf_string_mk Try.underlying9 hs) ?_; intro c1 hat hwc; rw [hhas])
          | (at_mapUpdate; refine wpList_mapUpdate_own _ rfl _ _ _ 74 rfl 9 3 strLaw Try.underlying74 _ w.heap.size k D rfl hM (by unfold maxLen; omega) _ _ _ rfl rfl (WideMaps.keyOf_string_mk Try.underlying9 hs) _ [] (plainElem_int Try.underlying3 (WalkArith.wf_i64 (by omega))) ?_; intro w1 hM1 hg1; have hT1 := hT.kept hg1 (.inr hmT.symm); have hA1 := hA.kept hg1 (.inr hmA.symm); have hb1 := hbel.grown hg1 hB (fun j hj => by cases hj; exact Nat.le_refl _))
          | (at_builtin; refine wpList_append_own _ rfl (.tmp 29) (.tmp 31) 41 rfl w.heap.size 9 i0 (.string ⟨#[]⟩) 1 16 Try.underlying41 hi hz0 hz1 hz2 rfl (by decide) _ t.1.length (strV t.1) rfl (hT1.alloc _) ⟨w1.heap.size, 0, none⟩ 1 1 [.string s] rfl rfl (cell_one_new _ _ _) (by intro u hu; simp at hu; subst hu; rfl) (by unfold maxLen; omega) (by omega) (by have := hb1.size; simp; omega) ?_; intro v2' w2 hT2 hg2 _; have hA2 := (hA1.alloc _).kept hg2 (own_ne hA1 hT1 (by decide)); have hb2 := grown_own (hb1.alloc hb1.size _) hg2 (by have := hb1.size; simp; omega) (hT1.alloc _))
          | (at_builtin; refine wpList_append_own _ rfl (.tmp 33) (.tmp 35) 42 rfl w.heap.size 3 j0 (.int .i64 0) 1 8 Try.underlying42 hj hy0 hy1 hy2 rfl (by decide) u3 t.2.length (intV t.2) rfl (hA2.alloc _) ⟨w2.heap.size, 0, none⟩ 1 1 [.int .i64 (t.1.length : Int)] rfl rfl (cell_one_new _ _ _) (ints_oneCell .i64 [(t.1.length : Int)]) (by unfold maxLen; omega) (by omega) (by have := hb2.size; simp; omega) ?_; intro v3' w3 hA3 hg3 _; have hb3 := grown_own (hb2.alloc hb2.size _) hg3 (by have := hb2.size; simp; omega) (hA2.alloc _)))
        go_roundw
        case rel => exact ⟨k + 1, by omega, by go_num, by rw [htk.out]; exact rel_out (by decide) hT hA hM hD hm hM1 hg1 hT2 hg2 hA3 hg3, hb3⟩
        case measure => simp [intOf]; omega
    · obtain rfl : k = n := by omega
      have htl : l.take k = l := List.take_of_length_le (by rw [hl.out]; exact Nat.le_refl _)
      rw [htl] at hT hA
      go_wp2_with fail
      go_ret2
      exact ⟨_, _, rfl, hT, hA, hbel⟩
end Go.Proofs.Ytoaekpnppinolaa.Keys
