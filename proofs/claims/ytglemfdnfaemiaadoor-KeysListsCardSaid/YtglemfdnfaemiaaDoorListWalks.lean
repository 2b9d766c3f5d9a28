/- keys.List says what klist says. -/
import Derived.Test.YtglemfdnfaemiaaDoorListLaw
import Derived.Test.YtglemfdnfaemiaaDoorMapBool
import Derived.Test.YtglemfdnfaemiaaDoorStepOwn
import Derived.Test.YtglemfdnfaemiaaDoorSpansWalks
namespace Go.Proofs.YtglemfdnfaemiaaDoor
open Go.RowKit As Go.Maps
theorem boolZero (w : World) : (zeroValue 4).run Tryd.prog w = .ok (.bool false) w := by kernel_rfl
theorem strKeyed : Keyed Tryd.prog 9 := string_keyed Tryd.underlying9
theorem own_map_ne' {P : Program} {w : World} {base : Nat} {e : TypeId} {size n : Nat} {v : Value} {xs : List Value} {k : TypeId} {R : Value → Option (DataW Unit × List MemPlace)} {b m : Nat} {D : DataW Unit}
    (h : w.ownsRow base e size v n xs) (hm : w.ownsMap P k R b m D) : some b ≠ v.ownBlock := by
  obtain ⟨es, clock, hb, _⟩ := hm
  rcases h.2 with ⟨rfl, _⟩ | ⟨g, cap, cur, rfl, _, hh, _⟩
  · simp [Value.ownBlock]
  · intro e0
    have : b = g := by simpa [Value.ownBlock] using e0
    subst this
    rw [hb] at hh
    injection hh with hh
    cases hh
set_option maxHeartbeats 2000000 in
set_option maxRecDepth 100000 in
theorem klist_any (n c n' c' : Nat) (A A' : Option Addr) (T : List ByteArray) (l : List Int) (w : World) (h : Strs w A n T) (h' : Ints w A' n' l) (hn : n ≤ 1000) (hn' : n' ≤ 1000) (hsz : ∀ s ∈ T, s.size ≤ maxLen) (hli : ∀ x ∈ l, -9223372036854775808 ≤ x ∧ x ≤ 9223372036854775807) :
    Calls Tryd.prog 36 #[.slice A n c, .slice A' n' c'] w fun e w' => ∃ v x, e = .returned (.tuple #[v, x]) ∧ w'.ownsRow w.heap.size 9 1 v (klist T l).1.length ((klist T l).1.map Value.string) ∧ ErrIs w' x (klist T l).2.1 (klist T l).2.2 ∧ Below w.heap.size w w' := by
  have hmm := @run_makeMap Tryd.prog
  obtain ⟨i0, hi, hz0, hz1, hz2⟩ := info_parts strInfo
  have hT := Lib.hid (sl1_len Value.string h)
  have hL := Lib.hid (sl1_len (Value.int .i64) h')
  go_enter Tryd.func36, Tryd.ntmps36
  go_wp2
  go_loopw [7, 8, 16] (fun _ _ i wr => ∃ k : Nat, k ≤ n ∧ i = .int .i64 k ∧ KT T k ∧ (∃ D : DataW Unit, wr.ownsMap Tryd.prog 9 (plainElem Tryd.prog 4) w.heap.size k D ∧ SaysOf D (T.take k)) ∧ Below w.heap.size w wr) (fun _ _ i _ => n - (intOf i).toNat)
  case atStart => exact ⟨0, by omega, rfl, KT.zero T, ⟨_, World.ownsMap_made _ _ _ _, SaysOf.nil⟩, below1 _ _⟩
  case round =>
    obtain ⟨k, hk, rfl, hkt, ⟨D, hM, hD⟩, hbel⟩ := hrel
    have HK := Lib.hid hkt
    clear hkt
    have hB := hbel.size
    by_cases hlt : k < n
    · obtain ⟨b, o, s, rfl, hb, hx, hc⟩ := sl1_at Value.string h hT.out hlt
      have hc' := (hbel.cell (p := ⟨b, o + k, none⟩) hb).trans hc
      clear hc
      have hs : s.size ≤ maxLen := hsz s (List.mem_of_getElem? hx)
      have hkn : (k : Int) < (n : Int) := by omega
      have hat := hD s
      have htk := Lib.hid (show T.take (k + 1) = T.take k ++ [s] by
        obtain ⟨h1, h2⟩ := List.getElem?_eq_some_iff.1 hx
        rw [List.take_succ_eq_append_getElem h1, h2])
      have hX := Lib.hid hx
      clear hx
      have HD := Lib.hid hD
      clear hD
      by_cases hm : s ∈ T.take k
      · have hres := Lib.hid (klist_twice (a := l) (HK.out.hit hX.out hm))
        rw [decide_eq_true hm] at hat
        have HAT := Lib.hid hat
        clear hat
        go_wp2_with (first
          | (at_lookup; refine wpList_lookup_own_bool _ rfl _ _ 146 rfl 9 4 strKeyed Tryd.underlying146 Tryd.underlying4 (boolZero _) w.heap.size k D rfl hM _ _ rfl (WideMaps.keyOf_string_mk Tryd.underlying9 hs) true HAT.out ?_))
        go_ret2
        refine ⟨_, _, rfl, ?_, ?_, hbel.alloc hB _⟩
        · rw [hres.out]; exact World.ownsRow_nil _ _ _ _
        · rw [hres.out]; exact err_at _ _ 9 k (by omega) rfl
      · have hnext := Lib.hid (HK.out.succ hX.out hm)
        rw [decide_eq_false hm] at hat
        have HAT := Lib.hid hat
        clear hat
        go_wp2_with (first
          | (at_lookup; refine wpList_lookup_own_bool _ rfl _ _ 146 rfl 9 4 strKeyed Tryd.underlying146 Tryd.underlying4 (boolZero _) w.heap.size k D rfl hM _ _ rfl (WideMaps.keyOf_string_mk Tryd.underlying9 hs) false HAT.out ?_)
          | (at_mapUpdate; refine wpList_mapUpdate_own _ rfl _ _ _ 146 rfl 9 4 strKeyed Tryd.underlying146 _ w.heap.size k D rfl hM (by unfold maxLen; omega) _ _ _ rfl rfl (WideMaps.keyOf_string_mk Tryd.underlying9 hs) _ [] (plainElem_bool Tryd.underlying4 true) ?_; intro w1 hM1 hg1; have hb1 := hbel.grown hg1 hB (fun j hj => by cases hj; exact Nat.le_refl _)))
        go_roundw
        case rel => exact ⟨k + 1, by omega, by go_num, hnext.out, ⟨_, hM1, by rw [htk.out]; exact HD.out.put hM.isMap⟩, hb1⟩
        case measure => simp [intOf]; omega
    · obtain rfl : k = n := by omega
      have honce := HK.out.all (by rw [hT.out]; exact Nat.le_refl _)
      have hres := Lib.hid (klist_once (a := l) honce)
      clear honce hlt hM hD
      go_wp2
      go_loopw [9, 10, 11, 12, 33] (fun v m _ _ i wx => ∃ (k next : Nat) (out : List ByteArray), k ≤ n' ∧ i = .int .i64 k ∧ m = .int .i64 next ∧ KA T l k next out ∧ wx.ownsRow w.heap.size 9 1 v out.length (out.map Value.string) ∧ Below w.heap.size w wx) (fun _ _ _ _ i _ => n' - (intOf i).toNat)
      case atStart => exact ⟨0, 0, [], by omega, rfl, rfl, KA.zero T l, World.ownsRow_nil _ _ _ _, hbel⟩
      case round =>
        clear hbel hB
        obtain ⟨j, next, out, hj, rfl, rfl, hka, hO, hbel⟩ := hrel
        have hB := hbel.size
        have hol := hka.len
        have hnx := hka.le
        have hnx' := hka.le'
        have hTl := hT.out
        rw [hTl] at hnx
        have HKA := Lib.hid hka
        have HTL := Lib.hid hTl
        clear hka hTl
        by_cases hlt : j < n'
        · obtain ⟨b, o, x, rfl, hb, hx, hc⟩ := sl1_at (Value.int .i64) h' hL.out hlt
          have hc' := (hbel.cell (p := ⟨b, o + j, none⟩) hb).trans hc
          clear hc
          have hxi := hli x (List.mem_of_getElem? hx)
          have hX := Lib.hid hx
          clear hx
          by_cases h1 : x < 0 ∨ (k : Int) ≤ x
          · have hr := Lib.hid (HKA.out.range hX.out (by rw [HTL.out]; exact h1))
            have hq : decide (x < 0) = true ∨ (decide (x < 0) = false ∧ decide ((k : Int) ≤ x) = true) := by
              simp only [decide_eq_true_eq, decide_eq_false_iff_not]; omega
            clear h1
            rcases hq with d0 | ⟨d0, d1⟩
            all_goals
              go_wp2
              go_ret2
              refine ⟨_, _, rfl, ?_, ?_, hbel.alloc hB _⟩
              · rw [hres.out, hr.out]; exact World.ownsRow_nil _ _ _ _
              · rw [hres.out, hr.out]; exact err_at _ _ 2 j (by omega) rfl
          · have d0 : decide (x < 0) = false := by simp; omega
            have d1 : decide ((k : Int) ≤ x) = false := by simp; omega
            have H1 := Lib.hid h1
            by_cases h2 : (next : Int) < x
            · have hr := Lib.hid (HKA.out.false hX.out (by rw [HTL.out]; exact h1) h2)
              have d2 : decide ((next : Int) < x) = true := by simpa using h2
              clear h1 h2
              go_wp2
              go_ret2
              refine ⟨_, _, rfl, ?_, ?_, hbel.alloc hB _⟩
              · rw [hres.out, hr.out]; exact World.ownsRow_nil _ _ _ _
              · rw [hres.out, hr.out]; exact err_at _ _ 13 j (by omega) rfl
            · have d2 : decide ((next : Int) < x) = false := by simpa using h2
              obtain ⟨y, rfl⟩ := Int.eq_ofNat_of_zero_le (show 0 ≤ x by omega)
              have hyk : y < k := by omega
              have d1' : decide (k ≤ y) = false := by simpa using hyk
              have d2' : decide (next < y) = false := by simp; omega
              obtain ⟨b2, o2, s2, rfl, hb2, hx2, hc2⟩ := sl1_at Value.string h hT.out hyk
              have hc3 := (hbel.cell (p := ⟨b2, o2 + y, none⟩) hb2).trans hc2
              have hg2 := Lib.hid (show T.getD (y : Int).toNat (strOf []) = s2 by rw [Int.toNat_natCast]; simp [List.getD, hx2])
              have hX2 := Lib.hid hx2
              clear hc2 hx2
              by_cases h3 : y = next
              · have hnew := HKA.out.new hX.out (by rw [HTL.out]; exact h1) (by rw [h3])
                rw [hg2.out] at hnew
                have HNEW := Lib.hid hnew
                have d3 : ((y : Int) == (next : Int)) = true := by rw [h3]; simp
                clear h1 h2 hnew
                subst h3
                go_wp2_with (first
                  | (at_builtin; refine wpList_append_own _ rfl (.tmp 65) (.tmp 70) 45 rfl w.heap.size 9 i0 (.string ⟨#[]⟩) 1 16 Tryd.underlying45 hi hz0 hz1 hz2 rfl (by decide) u9 out.length (out.map Value.string) rfl (hO.alloc _) ⟨wr.heap.size, 0, none⟩ 1 1 [.string s2] rfl rfl (cells_new1 _ _ _) (by intro u hu; simp at hu; subst hu; rfl) (by unfold maxLen; omega) (by omega) (by simp; omega) ?_; intro v1 w2 hO2 hg3 _; have hb3 := grown_own (hbel.alloc hB _) hg3 (by simp; omega) (hO.alloc _); have hO3 := ownStr_snoc rfl hO2))
                go_roundw
                case rel => exact ⟨j + 1, y + 1, _, by omega, by go_num, by go_num, HNEW.out, hO3, hb3⟩
                case measure => simp [intOf]; omega
              · have hold := HKA.out.old hX.out (by rw [HTL.out]; exact h1) (show (y : Int) < (next : Int) by omega)
                rw [hg2.out] at hold
                have HOLD := Lib.hid hold
                have d3 : ((y : Int) == (next : Int)) = false := by rw [beq_eq_false_iff_ne]; omega
                clear h1 h2 hold
                go_wp2_with (first
                  | (at_builtin; refine wpList_append_own _ rfl (.tmp 65) (.tmp 70) 45 rfl w.heap.size 9 i0 (.string ⟨#[]⟩) 1 16 Tryd.underlying45 hi hz0 hz1 hz2 rfl (by decide) u9 out.length (out.map Value.string) rfl (hO.alloc _) ⟨wr.heap.size, 0, none⟩ 1 1 [.string s2] rfl rfl (cells_new1 _ _ _) (by intro u hu; simp at hu; subst hu; rfl) (by unfold maxLen; omega) (by omega) (by simp; omega) ?_; intro v1 w2 hO2 hg3 _; have hb3 := grown_own (hbel.alloc hB _) hg3 (by simp; omega) (hO.alloc _); have hO3 := ownStr_snoc rfl hO2))
                go_roundw
                case rel => exact ⟨j + 1, next, _, by omega, by go_num, rfl, HOLD.out, hO3, hb3⟩
                case measure => simp [intOf]; omega
        · obtain rfl : j = n' := by omega
          by_cases h4 : next < k
          · have hr := Lib.hid (HKA.out.less (by rw [hL.out]; exact Nat.le_refl _) (by rw [HTL.out]; exact h4))
            have d4 : decide (next < k) = true := by simpa using h4
            clear h4
            go_wp2
            go_ret2
            refine ⟨_, _, rfl, ?_, ?_, hbel⟩
            · rw [hres.out, hr.out]; exact World.ownsRow_nil _ _ _ _
            · rw [hres.out, hr.out]; exact .bare 8 (by omega)
          · have hr := Lib.hid (HKA.out.done (by rw [hL.out]; exact Nat.le_refl _) (by rw [HTL.out]; exact h4))
            have d4 : decide (next < k) = false := by simpa using h4
            clear h4
            go_wp2
            go_ret2
            refine ⟨_, _, rfl, ?_, ?_, hbel⟩
            · rw [hres.out, hr.out]; exact hO
            · rw [hres.out, hr.out]; exact .none
end Go.Proofs.YtglemfdnfaemiaaDoor
