/- List of the reference says what klist says.

WriteRight of the reference says what wright says. Printed by gen_write2.py. -/
import Derived.Test.YtnaclpfcldoebaaGreatDoorZ9
import Derived.Deep.QuietTactic
import Derived.BigQuiet
import Derived.Test.YtnaclpfcldoebaaGreatDoorZ7
import Derived.Test.YtnaclpfcldoebaaGreatDoorZ2
import Derived.Test.YtnaclpfcldoebaaGreatDoorShelfItoa
section
namespace Go.Proofs.YtnaclpfcldoebaaGreatDoor
open Go.RowKit As Go.Maps
theorem intKeyed : Keyed Tryz.prog 3 := int_keyed Tryz.underlying3
theorem not_in_succ {T : List ByteArray} {m : Nat} {s s2 : ByteArray} (h : ¬ s ∈ T.take m) (hx : T[m]? = some s2) (hne : s2 ≠ s) : ¬ s ∈ T.take (m + 1) := by
  obtain ⟨h1, h2⟩ := List.getElem?_eq_some_iff.1 hx
  rw [List.take_succ_eq_append_getElem h1, h2]
  simp only [List.mem_append, List.mem_singleton]
  rintro (h3 | h3)
  · exact h h3
  · exact hne h3.symm
theorem in_take {T : List ByteArray} {m k : Nat} {s : ByteArray} (hx : T[m]? = some s) (hm : m < k) : s ∈ T.take k := by
  have : (T.take k)[m]? = some s := by rw [List.getElem?_take_of_lt hm]; exact hx
  exact List.mem_of_getElem? this
set_option maxHeartbeats 4000000 in
set_option maxRecDepth 100000 in
theorem rlist_any (n c n' c' : Nat) (A A' : Option Addr) (T : List ByteArray) (l : List Int) (w : World) (h : Strs w A n T) (h' : Ints w A' n' l) (hn : n ≤ 1000) (hn' : n' ≤ 1000) (hli : ∀ x ∈ l, -9223372036854775808 ≤ x ∧ x ≤ 9223372036854775807) :
    Calls Tryz.prog 19 #[.slice A n c, .slice A' n' c'] w fun e w' => ∃ v, e = .returned (.tuple #[v, faultV (klist T l).2]) ∧ w'.ownsRow w.heap.size 9 1 v (klist T l).1.length ((klist T l).1.map Value.string) ∧ Below w.heap.size w w' := by
  have hmm := @run_makeMap Tryz.prog
  obtain ⟨i0, hi, hz0, hz1, hz2⟩ := info_parts strInfo
  have hT := Lib.hid (sl1_len Value.string h)
  have hL := Lib.hid (sl1_len (Value.int .i64) h')
  go_enter Tryz.func19, Tryz.ntmps19
  go_wp2
  go_loopw [6, 7, 14] (fun _ _ i wr => ∃ k : Nat, k ≤ n ∧ i = .int .i64 k ∧ KT T k ∧ Two wr w.heap.size 0 0 ∧ Below w.heap.size w wr) (fun _ _ i _ => n - (intOf i).toNat)
  case atStart => exact ⟨0, by omega, rfl, KT.zero T, Two.new _ _ _ _, below1 _ _⟩
  case round =>
    obtain ⟨k, hk, rfl, hkt, h2, hbel⟩ := hrel
    have HK := Lib.hid hkt
    clear hkt
    have hB := hbel.size
    by_cases hlt : k < n
    · obtain ⟨b, o, s, rfl, hb, hx, hc⟩ := sl1_at Value.string h hT.out hlt
      have hkn : (k : Int) < (n : Int) := by omega
      have hX := Lib.hid hx
      clear hx
      go_wp2
      go_loopw [7, 18] (fun _ j wx => ∃ m : Nat, m ≤ k ∧ j = .int .i64 m ∧ Hid (¬ s ∈ T.take m) ∧ Two wx w.heap.size 0 0 ∧ Below w.heap.size w wx) (fun _ j _ => k - (intOf j).toNat)
      case atStart => exact ⟨0, by omega, rfl, Lib.hid (by simp), h2, hbel⟩
      case round =>
        clear h2 hbel hB
        obtain ⟨m, hm, rfl, hni, h2, hbel⟩ := hrel
        have hB := hbel.size
        have c1 := (hbel.cell (p := ⟨b, o + k, none⟩) hb).trans hc
        by_cases hlt2 : m < k
        · obtain ⟨b', o', s2, e', hb', hx2, hc2⟩ := sl1_at Value.string h hT.out (k := m) (by omega)
          injection e' with e'
          injection e' with e1 e2
          subst e1 e2
          have c2 := (hbel.cell (p := ⟨b, o + m, none⟩) hb).trans hc2
          have hmn : (m : Int) < (n : Int) := by omega
          have hX2 := Lib.hid hx2
          clear hx2 hc2
          by_cases hss : s2 = s
          · subst hss
            have hres := Lib.hid (klist_twice (a := l) (HK.out.hit hX.out (in_take hX2.out hlt2)))
            obtain ⟨d0, d1, f0, f1⟩ := h2
            go_wp2
            go_quiet (fail)
            have S := set2 (w := wr.drewN nq) (.int .i64 9) (.int .i64 (k : Int)) d0 d1
            go_wp2
            refine bodyPost_ret (v := .tuple #[.slice none 0 0, .agg #[.int .i64 9, .int .i64 (k : Int)]]) (by simp [results, Tryz.results19, go_sem, S.1, S.2]) rfl ⟨.slice none 0 0, by rw [hres.out]; rfl, ?_, below_set2 _ _ (below_drewN hbel _) (Nat.le_refl _)⟩
            rw [hres.out]; exact World.ownsRow_nil _ _ _ _
          · have hne : (s2.toList == s.toList) = false := by have := toList_ne hss; simpa using this
            have hnx := Lib.hid (not_in_succ hni.out hX2.out hss)
            have Hss := Lib.hid hss
            clear hss
            go_wp2
            go_quiet (fail)
            go_wp2
            go_roundw
            case rel => exact ⟨m + 1, by omega, by go_num, hnx, h2.below (below_drewN (Below.refl _ _) _), below_drewN hbel _⟩
            case measure => simp [intOf]; omega
        · obtain rfl : m = k := by omega
          have hnext := Lib.hid (HK.out.succ hX.out hni.out)
          go_wp2
          go_roundw
          case rel => exact ⟨m + 1, by omega, by go_num, hnext.out, h2, hbel⟩
          case measure => simp [intOf]; omega
    · obtain rfl : k = n := by omega
      have honce := HK.out.all (by rw [hT.out]; exact Nat.le_refl _)
      have hres := Lib.hid (klist_once (a := l) honce)
      clear honce hlt HK
      have hs0 := h2.lt
      have hT2 := Lib.hid h2
      go_wp2
      obtain ⟨wA, hwA⟩ : ∃ wA, wA = wr := ⟨_, rfl⟩
      rw [← hwA] at hs0 hT2 hbel ⊢
      clear hwA h2 hB
      go_loopw [8, 10, 11, 37] (fun v _ _ i wx => ∃ (j next : Nat) (out : List ByteArray), j ≤ n' ∧ i = .int .i64 j ∧ KA T l j next out ∧ wx.ownsRow wA.heap.size 9 1 v out.length (out.map Value.string) ∧ (∃ D : DataW Unit, wx.ownsMap Tryz.prog 3 (plainElem Tryz.prog 4) wA.heap.size j D ∧ Upto D next) ∧ Below wA.heap.size wA wx) (fun _ _ _ i _ => n' - (intOf i).toNat)
      case atStart => exact ⟨0, 0, [], by omega, rfl, KA.zero T l, World.ownsRow_nil _ _ _ _, ⟨_, World.ownsMap_made _ _ _ _, Upto.nil⟩, below1 _ _⟩
      case round =>
        obtain ⟨j, next, out, hj, rfl, hka, hO, ⟨D, hM, hD⟩, hbx⟩ := hrel
        have hB := hbx.size
        have hbel2 := hbel.trans (hbx.mono hbel.size)
        have hB2 := hbel2.size
        have hol := hka.len
        have hnx := hka.le
        have hnx' := hka.le'
        have hTl := hT.out
        rw [hTl] at hnx
        have HKA := Lib.hid hka
        have HTL := Lib.hid hTl
        have HD := Lib.hid hD
        have hsz := Lib.hid hD.1
        clear hka hTl hD
        obtain ⟨d0, d1, f0, f1⟩ := hT2.out.keep hbx hs0
        have hs1 : w.heap.size < wr.heap.size := by omega
        by_cases hlt : j < n'
        · obtain ⟨b, o, x, rfl, hb, hx, hc⟩ := sl1_at (Value.int .i64) h' hL.out hlt
          have hc' := (hbel2.cell (p := ⟨b, o + j, none⟩) hb).trans hc
          clear hc
          have hxi := hli x (List.mem_of_getElem? hx)
          have hX := Lib.hid hx
          clear hx
          by_cases h1 : x < 0 ∨ (k : Int) ≤ x
          · have hr := Lib.hid (HKA.out.range hX.out (by rw [HTL.out]; exact h1))
            have B0 := Lib.hid (show inB x 0 ((k : Int) - 1) = false by unfold inB; rw [decide_eq_false]; omega)
            have S := set2 (.int .i64 2) (.int .i64 (j : Int)) d0 d1
            clear h1
            go_wp2_with fail
            refine (within_is B0 _).mono ?_
            rintro e w' ⟨rfl, rfl⟩
            go_wp2
            refine bodyPost_ret (v := .tuple #[.slice none 0 0, .agg #[.int .i64 2, .int .i64 (j : Int)]]) (by simp [results, Tryz.results19, go_sem, S.1, S.2]) rfl ⟨.slice none 0 0, by rw [hres.out, hr.out]; rfl, ?_, below_set2 _ _ hbel2 (Nat.le_refl _)⟩
            rw [hres.out, hr.out]; exact World.ownsRow_nil _ _ _ _
          · have B0 := Lib.hid (show inB x 0 ((k : Int) - 1) = true by unfold inB; rw [decide_eq_true]; omega)
            by_cases h3 : (next : Int) < x
            · have hr := Lib.hid (HKA.out.false hX.out (by rw [HTL.out]; exact h1) h3)
              have e3 : decide ((next : Int) < x) = true := by simpa using h3
              have S := set2 (.int .i64 13) (.int .i64 (j : Int)) d0 d1
              clear h1 h3
              go_wp2_with fail
              refine (within_is B0 _).mono ?_
              rintro e w' ⟨rfl, rfl⟩
              go_wp2_with (at_len; refine wpList_len_own _ rfl _ 101 rfl 3 4 Tryz.underlying101 _ wA.heap.size j D rfl hM ?_; rw [hsz.out])
              refine bodyPost_ret (v := .tuple #[.slice none 0 0, .agg #[.int .i64 13, .int .i64 (j : Int)]]) (by simp [results, Tryz.results19, go_sem, S.1, S.2]) rfl ⟨.slice none 0 0, by rw [hres.out, hr.out]; rfl, ?_, below_set2 _ _ hbel2 (Nat.le_refl _)⟩
              rw [hres.out, hr.out]; exact World.ownsRow_nil _ _ _ _
            · obtain ⟨y, rfl⟩ := Int.eq_ofNat_of_zero_le (show 0 ≤ x by omega)
              have hyk : y < k := by omega
              have e3 : decide (next < y) = false := by simp; omega
              obtain ⟨b2, o2, s2, rfl, hb2, hx2, hc2⟩ := sl1_at Value.string h hT.out hyk
              have hc3 := (hbel2.cell (p := ⟨b2, o2 + y, none⟩) hb2).trans hc2
              have hg2 := Lib.hid (show T.getD (y : Int).toNat (strOf []) = s2 by rw [Int.toNat_natCast]; simp [List.getD, hx2])
              have hX2 := Lib.hid hx2
              have HC2 := Lib.hid ((hbel.cell (p := ⟨b2, o2 + y, none⟩) hb2).trans hc2)
              have hbA : b2 < wA.heap.size := by have := hbel.size; omega
              clear hc2 hx2
              have hkey := keyOf_int_mk Tryz.underlying3 (a := (y : Int)) (q := .i64) (WalkArith.wf_i64 (by omega))
              have hmO := own_map_ne' hO hM
              have hrel2 : ∃ next' : Nat, KA T l (j + 1) next' (out ++ [s2]) ∧ Upto (D.put (.int .i64 (y : Int)) (.lit (.bool true))) next' := by
                by_cases h4 : y = next
                · have hnew := HKA.out.new hX.out (by rw [HTL.out]; exact h1) (by rw [h4])
                  rw [hg2.out] at hnew
                  subst h4
                  exact ⟨_, hnew, HD.out.new⟩
                · have hold := HKA.out.old hX.out (by rw [HTL.out]; exact h1) (show (y : Int) < (next : Int) by omega)
                  rw [hg2.out] at hold
                  exact ⟨_, hold, HD.out.old (by omega) (by omega)⟩
              have HREL := Lib.hid hrel2
              clear h1 h3 hrel2
              go_wp2_with fail
              refine (within_is B0 _).mono ?_
              rintro e w' ⟨rfl, rfl⟩
              go_wp2_with (first
                | (at_len; refine wpList_len_own _ rfl _ 101 rfl 3 4 Tryz.underlying101 _ wA.heap.size j D rfl hM ?_; rw [hsz.out])
                | (at_mapUpdate; refine wpList_mapUpdate_own _ rfl _ _ _ 101 rfl 3 4 intKeyed Tryz.underlying101 _ wA.heap.size j D rfl hM (by unfold maxLen; omega) _ _ _ rfl rfl hkey _ [] (plainElem_bool Tryz.underlying4 true) ?_; intro w1 hM1 hg1; have hb1 := hbx.grown hg1 hB (fun j hj => by cases hj; exact Nat.le_refl _); have hO1 := hO.kept hg1 (.inr hmO.symm); have hc4 := (hb1.cell (p := ⟨b2, o2 + y, none⟩) hbA).trans HC2.out)
                | (at_builtin; refine wpList_append_own _ rfl (.tmp 58) (.tmp 63) 51 rfl wA.heap.size 9 i0 (.string ⟨#[]⟩) 1 16 Tryz.underlying51 hi hz0 hz1 hz2 rfl (by decide) u8 out.length (out.map Value.string) rfl (hO1.alloc _) ⟨w1.heap.size, 0, none⟩ 1 1 [.string s2] rfl rfl (cells_new1 _ _ _) (by intro u hu; simp at hu; subst hu; rfl) (by unfold maxLen; omega) (by omega) (by have := hb1.size; simp; omega) ?_; intro v1 w2 hO2 hg3 _; have hb3 := grown_own (hb1.alloc hb1.size _) hg3 (by have := hb1.size; simp; omega) (hO1.alloc _); have hO3 := ownStr_snoc rfl hO2; have hM3 := (hM1.alloc _).kept hg3 (own_map_ne' hO1 hM1)))
              obtain ⟨nx, HA1, HU1⟩ := HREL.out
              go_roundw
              case rel => exact ⟨j + 1, nx, _, by omega, by go_num, HA1, hO3, ⟨_, hM3, HU1⟩, hb3⟩
              case measure => simp [intOf]; omega
        · obtain rfl : j = n' := by omega
          by_cases h4 : next < k
          · have hr := Lib.hid (HKA.out.less (by rw [hL.out]; exact Nat.le_refl _) (by rw [HTL.out]; exact h4))
            have d4 : decide (next < k) = true := by simpa using h4
            clear h4
            go_wp2_with (first
              | (at_len; refine wpList_len_own _ rfl _ 101 rfl 3 4 Tryz.underlying101 _ wA.heap.size j D rfl hM ?_; rw [hsz.out])
              | (go_at_call 8; refine (bareF_any 8 _).mono ?_; rintro e w3 ⟨rfl, hb3⟩; have hb4 := hbel2.trans (hb3.mono hB2); obtain ⟨c0, c1, g0, g1⟩ := hT2.out.keep (hbx.trans (hb3.mono hB)) hs0))
            have S := set2 (.int .i64 8) (.int .i64 (-1)) c0 c1
            go_wp2
            refine bodyPost_ret (v := .tuple #[.slice none 0 0, .agg #[.int .i64 8, .int .i64 (-1)]]) (by simp [results, Tryz.results19, go_sem, S.1, S.2]) rfl ⟨.slice none 0 0, by rw [hres.out, hr.out]; rfl, ?_, below_set2 _ _ hb4 (Nat.le_refl _)⟩
            rw [hres.out, hr.out]; exact World.ownsRow_nil _ _ _ _
          · have hr := Lib.hid (HKA.out.done (by rw [hL.out]; exact Nat.le_refl _) (by rw [HTL.out]; exact h4))
            have d4 : decide (next < k) = false := by simpa using h4
            clear h4
            go_wp2_with (first
              | (at_len; refine wpList_len_own _ rfl _ 101 rfl 3 4 Tryz.underlying101 _ wA.heap.size j D rfl hM ?_; rw [hsz.out])
              | (go_at_call 9; refine (good_any _).mono ?_; rintro e w3 ⟨rfl, hb3⟩; have hb4 := hbel2.trans (hb3.mono hB2); obtain ⟨c0, c1, g0, g1⟩ := hT2.out.keep (hbx.trans (hb3.mono hB)) hs0))
            have S := set2 (.int .i64 0) (.int .i64 (-1)) c0 c1
            have hO2 := ownsRow_below hO hb3 hB
            go_wp2
            refine bodyPost_ret (v := .tuple #[u8, .agg #[.int .i64 0, .int .i64 (-1)]]) (by simp [results, Tryz.results19, go_sem, S.1, S.2]) rfl ⟨u8, by rw [hres.out, hr.out]; rfl, ?_, below_set2 _ _ hb4 (Nat.le_refl _)⟩
            rw [hres.out, hr.out]
            exact own_less (own_set _ (own_set _ hO2 hs0) hs0) (by omega)
end Go.Proofs.YtnaclpfcldoebaaGreatDoor
end

section
namespace Go.Proofs.YtnaclpfcldoebaaGreatDoor
set_option linter.unusedSimpArgs false
open Go.RowKit As
theorem itoa1 (w : World) : Calls Tryz.prog 55 #[.int .i64 1] w fun e w' => e = .returned (.string ⟨#[49]⟩) ∧ w = w' :=
  (Tryz.strconv_Itoa_small 1 (by omega) w).mono fun _ _ h => ⟨by rw [h.1, show Lib.decDigits 1 = [49] by first | decide | kernel_rfl], h.2.symm⟩
theorem has1 (w : World) : Calls Tryz.prog 54 #[.string ⟨#[50, 51]⟩, .string ⟨#[49]⟩] w fun e w' => e = .returned (.bool false) ∧ w = w' :=
  (Tryz.strings_Contains_one ⟨#[50, 51]⟩ 49 w).mono fun _ _ h => ⟨by rw [h.1]; exact retB (by decide), h.2.symm⟩
theorem itoa2 (w : World) : Calls Tryz.prog 55 #[.int .i64 2] w fun e w' => e = .returned (.string ⟨#[50]⟩) ∧ w = w' :=
  (Tryz.strconv_Itoa_small 2 (by omega) w).mono fun _ _ h => ⟨by rw [h.1, show Lib.decDigits 2 = [50] by first | decide | kernel_rfl], h.2.symm⟩
theorem has2 (w : World) : Calls Tryz.prog 54 #[.string ⟨#[50, 51]⟩, .string ⟨#[50]⟩] w fun e w' => e = .returned (.bool true) ∧ w = w' :=
  (Tryz.strings_Contains_one ⟨#[50, 51]⟩ 50 w).mono fun _ _ h => ⟨by rw [h.1]; exact retB (by decide), h.2.symm⟩
theorem itoa3 (w : World) : Calls Tryz.prog 55 #[.int .i64 3] w fun e w' => e = .returned (.string ⟨#[51]⟩) ∧ w = w' :=
  (Tryz.strconv_Itoa_small 3 (by omega) w).mono fun _ _ h => ⟨by rw [h.1, show Lib.decDigits 3 = [51] by first | decide | kernel_rfl], h.2.symm⟩
theorem has3 (w : World) : Calls Tryz.prog 54 #[.string ⟨#[50, 51]⟩, .string ⟨#[51]⟩] w fun e w' => e = .returned (.bool true) ∧ w = w' :=
  (Tryz.strings_Contains_one ⟨#[50, 51]⟩ 51 w).mono fun _ _ h => ⟨by rw [h.1]; exact retB (by decide), h.2.symm⟩
theorem itoa4 (w : World) : Calls Tryz.prog 55 #[.int .i64 4] w fun e w' => e = .returned (.string ⟨#[52]⟩) ∧ w = w' :=
  (Tryz.strconv_Itoa_small 4 (by omega) w).mono fun _ _ h => ⟨by rw [h.1, show Lib.decDigits 4 = [52] by first | decide | kernel_rfl], h.2.symm⟩
theorem has4 (w : World) : Calls Tryz.prog 54 #[.string ⟨#[50, 51]⟩, .string ⟨#[52]⟩] w fun e w' => e = .returned (.bool false) ∧ w = w' :=
  (Tryz.strings_Contains_one ⟨#[50, 51]⟩ 52 w).mono fun _ _ h => ⟨by rw [h.1]; exact retB (by decide), h.2.symm⟩
set_option maxHeartbeats 2000000 in
set_option maxRecDepth 100000 in
theorem rwright1 (a b f : Int) (d e : ByteArray) (w : World) : Calls Tryz.prog 38 #[wrV a b (1) d e f] w fun r w' => r = .returned (.int .i64 (wright (a, b, 1, d, e, f))) ∧ Below w.heap.size w w' := by
  rw [wright_is]
  have hW := WrAt.new w a b (1) d e f
  cases hidv : idRight (a, b) with
  | false =>
    have hid := Lib.hid hidv
    clear hidv
    have hr := Lib.hid (show wrightC 1 false d.size e.size f = 2 by unfold wrightC; rw [if_neg (by omega), if_pos rfl])
    have B0 := Lib.hid (show inB 1 1 4 = true by decide)
    go_enter Tryz.func38, Tryz.ntmps38
    go_wp2_with fail
    refine (within_is B0 _).mono ?_
    rintro r w0 ⟨rfl, rfl⟩
    go_wp2_with fail
    refine (ridright_any a b _).mono ?_
    rintro r w1 ⟨rfl, hb1⟩
    rw [hid.out]
    obtain ⟨c0, c1, c2, c3, c4, c5⟩ := hW.below hb1
    have hbl : Below w.heap.size w w1 := (below1 w _).trans (hb1.mono (by simp))
    go_wp2
    go_ret
    exact ⟨by rw [hr.out]; rfl, hbl⟩
  | true =>
    have hid := Lib.hid hidv
    clear hidv
    by_cases h1 : 40 < d.size
    · have hr := Lib.hid (show wrightC 1 true d.size e.size f = 4 by unfold wrightC; rw [if_neg (by omega), if_neg (by simp), if_pos (by omega)])
      have s0 : decide (40 < d.size) = true := by simp only [decide_eq_true_eq, decide_eq_false_iff_not]; omega
      have t0 : decide (40 < (d.size : Int)) = true := by simp only [decide_eq_true_eq, decide_eq_false_iff_not]; omega
      clear h1
      have B0 := Lib.hid (show inB 1 1 4 = true by decide)
      go_enter Tryz.func38, Tryz.ntmps38
      go_wp2_with fail
      refine (within_is B0 _).mono ?_
      rintro r w0 ⟨rfl, rfl⟩
      go_wp2_with fail
      refine (ridright_any a b _).mono ?_
      rintro r w1 ⟨rfl, hb1⟩
      rw [hid.out]
      obtain ⟨c0, c1, c2, c3, c4, c5⟩ := hW.below hb1
      have hbl : Below w.heap.size w w1 := (below1 w _).trans (hb1.mono (by simp))
      go_wp2
      go_ret
      exact ⟨by rw [hr.out]; rfl, hbl⟩
    · by_cases h2 : 300 < e.size
      · have hr := Lib.hid (show wrightC 1 true d.size e.size f = 4 by unfold wrightC; rw [if_neg (by omega), if_neg (by simp), if_pos (by omega)])
        have s0 : decide (40 < d.size) = false := by simp only [decide_eq_true_eq, decide_eq_false_iff_not]; omega
        have t0 : decide (40 < (d.size : Int)) = false := by simp only [decide_eq_true_eq, decide_eq_false_iff_not]; omega
        have s1 : decide (300 < e.size) = true := by simp only [decide_eq_true_eq, decide_eq_false_iff_not]; omega
        have t1 : decide (300 < (e.size : Int)) = true := by simp only [decide_eq_true_eq, decide_eq_false_iff_not]; omega
        clear h1 h2
        have B0 := Lib.hid (show inB 1 1 4 = true by decide)
        go_enter Tryz.func38, Tryz.ntmps38
        go_wp2_with fail
        refine (within_is B0 _).mono ?_
        rintro r w0 ⟨rfl, rfl⟩
        go_wp2_with fail
        refine (ridright_any a b _).mono ?_
        rintro r w1 ⟨rfl, hb1⟩
        rw [hid.out]
        obtain ⟨c0, c1, c2, c3, c4, c5⟩ := hW.below hb1
        have hbl : Below w.heap.size w w1 := (below1 w _).trans (hb1.mono (by simp))
        go_wp2
        go_ret
        exact ⟨by rw [hr.out]; rfl, hbl⟩
      · have hz := str_empty' e
        have s0 : decide (40 < d.size) = false := by simp only [decide_eq_true_eq, decide_eq_false_iff_not]; omega
        have t0 : decide (40 < (d.size : Int)) = false := by simp only [decide_eq_true_eq, decide_eq_false_iff_not]; omega
        have s1 : decide (300 < e.size) = false := by simp only [decide_eq_true_eq, decide_eq_false_iff_not]; omega
        have t1 : decide (300 < (e.size : Int)) = false := by simp only [decide_eq_true_eq, decide_eq_false_iff_not]; omega
        have HZ := Lib.hid hz
        clear hz
        by_cases h3 : e.size = 0
        · by_cases h4 : f = 0
          · skip
            have hr := Lib.hid (show wrightC 1 true d.size e.size f = 0 by unfold wrightC; rw [if_neg (by omega), if_neg (by simp), if_neg (by omega), if_neg (by omega), if_neg (by omega)])
            have q0 : e.toList.isEmpty = true := by rw [HZ.out]; simp only [decide_eq_true_eq, decide_eq_false_iff_not]; omega
            have q1 : (f != 0) = false := by simp only [bne_iff_ne, bne_eq_false_iff_eq, ne_eq]; omega
            clear h1 h2 h3 h4
            have B0 := Lib.hid (show inB 1 1 4 = true by decide)
            go_enter Tryz.func38, Tryz.ntmps38
            go_wp2_with fail
            refine (within_is B0 _).mono ?_
            rintro r w0 ⟨rfl, rfl⟩
            go_wp2_with fail
            refine (ridright_any a b _).mono ?_
            rintro r w1 ⟨rfl, hb1⟩
            rw [hid.out]
            obtain ⟨c0, c1, c2, c3, c4, c5⟩ := hW.below hb1
            have hbl : Below w.heap.size w w1 := (below1 w _).trans (hb1.mono (by simp))
            go_wp2
            go_ret
            exact ⟨by rw [hr.out]; rfl, hbl⟩
          · skip
            have hr := Lib.hid (show wrightC 1 true d.size e.size f = 3 by unfold wrightC; rw [if_neg (by omega), if_neg (by simp), if_neg (by omega), if_pos (by omega)])
            have q0 : e.toList.isEmpty = true := by rw [HZ.out]; simp only [decide_eq_true_eq, decide_eq_false_iff_not]; omega
            have q1 : (f != 0) = true := by simp only [bne_iff_ne, bne_eq_false_iff_eq, ne_eq]; omega
            clear h1 h2 h3 h4
            have B0 := Lib.hid (show inB 1 1 4 = true by decide)
            go_enter Tryz.func38, Tryz.ntmps38
            go_wp2_with fail
            refine (within_is B0 _).mono ?_
            rintro r w0 ⟨rfl, rfl⟩
            go_wp2_with fail
            refine (ridright_any a b _).mono ?_
            rintro r w1 ⟨rfl, hb1⟩
            rw [hid.out]
            obtain ⟨c0, c1, c2, c3, c4, c5⟩ := hW.below hb1
            have hbl : Below w.heap.size w w1 := (below1 w _).trans (hb1.mono (by simp))
            go_wp2
            go_ret
            exact ⟨by rw [hr.out]; rfl, hbl⟩
        · by_cases h4 : f = 0
          · skip
            have hr := Lib.hid (show wrightC 1 true d.size e.size f = 0 by unfold wrightC; rw [if_neg (by omega), if_neg (by simp), if_neg (by omega), if_neg (by omega), if_neg (by omega)])
            have q0 : e.toList.isEmpty = false := by rw [HZ.out]; simp only [decide_eq_true_eq, decide_eq_false_iff_not]; omega
            have q1 : (f != 0) = false := by simp only [bne_iff_ne, bne_eq_false_iff_eq, ne_eq]; omega
            clear h1 h2 h3 h4
            have B0 := Lib.hid (show inB 1 1 4 = true by decide)
            go_enter Tryz.func38, Tryz.ntmps38
            go_wp2_with fail
            refine (within_is B0 _).mono ?_
            rintro r w0 ⟨rfl, rfl⟩
            go_wp2_with fail
            refine (ridright_any a b _).mono ?_
            rintro r w1 ⟨rfl, hb1⟩
            rw [hid.out]
            obtain ⟨c0, c1, c2, c3, c4, c5⟩ := hW.below hb1
            have hbl : Below w.heap.size w w1 := (below1 w _).trans (hb1.mono (by simp))
            go_wp2_with fail
            refine (itoa1 _).mono ?_
            rintro r w0 ⟨rfl, rfl⟩
            go_wp2_with fail
            refine (has1 _).mono ?_
            rintro r w0 ⟨rfl, rfl⟩
            go_wp2
            go_ret
            exact ⟨by rw [hr.out]; rfl, hbl⟩
          · skip
            have hr := Lib.hid (show wrightC 1 true d.size e.size f = 3 by unfold wrightC; rw [if_neg (by omega), if_neg (by simp), if_neg (by omega), if_pos (by omega)])
            have q0 : e.toList.isEmpty = false := by rw [HZ.out]; simp only [decide_eq_true_eq, decide_eq_false_iff_not]; omega
            have q1 : (f != 0) = true := by simp only [bne_iff_ne, bne_eq_false_iff_eq, ne_eq]; omega
            clear h1 h2 h3 h4
            have B0 := Lib.hid (show inB 1 1 4 = true by decide)
            go_enter Tryz.func38, Tryz.ntmps38
            go_wp2_with fail
            refine (within_is B0 _).mono ?_
            rintro r w0 ⟨rfl, rfl⟩
            go_wp2_with fail
            refine (ridright_any a b _).mono ?_
            rintro r w1 ⟨rfl, hb1⟩
            rw [hid.out]
            obtain ⟨c0, c1, c2, c3, c4, c5⟩ := hW.below hb1
            have hbl : Below w.heap.size w w1 := (below1 w _).trans (hb1.mono (by simp))
            go_wp2_with fail
            refine (itoa1 _).mono ?_
            rintro r w0 ⟨rfl, rfl⟩
            go_wp2_with fail
            refine (has1 _).mono ?_
            rintro r w0 ⟨rfl, rfl⟩
            go_wp2
            go_ret
            exact ⟨by rw [hr.out]; rfl, hbl⟩
set_option maxHeartbeats 2000000 in
set_option maxRecDepth 100000 in
theorem rwright2 (a b f : Int) (d e : ByteArray) (w : World) : Calls Tryz.prog 38 #[wrV a b (2) d e f] w fun r w' => r = .returned (.int .i64 (wright (a, b, 2, d, e, f))) ∧ Below w.heap.size w w' := by
  rw [wright_is]
  have hW := WrAt.new w a b (2) d e f
  cases hidv : idRight (a, b) with
  | false =>
    have hid := Lib.hid hidv
    clear hidv
    have hr := Lib.hid (show wrightC 2 false d.size e.size f = 2 by unfold wrightC; rw [if_neg (by omega), if_pos rfl])
    have B0 := Lib.hid (show inB 2 1 4 = true by decide)
    go_enter Tryz.func38, Tryz.ntmps38
    go_wp2_with fail
    refine (within_is B0 _).mono ?_
    rintro r w0 ⟨rfl, rfl⟩
    go_wp2_with fail
    refine (ridright_any a b _).mono ?_
    rintro r w1 ⟨rfl, hb1⟩
    rw [hid.out]
    obtain ⟨c0, c1, c2, c3, c4, c5⟩ := hW.below hb1
    have hbl : Below w.heap.size w w1 := (below1 w _).trans (hb1.mono (by simp))
    go_wp2
    go_ret
    exact ⟨by rw [hr.out]; rfl, hbl⟩
  | true =>
    have hid := Lib.hid hidv
    clear hidv
    by_cases h1 : 40 < d.size
    · have hr := Lib.hid (show wrightC 2 true d.size e.size f = 4 by unfold wrightC; rw [if_neg (by omega), if_neg (by simp), if_pos (by omega)])
      have s0 : decide (40 < d.size) = true := by simp only [decide_eq_true_eq, decide_eq_false_iff_not]; omega
      have t0 : decide (40 < (d.size : Int)) = true := by simp only [decide_eq_true_eq, decide_eq_false_iff_not]; omega
      clear h1
      have B0 := Lib.hid (show inB 2 1 4 = true by decide)
      go_enter Tryz.func38, Tryz.ntmps38
      go_wp2_with fail
      refine (within_is B0 _).mono ?_
      rintro r w0 ⟨rfl, rfl⟩
      go_wp2_with fail
      refine (ridright_any a b _).mono ?_
      rintro r w1 ⟨rfl, hb1⟩
      rw [hid.out]
      obtain ⟨c0, c1, c2, c3, c4, c5⟩ := hW.below hb1
      have hbl : Below w.heap.size w w1 := (below1 w _).trans (hb1.mono (by simp))
      go_wp2
      go_ret
      exact ⟨by rw [hr.out]; rfl, hbl⟩
    · by_cases h2 : 300 < e.size
      · have hr := Lib.hid (show wrightC 2 true d.size e.size f = 4 by unfold wrightC; rw [if_neg (by omega), if_neg (by simp), if_pos (by omega)])
        have s0 : decide (40 < d.size) = false := by simp only [decide_eq_true_eq, decide_eq_false_iff_not]; omega
        have t0 : decide (40 < (d.size : Int)) = false := by simp only [decide_eq_true_eq, decide_eq_false_iff_not]; omega
        have s1 : decide (300 < e.size) = true := by simp only [decide_eq_true_eq, decide_eq_false_iff_not]; omega
        have t1 : decide (300 < (e.size : Int)) = true := by simp only [decide_eq_true_eq, decide_eq_false_iff_not]; omega
        clear h1 h2
        have B0 := Lib.hid (show inB 2 1 4 = true by decide)
        go_enter Tryz.func38, Tryz.ntmps38
        go_wp2_with fail
        refine (within_is B0 _).mono ?_
        rintro r w0 ⟨rfl, rfl⟩
        go_wp2_with fail
        refine (ridright_any a b _).mono ?_
        rintro r w1 ⟨rfl, hb1⟩
        rw [hid.out]
        obtain ⟨c0, c1, c2, c3, c4, c5⟩ := hW.below hb1
        have hbl : Below w.heap.size w w1 := (below1 w _).trans (hb1.mono (by simp))
        go_wp2
        go_ret
        exact ⟨by rw [hr.out]; rfl, hbl⟩
      · have hz := str_empty' e
        have s0 : decide (40 < d.size) = false := by simp only [decide_eq_true_eq, decide_eq_false_iff_not]; omega
        have t0 : decide (40 < (d.size : Int)) = false := by simp only [decide_eq_true_eq, decide_eq_false_iff_not]; omega
        have s1 : decide (300 < e.size) = false := by simp only [decide_eq_true_eq, decide_eq_false_iff_not]; omega
        have t1 : decide (300 < (e.size : Int)) = false := by simp only [decide_eq_true_eq, decide_eq_false_iff_not]; omega
        have HZ := Lib.hid hz
        clear hz
        by_cases h3 : e.size = 0
        · by_cases h4 : f = 0
          · skip
            have hr := Lib.hid (show wrightC 2 true d.size e.size f = 0 by unfold wrightC; rw [if_neg (by omega), if_neg (by simp), if_neg (by omega), if_neg (by omega), if_neg (by omega)])
            have q0 : e.toList.isEmpty = true := by rw [HZ.out]; simp only [decide_eq_true_eq, decide_eq_false_iff_not]; omega
            have q1 : (f != 0) = false := by simp only [bne_iff_ne, bne_eq_false_iff_eq, ne_eq]; omega
            clear h1 h2 h3 h4
            have B0 := Lib.hid (show inB 2 1 4 = true by decide)
            go_enter Tryz.func38, Tryz.ntmps38
            go_wp2_with fail
            refine (within_is B0 _).mono ?_
            rintro r w0 ⟨rfl, rfl⟩
            go_wp2_with fail
            refine (ridright_any a b _).mono ?_
            rintro r w1 ⟨rfl, hb1⟩
            rw [hid.out]
            obtain ⟨c0, c1, c2, c3, c4, c5⟩ := hW.below hb1
            have hbl : Below w.heap.size w w1 := (below1 w _).trans (hb1.mono (by simp))
            go_wp2
            go_ret
            exact ⟨by rw [hr.out]; rfl, hbl⟩
          · skip
            have hr := Lib.hid (show wrightC 2 true d.size e.size f = 3 by unfold wrightC; rw [if_neg (by omega), if_neg (by simp), if_neg (by omega), if_pos (by omega)])
            have q0 : e.toList.isEmpty = true := by rw [HZ.out]; simp only [decide_eq_true_eq, decide_eq_false_iff_not]; omega
            have q1 : (f != 0) = true := by simp only [bne_iff_ne, bne_eq_false_iff_eq, ne_eq]; omega
            clear h1 h2 h3 h4
            have B0 := Lib.hid (show inB 2 1 4 = true by decide)
            go_enter Tryz.func38, Tryz.ntmps38
            go_wp2_with fail
            refine (within_is B0 _).mono ?_
            rintro r w0 ⟨rfl, rfl⟩
            go_wp2_with fail
            refine (ridright_any a b _).mono ?_
            rintro r w1 ⟨rfl, hb1⟩
            rw [hid.out]
            obtain ⟨c0, c1, c2, c3, c4, c5⟩ := hW.below hb1
            have hbl : Below w.heap.size w w1 := (below1 w _).trans (hb1.mono (by simp))
            go_wp2
            go_ret
            exact ⟨by rw [hr.out]; rfl, hbl⟩
        · skip
          have hr := Lib.hid (show wrightC 2 true d.size e.size f = 3 by unfold wrightC; rw [if_neg (by omega), if_neg (by simp), if_neg (by omega), if_pos (by omega)])
          have q0 : e.toList.isEmpty = false := by rw [HZ.out]; simp only [decide_eq_true_eq, decide_eq_false_iff_not]; omega
          clear h1 h2 h3
          have B0 := Lib.hid (show inB 2 1 4 = true by decide)
          go_enter Tryz.func38, Tryz.ntmps38
          go_wp2_with fail
          refine (within_is B0 _).mono ?_
          rintro r w0 ⟨rfl, rfl⟩
          go_wp2_with fail
          refine (ridright_any a b _).mono ?_
          rintro r w1 ⟨rfl, hb1⟩
          rw [hid.out]
          obtain ⟨c0, c1, c2, c3, c4, c5⟩ := hW.below hb1
          have hbl : Below w.heap.size w w1 := (below1 w _).trans (hb1.mono (by simp))
          go_wp2_with fail
          refine (itoa2 _).mono ?_
          rintro r w0 ⟨rfl, rfl⟩
          go_wp2_with fail
          refine (has2 _).mono ?_
          rintro r w0 ⟨rfl, rfl⟩
          go_wp2
          go_ret
          exact ⟨by rw [hr.out]; rfl, hbl⟩
set_option maxHeartbeats 2000000 in
set_option maxRecDepth 100000 in
theorem rwright3 (a b f : Int) (d e : ByteArray) (w : World) : Calls Tryz.prog 38 #[wrV a b (3) d e f] w fun r w' => r = .returned (.int .i64 (wright (a, b, 3, d, e, f))) ∧ Below w.heap.size w w' := by
  rw [wright_is]
  have hW := WrAt.new w a b (3) d e f
  cases hidv : idRight (a, b) with
  | false =>
    have hid := Lib.hid hidv
    clear hidv
    have hr := Lib.hid (show wrightC 3 false d.size e.size f = 2 by unfold wrightC; rw [if_neg (by omega), if_pos rfl])
    have B0 := Lib.hid (show inB 3 1 4 = true by decide)
    go_enter Tryz.func38, Tryz.ntmps38
    go_wp2_with fail
    refine (within_is B0 _).mono ?_
    rintro r w0 ⟨rfl, rfl⟩
    go_wp2_with fail
    refine (ridright_any a b _).mono ?_
    rintro r w1 ⟨rfl, hb1⟩
    rw [hid.out]
    obtain ⟨c0, c1, c2, c3, c4, c5⟩ := hW.below hb1
    have hbl : Below w.heap.size w w1 := (below1 w _).trans (hb1.mono (by simp))
    go_wp2
    go_ret
    exact ⟨by rw [hr.out]; rfl, hbl⟩
  | true =>
    have hid := Lib.hid hidv
    clear hidv
    by_cases h1 : 40 < d.size
    · have hr := Lib.hid (show wrightC 3 true d.size e.size f = 4 by unfold wrightC; rw [if_neg (by omega), if_neg (by simp), if_pos (by omega)])
      have s0 : decide (40 < d.size) = true := by simp only [decide_eq_true_eq, decide_eq_false_iff_not]; omega
      have t0 : decide (40 < (d.size : Int)) = true := by simp only [decide_eq_true_eq, decide_eq_false_iff_not]; omega
      clear h1
      have B0 := Lib.hid (show inB 3 1 4 = true by decide)
      go_enter Tryz.func38, Tryz.ntmps38
      go_wp2_with fail
      refine (within_is B0 _).mono ?_
      rintro r w0 ⟨rfl, rfl⟩
      go_wp2_with fail
      refine (ridright_any a b _).mono ?_
      rintro r w1 ⟨rfl, hb1⟩
      rw [hid.out]
      obtain ⟨c0, c1, c2, c3, c4, c5⟩ := hW.below hb1
      have hbl : Below w.heap.size w w1 := (below1 w _).trans (hb1.mono (by simp))
      go_wp2
      go_ret
      exact ⟨by rw [hr.out]; rfl, hbl⟩
    · by_cases h2 : 300 < e.size
      · have hr := Lib.hid (show wrightC 3 true d.size e.size f = 4 by unfold wrightC; rw [if_neg (by omega), if_neg (by simp), if_pos (by omega)])
        have s0 : decide (40 < d.size) = false := by simp only [decide_eq_true_eq, decide_eq_false_iff_not]; omega
        have t0 : decide (40 < (d.size : Int)) = false := by simp only [decide_eq_true_eq, decide_eq_false_iff_not]; omega
        have s1 : decide (300 < e.size) = true := by simp only [decide_eq_true_eq, decide_eq_false_iff_not]; omega
        have t1 : decide (300 < (e.size : Int)) = true := by simp only [decide_eq_true_eq, decide_eq_false_iff_not]; omega
        clear h1 h2
        have B0 := Lib.hid (show inB 3 1 4 = true by decide)
        go_enter Tryz.func38, Tryz.ntmps38
        go_wp2_with fail
        refine (within_is B0 _).mono ?_
        rintro r w0 ⟨rfl, rfl⟩
        go_wp2_with fail
        refine (ridright_any a b _).mono ?_
        rintro r w1 ⟨rfl, hb1⟩
        rw [hid.out]
        obtain ⟨c0, c1, c2, c3, c4, c5⟩ := hW.below hb1
        have hbl : Below w.heap.size w w1 := (below1 w _).trans (hb1.mono (by simp))
        go_wp2
        go_ret
        exact ⟨by rw [hr.out]; rfl, hbl⟩
      · have hz := str_empty' e
        have s0 : decide (40 < d.size) = false := by simp only [decide_eq_true_eq, decide_eq_false_iff_not]; omega
        have t0 : decide (40 < (d.size : Int)) = false := by simp only [decide_eq_true_eq, decide_eq_false_iff_not]; omega
        have s1 : decide (300 < e.size) = false := by simp only [decide_eq_true_eq, decide_eq_false_iff_not]; omega
        have t1 : decide (300 < (e.size : Int)) = false := by simp only [decide_eq_true_eq, decide_eq_false_iff_not]; omega
        have HZ := Lib.hid hz
        clear hz
        by_cases h3 : e.size = 0
        · by_cases h4 : f = 0
          · skip
            have hr := Lib.hid (show wrightC 3 true d.size e.size f = 0 by unfold wrightC; rw [if_neg (by omega), if_neg (by simp), if_neg (by omega), if_neg (by omega), if_neg (by omega)])
            have q0 : e.toList.isEmpty = true := by rw [HZ.out]; simp only [decide_eq_true_eq, decide_eq_false_iff_not]; omega
            have q1 : (f != 0) = false := by simp only [bne_iff_ne, bne_eq_false_iff_eq, ne_eq]; omega
            have q2 := Lib.hid (show inB f (-1125899906842624) 1125899906842624 = true by unfold inB; rw [decide_eq_true]; omega)
            clear h1 h2 h3 h4
            have B0 := Lib.hid (show inB 3 1 4 = true by decide)
            go_enter Tryz.func38, Tryz.ntmps38
            go_wp2_with fail
            refine (within_is B0 _).mono ?_
            rintro r w0 ⟨rfl, rfl⟩
            go_wp2_with fail
            refine (ridright_any a b _).mono ?_
            rintro r w1 ⟨rfl, hb1⟩
            rw [hid.out]
            obtain ⟨c0, c1, c2, c3, c4, c5⟩ := hW.below hb1
            have hbl : Below w.heap.size w w1 := (below1 w _).trans (hb1.mono (by simp))
            go_wp2_with fail
            refine (within_is q2 _).mono ?_
            rintro r w0 ⟨rfl, rfl⟩
            go_wp2
            go_ret
            exact ⟨by rw [hr.out]; rfl, hbl⟩
          · by_cases h5 : (-1125899906842624 ≤ f ∧ f ≤ 1125899906842624)
            · skip
              have hr := Lib.hid (show wrightC 3 true d.size e.size f = 0 by unfold wrightC; rw [if_neg (by omega), if_neg (by simp), if_neg (by omega), if_neg (by omega), if_neg (by omega)])
              have q0 : e.toList.isEmpty = true := by rw [HZ.out]; simp only [decide_eq_true_eq, decide_eq_false_iff_not]; omega
              have q1 : (f != 0) = true := by simp only [bne_iff_ne, bne_eq_false_iff_eq, ne_eq]; omega
              have q2 := Lib.hid (show inB f (-1125899906842624) 1125899906842624 = true by unfold inB; rw [decide_eq_true]; omega)
              clear h1 h2 h3 h4 h5
              have B0 := Lib.hid (show inB 3 1 4 = true by decide)
              go_enter Tryz.func38, Tryz.ntmps38
              go_wp2_with fail
              refine (within_is B0 _).mono ?_
              rintro r w0 ⟨rfl, rfl⟩
              go_wp2_with fail
              refine (ridright_any a b _).mono ?_
              rintro r w1 ⟨rfl, hb1⟩
              rw [hid.out]
              obtain ⟨c0, c1, c2, c3, c4, c5⟩ := hW.below hb1
              have hbl : Below w.heap.size w w1 := (below1 w _).trans (hb1.mono (by simp))
              go_wp2_with fail
              refine (within_is q2 _).mono ?_
              rintro r w0 ⟨rfl, rfl⟩
              go_wp2
              go_ret
              exact ⟨by rw [hr.out]; rfl, hbl⟩
            · skip
              have hr := Lib.hid (show wrightC 3 true d.size e.size f = 2 by unfold wrightC; rw [if_neg (by omega), if_neg (by simp), if_neg (by omega), if_neg (by omega), if_pos (by omega)])
              have q0 : e.toList.isEmpty = true := by rw [HZ.out]; simp only [decide_eq_true_eq, decide_eq_false_iff_not]; omega
              have q1 : (f != 0) = true := by simp only [bne_iff_ne, bne_eq_false_iff_eq, ne_eq]; omega
              have q2 := Lib.hid (show inB f (-1125899906842624) 1125899906842624 = false by unfold inB; rw [decide_eq_false]; omega)
              clear h1 h2 h3 h4 h5
              have B0 := Lib.hid (show inB 3 1 4 = true by decide)
              go_enter Tryz.func38, Tryz.ntmps38
              go_wp2_with fail
              refine (within_is B0 _).mono ?_
              rintro r w0 ⟨rfl, rfl⟩
              go_wp2_with fail
              refine (ridright_any a b _).mono ?_
              rintro r w1 ⟨rfl, hb1⟩
              rw [hid.out]
              obtain ⟨c0, c1, c2, c3, c4, c5⟩ := hW.below hb1
              have hbl : Below w.heap.size w w1 := (below1 w _).trans (hb1.mono (by simp))
              go_wp2_with fail
              refine (within_is q2 _).mono ?_
              rintro r w0 ⟨rfl, rfl⟩
              go_wp2
              go_ret
              exact ⟨by rw [hr.out]; rfl, hbl⟩
        · skip
          have hr := Lib.hid (show wrightC 3 true d.size e.size f = 3 by unfold wrightC; rw [if_neg (by omega), if_neg (by simp), if_neg (by omega), if_pos (by omega)])
          have q0 : e.toList.isEmpty = false := by rw [HZ.out]; simp only [decide_eq_true_eq, decide_eq_false_iff_not]; omega
          clear h1 h2 h3
          have B0 := Lib.hid (show inB 3 1 4 = true by decide)
          go_enter Tryz.func38, Tryz.ntmps38
          go_wp2_with fail
          refine (within_is B0 _).mono ?_
          rintro r w0 ⟨rfl, rfl⟩
          go_wp2_with fail
          refine (ridright_any a b _).mono ?_
          rintro r w1 ⟨rfl, hb1⟩
          rw [hid.out]
          obtain ⟨c0, c1, c2, c3, c4, c5⟩ := hW.below hb1
          have hbl : Below w.heap.size w w1 := (below1 w _).trans (hb1.mono (by simp))
          go_wp2_with fail
          refine (itoa3 _).mono ?_
          rintro r w0 ⟨rfl, rfl⟩
          go_wp2_with fail
          refine (has3 _).mono ?_
          rintro r w0 ⟨rfl, rfl⟩
          go_wp2
          go_ret
          exact ⟨by rw [hr.out]; rfl, hbl⟩
set_option maxHeartbeats 2000000 in
set_option maxRecDepth 100000 in
theorem rwright4 (a b f : Int) (d e : ByteArray) (w : World) : Calls Tryz.prog 38 #[wrV a b (4) d e f] w fun r w' => r = .returned (.int .i64 (wright (a, b, 4, d, e, f))) ∧ Below w.heap.size w w' := by
  rw [wright_is]
  have hW := WrAt.new w a b (4) d e f
  cases hidv : idRight (a, b) with
  | false =>
    have hid := Lib.hid hidv
    clear hidv
    have hr := Lib.hid (show wrightC 4 false d.size e.size f = 2 by unfold wrightC; rw [if_neg (by omega), if_pos rfl])
    have B0 := Lib.hid (show inB 4 1 4 = true by decide)
    go_enter Tryz.func38, Tryz.ntmps38
    go_wp2_with fail
    refine (within_is B0 _).mono ?_
    rintro r w0 ⟨rfl, rfl⟩
    go_wp2_with fail
    refine (ridright_any a b _).mono ?_
    rintro r w1 ⟨rfl, hb1⟩
    rw [hid.out]
    obtain ⟨c0, c1, c2, c3, c4, c5⟩ := hW.below hb1
    have hbl : Below w.heap.size w w1 := (below1 w _).trans (hb1.mono (by simp))
    go_wp2
    go_ret
    exact ⟨by rw [hr.out]; rfl, hbl⟩
  | true =>
    have hid := Lib.hid hidv
    clear hidv
    by_cases h1 : 40 < d.size
    · have hr := Lib.hid (show wrightC 4 true d.size e.size f = 4 by unfold wrightC; rw [if_neg (by omega), if_neg (by simp), if_pos (by omega)])
      have s0 : decide (40 < d.size) = true := by simp only [decide_eq_true_eq, decide_eq_false_iff_not]; omega
      have t0 : decide (40 < (d.size : Int)) = true := by simp only [decide_eq_true_eq, decide_eq_false_iff_not]; omega
      clear h1
      have B0 := Lib.hid (show inB 4 1 4 = true by decide)
      go_enter Tryz.func38, Tryz.ntmps38
      go_wp2_with fail
      refine (within_is B0 _).mono ?_
      rintro r w0 ⟨rfl, rfl⟩
      go_wp2_with fail
      refine (ridright_any a b _).mono ?_
      rintro r w1 ⟨rfl, hb1⟩
      rw [hid.out]
      obtain ⟨c0, c1, c2, c3, c4, c5⟩ := hW.below hb1
      have hbl : Below w.heap.size w w1 := (below1 w _).trans (hb1.mono (by simp))
      go_wp2
      go_ret
      exact ⟨by rw [hr.out]; rfl, hbl⟩
    · by_cases h2 : 300 < e.size
      · have hr := Lib.hid (show wrightC 4 true d.size e.size f = 4 by unfold wrightC; rw [if_neg (by omega), if_neg (by simp), if_pos (by omega)])
        have s0 : decide (40 < d.size) = false := by simp only [decide_eq_true_eq, decide_eq_false_iff_not]; omega
        have t0 : decide (40 < (d.size : Int)) = false := by simp only [decide_eq_true_eq, decide_eq_false_iff_not]; omega
        have s1 : decide (300 < e.size) = true := by simp only [decide_eq_true_eq, decide_eq_false_iff_not]; omega
        have t1 : decide (300 < (e.size : Int)) = true := by simp only [decide_eq_true_eq, decide_eq_false_iff_not]; omega
        clear h1 h2
        have B0 := Lib.hid (show inB 4 1 4 = true by decide)
        go_enter Tryz.func38, Tryz.ntmps38
        go_wp2_with fail
        refine (within_is B0 _).mono ?_
        rintro r w0 ⟨rfl, rfl⟩
        go_wp2_with fail
        refine (ridright_any a b _).mono ?_
        rintro r w1 ⟨rfl, hb1⟩
        rw [hid.out]
        obtain ⟨c0, c1, c2, c3, c4, c5⟩ := hW.below hb1
        have hbl : Below w.heap.size w w1 := (below1 w _).trans (hb1.mono (by simp))
        go_wp2
        go_ret
        exact ⟨by rw [hr.out]; rfl, hbl⟩
      · have hz := str_empty' e
        have s0 : decide (40 < d.size) = false := by simp only [decide_eq_true_eq, decide_eq_false_iff_not]; omega
        have t0 : decide (40 < (d.size : Int)) = false := by simp only [decide_eq_true_eq, decide_eq_false_iff_not]; omega
        have s1 : decide (300 < e.size) = false := by simp only [decide_eq_true_eq, decide_eq_false_iff_not]; omega
        have t1 : decide (300 < (e.size : Int)) = false := by simp only [decide_eq_true_eq, decide_eq_false_iff_not]; omega
        have HZ := Lib.hid hz
        clear hz
        by_cases h3 : e.size = 0
        · by_cases h4 : f = 0
          · skip
            have hr := Lib.hid (show wrightC 4 true d.size e.size f = 0 by unfold wrightC; rw [if_neg (by omega), if_neg (by simp), if_neg (by omega), if_neg (by omega), if_neg (by omega)])
            have q0 : e.toList.isEmpty = true := by rw [HZ.out]; simp only [decide_eq_true_eq, decide_eq_false_iff_not]; omega
            have q1 : (f != 0) = false := by simp only [bne_iff_ne, bne_eq_false_iff_eq, ne_eq]; omega
            have q2 := Lib.hid (show inB f (0) 1000 = true by unfold inB; rw [decide_eq_true]; omega)
            clear h1 h2 h3 h4
            have B0 := Lib.hid (show inB 4 1 4 = true by decide)
            go_enter Tryz.func38, Tryz.ntmps38
            go_wp2_with fail
            refine (within_is B0 _).mono ?_
            rintro r w0 ⟨rfl, rfl⟩
            go_wp2_with fail
            refine (ridright_any a b _).mono ?_
            rintro r w1 ⟨rfl, hb1⟩
            rw [hid.out]
            obtain ⟨c0, c1, c2, c3, c4, c5⟩ := hW.below hb1
            have hbl : Below w.heap.size w w1 := (below1 w _).trans (hb1.mono (by simp))
            go_wp2_with fail
            refine (within_is q2 _).mono ?_
            rintro r w0 ⟨rfl, rfl⟩
            go_wp2
            go_ret
            exact ⟨by rw [hr.out]; rfl, hbl⟩
          · by_cases h5 : (0 ≤ f ∧ f ≤ 1000)
            · skip
              have hr := Lib.hid (show wrightC 4 true d.size e.size f = 0 by unfold wrightC; rw [if_neg (by omega), if_neg (by simp), if_neg (by omega), if_neg (by omega), if_neg (by omega)])
              have q0 : e.toList.isEmpty = true := by rw [HZ.out]; simp only [decide_eq_true_eq, decide_eq_false_iff_not]; omega
              have q1 : (f != 0) = true := by simp only [bne_iff_ne, bne_eq_false_iff_eq, ne_eq]; omega
              have q2 := Lib.hid (show inB f (0) 1000 = true by unfold inB; rw [decide_eq_true]; omega)
              clear h1 h2 h3 h4 h5
              have B0 := Lib.hid (show inB 4 1 4 = true by decide)
              go_enter Tryz.func38, Tryz.ntmps38
              go_wp2_with fail
              refine (within_is B0 _).mono ?_
              rintro r w0 ⟨rfl, rfl⟩
              go_wp2_with fail
              refine (ridright_any a b _).mono ?_
              rintro r w1 ⟨rfl, hb1⟩
              rw [hid.out]
              obtain ⟨c0, c1, c2, c3, c4, c5⟩ := hW.below hb1
              have hbl : Below w.heap.size w w1 := (below1 w _).trans (hb1.mono (by simp))
              go_wp2_with fail
              refine (within_is q2 _).mono ?_
              rintro r w0 ⟨rfl, rfl⟩
              go_wp2
              go_ret
              exact ⟨by rw [hr.out]; rfl, hbl⟩
            · skip
              have hr := Lib.hid (show wrightC 4 true d.size e.size f = 2 by unfold wrightC; rw [if_neg (by omega), if_neg (by simp), if_neg (by omega), if_neg (by omega), if_pos (by omega)])
              have q0 : e.toList.isEmpty = true := by rw [HZ.out]; simp only [decide_eq_true_eq, decide_eq_false_iff_not]; omega
              have q1 : (f != 0) = true := by simp only [bne_iff_ne, bne_eq_false_iff_eq, ne_eq]; omega
              have q2 := Lib.hid (show inB f (0) 1000 = false by unfold inB; rw [decide_eq_false]; omega)
              clear h1 h2 h3 h4 h5
              have B0 := Lib.hid (show inB 4 1 4 = true by decide)
              go_enter Tryz.func38, Tryz.ntmps38
              go_wp2_with fail
              refine (within_is B0 _).mono ?_
              rintro r w0 ⟨rfl, rfl⟩
              go_wp2_with fail
              refine (ridright_any a b _).mono ?_
              rintro r w1 ⟨rfl, hb1⟩
              rw [hid.out]
              obtain ⟨c0, c1, c2, c3, c4, c5⟩ := hW.below hb1
              have hbl : Below w.heap.size w w1 := (below1 w _).trans (hb1.mono (by simp))
              go_wp2_with fail
              refine (within_is q2 _).mono ?_
              rintro r w0 ⟨rfl, rfl⟩
              go_wp2
              go_ret
              exact ⟨by rw [hr.out]; rfl, hbl⟩
        · by_cases h4 : f = 0
          · skip
            have hr := Lib.hid (show wrightC 4 true d.size e.size f = 0 by unfold wrightC; rw [if_neg (by omega), if_neg (by simp), if_neg (by omega), if_neg (by omega), if_neg (by omega)])
            have q0 : e.toList.isEmpty = false := by rw [HZ.out]; simp only [decide_eq_true_eq, decide_eq_false_iff_not]; omega
            have q1 : (f != 0) = false := by simp only [bne_iff_ne, bne_eq_false_iff_eq, ne_eq]; omega
            have q2 := Lib.hid (show inB f (0) 1000 = true by unfold inB; rw [decide_eq_true]; omega)
            clear h1 h2 h3 h4
            have B0 := Lib.hid (show inB 4 1 4 = true by decide)
            go_enter Tryz.func38, Tryz.ntmps38
            go_wp2_with fail
            refine (within_is B0 _).mono ?_
            rintro r w0 ⟨rfl, rfl⟩
            go_wp2_with fail
            refine (ridright_any a b _).mono ?_
            rintro r w1 ⟨rfl, hb1⟩
            rw [hid.out]
            obtain ⟨c0, c1, c2, c3, c4, c5⟩ := hW.below hb1
            have hbl : Below w.heap.size w w1 := (below1 w _).trans (hb1.mono (by simp))
            go_wp2_with fail
            refine (itoa4 _).mono ?_
            rintro r w0 ⟨rfl, rfl⟩
            go_wp2_with fail
            refine (has4 _).mono ?_
            rintro r w0 ⟨rfl, rfl⟩
            go_wp2_with fail
            refine (within_is q2 _).mono ?_
            rintro r w0 ⟨rfl, rfl⟩
            go_wp2
            go_ret
            exact ⟨by rw [hr.out]; rfl, hbl⟩
          · by_cases h5 : (0 ≤ f ∧ f ≤ 1000)
            · skip
              have hr := Lib.hid (show wrightC 4 true d.size e.size f = 0 by unfold wrightC; rw [if_neg (by omega), if_neg (by simp), if_neg (by omega), if_neg (by omega), if_neg (by omega)])
              have q0 : e.toList.isEmpty = false := by rw [HZ.out]; simp only [decide_eq_true_eq, decide_eq_false_iff_not]; omega
              have q1 : (f != 0) = true := by simp only [bne_iff_ne, bne_eq_false_iff_eq, ne_eq]; omega
              have q2 := Lib.hid (show inB f (0) 1000 = true by unfold inB; rw [decide_eq_true]; omega)
              clear h1 h2 h3 h4 h5
              have B0 := Lib.hid (show inB 4 1 4 = true by decide)
              go_enter Tryz.func38, Tryz.ntmps38
              go_wp2_with fail
              refine (within_is B0 _).mono ?_
              rintro r w0 ⟨rfl, rfl⟩
              go_wp2_with fail
              refine (ridright_any a b _).mono ?_
              rintro r w1 ⟨rfl, hb1⟩
              rw [hid.out]
              obtain ⟨c0, c1, c2, c3, c4, c5⟩ := hW.below hb1
              have hbl : Below w.heap.size w w1 := (below1 w _).trans (hb1.mono (by simp))
              go_wp2_with fail
              refine (itoa4 _).mono ?_
              rintro r w0 ⟨rfl, rfl⟩
              go_wp2_with fail
              refine (has4 _).mono ?_
              rintro r w0 ⟨rfl, rfl⟩
              go_wp2_with fail
              refine (within_is q2 _).mono ?_
              rintro r w0 ⟨rfl, rfl⟩
              go_wp2
              go_ret
              exact ⟨by rw [hr.out]; rfl, hbl⟩
            · skip
              have hr := Lib.hid (show wrightC 4 true d.size e.size f = 2 by unfold wrightC; rw [if_neg (by omega), if_neg (by simp), if_neg (by omega), if_neg (by omega), if_pos (by omega)])
              have q0 : e.toList.isEmpty = false := by rw [HZ.out]; simp only [decide_eq_true_eq, decide_eq_false_iff_not]; omega
              have q1 : (f != 0) = true := by simp only [bne_iff_ne, bne_eq_false_iff_eq, ne_eq]; omega
              have q2 := Lib.hid (show inB f (0) 1000 = false by unfold inB; rw [decide_eq_false]; omega)
              clear h1 h2 h3 h4 h5
              have B0 := Lib.hid (show inB 4 1 4 = true by decide)
              go_enter Tryz.func38, Tryz.ntmps38
              go_wp2_with fail
              refine (within_is B0 _).mono ?_
              rintro r w0 ⟨rfl, rfl⟩
              go_wp2_with fail
              refine (ridright_any a b _).mono ?_
              rintro r w1 ⟨rfl, hb1⟩
              rw [hid.out]
              obtain ⟨c0, c1, c2, c3, c4, c5⟩ := hW.below hb1
              have hbl : Below w.heap.size w w1 := (below1 w _).trans (hb1.mono (by simp))
              go_wp2_with fail
              refine (itoa4 _).mono ?_
              rintro r w0 ⟨rfl, rfl⟩
              go_wp2_with fail
              refine (has4 _).mono ?_
              rintro r w0 ⟨rfl, rfl⟩
              go_wp2_with fail
              refine (within_is q2 _).mono ?_
              rintro r w0 ⟨rfl, rfl⟩
              go_wp2
              go_ret
              exact ⟨by rw [hr.out]; rfl, hbl⟩
set_option maxHeartbeats 2000000 in
set_option maxRecDepth 100000 in
theorem rwright0 (a b c f : Int) (d e : ByteArray) (w : World) (hc : c < 1 ∨ 4 < c) : Calls Tryz.prog 38 #[wrV a b (c) d e f] w fun r w' => r = .returned (.int .i64 (wright (a, b, c, d, e, f))) ∧ Below w.heap.size w w' := by
  rw [wright_is]
  have hW := WrAt.new w a b (c) d e f
  have hr := Lib.hid (show wrightC c (idRight (a, b)) d.size e.size f = 1 by unfold wrightC; rw [if_pos hc])
  have B0 := Lib.hid (show inB c 1 4 = false by unfold inB; rw [decide_eq_false]; omega)
  clear hc
  go_enter Tryz.func38, Tryz.ntmps38
  go_wp2_with fail
  refine (within_is B0 _).mono ?_
  rintro r w0 ⟨rfl, rfl⟩
  go_wp2
  go_ret
  exact ⟨by rw [hr.out]; rfl, below1 w _⟩
theorem rwright_any (x : Wr) (w : World) : Calls Tryz.prog 38 #[wrV x.1 x.2.1 x.2.2.1 x.2.2.2.1 x.2.2.2.2.1 x.2.2.2.2.2] w fun r w' => r = .returned (.int .i64 (wright x)) ∧ Below w.heap.size w w' := by
  obtain ⟨a, b, c, d, e, f⟩ := x
  by_cases h : c < 1 ∨ 4 < c
  · exact rwright0 a b c f d e w h
  · rcases (by omega : c = 1 ∨ c = 2 ∨ c = 3 ∨ c = 4) with rfl | rfl | rfl | rfl
    · exact rwright1 a b f d e w
    · exact rwright2 a b f d e w
    · exact rwright3 a b f d e w
    · exact rwright4 a b f d e w
end Go.Proofs.YtnaclpfcldoebaaGreatDoor
end
