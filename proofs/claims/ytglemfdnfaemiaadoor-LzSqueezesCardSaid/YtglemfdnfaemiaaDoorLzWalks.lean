/- lz.Write says what twrite says. -/
import Derived.Test.YtglemfdnfaemiaaDoorLzLaw
import Derived.Test.YtglemfdnfaemiaaDoorTextWalks
import Derived.Test.YtglemfdnfaemiaaDoorVaryPut
import Derived.Test.YtglemfdnfaemiaaDoorSealLaw
import Derived.Test.YtglemfdnfaemiaaDoorQuiet
import Derived.Deep.RegionWith
namespace Go.Proofs.YtglemfdnfaemiaaDoor
open Go.RowKit As
/-- The bytes so far, ahead of token k. -/
def bsofar (l : List Tok) (k : Nat) : List UInt8 := (l.take k).flatMap tbytes
theorem bsofar_succ {l : List Tok} {k : Nat} {t : Tok} (h : l[k]? = some t) : bsofar l (k + 1) = bsofar l k ++ tbytes t := by
  obtain ⟨hk, e⟩ := List.getElem?_eq_some_iff.1 h
  unfold bsofar
  rw [List.take_succ_eq_append_getElem hk, e, List.flatMap_append]; simp
theorem twrite_bad {l : List Tok} (h : (tright l).1 ≠ 0) : twrite l = (⟨#[]⟩, tright l) := by unfold twrite; rw [if_pos h]
theorem twrite_good {l : List Tok} (h : (tright l).1 = 0) : twrite l = (strOf (l.flatMap tbytes), 0, -1) := by unfold twrite; rw [if_neg (by omega)]
theorem tbytes_own {t : Tok} (h : t.1.size ≠ 0) : tbytes t = vput (2 * t.1.size) ++ t.1.data.toList := by unfold tbytes; rw [if_pos h]
theorem tbytes_rep {t : Tok} (h : t.1.size = 0) : tbytes t = vput (2 * (t.2.2 - 4).toNat + 1) ++ vput (t.2.1 - 1).toNat := by unfold tbytes; rw [if_neg (by omega)]
theorem strOf_toList' (s : ByteArray) : strOf s.data.toList = s := by
  apply ByteArray.ext; simp
theorem vput_is {n : Nat} {V : ByteArray} (hV : Hid (V = strOf (vput n))) (hn : n < 18446744073709551616) (w : World) : Calls Tryd.prog 44 #[.int .u64 (n : Int)] w fun e w' => e = .returned (.string V) ∧ Below w.heap.size w w' :=
  (vput_any n w hn).mono fun _ _ h => ⟨by rw [hV.out]; exact h.1, h.2⟩
theorem vput_short {n : Nat} {V : ByteArray} (hV : Hid (V = strOf (vput n))) (hn : n < 18446744073709551616) : V.size ≤ 10 := by
  rw [hV.out, strOf_len]; exact vput_len10 hn
set_option maxHeartbeats 2000000 in
set_option maxRecDepth 100000 in
theorem twrite_any (w : World) (n c : Nat) (A : Option Addr) (l : List Tok) (hl : Toks w w.heap.size A n l) (hn : n * 32 ≤ 140737488351232) :
    Calls Tryd.prog 70 #[.slice A n c] w fun e w' => ∃ v, e = .returned (.tuple #[.string (twrite l).1, v]) ∧ ErrOf w' v (twrite l).2 ∧ Below w.heap.size w w' := by
  have hlen := Lib.hid hl.len
  have hnM : n ≤ maxLen := by unfold maxLen; omega
  by_cases hbad : (tright l).1 ≠ 0
  · have HB := Lib.hid hbad
    clear hbad
    go_enter Tryd.func70, Tryd.ntmps70
    go_wp2_with fail
    refine (tright_any w n c A l hl hnM).mono ?_
    rintro e w1 ⟨v, rfl, hv, hb⟩
    unfold ErrOf at hv
    have hR := Lib.hid (twrite_bad HB.out)
    have hbad := HB.out
    generalize hF : tright l = f at *
    obtain ⟨e1, p1⟩ := f
    simp only at hv hbad
    have HV := Lib.hid hv
    clear hF
    cases hv with
    | none => exact absurd rfl hbad
    | bare _ he =>
      clear hbad he
      go_wp2
      go_ret2
      rw [hR.out]
      exact ⟨_, rfl, HV.out, hb⟩
    | at_ b o _ _ he h0 h1 =>
      clear hbad he h0 h1
      go_wp2
      go_ret2
      rw [hR.out]
      exact ⟨_, rfl, HV.out, hb⟩
  · have h0 : (tright l).1 = 0 := by omega
    have hok := Lib.hid (tright_ok h0)
    have hpl := tright_place h0
    have hR := Lib.hid (twrite_good h0)
    have hP := Lib.hid hpl
    clear hbad h0 hpl
    go_enter Tryd.func70, Tryd.ntmps70
    go_wp2_with fail
    refine (tright_any w n c A l hl hnM).mono ?_
    rintro e w1 ⟨v, rfl, hv, hb⟩
    rw [hP.out] at hv
    obtain ⟨rfl, _⟩ := ErrIs.zero hv
    have hl1 := hl.grow hb
    clear hv
    go_wp2
    go_loopw [5, 7, 15] (fun v _ i wr => ∃ k q : Nat, k ≤ n ∧ i = .int .i64 k ∧ TOk (l.drop k) q ∧ v = .string (strOf (bsofar l k)) ∧ Hid ((bsofar l k).length ≤ q + 30 * k) ∧ Below w1.heap.size w1 wr) (fun _ _ i _ => n - (intOf i).toNat)
    case atStart => exact ⟨0, 0, by omega, rfl, hok.out, rfl, Lib.hid (by simp [bsofar]), Below.refl _ _⟩
    case round =>
      obtain ⟨k, q, hk, rfl, hto, rfl, hbl, hbel⟩ := hrel
      have hB := hbel.size
      by_cases hlt : k < n
      · obtain ⟨b, o, s, r, t, rfl, hb', hx, hf, c0, c1, c2⟩ := hl1.at_ hlt
        have c0 := (hbel.cell (p := ⟨b, o + k * 3, none⟩) (by simp; omega)).trans c0
        have c1 := (hbel.cell (p := ⟨b, o + k * 3 + 1, none⟩) (by simp; omega)).trans c1
        have c2 := (hbel.cell (p := ⟨b, o + k * 3 + 2, none⟩) (by simp; omega)).trans c2
        have hsf := Lib.hid (bsofar_succ hx)
        have hle := hto.le
        have hTl := strOf_len (bsofar l k)
        have hbl2 := hbl.out
        obtain ⟨T, hT⟩ : ∃ T, T = strOf (bsofar l k) := ⟨_, rfl⟩
        rw [← hT] at hTl ⊢
        have HT := Lib.hid hT
        clear hT
        by_cases h1 : s.size = 0
        · obtain ⟨q0, q1, q2, q3, q4, q5⟩ := tok_rep hto hx h1
          simp only at q0 q1 q2 q3 q4 q5
          have htb := Lib.hid (tbytes_rep (t := (s, r, t)) h1)
          obtain ⟨z, rfl⟩ := Int.eq_ofNat_of_zero_le (show 0 ≤ t by omega)
          obtain ⟨y, rfl⟩ := Int.eq_ofNat_of_zero_le (show 0 ≤ r by omega)
          have hE : s.toList.isEmpty = true := str_no h1
          have e1 : IntKind.i64.wrap ((z : Int) - 4) = ((z - 4 : Nat) : Int) := by rw [IntWalk.i64_in _ (by omega)]; omega
          have e2 : IntKind.i64.wrap ((y : Int) - 1) = ((y - 1 : Nat) : Int) := by rw [IntWalk.i64_in _ (by omega)]; omega
          have X := Lib.hid hx
          have Q5 := Lib.hid q5
          clear hto hx hf h1 q5
          have k0 := Inv.cell (w := wr.alloc (.cells #[.string s, .int .i64 y, .int .i64 z] 104)) (a := ⟨wr.heap.size, 1, none⟩) (v := .int .i64 y) (by rw [World.cell?_alloc_new]; rfl)
          have k1 := Inv.cell (w := wr.alloc (.cells #[.string s, .int .i64 y, .int .i64 z] 104)) (a := ⟨wr.heap.size, 2, none⟩) (v := .int .i64 z) (by rw [World.cell?_alloc_new]; rfl)
          have hlt1 : 2 * (z - 4) + 1 < 18446744073709551616 := by omega
          have hlt2 : y - 1 < 18446744073709551616 := by omega
          have hor := Lib.hid (show bits BinOp.or IntKind.u64 (((z - 4 : Nat) : Int) * 2) 1 = ((2 * (z - 4) + 1 : Nat) : Int) by
            have e := u64_or_nat (2 * (z - 4)) 1 (by omega) (by omega)
            rw [nat_join 1 _ _ (by omega) (by omega)] at e
            rw [← e]
            congr 1
            omega)
          obtain ⟨V, hV⟩ : ∃ V, Hid (V = strOf (vput (2 * (z - 4) + 1))) := ⟨_, Lib.hid rfl⟩
          obtain ⟨U, hU⟩ : ∃ U, Hid (U = strOf (vput (y - 1))) := ⟨_, Lib.hid rfl⟩
          have hVs := vput_short hV hlt1
          have hUs := vput_short hU hlt2
          have z1 : ¬ 9223372036854775807 < V.size + U.size := by omega
          have z2 : ¬ 9223372036854775807 < T.size + (V.size + U.size) := by omega
          have htb2 := Lib.hid (show tbytes (s, (y : Int), (z : Int)) = vput (2 * (z - 4) + 1) ++ vput (y - 1) by
            rw [htb.out]
            have a1 : ((z : Int) - 4).toNat = z - 4 := by omega
            have a2 : ((y : Int) - 1).toNat = y - 1 := by omega
            simp only [a1, a2])
          go_wp2
          refine wp_region_inv (by kernel_rfl) (by kernel_rfl) ?_
          repeat (go_big_quiet_step ((first
            | (go_at_call 44; rw [hor.out]; exact Calls.inv_of (vput_is hV hlt1 _))
            | (go_at_call 44; exact Calls.inv_of (vput_is hU hlt2 _)))))
          refine wpQuiet_nil ?_
          intro _ hw'
          obtain ⟨x, rfl⟩ := hw'
          have hbx := x.below
          go_wp2
          go_roundw
          case rel => exact ⟨k + 1, q + z, by omega, by go_num, Q5.out, by rw [hsf.out, htb2.out, strOf_add, strOf_add, HT.out, hV.out, hU.out], Lib.hid (by rw [hsf.out, htb2.out]; simp only [List.length_append]; have := vput_len10 hlt1; have := vput_len10 hlt2; omega), hbel.trans ((below1 wr _).trans (hbx.mono (by simp)) |>.mono hB)⟩
          case measure => simp [intOf]; omega
        · obtain ⟨q0, q1, q2, q3⟩ := tok_own hto hx h1
          simp only at q0 q1 q2 q3
          subst q0 q1
          have htb := Lib.hid (tbytes_own (t := (s, 0, 0)) h1)
          have hE : s.toList.isEmpty = false := str_yes h1
          have Q3 := Lib.hid q3
          have X := Lib.hid hx
          have hlt64 : 2 * s.size < 18446744073709551616 := by omega
          have hu64 := Lib.hid (show (s.size : Int) * 2 = ((2 * s.size : Nat) : Int) by omega)
          clear hto hx hf h1 q3
          have k0 := Inv.cell (w := wr.alloc (.cells #[.string s, .int .i64 0, .int .i64 0] 104)) (a := ⟨wr.heap.size, 0, none⟩) (v := .string s) (by rw [World.cell?_alloc_new]; rfl)
          obtain ⟨V, hV⟩ : ∃ V, Hid (V = strOf (vput (2 * s.size))) := ⟨_, Lib.hid rfl⟩
          have hVs := vput_short hV hlt64
          have z1 : ¬ 9223372036854775807 < V.size + s.size := by omega
          have z2 : ¬ 9223372036854775807 < T.size + (V.size + s.size) := by omega
          go_wp2
          refine wp_region_inv (by kernel_rfl) (by kernel_rfl) ?_
          repeat (go_big_quiet_step ((first
            | (go_at_call 44; rw [hu64.out]; exact Calls.inv_of (vput_is hV hlt64 _)))))
          refine wpQuiet_nil ?_
          intro _ hw'
          obtain ⟨x, rfl⟩ := hw'
          have hbx := x.below
          go_wp2
          go_roundw
          case rel => exact ⟨k + 1, q + s.size, by omega, by go_num, Q3.out, by rw [hsf.out, htb.out, strOf_add, strOf_add, strOf_toList', HT.out, hV.out], Lib.hid (by rw [hsf.out, htb.out]; simp only [List.length_append, size_len]; have := vput_len10 hlt64; omega), hbel.trans ((below1 wr _).trans (hbx.mono (by simp)) |>.mono hB)⟩
          case measure => simp [intOf]; omega
      · obtain rfl : k = n := by omega
        have hend := Lib.hid (show bsofar l k = l.flatMap tbytes by unfold bsofar; rw [List.take_of_length_le (by rw [hlen.out]; exact Nat.le_refl _)])
        go_wp2
        go_ret2
        rw [hR.out, hend.out]
        exact ⟨_, rfl, .none, hb.trans (hbel.mono hb.size)⟩
end Go.Proofs.YtglemfdnfaemiaaDoor
