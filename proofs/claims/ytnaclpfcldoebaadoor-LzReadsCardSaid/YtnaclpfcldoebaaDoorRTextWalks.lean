/- Text of the reference makes what ttext says. -/
import Derived.Test.YtnaclpfcldoebaaDoorRTextRight
import Derived.Test.YtnaclpfcldoebaaDoorTextWalks
import Derived.Test.YtnaclpfcldoebaaDoorSealLaw
import Derived.Test.YtnaclpfcldoebaaDoorIs
namespace Go.Proofs.YtnaclpfcldoebaaDoor
open Go.RowKit As
theorem strOf_ext (l : List UInt8) (a b : Nat) : (strOf l).extract a b = strOf ((l.drop a).take (b - a)) := by
  apply ByteArray.ext
  simp [ByteArray.data_extract]
/-- How long a text is. -/
def strLen : Value → Nat
  | .string s => s.size
  | _ => 0
theorem strOf_toList (s : ByteArray) : strOf s.data.toList = s := by
  apply ByteArray.ext; simp
set_option maxHeartbeats 2000000 in
set_option maxRecDepth 100000 in
theorem rtext_any (w : World) (n c : Nat) (A : Option Addr) (l : List Tok) (hl : Toks w w.heap.size A n l) (hn : n ≤ maxLen) :
    Calls Tryd.prog 46 #[.slice A n c] w fun e w' => e = .returned (.tuple #[.string (textOf l).1, faultV (textOf l).2]) ∧ Below w.heap.size w w' := by
  have hlen := Lib.hid hl.len
  by_cases hbad : (tright l).1 ≠ 0
  · have HB := Lib.hid hbad
    have hR := Lib.hid (text_bad hbad)
    clear hbad
    go_enter Tryd.func46, Tryd.ntmps46
    go_wp2_with fail
    refine (rtright_any _ n c A l (hl.grow (below1 _ _)) hn).mono ?_
    rintro e w1 ⟨rfl, hb⟩
    unfold faultV
    have hbad := HB.out
    generalize hF : tright l = f at *
    clear hF
    obtain ⟨e1, p1⟩ := f
    simp only at hbad
    go_wp2_with fail
    refine (is_any (e1, p1) _).mono ?_
    rintro r w2 ⟨rfl, hb2⟩
    have hne : (e1 == 0) = false := beq_eq_false_iff_ne.2 hbad
    have T0 := (((Two.new w 0 0 25).below hb).below (below1 w1 (.cells #[.int .i64 e1, .int .i64 p1] 25))).below hb2
    have T1 := (Two.new w1 e1 p1 25).below hb2
    have hz := hb.size
    simp only [World.size_alloc] at hz
    have hbb : Below w.heap.size w w2 := ((below1 _ _).trans (hb.mono (by simp))).trans (((below1 w1 _).trans (hb2.mono (by simp))).mono (by omega))
    obtain ⟨c0, c1, f0, f1⟩ := T0
    obtain ⟨d0, d1, g0, g1⟩ := T1
    simp only [hne]
    go_wp2_with fail
    go_region
    have S := set2 (.int .i64 e1) (.int .i64 p1) c0 c1
    go_wp2
    exact bodyPost_ret (v := .tuple #[.string ⟨#[]⟩, .agg #[.int .i64 e1, .int .i64 p1]]) (by simp [results, Tryd.results46, go_sem, S.1, S.2]) rfl ⟨by rw [hR.out]; rfl, (below_set2 _ _ hbb (Nat.le_refl _)).drew⟩
  · have h0 : (tright l).1 = 0 := by omega
    have hok := Lib.hid (tright_ok h0)
    have hP := Lib.hid (tright_place h0)
    have hR := Lib.hid (text_good h0)
    clear hbad h0
    unfold maxLen at hn
    go_enter Tryd.func46, Tryd.ntmps46
    go_wp2_with fail
    refine (rtright_any _ n c A l (hl.grow (below1 _ _)) (by unfold maxLen; omega)).mono ?_
    rintro e w1 ⟨rfl, hb⟩
    rw [hP.out]
    unfold faultV
    go_wp2_with fail
    refine (is_any (0, -1) _).mono ?_
    rintro r w2 ⟨rfl, hb2⟩
    have hne : ((0 : Int) == 0) = true := rfl
    have T0 := (((Two.new w 0 0 25).below hb).below (below1 w1 (.cells #[.int .i64 0, .int .i64 (-1)] 25))).below hb2
    have hz := hb.size
    simp only [World.size_alloc] at hz
    have hbb : Below w.heap.size w w2 := ((below1 _ _).trans (hb.mono (by simp))).trans (((below1 w1 _).trans (hb2.mono (by simp))).mono (by omega))
    have hl2 := hl.grow hbb
    have hw0 : w.heap.size < w2.heap.size := T0.lt
    simp only [hne]
    clear hb hb2 hz hl
    go_wp2
    go_loopw [5, 7, 8, 17] (fun v _ _ i wr => ∃ k : Nat, k ≤ n ∧ i = .int .i64 k ∧ TOk (l.drop k) (tsofar l k).length ∧ v = .string (strOf (tsofar l k)) ∧ Below w2.heap.size w2 wr) (fun _ _ _ i _ => n - (intOf i).toNat)
    case atStart => exact ⟨0, by omega, rfl, hok.out, rfl, Below.refl _ _⟩
    case round =>
      obtain ⟨k, hk, rfl, hto, rfl, hbel⟩ := hrel
      have hB := hbel.size
      by_cases hlt : k < n
      · obtain ⟨b, o, s, r, t, rfl, hb', hx, hf, c0, c1, c2⟩ := hl2.at_ hlt
        have c0 := (hbel.cell (p := ⟨b, o + k * 3, none⟩) (by simp; omega)).trans c0
        have c1 := (hbel.cell (p := ⟨b, o + k * 3 + 1, none⟩) (by simp; omega)).trans c1
        have c2 := (hbel.cell (p := ⟨b, o + k * 3 + 2, none⟩) (by simp; omega)).trans c2
        have hsf := Lib.hid (tsofar_succ hx)
        have hle := hto.le
        by_cases h1 : s.size = 0
        · obtain ⟨q0, q1, q2, q3, q4, q5⟩ := tok_rep hto hx h1
          simp only at q0 q1 q2 q3 q4 q5
          have hst := Lib.hid (show tsofar l (k + 1) = rep (tsofar l k) r.toNat t.toNat by rw [hsf.out]; unfold tstep; rw [if_neg (by simpa using h1)])
          obtain ⟨z, rfl⟩ := Int.eq_ofNat_of_zero_le (show 0 ≤ t by omega)
          obtain ⟨y, rfl⟩ := Int.eq_ofNat_of_zero_le (show 0 ≤ r by omega)
          rw [Int.toNat_natCast, Int.toNat_natCast] at hst
          rw [Int.toNat_natCast] at q4 q5
          have Q5 := Lib.hid q5
          have X := Lib.hid hx
          have hs0 : s = ⟨#[]⟩ := by
            apply ByteArray.ext
            apply Array.eq_empty_of_size_eq_zero
            simpa using h1
          subst hs0
          have z0 : (⟨#[]⟩ : ByteArray).size = 0 := rfl
          have hlr := Lib.hid (rep_len (tsofar l k) y z)
          have hov := Lib.hid (rep_over (tsofar l k) y z (by omega) (by omega))
          clear hto hx hf h1 q5 hsf
          generalize hacc : tsofar l k = acc at *
          have HA := Lib.hid hacc
          clear hacc
          have hpl : (acc.drop (acc.length - y)).length = y := by simp; omega
          have hTl := strOf_len acc
          have hex := strOf_ext acc (acc.length - y) acc.length
          rw [List.take_of_length_le (by rw [hpl]; omega)] at hex
          have hself := over_self (acc.drop (acc.length - y))
          rw [hpl] at hself
          obtain ⟨P, hP⟩ : ∃ P, P = acc.drop (acc.length - y) := ⟨_, rfl⟩
          rw [← hP] at hself hpl hex hov
          obtain ⟨T, hT⟩ : ∃ T, T = strOf acc := ⟨_, rfl⟩
          have hnil := Lib.hid (strOf_nil T)
          rw [← hT] at hTl hex ⊢
          have HEX := Lib.hid hex
          have HSELF := Lib.hid hself
          have HPL := Lib.hid hpl
          have HT := Lib.hid hT
          have HPP := Lib.hid hP
          clear hT hP hex hself hpl
          have hcat : T.size + (⟨#[]⟩ : ByteArray).size ≤ 9223372036854775807 := by omega
          have hE : T ++ (⟨#[]⟩ : ByteArray) = T := hnil.out
          go_wp2
          rw [HEX.out]
          go_loop [8] (fun v => ∃ m : Nat, 1 ≤ m ∧ m * y ≤ 100000 ∧ v = .string (strOf (over P (m * y)))) (fun v => z - strLen v)
          case atStart => exact ⟨1, by omega, by omega, by rw [Nat.one_mul, HSELF.out]⟩
          case round =>
            obtain ⟨m, hm, hm2, rfl⟩ := hrel
            have hlo : (strOf (over P (m * y))).size = m * y := by rw [strOf_len, over_len]
            have hdb := Lib.hid (over_double P (over P (m * y)) m (by rw [HPL.out]))
            have hmy : y ≤ m * y := Nat.le_mul_of_pos_left y hm
            have h2m : 2 * m * y = m * y + m * y := by rw [Nat.mul_assoc, Nat.two_mul]
            rw [HPL.out] at hdb
            have hadd := Lib.hid (strOf_add (over P (m * y)) (over P (m * y)))
            obtain ⟨q, hq⟩ : ∃ q, q = m * y := ⟨_, rfl⟩
            rw [← hq] at hlo hdb hmy h2m hadd hm2 ⊢
            obtain ⟨U, hU⟩ : ∃ U, U = strOf (over P q) := ⟨_, rfl⟩
            rw [← hU] at hlo hadd ⊢
            have HU := Lib.hid hU
            have HQ := Lib.hid hq
            have H2 := Lib.hid h2m
            clear hU hq h2m
            by_cases hlt2 : q < z
            · have hc2 : U.size + U.size ≤ 9223372036854775807 := by omega
              go_wp2
              go_round
              case rel => exact ⟨2 * m, by omega, by rw [H2.out]; omega, by rw [← hadd.out, hdb.out]⟩
              case measure => simp only [strLen, ByteArray.size_append]; omega
            · have hex2 := Lib.hid (strOf_ext (over P q) 0 z)
              have htk := Lib.hid (over_take P z q (by omega))
              rw [← HU.out] at hex2
              rw [List.drop_zero, Nat.sub_zero, htk.out] at hex2
              have hle3 : z ≤ q := by omega
              have hsz3 : (strOf (over P z)).size = z := by rw [strOf_len, over_len]
              obtain ⟨V, hV⟩ : ∃ V, V = strOf (over P z) := ⟨_, rfl⟩
              rw [← hV] at hsz3 hex2
              have HV := Lib.hid hV
              clear hV
              have hc3 : T.size + V.size ≤ 9223372036854775807 := by omega
              have hX3 : U.extract 0 z = V := hex2.out
              go_wp2
              go_roundw
              case rel => exact ⟨k + 1, by omega, by go_num, by rw [hst.out, hlr.out]; exact Q5.out, by rw [hst.out, hov.out, strOf_add, HT.out, HV.out], hbel.alloc hB _⟩
              case measure => simp [intOf]; omega
        · obtain ⟨q0, q1, q2, q3⟩ := tok_own hto hx h1
          simp only at q0 q1 q2 q3
          subst q0 q1
          have hst := Lib.hid (show tsofar l (k + 1) = tsofar l k ++ s.data.toList by rw [hsf.out]; unfold tstep; rw [if_pos h1])
          have Q3 := Lib.hid q3
          have X := Lib.hid hx
          clear hto hx hf h1 q3 hsf
          generalize hacc : tsofar l k = acc at *
          have HA := Lib.hid hacc
          clear hacc
          have hTl := strOf_len acc
          obtain ⟨T, hT⟩ : ∃ T, T = strOf acc := ⟨_, rfl⟩
          rw [← hT] at hTl ⊢
          have HT := Lib.hid hT
          clear hT
          have hcat : T.size + s.size ≤ 9223372036854775807 := by omega
          go_wp2
          go_roundw
          case rel => exact ⟨k + 1, by omega, by go_num, by rw [hst.out, List.length_append, size_len]; exact Q3.out, by rw [hst.out, strOf_add, strOf_toList, HT.out], hbel.alloc hB _⟩
          case measure => simp [intOf]; omega
      · obtain rfl : k = n := by omega
        have hend := Lib.hid (show tsofar l k = ttext l by unfold tsofar ttext; rw [List.take_of_length_le (by rw [hlen.out]; exact Nat.le_refl _)])
        go_wp2_with fail
        refine (good_any _).mono ?_
        rintro e w3 ⟨rfl, hb3⟩
        have hb4 := hbb.trans ((hbel.trans (hb3.mono hB)).mono hbb.size)
        obtain ⟨c0, c1, f0, f1⟩ := T0.keep (hbel.trans (hb3.mono hB)) hw0
        have S := set2 (.int .i64 0) (.int .i64 (-1)) c0 c1
        go_wp2
        exact bodyPost_ret (v := .tuple #[.string (strOf (tsofar l k)), .agg #[.int .i64 0, .int .i64 (-1)]]) (by simp [results, Tryd.results46, go_sem, S.1, S.2]) rfl ⟨by rw [hR.out, hend.out]; rfl, below_set2 _ _ hb4 (Nat.le_refl _)⟩
end Go.Proofs.YtnaclpfcldoebaaDoor
