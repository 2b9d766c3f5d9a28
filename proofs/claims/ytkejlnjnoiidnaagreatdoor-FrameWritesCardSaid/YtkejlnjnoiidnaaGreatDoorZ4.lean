/- TokensRight of the reference says what tright says.

(Fault).Is of the reference.

Text of the reference makes what ttext says.

How many bytes a number needs, and which they are, in plain Lean. No program in sight.

Vary of the reference makes what vput says.

vary.Get and Unvary of the reference say what vget says.

span.Put, span.Get and Span, Unspan of the reference say what spanOf and unspan say. -/
import Derived.Test.YtkejlnjnoiidnaaGreatDoorZ2
import Derived.Test.YtkejlnjnoiidnaaGreatDoorZ3
import Derived.Test.YtkejlnjnoiidnaaGreatDoorZ1
import Derived.Lib.BitFns
import Derived.Test.YtkejlnjnoiidnaaGreatDoorShelfLen
import Derived.OwnWalk
import Derived.WalkKit
import Derived.WalkLawsBesides
import Derived.WalkSpells
import Derived.Outline
import Derived.Lib.Hide
import Derived.Laws.BitsAllLaws
section
namespace Go.Proofs.YtkejlnjnoiidnaaGreatDoor
open Go.RowKit As
set_option maxHeartbeats 2000000 in
set_option maxRecDepth 100000 in
theorem rtright_any (w : World) (n c : Nat) (A : Option Addr) (l : List Tok) (hl : Toks w w.heap.size A n l) (hn : n ≤ maxLen) :
    Calls Tryz.prog 127 #[.slice A n c] w fun e w' => e = .returned (faultV (tright l)) ∧ Below w.heap.size w w' := by
  unfold maxLen at hn
  have hlen := Lib.hid hl.len
  go_enter Tryz.func127, Tryz.ntmps127
  go_wp2
  go_loopw [3, 4, 5, 8] (fun m _ _ i wr => ∃ k p : Nat, k ≤ n ∧ i = .int .i64 k ∧ m = .int .i64 p ∧ TAt l k p ∧ Two wr w.heap.size 0 0 ∧ Below w.heap.size w wr) (fun _ _ _ i _ => n - (intOf i).toNat)
  case atStart => exact ⟨0, 0, by omega, rfl, rfl, TAt.zero l, Two.new _ _ _ _, below1 _ _⟩
  case round =>
    obtain ⟨k, p, hk, rfl, rfl, hat, hT, hbel⟩ := hrel
    have hp := hat.2
    have Hat := Lib.hid hat
    clear hat
    obtain ⟨g0, g1, f0, f1⟩ := hT
    have hs : w.heap.size < wr.heap.size := cell_lt g0
    by_cases hlt : k < n
    · obtain ⟨b, o, s, r, t, rfl, hb, hx, hf, c0, c1, c2⟩ := hl.at_ hlt
      have c0 := (hbel.cell (p := ⟨b, o + k * 3, none⟩) (by simp; omega)).trans c0
      have c1 := (hbel.cell (p := ⟨b, o + k * 3 + 1, none⟩) (by simp; omega)).trans c1
      have c2 := (hbel.cell (p := ⟨b, o + k * 3 + 2, none⟩) (by simp; omega)).trans c2
      have hX := Lib.hid hx
      obtain ⟨f3, f4, f5⟩ := hf
      simp only at f3 f4 f5
      clear hx
      by_cases ha : tokArg (s, r, t)
      · have hres := Lib.hid (Hat.out.arg hX.out ha)
        have hparts : (s.toList.isEmpty = true ∧ (t == 0) = true ∧ (r == 0) = true) ∨ (s.toList.isEmpty = false ∧ (t != 0) = true) ∨ (s.toList.isEmpty = false ∧ (t != 0) = false ∧ (r != 0) = true) := by
          unfold tokArg at ha
          simp only at ha
          rw [str_empty]
          simp only [decide_eq_true_eq, decide_eq_false_iff_not, bne_iff_ne, bne_eq_false_iff_eq, beq_iff_eq]
          omega
        clear ha
        have S := set2_alloc (.int .i64 1) (.int .i64 (k : Int)) (.cells #[.string s, .int .i64 r, .int .i64 t] 174) hs g0 g1
        rcases hparts with ⟨d0, d1, d2⟩ | ⟨d0, d1⟩ | ⟨d0, d1, d2⟩
        all_goals
          go_wp2_with fail
          exact bodyPost_ret (v := .agg #[.int .i64 1, .int .i64 (k : Int)]) (by simp [results, Tryz.results127, go_sem, S.1, S.2]) rfl ⟨by rw [hres.out]; rfl, (below_set2 _ _ hbel (Nat.le_refl _)).alloc (by simp; omega) _⟩
      · by_cases h1 : s.size = 0
        · have hparts : (s.toList.isEmpty = true ∧ (t == 0) = false) ∨ (s.toList.isEmpty = true ∧ (t == 0) = true ∧ (r == 0) = false) := by
            unfold tokArg at ha
            simp only at ha
            rw [str_empty]
            simp only [decide_eq_true_eq, beq_iff_eq, beq_eq_false_iff_ne]
            omega
          have Ha := Lib.hid ha
          have H1 := Lib.hid h1
          clear ha h1
          by_cases h2 : tokRange (s, r, t)
          · have hres := Lib.hid (Hat.out.range hX.out Ha.out H1.out h2)
            have hq : inB t 4 67 = false ∨ (inB t 4 67 = true ∧ inB r 1 1024 = false) := by
              unfold tokRange at h2
              unfold inB
              simp only at h2
              simp only [decide_eq_true_eq, decide_eq_false_iff_not]
              omega
            clear h2
            have S := set2_alloc (.int .i64 2) (.int .i64 (k : Int)) (.cells #[.string s, .int .i64 r, .int .i64 t] 174) hs g0 g1
            rcases hq with e0 | ⟨e0, e1⟩
            · have E0 := Lib.hid e0
              clear e0
              rcases hparts with ⟨d0, d1⟩ | ⟨d0, d1, d2⟩
              all_goals
                go_wp2_with fail
                refine (within_is E0 _).mono ?_
                rintro e w' ⟨rfl, rfl⟩
                go_wp2
                exact bodyPost_ret (v := .agg #[.int .i64 2, .int .i64 (k : Int)]) (by simp [results, Tryz.results127, go_sem, S.1, S.2]) rfl ⟨by rw [hres.out]; rfl, (below_set2 _ _ hbel (Nat.le_refl _)).alloc (by simp; omega) _⟩
            · have E0 := Lib.hid e0
              have E1 := Lib.hid e1
              clear e0 e1
              rcases hparts with ⟨d0, d1⟩ | ⟨d0, d1, d2⟩
              all_goals
                go_wp2_with fail
                refine (within_is E0 _).mono ?_
                rintro e w' ⟨rfl, rfl⟩
                go_wp2_with fail
                refine (within_is E1 _).mono ?_
                rintro e w' ⟨rfl, rfl⟩
                go_wp2
                exact bodyPost_ret (v := .agg #[.int .i64 2, .int .i64 (k : Int)]) (by simp [results, Tryz.results127, go_sem, S.1, S.2]) rfl ⟨by rw [hres.out]; rfl, (below_set2 _ _ hbel (Nat.le_refl _)).alloc (by simp; omega) _⟩
          · have ht : 4 ≤ t ∧ t ≤ 67 ∧ 1 ≤ r ∧ r ≤ 1024 := by unfold tokRange at h2; simp only at h2; omega
            have E0 := Lib.hid (show inB t 4 67 = true by unfold inB; simp; omega)
            have E1 := Lib.hid (show inB r 1 1024 = true by unfold inB; simp; omega)
            obtain ⟨q0, q1, q2, q3⟩ := ht
            have H2 := Lib.hid h2
            clear h2
            by_cases h3 : (p : Int) < r
            · have hres := Lib.hid (Hat.out.missing hX.out Ha.out H1.out H2.out h3)
              have e4 : decide ((p : Int) < r) = true := by simpa using h3
              clear h3
              have S := set2_alloc (.int .i64 7) (.int .i64 (k : Int)) (.cells #[.string s, .int .i64 r, .int .i64 t] 174) hs g0 g1
              rcases hparts with ⟨d0, d1⟩ | ⟨d0, d1, d2⟩
              all_goals
                go_wp2_with fail
                refine (within_is E0 _).mono ?_
                rintro e w' ⟨rfl, rfl⟩
                go_wp2_with fail
                refine (within_is E1 _).mono ?_
                rintro e w' ⟨rfl, rfl⟩
                go_wp2
                exact bodyPost_ret (v := .agg #[.int .i64 7, .int .i64 (k : Int)]) (by simp [results, Tryz.results127, go_sem, S.1, S.2]) rfl ⟨by rw [hres.out]; rfl, (below_set2 _ _ hbel (Nat.le_refl _)).alloc (by simp; omega) _⟩
            · have e4 : decide ((p : Int) < r) = false := by simpa using h3
              have H3 := Lib.hid h3
              clear h3
              by_cases h4 : 20000 < p + t.toNat
              · have hres := Lib.hid (Hat.out.big hX.out Ha.out H1.out H2.out H3.out h4)
                have e5 : decide (20000 < (p : Int) + t) = true := by simp; omega
                clear h4
                have S := set2_alloc (.int .i64 4) (.int .i64 (k : Int)) (.cells #[.string s, .int .i64 r, .int .i64 t] 174) hs g0 g1
                rcases hparts with ⟨d0, d1⟩ | ⟨d0, d1, d2⟩
                all_goals
                  go_wp2_with fail
                  refine (within_is E0 _).mono ?_
                  rintro e w' ⟨rfl, rfl⟩
                  go_wp2_with fail
                  refine (within_is E1 _).mono ?_
                  rintro e w' ⟨rfl, rfl⟩
                  go_wp2
                  exact bodyPost_ret (v := .agg #[.int .i64 4, .int .i64 (k : Int)]) (by simp [results, Tryz.results127, go_sem, S.1, S.2]) rfl ⟨by rw [hres.out]; rfl, (below_set2 _ _ hbel (Nat.le_refl _)).alloc (by simp; omega) _⟩
              · have hnext := Lib.hid (Hat.out.next hX.out Ha.out H1.out H2.out H3.out h4)
                have e5 : decide (20000 < (p : Int) + t) = false := by simp; omega
                have H4 := Lib.hid h4
                clear h4
                rcases hparts with ⟨d0, d1⟩ | ⟨d0, d1, d2⟩
                all_goals
                  go_wp2_with fail
                  refine (within_is E0 _).mono ?_
                  rintro e w' ⟨rfl, rfl⟩
                  go_wp2_with fail
                  refine (within_is E1 _).mono ?_
                  rintro e w' ⟨rfl, rfl⟩
                  go_wp2
                  go_roundw
                  case rel => exact ⟨k + 1, p + t.toNat, by omega, by go_num, valI (by omega), hnext.out, (Two.mk g0 g1 f0 f1).below (below1 _ _), hbel.alloc (by omega) _⟩
                  case measure => simp [intOf]; omega
        · have d0 : s.toList.isEmpty = false := str_yes h1
          have hz : t = 0 ∧ r = 0 := by unfold tokArg at ha; simp only at ha; omega
          obtain ⟨rfl, rfl⟩ := hz
          have Ha := Lib.hid ha
          have H1 := Lib.hid h1
          clear ha h1
          by_cases h2 : 20000 < p + s.size
          · have hres := Lib.hid (Hat.out.ownBig hX.out Ha.out H1.out h2)
            have e5 : decide (20000 < (p : Int) + (s.size : Int)) = true := by simp; omega
            clear h2
            have S := set2_alloc (.int .i64 4) (.int .i64 (k : Int)) (.cells #[.string s, .int .i64 0, .int .i64 0] 174) hs g0 g1
            go_wp2
            exact bodyPost_ret (v := .agg #[.int .i64 4, .int .i64 (k : Int)]) (by simp [results, Tryz.results127, go_sem, S.1, S.2]) rfl ⟨by rw [hres.out]; rfl, (below_set2 _ _ hbel (Nat.le_refl _)).alloc (by simp; omega) _⟩
          · have hnext := Lib.hid (Hat.out.ownNext hX.out Ha.out H1.out h2)
            have e5 : decide (20000 < (p : Int) + (s.size : Int)) = false := by simp; omega
            have e6 : s.size ≤ 20000 := by omega
            have e7 : wrap64 ((p : Int) + (s.size : Int)) = (p : Int) + (s.size : Int) := by unfold wrap64; omega
            go_wp2
            go_roundw
            case rel => exact ⟨k + 1, p + s.size, by omega, by go_num, by go_num, hnext.out, (Two.mk g0 g1 f0 f1).below (below1 _ _), hbel.alloc (by omega) _⟩
            case measure => simp [intOf]; omega
    · obtain rfl : k = n := by omega
      have hend := Lib.hid (Hat.out.all (by rw [hlen.out]; exact Nat.le_refl _))
      clear hlt
      go_wp2_with fail
      refine (good_any _).mono ?_
      rintro e w' ⟨rfl, hb⟩
      have f0 := (hb.frozen (p := ⟨w.heap.size, 0, none⟩) hs).trans f0
      have f1 := (hb.frozen (p := ⟨w.heap.size, 1, none⟩) hs).trans f1
      have g0 := (hb.cell (p := ⟨w.heap.size, 0, none⟩) hs).trans g0
      have g1 := (hb.cell (p := ⟨w.heap.size, 1, none⟩) hs).trans g1
      have S := set2 (.int .i64 0) (.int .i64 (-1)) g0 g1
      go_wp2
      exact bodyPost_ret (v := .agg #[.int .i64 0, .int .i64 (-1)]) (by simp [results, Tryz.results127, go_sem, S.1, S.2]) rfl ⟨by rw [hend.out]; rfl, below_set2 _ _ (hbel.trans (hb.mono (by omega))) (Nat.le_refl _)⟩
end Go.Proofs.YtkejlnjnoiidnaaGreatDoor
end

section
namespace Go.Proofs.YtkejlnjnoiidnaaGreatDoor
open Go.RowKit As
theorem is_any (f : Int × Int) (w : World) : Calls Tryz.prog 27 #[.agg #[.int .i64 f.1, .int .i64 f.2]] w fun r w' => r = .returned (.bool (f.1 == 0)) ∧ Below w.heap.size w w' := by
  go_enter Tryz.func27, Tryz.ntmps27
  go_wp2
  go_ret
  exact ⟨rfl, below1 _ _⟩
end Go.Proofs.YtkejlnjnoiidnaaGreatDoor
end

section
namespace Go.Proofs.YtkejlnjnoiidnaaGreatDoor
open Go.RowKit As
theorem strOf_ext (l : List UInt8) (a b : Nat) : (strOf l).extract a b = strOf ((l.drop a).take (b - a)) := by
  apply ByteArray.ext
  simp [ByteArray.data_extract]
/-- How long a text is. -/
def strLen : Value → Nat
  | .string s => s.size
  | _ => 0
theorem strOf_toList (s : ByteArray) : strOf s.data.toList = s := by
  apply ByteArray.ext; simp
set_option maxHeartbeats 2000000 in
set_option maxRecDepth 100000 in
theorem rtext_any (w : World) (n c : Nat) (A : Option Addr) (l : List Tok) (hl : Toks w w.heap.size A n l) (hn : n ≤ maxLen) :
    Calls Tryz.prog 112 #[.slice A n c] w fun e w' => e = .returned (.tuple #[.string (textOf l).1, faultV (textOf l).2]) ∧ Below w.heap.size w w' := by
  have hlen := Lib.hid hl.len
  by_cases hbad : (tright l).1 ≠ 0
  · have HB := Lib.hid hbad
    have hR := Lib.hid (text_bad hbad)
    clear hbad
    go_enter Tryz.func112, Tryz.ntmps112
    go_wp2_with fail
    refine (rtright_any _ n c A l (hl.grow (below1 _ _)) hn).mono ?_
    rintro e w1 ⟨rfl, hb⟩
    unfold faultV
    have hbad := HB.out
    generalize hF : tright l = f at *
    clear hF
    obtain ⟨e1, p1⟩ := f
    simp only at hbad
    go_wp2_with fail
    refine (is_any (e1, p1) _).mono ?_
    rintro r w2 ⟨rfl, hb2⟩
    have hne : (e1 == 0) = false := beq_eq_false_iff_ne.2 hbad
    have T0 := (((Two.new w 0 0 29).below hb).below (below1 w1 (.cells #[.int .i64 e1, .int .i64 p1] 29))).below hb2
    have T1 := (Two.new w1 e1 p1 29).below hb2
    have hz := hb.size
    simp only [World.size_alloc] at hz
    have hbb : Below w.heap.size w w2 := ((below1 _ _).trans (hb.mono (by simp))).trans (((below1 w1 _).trans (hb2.mono (by simp))).mono (by omega))
    obtain ⟨c0, c1, f0, f1⟩ := T0
    obtain ⟨d0, d1, g0, g1⟩ := T1
    simp only [hne]
    go_wp2_with fail
    go_region
    have S := set2 (.int .i64 e1) (.int .i64 p1) c0 c1
    go_wp2
    exact bodyPost_ret (v := .tuple #[.string ⟨#[]⟩, .agg #[.int .i64 e1, .int .i64 p1]]) (by simp [results, Tryz.results112, go_sem, S.1, S.2]) rfl ⟨by rw [hR.out]; rfl, (below_set2 _ _ hbb (Nat.le_refl _)).drew⟩
  · have h0 : (tright l).1 = 0 := by omega
    have hok := Lib.hid (tright_ok h0)
    have hP := Lib.hid (tright_place h0)
    have hR := Lib.hid (text_good h0)
    clear hbad h0
    unfold maxLen at hn
    go_enter Tryz.func112, Tryz.ntmps112
    go_wp2_with fail
    refine (rtright_any _ n c A l (hl.grow (below1 _ _)) (by unfold maxLen; omega)).mono ?_
    rintro e w1 ⟨rfl, hb⟩
    rw [hP.out]
    unfold faultV
    go_wp2_with fail
    refine (is_any (0, -1) _).mono ?_
    rintro r w2 ⟨rfl, hb2⟩
    have hne : ((0 : Int) == 0) = true := rfl
    have T0 := (((Two.new w 0 0 29).below hb).below (below1 w1 (.cells #[.int .i64 0, .int .i64 (-1)] 29))).below hb2
    have hz := hb.size
    simp only [World.size_alloc] at hz
    have hbb : Below w.heap.size w w2 := ((below1 _ _).trans (hb.mono (by simp))).trans (((below1 w1 _).trans (hb2.mono (by simp))).mono (by omega))
    have hl2 := hl.grow hbb
    have hw0 : w.heap.size < w2.heap.size := T0.lt
    simp only [hne]
    clear hb hb2 hz hl
    go_wp2
    go_loopw [5, 7, 8, 17] (fun v _ _ i wr => ∃ k : Nat, k ≤ n ∧ i = .int .i64 k ∧ TOk (l.drop k) (tsofar l k).length ∧ v = .string (strOf (tsofar l k)) ∧ Below w2.heap.size w2 wr) (fun _ _ _ i _ => n - (intOf i).toNat)
    case atStart => exact ⟨0, by omega, rfl, hok.out, rfl, Below.refl _ _⟩
    case round =>
      obtain ⟨k, hk, rfl, hto, rfl, hbel⟩ := hrel
      have hB := hbel.size
      by_cases hlt : k < n
      · obtain ⟨b, o, s, r, t, rfl, hb', hx, hf, c0, c1, c2⟩ := hl2.at_ hlt
        have c0 := (hbel.cell (p := ⟨b, o + k * 3, none⟩) (by simp; omega)).trans c0
        have c1 := (hbel.cell (p := ⟨b, o + k * 3 + 1, none⟩) (by simp; omega)).trans c1
        have c2 := (hbel.cell (p := ⟨b, o + k * 3 + 2, none⟩) (by simp; omega)).trans c2
        have hsf := Lib.hid (tsofar_succ hx)
        have hle := hto.le
        by_cases h1 : s.size = 0
        · obtain ⟨q0, q1, q2, q3, q4, q5⟩ := tok_rep hto hx h1
          simp only at q0 q1 q2 q3 q4 q5
          have hst := Lib.hid (show tsofar l (k + 1) = rep (tsofar l k) r.toNat t.toNat by rw [hsf.out]; unfold tstep; rw [if_neg (by simpa using h1)])
          obtain ⟨z, rfl⟩ := Int.eq_ofNat_of_zero_le (show 0 ≤ t by omega)
          obtain ⟨y, rfl⟩ := Int.eq_ofNat_of_zero_le (show 0 ≤ r by omega)
          rw [Int.toNat_natCast, Int.toNat_natCast] at hst
          rw [Int.toNat_natCast] at q4 q5
          have Q5 := Lib.hid q5
          have X := Lib.hid hx
          have hs0 : s = ⟨#[]⟩ := by
            apply ByteArray.ext
            apply Array.eq_empty_of_size_eq_zero
            simpa using h1
          subst hs0
          have z0 : (⟨#[]⟩ : ByteArray).size = 0 := rfl
          have hlr := Lib.hid (rep_len (tsofar l k) y z)
          have hov := Lib.hid (rep_over (tsofar l k) y z (by omega) (by omega))
          clear hto hx hf h1 q5 hsf
          generalize hacc : tsofar l k = acc at *
          have HA := Lib.hid hacc
          clear hacc
          have hpl : (acc.drop (acc.length - y)).length = y := by simp; omega
          have hTl := strOf_len acc
          have hex := strOf_ext acc (acc.length - y) acc.length
          rw [List.take_of_length_le (by rw [hpl]; omega)] at hex
          have hself := over_self (acc.drop (acc.length - y))
          rw [hpl] at hself
          obtain ⟨P, hP⟩ : ∃ P, P = acc.drop (acc.length - y) := ⟨_, rfl⟩
          rw [← hP] at hself hpl hex hov
          obtain ⟨T, hT⟩ : ∃ T, T = strOf acc := ⟨_, rfl⟩
          have hnil := Lib.hid (strOf_nil T)
          rw [← hT] at hTl hex ⊢
          have HEX := Lib.hid hex
          have HSELF := Lib.hid hself
          have HPL := Lib.hid hpl
          have HT := Lib.hid hT
          have HPP := Lib.hid hP
          clear hT hP hex hself hpl
          have hcat : T.size + (⟨#[]⟩ : ByteArray).size ≤ 9223372036854775807 := by omega
          have hE : T ++ (⟨#[]⟩ : ByteArray) = T := hnil.out
          go_wp2
          rw [HEX.out]
          go_loop [8] (fun v => ∃ m : Nat, 1 ≤ m ∧ m * y ≤ 100000 ∧ v = .string (strOf (over P (m * y)))) (fun v => z - strLen v)
          case atStart => exact ⟨1, by omega, by omega, by rw [Nat.one_mul, HSELF.out]⟩
          case round =>
            obtain ⟨m, hm, hm2, rfl⟩ := hrel
            have hlo : (strOf (over P (m * y))).size = m * y := by rw [strOf_len, over_len]
            have hdb := Lib.hid (over_double P (over P (m * y)) m (by rw [HPL.out]))
            have hmy : y ≤ m * y := Nat.le_mul_of_pos_left y hm
            have h2m : 2 * m * y = m * y + m * y := by rw [Nat.mul_assoc, Nat.two_mul]
            rw [HPL.out] at hdb
            have hadd := Lib.hid (strOf_add (over P (m * y)) (over P (m * y)))
            obtain ⟨q, hq⟩ : ∃ q, q = m * y := ⟨_, rfl⟩
            rw [← hq] at hlo hdb hmy h2m hadd hm2 ⊢
            obtain ⟨U, hU⟩ : ∃ U, U = strOf (over P q) := ⟨_, rfl⟩
            rw [← hU] at hlo hadd ⊢
            have HU := Lib.hid hU
            have HQ := Lib.hid hq
            have H2 := Lib.hid h2m
            clear hU hq h2m
            by_cases hlt2 : q < z
            · have hc2 : U.size + U.size ≤ 9223372036854775807 := by omega
              go_wp2
              go_round
              case rel => exact ⟨2 * m, by omega, by rw [H2.out]; omega, by rw [← hadd.out, hdb.out]⟩
              case measure => simp only [strLen, ByteArray.size_append]; omega
            · have hex2 := Lib.hid (strOf_ext (over P q) 0 z)
              have htk := Lib.hid (over_take P z q (by omega))
              rw [← HU.out] at hex2
              rw [List.drop_zero, Nat.sub_zero, htk.out] at hex2
              have hle3 : z ≤ q := by omega
              have hsz3 : (strOf (over P z)).size = z := by rw [strOf_len, over_len]
              obtain ⟨V, hV⟩ : ∃ V, V = strOf (over P z) := ⟨_, rfl⟩
              rw [← hV] at hsz3 hex2
              have HV := Lib.hid hV
              clear hV
              have hc3 : T.size + V.size ≤ 9223372036854775807 := by omega
              have hX3 : U.extract 0 z = V := hex2.out
              go_wp2
              go_roundw
              case rel => exact ⟨k + 1, by omega, by go_num, by rw [hst.out, hlr.out]; exact Q5.out, by rw [hst.out, hov.out, strOf_add, HT.out, HV.out], hbel.alloc hB _⟩
              case measure => simp [intOf]; omega
        · obtain ⟨q0, q1, q2, q3⟩ := tok_own hto hx h1
          simp only at q0 q1 q2 q3
          subst q0 q1
          have hst := Lib.hid (show tsofar l (k + 1) = tsofar l k ++ s.data.toList by rw [hsf.out]; unfold tstep; rw [if_pos h1])
          have Q3 := Lib.hid q3
          have X := Lib.hid hx
          clear hto hx hf h1 q3 hsf
          generalize hacc : tsofar l k = acc at *
          have HA := Lib.hid hacc
          clear hacc
          have hTl := strOf_len acc
          obtain ⟨T, hT⟩ : ∃ T, T = strOf acc := ⟨_, rfl⟩
          rw [← hT] at hTl ⊢
          have HT := Lib.hid hT
          clear hT
          have hcat : T.size + s.size ≤ 9223372036854775807 := by omega
          go_wp2
          go_roundw
          case rel => exact ⟨k + 1, by omega, by go_num, by rw [hst.out, List.length_append, size_len]; exact Q3.out, by rw [hst.out, strOf_add, strOf_toList, HT.out], hbel.alloc hB _⟩
          case measure => simp [intOf]; omega
      · obtain rfl : k = n := by omega
        have hend := Lib.hid (show tsofar l k = ttext l by unfold tsofar ttext; rw [List.take_of_length_le (by rw [hlen.out]; exact Nat.le_refl _)])
        go_wp2_with fail
        refine (good_any _).mono ?_
        rintro e w3 ⟨rfl, hb3⟩
        have hb4 := hbb.trans ((hbel.trans (hb3.mono hB)).mono hbb.size)
        obtain ⟨c0, c1, f0, f1⟩ := T0.keep (hbel.trans (hb3.mono hB)) hw0
        have S := set2 (.int .i64 0) (.int .i64 (-1)) c0 c1
        go_wp2
        exact bodyPost_ret (v := .tuple #[.string (strOf (tsofar l k)), .agg #[.int .i64 0, .int .i64 (-1)]]) (by simp [results, Tryz.results112, go_sem, S.1, S.2]) rfl ⟨by rw [hR.out, hend.out]; rfl, below_set2 _ _ hb4 (Nat.le_refl _)⟩
end Go.Proofs.YtkejlnjnoiidnaaGreatDoor
end

section
namespace Go.Proofs.YtkejlnjnoiidnaaGreatDoor
theorem bitLen7 : ∀ n : Fin 128, (Lib.bitLen n.val + 6) / 7 ≤ 1 := by decide +kernel
theorem bitLen_pos {n : Nat} (h : n ≠ 0) : 0 < Lib.bitLen n := by
  unfold Lib.bitLen Lib.bitLenAux
  rw [if_neg h]
  omega
theorem vput_size (f : Nat) : ∀ n : Nat, n < 128 ^ f → n < 18446744073709551616 → (vput n).length = max 1 ((Lib.bitLen n + 6) / 7) := by
  induction f with
  | zero =>
    intro n h _
    obtain rfl : n = 0 := by simpa using h
    rw [vput_small (by omega)]
    decide
  | succ f ih =>
    intro n h hn
    by_cases h7 : n < 128
    · rw [vput_small h7]
      have := bitLen7 ⟨n, h7⟩
      simp only at this
      simp
      omega
    · rw [vput_big h7, List.length_cons, ih (n / 128) (by rw [Nat.pow_succ] at h; omega) (by omega)]
      have hs := Lib.bitLen_shift 7 n (by omega) hn
      have hp := bitLen_pos (n := n / 128) (by omega)
      have e : n / 2 ^ 7 = n / 128 := rfl
      rw [hs, e]
      omega
/-- Byte i of a number. -/
def vbyte (n i : Nat) (last : Bool) : UInt8 := if last then UInt8.ofNat (n / 128 ^ i % 128) else UInt8.ofNat (n / 128 ^ i % 128 + 128)
theorem vput_get (i : Nat) : ∀ n : Nat, i < (vput n).length → (vput n)[i]? = some (vbyte n i (decide ((vput n).length = i + 1))) := by
  induction i with
  | zero =>
    intro n h
    by_cases h7 : n < 128
    · rw [vput_small h7]
      simp [vbyte, Nat.mod_eq_of_lt h7]
    · have hp := vput_pos (n / 128)
      rw [vput_big h7]
      have : ¬ (vput (n / 128)).length + 1 = 0 + 1 := by omega
      simp only [List.length_cons, List.getElem?_cons_zero, decide_eq_false this, vbyte]
      simp
  | succ i ih =>
    intro n h
    by_cases h7 : n < 128
    · rw [vput_small h7] at h; simp at h
    · rw [vput_big h7] at h ⊢
      simp only [List.length_cons] at h
      simp only [List.getElem?_cons_succ, List.length_cons]
      rw [ih (n / 128) (by omega)]
      have e : n / 128 / 128 ^ i = n / 128 ^ (i + 1) := by rw [Nat.div_div_eq_div_mul, Nat.pow_succ, Nat.mul_comm]
      have e2 : decide ((vput (n / 128)).length = i + 1) = decide ((vput (n / 128)).length + 1 = i + 1 + 1) := by rw [decide_eq_decide]; omega
      unfold vbyte
      rw [e, e2]
/-- The bytes ahead of byte i, and noughts from there on. -/
def vpart (n i : Nat) : List UInt8 := (vput n).take i ++ List.replicate ((vput n).length - i) 0
theorem vpart_zero (n : Nat) : vpart n 0 = List.replicate (vput n).length 0 := by simp [vpart]
theorem vpart_len (n i : Nat) (h : i ≤ (vput n).length) : (vpart n i).length = (vput n).length := by simp [vpart]; omega
theorem vpart_end (n : Nat) : vpart n (vput n).length = vput n := by simp [vpart]
theorem vpart_set (n i : Nat) (h : i < (vput n).length) : (vpart n i).set i (vbyte n i (decide ((vput n).length = i + 1))) = vpart n (i + 1) := by
  apply List.ext_getElem?
  intro j
  have hl : ((vput n).take i).length = i := by simp; omega
  have hg := vput_get i n h
  unfold vpart
  rw [List.getElem?_set]
  by_cases hij : i = j
  · subst hij
    rw [if_pos rfl, if_pos (by simp; omega), List.getElem?_append_left (by simp; omega), List.getElem?_take, if_pos (by omega), hg]
  · rw [if_neg hij]
    by_cases hj : j < i
    · rw [List.getElem?_append_left (by simp; omega), List.getElem?_append_left (by simp; omega), List.getElem?_take, List.getElem?_take, if_pos hj, if_pos (by omega)]
    · rw [List.getElem?_append_right (by simp; omega), List.getElem?_append_right (by simp; omega)]
      simp only [List.getElem?_replicate, List.length_take]
      by_cases hje : j < (vput n).length
      · rw [if_pos (by omega), if_pos (by omega)]
      · rw [if_neg (by omega), if_neg (by omega)]
end Go.Proofs.YtkejlnjnoiidnaaGreatDoor
end

section
namespace Go.Proofs.YtkejlnjnoiidnaaGreatDoor
open Go.RowKit
theorem rpow_any (k : Nat) (w : World) (hk : k ≤ 9) :
    Calls Tryz.prog 76 #[.int .u64 128, .int .i64 (k : Int)] w fun e w' => e = .returned (.int .u64 ((128 ^ k : Nat) : Int)) ∧ w = w' := by
  go_enter Tryz.func76, Tryz.ntmps76
  go_wp2
  go_loop [5, 7] (fun v i => ∃ j : Nat, j ≤ k ∧ i = .int .i64 j ∧ v = .int .u64 ((128 ^ j : Nat) : Int)) (fun _ i => k - (intOf i).toNat)
  case atStart => exact ⟨0, by omega, rfl, rfl⟩
  case round =>
    obtain ⟨j, hj, rfl, rfl⟩ := hrel
    by_cases hlt : j < k
    · have hp := pow128_le (k := j) (by omega)
      have hq := pow128_le (k := j + 1) (by omega)
      have hs := Lib.hid (Nat.pow_succ (n := 128) (m := j))
      obtain ⟨x, hx⟩ : ∃ x, x = 128 ^ j := ⟨_, rfl⟩
      have HX := Lib.hid hx
      rw [← hx] at hp ⊢
      clear hx
      go_wp2
      go_round
      case rel =>
        refine ⟨j + 1, by omega, by go_num, valI ?_⟩
        have := hs.out
        rw [← HX.out] at this
        rw [this]
        rw [IntKind.wrap_u64]
        omega
      case measure => simp [intOf]; omega
    · obtain rfl : j = k := by omega
      go_wp2
      go_ret
      exact ⟨rfl, rfl⟩
set_option maxHeartbeats 1000000 in
set_option maxRecDepth 100000 in
theorem rvary_any (n : Nat) (w : World) (hn : n < 18446744073709551616) :
    Calls Tryz.prog 31 #[.int .u64 (n : Int)] w fun e w' => e = .returned (.string ⟨(vput n).toArray⟩) ∧ Below w.heap.size w w' := by
  obtain ⟨i0, hi, hz0, hz1, hz2⟩ := info_parts byteInfo
  have hlen := vput_len10 hn
  have hpos := vput_pos n
  have hsz := vput_size 10 n (by have e : (128 : Nat) ^ 10 = 1180591620717411303424 := by decide
                                 omega) hn
  have hb64 : Lib.bitLen n ≤ 70 := by omega
  go_enter Tryz.func31, Tryz.ntmps31
  go_wp2_with fail
  refine (Tryz.bits_Len64 (n : Int) w (by omega) (by omega)).mono ?_
  rintro e w' ⟨rfl, rfl⟩
  simp only [Int.toNat_natCast]
  have hmx : max 1 (((Lib.bitLen n : Int) + 6) / 7) = ((vput n).length : Int) := by omega
  clear hsz
  have hE := Lib.hid (vpart_end n)
  have hZ := Lib.hid (vpart_zero n)
  have hSet := Lib.hid (vpart_set n)
  have hL := Lib.hid (vpart_len n)
  obtain ⟨m, hm⟩ : ∃ m, m = (vput n).length := ⟨_, rfl⟩
  rw [← hm] at hmx hlen hpos
  have HM := Lib.hid hm
  clear hm
  go_wp2_with fail
  obtain ⟨W, hrun, hT, hg⟩ := run_make_full (P := Tryz.prog) w' w'.heap.size 61 5 i0 (.int .u8 0) 1 Tryz.underlying61 hi hz0 hz1 .i64 .i64 m (by rw [hz2]; omega) (by unfold maxLen; omega) (Nat.le_refl _)
  have hb : Below w'.heap.size w' W := (Below.refl _ _).grown hg (Nat.le_refl _) (fun k hk => by cases hk)
  have hT0 : W.ownsRow w'.heap.size 5 1 (.slice (some ⟨w'.heap.size, 0, none⟩) m m) m (bytesV (vpart n 0)) := by
    have e : (madeCells (Value.int .u8 0).cells (m * 1)).toList = bytesV (vpart n 0) := by
      rw [hZ.out, Nat.mul_one, ← HM.out]
      show (madeCells #[Value.int .u8 0] m).toList = _
      rw [toList_madeCells_one]
      simp [bytesV, byteV]
    rw [e] at hT
    exact hT
  clear hT
  rw [hrun]
  clear hrun hmx hg
  go_wp2
  go_loopw [5, 15] (fun _ i wr => ∃ k : Nat, k ≤ m ∧ i = .int .i64 k ∧ wr.ownsRow w'.heap.size 5 1 (.slice (some ⟨w'.heap.size, 0, none⟩) m m) m (bytesV (vpart n k)) ∧ Below w'.heap.size w' wr) (fun _ i _ => m - (intOf i).toNat)
  case atStart => exact ⟨0, by omega, rfl, hT0, hb⟩
  case round =>
    clear hT0 hb
    obtain ⟨k, hk, rfl, hT, hbel⟩ := hrel
    by_cases hlt : k < m
    · have hlp := hL.out k (by rw [← HM.out]; omega)
      rw [← HM.out] at hlp
      have c0 : wr.cell? ⟨w'.heap.size, k, none⟩ = some (byteV ((vpart n k).getD k 0)) := by
        rw [hT.cellAt k (by omega), List.getElem?_map, List.getElem?_eq_getElem (by omega), getD_at _ _ _ (by omega)]; rfl
      have f0 : wr.frozen? ⟨w'.heap.size, k, none⟩ = false := hT.frozenAt k
      have hset := hSet.out k (by rw [← HM.out]; exact hlt)
      rw [← HM.out] at hset
      have HS := Lib.hid hset
      have HLP := Lib.hid hlp
      clear hset hlp
      obtain ⟨q, hq⟩ : ∃ q, q = n / 128 ^ k := ⟨_, rfl⟩
      have hqn : q ≤ n := by rw [hq]; exact Nat.div_le_self _ _
      have hw1 : IntKind.u64.wrap ((n : Int) / 128 ^ k) = (q : Int) := by
        have e : ((n / 128 ^ k : Nat) : Int) = (n : Int) / 128 ^ k := by simp
        rw [← e, ← hq, IntKind.wrap_u64]; omega
      have HQ := Lib.hid hq
      clear hq
      have hnz : ¬ ((128 : Int) ^ k = 0) := Int.pow_ne_zero (by omega)
      have hnz' : ((128 : Int) ^ k == 0) = false := beq_eq_false_iff_ne.2 hnz
      by_cases hlast : k + 1 < m
      · have hb1 : vbyte n k (decide (m = k + 1)) = UInt8.ofNat (q % 128 + 128) := by
          rw [decide_eq_false (by omega)]
          unfold vbyte
          rw [HQ.out]
          rfl
        have HB := Lib.hid hb1
        clear hb1
        go_wp2_with (go_at_call 76; refine (rpow_any k _ (by omega)).mono ?_; rintro e w2 ⟨rfl, rfl⟩)
        go_roundw
        case measure => simp [intOf]; omega
        case rel =>
          refine ⟨k + 1, by omega, by go_num, ?_, (hbel.setCell (Nat.le_refl _) _).setCell (Nat.le_refl _) _⟩
          have h1 := ((hT.stored k (.int .u8 ((q : Int) % 128))).1.stored k (byteV (UInt8.ofNat (q % 128 + 128)))).1
          rw [List.set_set, ← List.map_set, ← HB.out, HS.out] at h1
          have e2 : byteV (vbyte n k (decide (m = k + 1))) = Value.int .u8 ((q : Int) % 128 + 128) := by
            rw [HB.out]
            exact valI (by simp; omega)
          rw [e2] at h1
          exact h1
      · have hb1 : vbyte n k (decide (m = k + 1)) = UInt8.ofNat (q % 128) := by
          rw [decide_eq_true (by omega)]
          unfold vbyte
          rw [HQ.out]
          rfl
        have HB := Lib.hid hb1
        clear hb1
        go_wp2_with (go_at_call 76; refine (rpow_any k _ (by omega)).mono ?_; rintro e w2 ⟨rfl, rfl⟩)
        go_roundw
        case measure => simp [intOf]; omega
        case rel =>
          refine ⟨k + 1, by omega, by go_num, ?_, hbel.setCell (Nat.le_refl _) _⟩
          have h1 := (hT.stored k (byteV (UInt8.ofNat (q % 128)))).1
          rw [← List.map_set, ← HB.out, HS.out] at h1
          have e2 : byteV (vbyte n k (decide (m = k + 1))) = Value.int .u8 ((q : Int) % 128) := by
            rw [HB.out]
            exact valI (by simp; omega)
          rw [e2] at h1
          exact h1
    · obtain rfl : k = m := by omega
      rw [HM.out, hE.out, ← HM.out] at hT
      have hs1 := string_own (P := Tryz.prog) 61 5 9 Tryz.underlying61 Tryz.underlying5 Tryz.underlying9 hT HM.out.symm hpos
      go_wp2
      go_ret
      exact ⟨rfl, hbel⟩
end Go.Proofs.YtkejlnjnoiidnaaGreatDoor
end

section
namespace Go.Proofs.YtkejlnjnoiidnaaGreatDoor
open Go.RowKit As
theorem sbyte (s : ByteArray) (k : Nat) (h : k < s.size) : s.data.toList[k]'(by simpa using h) = s[k] := rfl
theorem u64_byte (b : UInt8) : IntKind.u64.wrap (b.toNat : Int) = (b.toNat : Int) := by
  have := b.toNat_lt
  rw [IntKind.wrap_u64]; omega
/-- A byte's seven bits taken in. -/
theorem vor {a b k : Nat} (ha : a < 2 ^ (7 * k)) (hb : b < 256) (hf : a + b % 128 * 2 ^ (7 * k) < 18446744073709551616) :
    bits BinOp.or IntKind.u64 (a : Int) (IntKind.u64.wrap (bits BinOp.and IntKind.u64 (b : Int) 127 * 2 ^ (7 * k))) = ((a + b % 128 * 2 ^ (7 * k) : Nat) : Int) := by
  have e1 : bits BinOp.and IntKind.u64 (b : Int) 127 = ((b % 128 : Nat) : Int) := by
    have e := u64_and_nat b 127 (by omega) (by omega)
    rw [nat_mask7] at e
    exact e
  have hp : b % 128 * 2 ^ (7 * k) < 18446744073709551616 := by omega
  have e2 : ((b % 128 : Nat) : Int) * 2 ^ (7 * k) = ((b % 128 * 2 ^ (7 * k) : Nat) : Int) := by simp
  rw [e1, e2, IntKind.wrap_u64, Int.emod_eq_of_lt (by omega) (by omega), u64_or_nat a _ (by omega) hp, Nat.or_comm, nat_join (7 * k) _ _ (Nat.mul_mod_left _ _) ha, Nat.add_comm]
theorem vor_at (s : ByteArray) (k : Nat) (h : k < s.size) (h9 : k ≤ 9) (hb : ¬ (k = 9 ∧ 1 < s[k].toNat)) :
    bits BinOp.or IntKind.u64 (vval (s.data.toList.take k) : Int) (IntKind.u64.wrap (bits BinOp.and IntKind.u64 (s[k].toNat : Int) 127 * 2 ^ (7 * k))) = (vval (s.data.toList.take (k + 1)) : Int) := by
  have hl : k < s.data.toList.length := by simpa using h
  have hn := vval_next hl
  have hfit := vval_fits hl h9 (by rw [sbyte s k h]; exact hb)
  rw [sbyte s k h] at hn
  rw [hn] at hfit
  rw [hn, pow128]
  rw [pow128] at hfit
  have hlt := vval_take_lt s.data.toList k (by omega)
  rw [pow128] at hlt
  exact vor hlt s[k].toNat_lt hfit
theorem retT3 {n n' k k' : Int} {v v' : Value} {t t' : IntKind} (h1 : n = n') (h2 : k = k') (h3 : v = v') : Ending.returned (.tuple #[.int t n, .int t' k, v]) = .returned (.tuple #[.int t n', .int t' k', v']) := by rw [h1, h2, h3]
set_option maxHeartbeats 1000000 in
set_option maxRecDepth 100000 in
theorem vget_any (s : ByteArray) (w : World) (hs : s.size ≤ maxLen) :
    Calls Tryz.prog 113 #[.string s] w fun e w' => e = .returned (.tuple #[.int .u64 ((vget s.data.toList).1 : Int), .int .i64 ((vget s.data.toList).2.1 : Int), errV (vget s.data.toList).2.2]) ∧ w = w' := by
  unfold maxLen at hs
  go_enter Tryz.func113, Tryz.ntmps113
  go_wp2
  go_loop [5, 6, 7, 10] (fun n _ _ i => ∃ k : Nat, k ≤ s.size ∧ i = .int .i64 k ∧ n = .int .u64 (vval (s.data.toList.take k) : Int) ∧ VG s.data.toList k) (fun _ _ _ i => s.size - (intOf i).toNat)
  case atStart => exact ⟨0, by omega, rfl, rfl, VG.zero _⟩
  case round =>
    obtain ⟨k, hk, rfl, rfl, hvg⟩ := hrel
    have HV := Lib.hid hvg
    have h9 := hvg.2.1
    clear hvg
    by_cases hlt : k < s.size
    · have hlt' : k < s.data.toList.length := by simpa using hlt
      have hsb := Lib.hid (sbyte s k hlt)
      have hb256 := s[k].toNat_lt
      have hw := u64_byte s[k]
      by_cases c1 : k = 9 ∧ 1 < s[k].toNat
      · have hres := Lib.hid (HV.out.limit hlt' c1.1 (by rw [hsb.out]; exact c1.2))
        have d1 : ((k : Int) == 9) = true := by simp; omega
        have d2 : decide (1 < (s[k].toNat : Int)) = true := by simp; omega
        clear c1
        go_wp2
        go_ret3
        exact ⟨by rw [hres.out]; rfl, rfl⟩
      · have hvor := Lib.hid (vor_at s k hlt h9 c1)
        by_cases c2 : s[k].toNat = 0 ∧ 0 < k
        · have hres := Lib.hid (HV.out.form hlt' c2.2 (by rw [hsb.out]; exact c2.1))
          have d1 : decide (1 < (s[k].toNat : Int)) = false := by simp; omega
          have d2 : decide ((s[k].toNat : Int) < 128) = true := by simp; omega
          have d3 : ((s[k].toNat : Int) == 0) = true := by simp; omega
          have d4 : decide (0 < k) = true := by simp; omega
          clear c1 c2
          by_cases e9 : k = 9
          · have d5 : ((k : Int) == 9) = true := by simp; omega
            clear e9
            go_wp2
            go_ret3
            exact ⟨by rw [hres.out]; rfl, rfl⟩
          · have d5 : ((k : Int) == 9) = false := by simp; omega
            clear e9
            go_wp2
            go_ret3
            exact ⟨by rw [hres.out]; rfl, rfl⟩
        · by_cases c3 : s[k].toNat < 128
          · have hres := Lib.hid (HV.out.done hlt' (by rw [hsb.out]; exact c1) (by rw [hsb.out]; exact c3) (by rw [hsb.out]; exact c2))
            have d2 : decide ((s[k].toNat : Int) < 128) = true := by simp; omega
            by_cases e0 : s[k].toNat = 0
            · have d3 : ((s[k].toNat : Int) == 0) = true := by simp; omega
              have d4 : decide (0 < k) = false := by simp; omega
              have d5 : ((k : Int) == 9) = false := by simp; omega
              clear c1 c2 c3 e0
              go_wp2
              go_ret3
              exact ⟨by rw [hres.out]; exact retT3 hvor.out (by go_num) rfl, rfl⟩
            · have d3 : ((s[k].toNat : Int) == 0) = false := by simp; omega
              by_cases e9 : k = 9
              · have d5 : ((k : Int) == 9) = true := by simp; omega
                have d1 : decide (1 < (s[k].toNat : Int)) = false := by simp; omega
                clear c1 c2 c3 e0 e9
                go_wp2
                go_ret3
                exact ⟨by rw [hres.out]; exact retT3 hvor.out (by go_num) rfl, rfl⟩
              · have d5 : ((k : Int) == 9) = false := by simp; omega
                clear c1 c2 c3 e0 e9
                go_wp2
                go_ret3
                exact ⟨by rw [hres.out]; exact retT3 hvor.out (by go_num) rfl, rfl⟩
          · have hnext := Lib.hid (HV.out.succ hlt' (by rw [hsb.out]; exact c1) (by rw [hsb.out]; exact c3))
            have d2 : decide ((s[k].toNat : Int) < 128) = false := by simp; omega
            have d5 : ((k : Int) == 9) = false := by simp; omega
            clear c1 c2 c3
            go_wp2
            go_round
            case rel => exact ⟨k + 1, by omega, by go_num, valI hvor.out, hnext.out⟩
            case measure => simp [intOf]; omega
    · obtain rfl : k = s.size := by omega
      have hres := Lib.hid (HV.out.out (by simp))
      clear hlt
      go_wp2
      go_ret3
      exact ⟨by rw [hres.out]; rfl, rfl⟩
theorem modB (b : UInt8) : (b.toNat : Int) % 128 = ((b.toNat % 128 : Nat) : Int) := by omega
set_option maxHeartbeats 1000000 in
set_option maxRecDepth 100000 in
theorem runvary_any (s : ByteArray) (w : World) (hs : s.size ≤ maxLen) :
    Calls Tryz.prog 100 #[.string s] w fun e w' => e = .returned (.tuple #[.int .u64 ((vget s.data.toList).1 : Int), .int .i64 ((vget s.data.toList).2.1 : Int), .int .i64 (vget s.data.toList).2.2]) ∧ w = w' := by
  unfold maxLen at hs
  go_enter Tryz.func100, Tryz.ntmps100
  go_wp2
  go_loop [5] (fun i => ∃ k : Nat, k ≤ s.size ∧ i = .int .i64 k ∧ VG s.data.toList k) (fun i => s.size - (intOf i).toNat)
  case atStart => exact ⟨0, by omega, rfl, VG.zero _⟩
  case round =>
    obtain ⟨k, hk, rfl, hvg⟩ := hrel
    have HV := Lib.hid hvg
    have h9 := hvg.2.1
    clear hvg
    by_cases hlt : k < s.size
    · have hlt' : k < s.data.toList.length := by simpa using hlt
      have hsb := Lib.hid (sbyte s k hlt)
      have hb256 := s[k].toNat_lt
      have d0 : ((k : Int) == (s.size : Int)) = false := by simp; omega
      by_cases c1 : k = 9 ∧ 1 < s[k].toNat
      · have hres := Lib.hid (HV.out.limit hlt' c1.1 (by rw [hsb.out]; exact c1.2))
        have d1 : ((k : Int) == 9) = true := by simp; omega
        have d2 : decide (1 < (s[k].toNat : Int)) = true := by simp; omega
        clear c1
        go_wp2
        go_ret3
        exact ⟨by rw [hres.out]; rfl, rfl⟩
      · by_cases c2 : s[k].toNat = 0 ∧ 0 < k
        · have hres := Lib.hid (HV.out.form hlt' c2.2 (by rw [hsb.out]; exact c2.1))
          have d1 : decide (1 < (s[k].toNat : Int)) = false := by simp; omega
          have d3 : ((s[k].toNat : Int) == 0) = true := by simp; omega
          have d4 : decide (0 < k) = true := by simp; omega
          clear c1 c2
          by_cases e9 : k = 9
          · have d5 : ((k : Int) == 9) = true := by simp; omega
            clear e9
            go_wp2
            go_ret3
            exact ⟨by rw [hres.out]; rfl, rfl⟩
          · have d5 : ((k : Int) == 9) = false := by simp; omega
            clear e9
            go_wp2
            go_ret3
            exact ⟨by rw [hres.out]; rfl, rfl⟩
        · have hC1 := Lib.hid c1
          by_cases c3 : s[k].toNat < 128
          · have hres := Lib.hid (HV.out.done hlt' (by rw [hsb.out]; exact c1) (by rw [hsb.out]; exact c3) (by rw [hsb.out]; exact c2))
            have hfit := vval_fits hlt' h9 (by rw [hsb.out]; exact c1)
            have d2 : decide ((s[k].toNat : Int) < 128) = true := by simp; omega
            have hd : (((s[k].toNat : Int) == 0) = true ∧ decide (0 < k) = false ∧ ((k : Int) == 9) = false) ∨ (((s[k].toNat : Int) == 0) = false ∧ ((k : Int) == 9) = true ∧ decide (1 < (s[k].toNat : Int)) = false) ∨ (((s[k].toNat : Int) == 0) = false ∧ ((k : Int) == 9) = false) := by
              simp only [beq_iff_eq, beq_eq_false_iff_ne, decide_eq_false_iff_not]
              omega
            clear c1 c2 c3
            rcases hd with ⟨d3, d4, d5⟩ | ⟨d3, d5, d6⟩ | ⟨d3, d5⟩
            all_goals
              go_wp2
              go_loop [6, 7] (fun n j => ∃ m : Nat, m ≤ k + 1 ∧ j = .int .i64 ((m : Int) - 1) ∧ n = .int .u64 (vtail s.data.toList (k + 1) m : Int)) (fun _ j => (intOf j + 1).toNat)
              case atStart => exact ⟨k + 1, by omega, by go_num, by rw [vtail_end]; rfl⟩
              case round =>
                obtain ⟨m, hm, rfl, rfl⟩ := hrel
                cases m with
                | zero =>
                  have ej : (((0 : Nat) : Int) - 1) = -1 := by omega
                  rw [ej]
                  clear ej
                  go_wp2
                  go_ret3
                  exact ⟨by rw [hres.out]; exact retT3 rfl (by go_num) rfl, rfl⟩
                | succ m =>
                  have ej : (((m + 1 : Nat) : Int) - 1) = (m : Int) := by omega
                  rw [ej]
                  clear ej
                  have hms : m < s.size := by omega
                  have hn := vtail_prev (l := s.data.toList) (i := k + 1) (k := m) (by omega) (by omega)
                  rw [sbyte s m hms] at hn
                  have hle := vtail_le s.data.toList (k + 1) m
                  have hbm := s[m].toNat_lt
                  have hN := Lib.hid hn
                  have hV : vtail s.data.toList (k + 1) m < 18446744073709551616 := by omega
                  clear hn
                  go_wp2
                  go_round
                  case rel =>
                    refine ⟨m, by omega, rfl, valI ?_⟩
                    have hn := hN.out
                    simp only [IntKind.wrap_u64]
                    omega
                  case measure => simp [intOf]
          · have hnext := Lib.hid (HV.out.succ hlt' (by rw [hsb.out]; exact c1) (by rw [hsb.out]; exact c3))
            have d2 : decide ((s[k].toNat : Int) < 128) = false := by simp; omega
            have d3 : ((s[k].toNat : Int) == 0) = false := by simp; omega
            have d5 : ((k : Int) == 9) = false := by simp; omega
            clear c1 c2 c3
            go_wp2
            go_round
            case rel => exact ⟨k + 1, by omega, by go_num, hnext.out⟩
            case measure => simp [intOf]; omega
    · obtain rfl : k = s.size := by omega
      have hres := Lib.hid (HV.out.out (by simp))
      clear hlt
      go_wp2
      go_ret3
      exact ⟨by rw [hres.out]; rfl, rfl⟩
/-- int of a number that fits. -/
theorem i64_small {n : Nat} (h : n < 9223372036854775808) : IntKind.i64.wrap (n : Int) = (n : Int) := IntWalk.i64_in _ (by omega)
set_option maxHeartbeats 1000000 in
set_option maxRecDepth 100000 in
theorem vint_any (s : ByteArray) (most : Int) (w : World) (hs : s.size ≤ maxLen) (hm : most ≤ 9223372036854775807) :
    Calls Tryz.prog 66 #[.string s, .int .i64 most] w fun e w' => e = .returned (.tuple #[.int .i64 ((vint s.data.toList most).1 : Int), .int .i64 ((vint s.data.toList most).2.1 : Int), errV (vint s.data.toList most).2.2]) ∧ w = w' := by
  have H := Lib.hid (show vint s.data.toList most = _ from rfl)
  unfold vint at H
  obtain ⟨x, hx⟩ : ∃ x, x = vint s.data.toList most := ⟨_, rfl⟩
  obtain ⟨g, hg⟩ : ∃ g, g = vget s.data.toList := ⟨_, rfl⟩
  have hX : x = if g.2.2 ≠ 0 then (0, 0, g.2.2) else if most < 0 ∨ most < (g.1 : Int) then (0, 0, 2) else g := by rw [hx, hg]; rfl
  have hsay := vget_says s.data.toList
  rw [← hg] at hsay
  have HG := Lib.hid hg
  rw [← hx]
  clear hx hg H
  obtain ⟨n, k, e⟩ := g
  simp only at hX hsay
  by_cases he : e = 0
  · subst he
    have hn : n < 18446744073709551616 := by
      rcases hsay with h | h | h | h
      · exact h.2.1
      all_goals (injection h with h _; omega)
    clear hsay
    rw [if_neg (by simp)] at hX
    by_cases h1 : most < 0
    · rw [if_pos (.inl h1)] at hX
      subst hX
      go_enter Tryz.func66, Tryz.ntmps66
      go_wp2_with fail
      refine (vget_any s w hs).mono ?_
      rintro e w' ⟨rfl, rfl⟩
      rw [← HG.out]
      simp only [errV_zero]
      go_wp2
      go_ret3
      exact ⟨rfl, rfl⟩
    · have hw : IntKind.u64.wrap most = most := by rw [IntKind.wrap_u64]; omega
      by_cases h2 : most < (n : Int)
      · rw [if_pos (.inr h2)] at hX
        subst hX
        go_enter Tryz.func66, Tryz.ntmps66
        go_wp2_with fail
        refine (vget_any s w hs).mono ?_
        rintro e w' ⟨rfl, rfl⟩
        rw [← HG.out]
        simp only [errV_zero]
        go_wp2
        go_ret3
        exact ⟨rfl, rfl⟩
      · rw [if_neg (by omega)] at hX
        subst hX
        have hi : IntKind.i64.wrap (n : Int) = (n : Int) := i64_small (by omega)
        go_enter Tryz.func66, Tryz.ntmps66
        go_wp2_with fail
        refine (vget_any s w hs).mono ?_
        rintro e w' ⟨rfl, rfl⟩
        rw [← HG.out]
        simp only [errV_zero]
        go_wp2
        go_ret3
        exact ⟨rfl, rfl⟩
  · rw [if_pos he] at hX
    subst hX
    have hv := Lib.hid (errV_of he)
    go_enter Tryz.func66, Tryz.ntmps66
    go_wp2_with fail
    refine (vget_any s w hs).mono ?_
    rintro e w' ⟨rfl, rfl⟩
    rw [← HG.out]
    simp only [hv.out]
    go_wp2
    go_ret3
    exact ⟨retT3 rfl rfl hv.out.symm, rfl⟩
set_option maxHeartbeats 1000000 in
set_option maxRecDepth 100000 in
theorem rvint_any (s : ByteArray) (most : Int) (w : World) (hs : s.size ≤ maxLen) (hm : most ≤ 9223372036854775807) :
    Calls Tryz.prog 64 #[.string s, .int .i64 most] w fun e w' => e = .returned (.tuple #[.int .i64 ((vint s.data.toList most).1 : Int), .int .i64 ((vint s.data.toList most).2.1 : Int), .int .i64 (vint s.data.toList most).2.2]) ∧ w = w' := by
  have H := Lib.hid (show vint s.data.toList most = _ from rfl)
  unfold vint at H
  obtain ⟨x, hx⟩ : ∃ x, x = vint s.data.toList most := ⟨_, rfl⟩
  obtain ⟨g, hg⟩ : ∃ g, g = vget s.data.toList := ⟨_, rfl⟩
  have hX : x = if g.2.2 ≠ 0 then (0, 0, g.2.2) else if most < 0 ∨ most < (g.1 : Int) then (0, 0, 2) else g := by rw [hx, hg]; rfl
  have hsay := vget_says s.data.toList
  rw [← hg] at hsay
  have HG := Lib.hid hg
  rw [← hx]
  clear hx hg H
  obtain ⟨n, k, e⟩ := g
  simp only at hX hsay
  by_cases he : e = 0
  · subst he
    have hn : n < 18446744073709551616 := by
      rcases hsay with h | h | h | h
      · exact h.2.1
      all_goals (injection h with h _; omega)
    clear hsay
    rw [if_neg (by simp)] at hX
    by_cases h1 : most < 0
    · rw [if_pos (.inl h1)] at hX
      subst hX
      go_enter Tryz.func64, Tryz.ntmps64
      go_wp2_with fail
      refine (runvary_any s w hs).mono ?_
      rintro e w' ⟨rfl, rfl⟩
      rw [← HG.out]
      go_wp2
      go_ret3
      exact ⟨rfl, rfl⟩
    · have hw : IntKind.u64.wrap most = most := by rw [IntKind.wrap_u64]; omega
      by_cases h2 : most < (n : Int)
      · rw [if_pos (.inr h2)] at hX
        subst hX
        go_enter Tryz.func64, Tryz.ntmps64
        go_wp2_with fail
        refine (runvary_any s w hs).mono ?_
        rintro e w' ⟨rfl, rfl⟩
        rw [← HG.out]
        go_wp2
        go_ret3
        exact ⟨rfl, rfl⟩
      · rw [if_neg (by omega)] at hX
        subst hX
        have hi : IntKind.i64.wrap (n : Int) = (n : Int) := i64_small (by omega)
        go_enter Tryz.func64, Tryz.ntmps64
        go_wp2_with fail
        refine (runvary_any s w hs).mono ?_
        rintro e w' ⟨rfl, rfl⟩
        rw [← HG.out]
        go_wp2
        go_ret3
        exact ⟨rfl, rfl⟩
  · rw [if_pos he] at hX
    subst hX
    have hne : (e != 0) = true := by rw [bne_iff_ne]; exact he
    go_enter Tryz.func64, Tryz.ntmps64
    go_wp2_with fail
    refine (runvary_any s w hs).mono ?_
    rintro e w' ⟨rfl, rfl⟩
    rw [← HG.out]
    go_wp2
    go_ret3
    exact ⟨rfl, rfl⟩
end Go.Proofs.YtkejlnjnoiidnaaGreatDoor
end

section
namespace Go.Proofs.YtkejlnjnoiidnaaGreatDoor
open Go.RowKit As
theorem strOf_size (l : List UInt8) : (strOf l).size = l.length := by show l.toArray.size = _; simp
theorem retT2 {v v' u u' : Value} (h1 : v = v') (h2 : u = u') : Ending.returned (.tuple #[v, u]) = .returned (.tuple #[v', u']) := by rw [h1, h2]
theorem retT3' {v v' u u' x x' : Value} (h1 : v = v') (h2 : u = u') (h3 : x = x') : Ending.returned (.tuple #[v, u, x]) = .returned (.tuple #[v', u', x']) := by rw [h1, h2, h3]
set_option maxRecDepth 100000 in
theorem spanput_any (s : ByteArray) (w : World) (hs : s.size ≤ maxLen) :
    Calls Tryz.prog 39 #[.string s] w fun e w' => e = .returned (.tuple #[.string (spanOf s).1, errV (spanOf s).2]) ∧ Below w.heap.size w w' := by
  unfold maxLen at hs
  by_cases hbig : 2000 < s.size
  · have H : spanOf s = (strOf [], 4) := by unfold spanOf; rw [if_pos hbig]
    have HS := Lib.hid H
    clear H
    have hd : decide (2000 < s.size) = true := by simpa using hbig
    go_enter Tryz.func39, Tryz.ntmps39
    go_wp2
    go_ret2
    exact ⟨by rw [HS.out]; rfl, Below.refl _ _⟩
  · have H : spanOf s = (strOf (vput s.size) ++ s, 0) := by unfold spanOf; rw [if_neg hbig]
    have HS := Lib.hid H
    clear H
    have hd : decide (2000 < s.size) = false := by simpa using hbig
    have hl := vput_len10 (n := s.size) (by omega)
    rw [← strOf_size] at hl
    go_enter Tryz.func39, Tryz.ntmps39
    go_wp2_with fail
    refine (vput_any s.size w (by omega)).mono ?_
    rintro e w' ⟨rfl, hb⟩
    obtain ⟨t, ht⟩ : ∃ t, t = strOf (vput s.size) := ⟨_, rfl⟩
    rw [← ht] at hl
    have hE : (⟨(vput s.size).toArray⟩ : ByteArray) = t := ht.symm
    rw [hE]
    have HT := Lib.hid ht
    clear ht hE
    have hcat : t.size + s.size ≤ 9223372036854775807 := by omega
    go_wp2_with fail
    go_ret2
    exact ⟨by rw [HS.out, HT.out]; rfl, hb⟩
set_option maxRecDepth 100000 in
theorem rspan_any (s : ByteArray) (w : World) (hs : s.size ≤ maxLen) :
    Calls Tryz.prog 32 #[.string s] w fun e w' => e = .returned (.tuple #[.string (spanOf s).1, .int .i64 (spanOf s).2]) ∧ Below w.heap.size w w' := by
  unfold maxLen at hs
  by_cases hbig : 2000 < s.size
  · have H : spanOf s = (strOf [], 4) := by unfold spanOf; rw [if_pos hbig]
    have HS := Lib.hid H
    clear H
    have hd : decide (2000 < s.size) = true := by simpa using hbig
    go_enter Tryz.func32, Tryz.ntmps32
    go_wp2
    go_ret2
    exact ⟨by rw [HS.out]; rfl, Below.refl _ _⟩
  · have H : spanOf s = (strOf (vput s.size) ++ s, 0) := by unfold spanOf; rw [if_neg hbig]
    have HS := Lib.hid H
    clear H
    have hd : decide (2000 < s.size) = false := by simpa using hbig
    have hl := vput_len10 (n := s.size) (by omega)
    rw [← strOf_size] at hl
    go_enter Tryz.func32, Tryz.ntmps32
    go_wp2_with fail
    refine (rvary_any s.size w (by omega)).mono ?_
    rintro e w' ⟨rfl, hb⟩
    obtain ⟨t, ht⟩ : ∃ t, t = strOf (vput s.size) := ⟨_, rfl⟩
    rw [← ht] at hl
    have hE : (⟨(vput s.size).toArray⟩ : ByteArray) = t := ht.symm
    rw [hE]
    have HT := Lib.hid ht
    clear ht hE
    have hcat : t.size + s.size ≤ 9223372036854775807 := by omega
    go_wp2_with fail
    go_ret2
    exact ⟨by rw [HS.out, HT.out]; rfl, hb⟩
set_option maxRecDepth 100000 in
theorem runspan_any (s : ByteArray) (w : World) (hs : s.size ≤ maxLen) :
    Calls Tryz.prog 55 #[.string s] w fun e w' => e = .returned (.tuple #[.string (unspan s).1, .int .i64 ((unspan s).2.1 : Int), .int .i64 (unspan s).2.2]) ∧ w = w' := by
  have hS := Lib.hid hs
  unfold maxLen at hs
  have hsay := vget_says s.data.toList
  have hU : unspan s = unspan s := rfl
  obtain ⟨u, hu⟩ : ∃ u, u = unspan s := ⟨_, rfl⟩
  rw [← hu]
  unfold unspan at hu
  clear hU
  obtain ⟨g, hg⟩ : ∃ g, g = vget s.data.toList := ⟨_, rfl⟩
  rw [← hg] at hu hsay
  have HG := Lib.hid hg
  clear hg
  obtain ⟨n, k, e⟩ := g
  simp only at hu hsay
  by_cases he : e = 0
  · subst he
    have hb : n < 18446744073709551616 ∧ 0 < k ∧ k ≤ 10 ∧ k ≤ s.size := by
      rcases hsay with h | h | h | h
      · simpa using h
      all_goals (injection h with h1 h2; injection h2 with h2 h3; omega)
    obtain ⟨hn, hk0, hk10, hks⟩ := hb
    clear hsay
    rw [if_neg (by simp)] at hu
    by_cases h1 : 2000 < n
    · rw [if_pos h1] at hu
      subst hu
      go_enter Tryz.func55, Tryz.ntmps55
      go_wp2_with fail
      refine (runvary_any s w hS.out).mono ?_
      rintro r w' ⟨rfl, rfl⟩
      rw [← HG.out]
      go_wp2
      go_ret3
      exact ⟨rfl, rfl⟩
    · rw [if_neg h1] at hu
      by_cases h2 : s.size < n + k
      · rw [if_pos h2] at hu
        subst hu
        go_enter Tryz.func55, Tryz.ntmps55
        go_wp2_with fail
        refine (runvary_any s w hS.out).mono ?_
        rintro r w' ⟨rfl, rfl⟩
        rw [← HG.out]
        go_wp2
        go_ret3
        exact ⟨rfl, rfl⟩
      · rw [if_neg h2] at hu
        subst hu
        go_enter Tryz.func55, Tryz.ntmps55
        go_wp2_with fail
        refine (runvary_any s w hS.out).mono ?_
        rintro r w' ⟨rfl, rfl⟩
        rw [← HG.out]
        go_wp2
        go_ret3
        exact ⟨rfl, rfl⟩
  · rw [if_pos he] at hu
    subst hu
    go_enter Tryz.func55, Tryz.ntmps55
    have hne : (e != 0) = true := by rw [bne_iff_ne]; exact he
    go_wp2_with fail
    refine (runvary_any s w hS.out).mono ?_
    rintro r w' ⟨rfl, rfl⟩
    rw [← HG.out]
    go_wp2
    go_ret3
    exact ⟨rfl, rfl⟩
set_option maxHeartbeats 1000000 in
set_option maxRecDepth 100000 in
theorem spanget_any (s : ByteArray) (w : World) (hs : s.size ≤ maxLen) (hg : Handle w) :
    Calls Tryz.prog 105 #[.string s] w fun e w' => e = .returned (.tuple #[.string (unspan s).1, .int .i64 ((unspan s).2.1 : Int), errV (unspan s).2.2]) ∧ Below w.heap.size w w' := by
  have hS := Lib.hid hs
  unfold maxLen at hs
  have hsay := vget_says s.data.toList
  obtain ⟨u, hu⟩ : ∃ u, u = unspan s := ⟨_, rfl⟩
  rw [← hu]
  unfold unspan at hu
  obtain ⟨v, hv⟩ : ∃ v, v = vint s.data.toList 2000 := ⟨_, rfl⟩
  have HV := Lib.hid hv
  unfold vint at hv
  generalize vget s.data.toList = g at *
  obtain ⟨n, k, e⟩ := g
  simp only at hu hsay hv
  by_cases he : e = 0
  · subst he
    have hb : n < 18446744073709551616 ∧ 0 < k ∧ k ≤ 10 ∧ k ≤ s.size := by
      rcases hsay with h | h | h | h
      · simpa using h
      all_goals (injection h with h1 h2; injection h2 with h2 h3; omega)
    obtain ⟨hn, hk0, hk10, hks⟩ := hb
    clear hsay
    rw [if_neg (by simp)] at hu hv
    by_cases h1 : 2000 < n
    · rw [if_pos h1] at hu
      rw [if_pos (by right; omega)] at hv
      subst hu hv
      go_enter Tryz.func105, Tryz.ntmps105
      go_wp2_with fail
      refine (vint_any s 2000 w hS.out (by omega)).mono ?_
      rintro r w' ⟨rfl, rfl⟩
      rw [← HV.out]
      go_wp2_with fail
      refine (tell_any (errV_is w 2) hg).mono ?_
      rintro r w1 ⟨rfl, hb⟩
      go_wp2
      go_ret3
      exact ⟨rfl, hb⟩
    · rw [if_neg h1] at hu
      rw [if_neg (by omega)] at hv
      subst hv
      by_cases h2 : s.size < n + k
      · rw [if_pos h2] at hu
        subst hu
        go_enter Tryz.func105, Tryz.ntmps105
        go_wp2_with fail
        refine (vint_any s 2000 w hS.out (by omega)).mono ?_
        rintro r w' ⟨rfl, rfl⟩
        rw [← HV.out]
        simp only [errV_zero]
        go_wp2_with fail
        refine (tell_nil w).mono ?_
        rintro r w1 ⟨rfl, rfl⟩
        go_wp2
        go_ret3
        exact ⟨rfl, Below.refl _ _⟩
      · rw [if_neg h2] at hu
        subst hu
        go_enter Tryz.func105, Tryz.ntmps105
        go_wp2_with fail
        refine (vint_any s 2000 w hS.out (by omega)).mono ?_
        rintro r w' ⟨rfl, rfl⟩
        rw [← HV.out]
        simp only [errV_zero]
        go_wp2_with fail
        refine (tell_nil w).mono ?_
        rintro r w1 ⟨rfl, rfl⟩
        go_wp2
        go_ret3
        exact ⟨rfl, Below.refl _ _⟩
  · rw [if_pos he] at hu hv
    subst hu hv
    have he2 : e ≠ 2 := by
      rcases hsay with h | h | h | h
      · exact absurd h.1 he
      all_goals (injection h with h1 h2; injection h2 with h2 h3; omega)
    have hne : (e == 2) = false := beq_eq_false_iff_ne.2 he2
    clear hsay
    have hE := Lib.hid (errV_of he)
    go_enter Tryz.func105, Tryz.ntmps105
    go_wp2_with fail
    refine (vint_any s 2000 w hS.out (by omega)).mono ?_
    rintro r w' ⟨rfl, rfl⟩
    rw [← HV.out]
    simp only [hE.out]
    go_wp2_with fail
    refine (tell_errno e w hg).mono ?_
    rintro r w1 ⟨rfl, hb⟩
    go_wp2
    go_ret3
    exact ⟨retT3' rfl rfl hE.out.symm, hb⟩
end Go.Proofs.YtkejlnjnoiidnaaGreatDoor
end
