/- TokensWrite of the reference says what twrite says. -/
import Derived.Test.YtglemfdnfaemiaaDoorLzWalks
import Derived.Test.YtglemfdnfaemiaaDoorRTextWalks
import Derived.Test.YtglemfdnfaemiaaDoorRVary
import Derived.Test.YtglemfdnfaemiaaDoorSpansWalks
import Derived.Test.YtglemfdnfaemiaaDoorShelfJoin
import Derived.Deep.RegionHeld3
namespace Go.Proofs.YtglemfdnfaemiaaDoor
open Go.RowKit As
/-- A token as two texts. -/
def tparts (t : Tok) : List ByteArray := if t.1.size ≠ 0 then [strOf (vput (2 * t.1.size)), t.1] else [strOf (vput (2 * (t.2.2 - 4).toNat + 1)), strOf (vput (t.2.1 - 1).toNat)]
def psofar (l : List Tok) (k : Nat) : List ByteArray := (l.take k).flatMap tparts
theorem psofar_succ {l : List Tok} {k : Nat} {t : Tok} (h : l[k]? = some t) : psofar l (k + 1) = psofar l k ++ tparts t := by
  obtain ⟨hk, e⟩ := List.getElem?_eq_some_iff.1 h
  unfold psofar
  rw [List.take_succ_eq_append_getElem hk, e, List.flatMap_append]; simp
theorem tparts_bytes (t : Tok) : ((tparts t).map fun x => x.data.toList).flatten = tbytes t := by
  unfold tparts tbytes
  split <;> simp [strOf]
theorem psofar_bytes (l : List Tok) : ∀ k, ((psofar l k).map fun x => x.data.toList).flatten = bsofar l k := by
  intro k
  unfold psofar bsofar
  induction l.take k with
  | nil => rfl
  | cons t l ih => simp only [List.flatMap_cons, List.map_append, List.flatten_append, ih, tparts_bytes]
theorem join_none (xs : List (List UInt8)) : Lib.join xs [] = xs.flatten := by
  unfold Lib.join
  induction xs with
  | nil => rfl
  | cons x xs ih =>
    cases xs with
    | nil => simp [List.intercalate]
    | cons y ys =>
      have e : List.intercalate [] (x :: y :: ys) = x ++ ([] ++ List.intercalate [] (y :: ys)) := by
        simp [List.intercalate, List.intersperse]
      rw [e, ih]; simp
theorem cells_new2 (w : World) (a b : Value) (t : TypeId) : ∀ j u, ([a, b] : List Value)[j]? = some u → (w.alloc (.cells #[a, b] t)).cell? ((⟨w.heap.size, 0, none⟩ : Addr).add j) = some u := by
  intro j u hu
  have hadd : (⟨w.heap.size, 0, none⟩ : Addr).add j = ⟨w.heap.size, j, none⟩ := by unfold Addr.add; split <;> simp_all
  rw [hadd, World.cell?_alloc_new]
  simpa using hu
theorem ownStr_two {w : World} {base : Nat} {E : TypeId} {v : Value} {l : List ByteArray} {a b : ByteArray} {n : Nat} (hn : l.length = n) (h : w.ownsRow base E 1 v (n + 2) (l.map Value.string ++ [Value.string a, Value.string b])) : w.ownsRow base E 1 v (l ++ [a, b]).length ((l ++ [a, b]).map Value.string) := by
  subst hn; simpa using h
theorem rvary_is {n : Nat} {V : ByteArray} (hV : Hid (V = strOf (vput n))) (hn : n < 18446744073709551616) (w : World) : Calls Tryd.prog 45 #[.int .u64 (n : Int)] w fun e w' => e = .returned (.string V) ∧ Below w.heap.size w w' :=
  (rvary_any n w hn).mono fun _ _ h => ⟨by rw [hV.out]; exact h.1, h.2⟩
set_option maxHeartbeats 4000000 in
set_option maxRecDepth 100000 in
theorem rtwrite_any (w : World) (n c : Nat) (A : Option Addr) (l : List Tok) (hl : Toks w w.heap.size A n l) (hn : n * 32 ≤ 140737488351232) :
    Calls Tryd.prog 69 #[.slice A n c] w fun e w' => e = .returned (.tuple #[.string (twrite l).1, faultV (twrite l).2]) ∧ Below w.heap.size w w' := by
  obtain ⟨i0, hi, hz0, hz1, hz2⟩ := info_parts strInfo
  have hlen := Lib.hid hl.len
  have hnM : n ≤ maxLen := by unfold maxLen; omega
  by_cases hbad : (tright l).1 ≠ 0
  · have HB := Lib.hid hbad
    have hR := Lib.hid (twrite_bad hbad)
    clear hbad
    go_enter Tryd.func69, Tryd.ntmps69
    go_wp2_with fail
    refine (rtright_any _ n c A l (hl.grow (below1 _ _)) hnM).mono ?_
    rintro e w1 ⟨rfl, hb⟩
    unfold faultV
    have hbad := HB.out
    generalize hF : tright l = f at *
    clear hF
    obtain ⟨e1, p1⟩ := f
    simp only at hbad
    go_wp2_with fail
    refine (is_any (e1, p1) _).mono ?_
    rintro r w2 ⟨rfl, hb2⟩
    have hne : (e1 == 0) = false := beq_eq_false_iff_ne.2 hbad
    have T0 := (((Two.new w 0 0 29).below hb).below (below1 w1 (.cells #[.int .i64 e1, .int .i64 p1] 29))).below hb2
    have T1 := (Two.new w1 e1 p1 29).below hb2
    have hz := hb.size
    simp only [World.size_alloc] at hz
    have hbb : Below w.heap.size w w2 := ((below1 _ _).trans (hb.mono (by simp))).trans (((below1 w1 _).trans (hb2.mono (by simp))).mono (by omega))
    obtain ⟨c0, c1, f0, f1⟩ := T0
    obtain ⟨d0, d1, g0, g1⟩ := T1
    simp only [hne]
    go_wp2_with fail
    go_region
    have S := set2 (.int .i64 e1) (.int .i64 p1) c0 c1
    go_wp2
    exact bodyPost_ret (v := .tuple #[.string ⟨#[]⟩, .agg #[.int .i64 e1, .int .i64 p1]]) (by simp [results, Tryd.results69, go_sem, S.1, S.2]) rfl ⟨by rw [hR.out]; rfl, (below_set2 _ _ hbb (Nat.le_refl _)).drew⟩
  · have h0 : (tright l).1 = 0 := by omega
    have hok := Lib.hid (tright_ok h0)
    have hP := Lib.hid (tright_place h0)
    have hR := Lib.hid (twrite_good h0)
    clear hbad h0
    go_enter Tryd.func69, Tryd.ntmps69
    go_wp2_with fail
    refine (rtright_any _ n c A l (hl.grow (below1 _ _)) hnM).mono ?_
    rintro e w1 ⟨rfl, hb⟩
    rw [hP.out]
    unfold faultV
    go_wp2_with fail
    refine (is_any (0, -1) _).mono ?_
    rintro r w2 ⟨rfl, hb2⟩
    have hne : ((0 : Int) == 0) = true := rfl
    have T0 := (((Two.new w 0 0 29).below hb).below (below1 w1 (.cells #[.int .i64 0, .int .i64 (-1)] 29))).below hb2
    have hz := hb.size
    simp only [World.size_alloc] at hz
    have hbb : Below w.heap.size w w2 := ((below1 _ _).trans (hb.mono (by simp))).trans (((below1 w1 _).trans (hb2.mono (by simp))).mono (by omega))
    have hl2 := hl.grow hbb
    have hw0 : w.heap.size < w2.heap.size := T0.lt
    simp only [hne]
    clear hb hb2 hz hl
    go_wp2
    go_loopw [5, 7, 16] (fun v _ i wr => ∃ k q : Nat, k ≤ n ∧ i = .int .i64 k ∧ TOk (l.drop k) q ∧ k ≤ q ∧ Hid ((bsofar l k).length ≤ q + 30 * k) ∧ wr.ownsRow w2.heap.size 9 1 v (psofar l k).length ((psofar l k).map Value.string) ∧ Hid ((psofar l k).length ≤ 2 * k) ∧ Below w2.heap.size w2 wr) (fun _ _ i _ => n - (intOf i).toNat)
    case atStart => exact ⟨0, 0, by omega, rfl, hok.out, by omega, Lib.hid (by simp [bsofar]), World.ownsRow_nil _ _ _ _, Lib.hid (by simp [psofar]), Below.refl _ _⟩
    case round =>
      obtain ⟨k, q, hk, rfl, hto, hkq, hbl, hT, hpl, hbel⟩ := hrel
      have hB := hbel.size
      have hle := hto.le
      have hpl2 := hpl.out
      by_cases hlt : k < n
      · obtain ⟨b, o, s, r, t, rfl, hb', hx, hf, c0, c1, c2⟩ := hl2.at_ hlt
        have c0 := (hbel.cell (p := ⟨b, o + k * 3, none⟩) (by simp; omega)).trans c0
        have c1 := (hbel.cell (p := ⟨b, o + k * 3 + 1, none⟩) (by simp; omega)).trans c1
        have c2 := (hbel.cell (p := ⟨b, o + k * 3 + 2, none⟩) (by simp; omega)).trans c2
        have hsf := Lib.hid (psofar_succ hx)
        have hsb := Lib.hid (bsofar_succ hx)
        obtain ⟨L, hL⟩ : ∃ L, L = psofar l k := ⟨_, rfl⟩
        rw [← hL] at hT hpl2 hsf
        have HL := Lib.hid hL
        clear hL
        by_cases h1 : s.size = 0
        · obtain ⟨q0, q1, q2, q3, q4, q5⟩ := tok_rep hto hx h1
          simp only at q0 q1 q2 q3 q4 q5
          have htb := Lib.hid (tbytes_rep (t := (s, r, t)) h1)
          obtain ⟨z, rfl⟩ := Int.eq_ofNat_of_zero_le (show 0 ≤ t by omega)
          obtain ⟨y, rfl⟩ := Int.eq_ofNat_of_zero_le (show 0 ≤ r by omega)
          have hz0' : ((z : Int) == 0) = false := by rw [beq_eq_false_iff_ne]; omega
          have a1 : ((z : Int) - 4).toNat = z - 4 := by omega
          have a2 : ((y : Int) - 1).toNat = y - 1 := by omega
          have htb2 := Lib.hid (show tbytes (s, (y : Int), (z : Int)) = vput (2 * (z - 4) + 1) ++ vput (y - 1) by rw [htb.out]; simp only [a1, a2])
          have htp := Lib.hid (show tparts (s, (y : Int), (z : Int)) = [strOf (vput (2 * (z - 4) + 1)), strOf (vput (y - 1))] by unfold tparts; rw [if_neg (by simpa using h1)]; simp only [a1, a2])
          obtain ⟨Z, hZ⟩ : ∃ Z, Z = z - 4 := ⟨_, rfl⟩
          obtain ⟨N1, hN1⟩ : ∃ N1, N1 = 2 * (z - 4) + 1 := ⟨_, rfl⟩
          obtain ⟨N2, hN2⟩ : ∃ N2, N2 = y - 1 := ⟨_, rfl⟩
          rw [← hN1, ← hN2] at htb2 htp
          have e1 : IntKind.i64.wrap ((z : Int) - 4) = (Z : Int) := by rw [IntWalk.i64_in _ (by omega)]; omega
          have e2 : IntKind.i64.wrap ((y : Int) - 1) = (N2 : Int) := by rw [IntWalk.i64_in _ (by omega)]; omega
          have hu1 := Lib.hid (show IntKind.u64.wrap (IntKind.i64.wrap (2 * (Z : Int) + 1)) = (N1 : Int) by rw [IntWalk.i64_in _ (by omega), IntKind.wrap_u64]; omega)
          have hu2 := Lib.hid (show IntKind.u64.wrap (N2 : Int) = (N2 : Int) by rw [IntKind.wrap_u64]; omega)
          have e3 : IntKind.i64.wrap (2 * (Z : Int)) = 2 * (Z : Int) := by rw [IntWalk.i64_in _ (by omega)]
          have hZs : Z ≤ 67 := by omega
          have X := Lib.hid hx
          have Q5 := Lib.hid q5
          have hlt1 : N1 < 18446744073709551616 := by omega
          have hlt2 : N2 < 18446744073709551616 := by omega
          clear hZ hN1 hN2
          obtain ⟨V, hV⟩ : ∃ V, Hid (V = strOf (vput N1)) := ⟨_, Lib.hid rfl⟩
          obtain ⟨U, hU⟩ : ∃ U, Hid (U = strOf (vput N2)) := ⟨_, Lib.hid rfl⟩
          have HBL := Lib.hid hbl.out
          clear hto hx hf q5 hpl hbl a1 a2
          go_wp2
          have k0 : (wr.alloc (.cells #[.string s, .int .i64 y, .int .i64 z] 104)).cell? ⟨wr.heap.size, 1, none⟩ = some (.int .i64 y) := by rw [World.cell?_alloc_new]; rfl
          have k1 : (wr.alloc (.cells #[.string s, .int .i64 y, .int .i64 z] 104)).cell? ⟨wr.heap.size, 2, none⟩ = some (.int .i64 z) := by rw [World.cell?_alloc_new]; rfl
          go_region_held3 (fun wx => wx.cell? ⟨wr.heap.size, 1, none⟩ = some (.int .i64 y) ∧ wx.cell? ⟨wr.heap.size, 2, none⟩ = some (.int .i64 z)) (first | with_reducible exact k4 | with_reducible exact k5 | with_reducible exact k6 | with_reducible exact k7 | go_keep)
            (first
              | (go_at_call 45; rw [hu1.out]; refine (rvary_is hV hlt1 _).mono ?_; rintro e w3 ⟨rfl, hb3⟩; have hb4 : Below (wr.alloc (.cells #[.string s, .int .i64 y, .int .i64 z] 104)).heap.size (wr.alloc (.cells #[.string s, .int .i64 y, .int .i64 z] 104)) w3 := (Below.refl _ _).drew.trans hb3; have k4 : w3.cell? ⟨wr.heap.size, 1, none⟩ = some (.int .i64 y) ∧ w3.cell? ⟨wr.heap.size, 2, none⟩ = some (.int .i64 z) := ⟨(hb4.cell (cell_lt k0)).trans k0, (hb4.cell (cell_lt k1)).trans k1⟩)
              | (go_at_call 45; rw [hu2.out]; refine (rvary_is hU hlt2 _).mono ?_; rintro e w4 ⟨rfl, hb5⟩; have hb6 := hb4.trans (hb5.mono hb4.size); have k5 : w4.cell? ⟨wr.heap.size, 1, none⟩ = some (.int .i64 y) ∧ w4.cell? ⟨wr.heap.size, 2, none⟩ = some (.int .i64 z) := ⟨(hb6.cell (cell_lt k0)).trans k0, (hb6.cell (cell_lt k1)).trans k1⟩; have hTW := ownsRow_below (hT.alloc _) hb6 (by simp; omega); have hbW := hbel.trans (((below1 wr _).trans (hb6.mono (by simp))).mono hB); have hsW := hbW.size; have k6 : (w4.alloc (.cells #[.string V, .string U] 9)).cell? ⟨wr.heap.size, 1, none⟩ = some (.int .i64 y) ∧ (w4.alloc (.cells #[.string V, .string U] 9)).cell? ⟨wr.heap.size, 2, none⟩ = some (.int .i64 z) := ⟨(World.cell?_alloc_lt w4 _ ⟨wr.heap.size, 1, none⟩ (cell_lt k5.1)).trans k5.1, (World.cell?_alloc_lt w4 _ ⟨wr.heap.size, 2, none⟩ (cell_lt k5.2)).trans k5.2⟩)
              | (refine step_append_own rfl (.tmp 34) (.tmp 47) 45 rfl w2.heap.size 9 i0 (.string ⟨#[]⟩) 1 16 Tryd.underlying45 hi hz0 hz1 hz2 rfl (by decide) u5 L.length (L.map Value.string) rfl (hTW.alloc _) ⟨w4.heap.size, 0, none⟩ 2 2 [.string V, .string U] rfl rfl (cells_new2 _ _ _ _) (by intro u hu; simp at hu; rcases hu with rfl | rfl <;> rfl) (by unfold maxLen; omega) (by omega) (by simp; omega) ?_; intro v1 wE hT2 hg2; have hbE := (grown_own (hbW.alloc hsW _) hg2 (by simp; omega) (hTW.alloc _)); have hT3 := ownStr_two rfl hT2; have k7 : wE.cell? ⟨wr.heap.size, 1, none⟩ = some (.int .i64 y) ∧ wE.cell? ⟨wr.heap.size, 2, none⟩ = some (.int .i64 z) := ⟨hg2.cell k6.1 (fun e => absurd (hT.lt _ e.symm).2 (Nat.lt_irrefl _)), hg2.cell k6.2 (fun e => absurd (hT.lt _ e.symm).2 (Nat.lt_irrefl _))⟩))
          all_goals
            clear e1 e2 e3
            go_wp2
            go_roundw
            case rel => exact ⟨k + 1, q + z, by omega, by go_num, Q5.out, by omega, Lib.hid (by rw [hsb.out, htb2.out]; simp only [List.length_append]; have := vput_len10 hlt1; have := vput_len10 hlt2; have := HBL.out; omega), by rw [hsf.out, htp.out, ← hV.out, ← hU.out]; exact hT3, Lib.hid (by rw [hsf.out, htp.out, List.length_append]; simp only [List.length_cons, List.length_nil]; omega), hbE⟩
            case measure => simp [intOf]; omega
        · obtain ⟨q0, q1, q2, q3⟩ := tok_own hto hx h1
          simp only at q0 q1 q2 q3
          subst q0 q1
          have htb := Lib.hid (tbytes_own (t := (s, 0, 0)) h1)
          have htp := Lib.hid (show tparts (s, 0, 0) = [strOf (vput (2 * s.size)), s] by unfold tparts; rw [if_pos h1])
          have Q3 := Lib.hid q3
          have X := Lib.hid hx
          have hlt64 : 2 * s.size < 18446744073709551616 := by omega
          have e1 : IntKind.i64.wrap (2 * (s.size : Int)) = ((2 * s.size : Nat) : Int) := by rw [IntWalk.i64_in _ (by omega)]; omega
          obtain ⟨V, hV⟩ : ∃ V, Hid (V = strOf (vput (2 * s.size))) := ⟨_, Lib.hid rfl⟩
          have HBL := Lib.hid hbl.out
          clear hto hx hf q3 hpl hbl
          go_wp2
          have k0 : (wr.alloc (.cells #[.string s, .int .i64 0, .int .i64 0] 104)).cell? ⟨wr.heap.size, 0, none⟩ = some (.string s) := by rw [World.cell?_alloc_new]; rfl
          have hu64 := Lib.hid (show IntKind.u64.wrap (2 * (s.size : Int)) = ((2 * s.size : Nat) : Int) by rw [IntKind.wrap_u64]; omega)
          go_region_held3 (fun wx => wx.cell? ⟨wr.heap.size, 0, none⟩ = some (.string s)) (first | go_keep | exact k4 | exact k5 | exact k6)
            (first
              | (go_at_call 45; rw [hu64.out]; refine (rvary_is hV hlt64 _).mono ?_; rintro e w3 ⟨rfl, hb3⟩; have hb4 : Below (wr.alloc (.cells #[.string s, .int .i64 0, .int .i64 0] 104)).heap.size (wr.alloc (.cells #[.string s, .int .i64 0, .int .i64 0] 104)) w3 := (Below.refl _ _).drew.trans hb3; have k4 := (hb4.cell (cell_lt k0)).trans k0; have hTW := ownsRow_below (hT.alloc _) hb4 (by simp; omega); have hbW := hbel.trans (((below1 wr _).trans (hb4.mono (by simp))).mono hB); have hsW := hbW.size; have k5 := (World.cell?_alloc_lt w3 (.cells #[.string V, .string s] 9) ⟨wr.heap.size, 0, none⟩ (cell_lt k4)).trans k4)
              | (refine step_append_own rfl (.tmp 23) (.tmp 32) 45 rfl w2.heap.size 9 i0 (.string ⟨#[]⟩) 1 16 Tryd.underlying45 hi hz0 hz1 hz2 rfl (by decide) u5 L.length (L.map Value.string) rfl (hTW.alloc _) ⟨w3.heap.size, 0, none⟩ 2 2 [.string V, .string s] rfl rfl (cells_new2 _ _ _ _) (by intro u hu; simp at hu; rcases hu with rfl | rfl <;> rfl) (by unfold maxLen; omega) (by omega) (by simp; omega) ?_; intro v1 wE hT2 hg2; have hbE := (grown_own (hbW.alloc hsW _) hg2 (by simp; omega) (hTW.alloc _)); have hT3 := ownStr_two rfl hT2; have k6 := hg2.cell k5 (fun e => absurd (hT.lt _ e.symm).2 (Nat.lt_irrefl _))))
          clear e1
          go_wp2
          go_roundw
          case rel => exact ⟨k + 1, q + s.size, by omega, by go_num, Q3.out, by omega, Lib.hid (by rw [hsb.out, htb.out]; simp only [List.length_append, size_len]; have := vput_len10 hlt64; have := HBL.out; omega), by rw [hsf.out, htp.out, ← hV.out]; exact hT3, Lib.hid (by rw [hsf.out, htp.out, List.length_append]; simp only [List.length_cons, List.length_nil]; omega), hbE⟩
          case measure => simp [intOf]; omega
      · obtain rfl : k = n := by omega
        have hend := Lib.hid (show bsofar l k = l.flatMap tbytes by unfold bsofar; rw [List.take_of_length_le (by rw [hlen.out]; exact Nat.le_refl _)])
        have hbl2 := hbl.out
        have hjn := Lib.hid (show Lib.join ((psofar l k).map (·.data.toList)) (⟨#[]⟩ : ByteArray).data.toList = bsofar l k by rw [show (⟨#[]⟩ : ByteArray).data.toList = [] from rfl, join_none]; exact psofar_bytes l k)
        have hs0 := hT
        obtain ⟨L, hL⟩ : ∃ L, L = psofar l k := ⟨_, rfl⟩
        rw [← hL] at hT hpl2
        have HL := Lib.hid hL
        clear hL hs0 hlt
        obtain ⟨A1, cp, rfl⟩ := own_form hT
        have hjoin : ∀ wx : World, wx = wr → Calls Tryd.prog 105 #[.slice A1 L.length cp, .string ⟨#[]⟩] wx fun e w' => e = .returned (.string (strOf (bsofar l k))) ∧ Below wx.heap.size wx w' := by
          rintro wx rfl
          rcases Nat.eq_zero_or_pos L.length with h0 | h0
          · rw [h0]
            refine (Tryd.strings_Join_none A1 cp ⟨#[]⟩ wx).mono ?_
            rintro e w' ⟨rfl, rfl⟩
            have hL0 : psofar l k = [] := by rw [← HL.out]; exact List.length_eq_zero_iff.1 h0
            refine ⟨?_, Below.refl _ _⟩
            have hj := hjn.out
            rw [hL0] at hj
            rw [← hj]; rfl
          · obtain ⟨g, cp2, hv, hg0, hg1⟩ := own_some' hT h0
            injection hv with hv1 hv2 hv3
            subst hv1
            refine (Tryd.strings_Join g 0 cp L ⟨#[]⟩ wx ?_ hg1 (by omega) ?_ ?_).mono ?_
            · intro j x hx
              have hj : j < L.length := (List.getElem?_eq_some_iff.1 hx).1
              rw [Nat.zero_add, hT.cellAt j (by omega), List.getElem?_map, hx]; rfl
            · rcases hT.2 with ⟨h, _⟩ | ⟨g', cap, cur, h, _, _, hc, _⟩
              · cases h
              · injection h with _ _ h3; omega
            · rw [HL.out, hjn.out]; omega
            · rintro e w' ⟨rfl, hb⟩
              exact ⟨by rw [HL.out, hjn.out], hb⟩
        go_wp2_with (go_at_call 105; refine (hjoin _ rfl).mono ?_; rintro e w3 ⟨rfl, hb3⟩)
        refine (good_any _).mono ?_
        rintro e w4 ⟨rfl, hb4⟩
        have hb5 := hb3.trans (hb4.mono hb3.size)
        have hb6 := hbb.trans ((hbel.trans (hb5.mono hB)).mono hbb.size)
        obtain ⟨c0, c1, f0, f1⟩ := T0.keep (hbel.trans (hb5.mono hB)) hw0
        have S := set2 (.int .i64 0) (.int .i64 (-1)) c0 c1
        go_wp2
        exact bodyPost_ret (v := .tuple #[.string (strOf (bsofar l k)), .agg #[.int .i64 0, .int .i64 (-1)]]) (by simp [results, Tryd.results69, go_sem, S.1, S.2]) rfl ⟨by rw [hR.out, hend.out]; rfl, below_set2 _ _ hb6 (Nat.le_refl _)⟩
end Go.Proofs.YtglemfdnfaemiaaDoor
