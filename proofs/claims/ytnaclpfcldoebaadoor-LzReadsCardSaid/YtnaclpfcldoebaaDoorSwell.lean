/- Swell: the text that bytes are. Tokens that were read fit. -/
import Derived.Test.YtnaclpfcldoebaaDoorRLzRead
import Derived.Test.YtnaclpfcldoebaaDoorRTextWalks
namespace Go.Proofs.YtnaclpfcldoebaaDoor
set_option linter.unusedSimpArgs false
set_option linter.unusedVariables false
open Go.RowKit As Tokens
theorem lgo_fits {s : ByteArray} (hs : s.size ≤ 1000000) : ∀ (f p : Nat) (acc : List Tok) (st : List Int), TFits acc → TFits (lgo s f p acc st).1 := by
  intro f
  induction f with
  | zero => intro p acc st h; exact h
  | succ f ih =>
    intro p acc st h
    unfold lgo
    split
    · exact h
    · split
      · exact TFits.nil
      · split
        · split
          · exact TFits.nil
          · split
            · exact TFits.nil
            · exact ih _ _ _ (h.own (by simp only [ByteArray.size_extract]; omega))
        · split
          · exact TFits.nil
          · split
            · exact TFits.nil
            · rename_i h63 he
              obtain ⟨n, k, e, ha, hx⟩ := vat_of s (p + (uat s p).2.1) 1023
              rw [ha] at he ⊢
              rcases hx with ⟨_, hm, _⟩ | ⟨h1, _, _⟩
              · exact ih _ _ _ (h.rep hm (by omega))
              · exact absurd h1 he
theorem lgo_len {s : ByteArray} : ∀ (f p : Nat) (acc : List Tok) (st : List Int), (lgo s f p acc st).1.length ≤ acc.length + f := by
  intro f
  induction f with
  | zero => intro p acc st; exact Nat.le_refl _
  | succ f ih =>
    intro p acc st
    have z : ([] : List Tok).length ≤ acc.length + (f + 1) := Nat.zero_le _
    unfold lgo
    split
    · exact Nat.le_add_right _ _
    · split
      · exact z
      · split
        · split
          · exact z
          · split
            · exact z
            · refine Nat.le_trans (ih _ _ _) ?_
              simp only [List.length_append, List.length_cons, List.length_nil]; omega
        · split
          · exact z
          · split
            · exact z
            · refine Nat.le_trans (ih _ _ _) ?_
              simp only [List.length_append, List.length_cons, List.length_nil]; omega
theorem lread_fits {s : ByteArray} (hs : s.size ≤ 1000000) : TFits (lread s).1 := by
  unfold lread
  split
  · exact TFits.nil
  · split
    · exact TFits.nil
    · exact lgo_fits hs _ _ _ _ TFits.nil
theorem lread_len (s : ByteArray) : (lread s).1.length ≤ s.size + 1 := by
  unfold lread
  split
  · exact Nat.zero_le _
  · split
    · exact Nat.zero_le _
    · exact Nat.le_trans (lgo_len _ _ _ _) (by simp)
theorem toks_lread {w : World} {base : Nat} {E : TypeId} {A : Option Addr} {n c : Nat} {s : ByteArray} (hs : s.size ≤ 1000000) (h : w.ownsRow base E 3 (.slice A n c) n (tokV (lread s).1)) : Toks w w.heap.size A n (lread s).1 := ⟨Sl.of_own h, lread_fits hs⟩
theorem serr_nil {w : World} {v : Value} {e p : Int} (h : ErrIs w v e p) (h0 : e = 0) : v = .nilIface := by
  subst h0
  exact (ErrIs.zero h).1
theorem serr_some {w : World} {v : Value} {e p : Int} (h : ErrIs w v e p) (h0 : e ≠ 0) : ∃ t u, v = .iface t u := by
  cases h with
  | none => exact absurd rfl h0
  | bare _ _ => exact ⟨_, _, rfl⟩
  | at_ _ _ _ _ _ _ _ => exact ⟨_, _, rfl⟩
theorem lswell_bad {s : ByteArray} (h : (lread s).2.1 ≠ 0) : lswell s = (⟨#[]⟩, (lread s).2) := by unfold lswell; rw [if_pos h]
theorem lswell_good {s : ByteArray} (h : (lread s).2.1 = 0) : lswell s = textOf (lread s).1 := by unfold lswell; rw [if_neg (by omega)]
set_option maxHeartbeats 1000000 in
set_option maxRecDepth 100000 in
theorem swell_any (s : ByteArray) (w : World) (hs : s.size ≤ 1000000) (hg : Handle w) :
    Calls Tryd.prog 15 #[.string s] w fun e w' => ∃ v, e = .returned (.tuple #[.string (lswell s).1, v]) ∧ ErrOf w' v (lswell s).2 ∧ Below w.heap.size w w' := by
  have HL := lread_len s
  go_enter Tryd.func15, Tryd.ntmps15
  go_wp2_with fail
  refine (lzread_any s w hs hg).mono ?_
  rintro e w1 ⟨v1, x, rfl, hT, hx, hb1⟩
  obtain ⟨A, c, rfl⟩ := own_form hT
  have hK := toks_lread hs hT
  by_cases hbad : (lread s).2.1 ≠ 0
  · have hR := Lib.hid (lswell_bad hbad)
    obtain ⟨t, u, rfl⟩ := serr_some hx hbad
    clear hbad
    go_wp2
    go_ret2
    rw [hR.out]
    exact ⟨_, rfl, hx, hb1⟩
  · have h0 : (lread s).2.1 = 0 := by omega
    have hR := Lib.hid (lswell_good h0)
    obtain rfl := serr_nil hx h0
    clear hbad h0
    go_wp2_with fail
    refine (text_any w1 _ c A _ hK (by unfold maxLen; omega)).mono ?_
    rintro e w2 ⟨v, rfl, hv, hb2⟩
    go_wp2
    go_ret2
    rw [hR.out]
    exact ⟨_, rfl, hv, hb1.trans (hb2.mono hb1.size)⟩
set_option maxHeartbeats 1000000 in
set_option maxRecDepth 100000 in
theorem rswell_any (s : ByteArray) (w : World) (hs : s.size ≤ 1000000) :
    Calls Tryd.prog 14 #[.string s] w fun e w' => e = .returned (.tuple #[.string (lswell s).1, faultV (lswell s).2]) ∧ Below w.heap.size w w' := by
  have HL := lread_len s
  go_enter Tryd.func14, Tryd.ntmps14
  go_wp2_with fail
  refine (rlzread_any s _ hs).mono ?_
  rintro e w1 ⟨v1, rfl, hT, hb1⟩
  obtain ⟨A, c, rfl⟩ := own_form hT
  have hK := toks_lread hs hT
  have hz := hb1.size
  simp only [World.size_alloc] at hz
  have bX := below1 w1 (.cells #[.int .i64 (lread s).2.1, .int .i64 (lread s).2.2] 25)
  have T0 := ((Two.new w 0 0 25).below hb1).below bX
  have T1 := Two.new w1 (lread s).2.1 (lread s).2.2 25
  have hM : Below w.heap.size w (w1.alloc (.cells #[.int .i64 (lread s).2.1, .int .i64 (lread s).2.2] 25)) := ((below1 w _).trans (hb1.mono (by simp))).trans (bX.mono (by omega))
  have hK1 := hK.grow bX
  unfold faultV
  by_cases hbad : (lread s).2.1 ≠ 0
  · have hR := Lib.hid (lswell_bad hbad)
    have hne : ((lread s).2.1 == 0) = false := beq_eq_false_iff_ne.2 hbad
    clear hbad
    generalize lread s = y at *
    obtain ⟨L, e1, p1⟩ := y
    simp only at *
    go_wp2_with fail
    refine (is_any (e1, p1) _).mono ?_
    rintro r w2 ⟨rfl, hb2⟩
    have bb : Below w.heap.size w w2 := hM.trans (hb2.mono hM.size)
    obtain ⟨c0, c1, f0, f1⟩ := T0.below hb2
    obtain ⟨d0, d1, g0, g1⟩ := T1.below hb2
    simp only [hne]
    go_wp2_with fail
    go_region
    have S := set2 (.int .i64 e1) (.int .i64 p1) c0 c1
    go_wp2
    exact bodyPost_ret (v := .tuple #[.string ⟨#[]⟩, .agg #[.int .i64 e1, .int .i64 p1]]) (by simp [results, Tryd.results14, go_sem, S.1, S.2]) rfl ⟨by rw [hR.out]; rfl, (below_set2 _ _ bb (Nat.le_refl _)).drew⟩
  · have h0 : (lread s).2.1 = 0 := by omega
    have hR := Lib.hid (lswell_good h0)
    have hne : ((lread s).2.1 == 0) = true := beq_iff_eq.2 h0
    clear hbad h0
    generalize lread s = y at *
    obtain ⟨L, e1, p1⟩ := y
    simp only at *
    go_wp2_with fail
    refine (is_any (e1, p1) _).mono ?_
    rintro r w2 ⟨rfl, hb2⟩
    have bb : Below w.heap.size w w2 := hM.trans (hb2.mono hM.size)
    simp only [hne]
    go_wp2_with fail
    refine (rtext_any w2 _ c A _ (hK1.grow hb2) (by unfold maxLen; omega)).mono ?_
    rintro e w3 ⟨rfl, hb3⟩
    have b3 := bb.trans (hb3.mono bb.size)
    obtain ⟨c0, c1, f0, f1⟩ := (T0.below hb2).below hb3
    unfold faultV
    generalize hX : textOf L = X at *
    obtain ⟨t, e2, p2⟩ := X
    have S := set2 (.int .i64 e2) (.int .i64 p2) c0 c1
    go_wp2
    exact bodyPost_ret (v := .tuple #[.string t, .agg #[.int .i64 e2, .int .i64 p2]]) (by simp [results, Tryd.results14, go_sem, S.1, S.2]) rfl ⟨by rw [hR.out]; rfl, below_set2 _ _ b3 (Nat.le_refl _)⟩
end Go.Proofs.YtnaclpfcldoebaaDoor
