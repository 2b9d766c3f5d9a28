/- lz.Squeeze and Squeeze of the reference: a text's tokens as bytes. -/
import Derived.Test.YtglemfdnfaemiaaDoorRLzWalks
import Derived.Test.YtglemfdnfaemiaaDoorTokRef
namespace Go.Proofs.YtglemfdnfaemiaaDoor
open Go.RowKit As Tokens
theorem flush_fits {s : ByteArray} (hs : s.size ≤ 140737488351232) {x : St} (h : ∀ t ∈ x.done, tokFits t) : ∀ t ∈ flush s x, tokFits t := by
  intro t ht
  unfold flush at ht
  split at ht
  · rcases List.mem_append.1 ht with ht | ht
    · exact h t ht
    · simp only [List.mem_singleton] at ht
      subst ht
      refine ⟨?_, by simp, by simp⟩
      simp only [ByteArray.size_extract]; omega
  · exact h t ht
theorem st_fits {s : ByteArray} (hs : s.size ≤ 140737488351232) (k : Nat) : ∀ t ∈ (st s k).done, tokFits t := by
  induction k with
  | zero => intro t ht; simp [st] at ht
  | succ k ih =>
    intro t ht
    have e : st s (k + 1) = Tokens.step s (st s k) := rfl
    rw [e] at ht
    unfold Tokens.step at ht
    split at ht
    · split at ht
      · exact ih t ht
      · simp only at ht
        rcases List.mem_append.1 ht with ht | ht
        · exact flush_fits hs ih t ht
        · simp only [List.mem_singleton] at ht
          subst ht
          have hf := find_le s.data.toList (st s k).at_
          refine ⟨by show (ByteArray.empty).size ≤ _; simp, ?_, ?_⟩ <;> simp only <;> omega
    · exact ih t ht
theorem tokens_fits {s : ByteArray} (hs : s.size ≤ 140737488351232) : ∀ t ∈ tokens s, tokFits t := flush_fits hs (st_fits hs _)
theorem toks_of_own {w : World} {base : Nat} {E : TypeId} {A : Option Addr} {n c : Nat} {s : ByteArray} (hs : s.size ≤ 140737488351232) (h : w.ownsRow base E 3 (.slice A n c) n (tokV (tokens s))) : Toks w w.heap.size A n (tokens s) := ⟨Sl.of_own h, tokens_fits hs⟩
/-- A text in fewer bytes. -/
def squeezeOf (s : ByteArray) : ByteArray × Int × Int := if 20000 < s.size then (⟨#[]⟩, 4, -1) else twrite (tokens s)
theorem squeeze_big {s : ByteArray} (h : 20000 < s.size) : squeezeOf s = (⟨#[]⟩, 4, -1) := by unfold squeezeOf; rw [if_pos h]
theorem squeeze_ok {s : ByteArray} (h : ¬ 20000 < s.size) : squeezeOf s = twrite (tokens s) := by unfold squeezeOf; rw [if_neg h]
set_option maxRecDepth 100000 in
theorem squeeze_any (s : ByteArray) (w : World) (hs : s.size ≤ 100000) :
    Calls Tryd.prog 77 #[.string s] w fun e w' => ∃ v, e = .returned (.tuple #[.string (squeezeOf s).1, v]) ∧ ErrOf w' v (squeezeOf s).2 ∧ Below w.heap.size w w' := by
  by_cases h : 20000 < s.size
  · have hd : decide (20000 < s.size) = true := by simpa using h
    have hr := Lib.hid (squeeze_big h)
    go_enter Tryd.func77, Tryd.ntmps77
    go_wp2
    go_ret2
    rw [hr.out]
    exact ⟨_, rfl, .bare 4 (by omega), Below.refl _ _⟩
  · have hd : decide (20000 < s.size) = false := by simpa using h
    have hr := Lib.hid (squeeze_ok h)
    have hlen := tokens_len s
    go_enter Tryd.func77, Tryd.ntmps77
    go_wp2_with fail
    refine (tokens_any s w hs).mono ?_
    rintro e w1 ⟨v1, rfl, hT, hb1⟩
    obtain ⟨A, c, rfl⟩ := own_form hT
    go_wp2_with fail
    refine (twrite_any w1 _ c A (tokens s) (toks_of_own (by omega) hT) (by omega)).mono ?_
    rintro e w2 ⟨v2, rfl, hv, hb2⟩
    have hb12 := hb1.trans (hb2.mono hb1.size)
    go_wp2
    go_ret2
    rw [hr.out]
    exact ⟨_, rfl, hv, hb12⟩
set_option maxRecDepth 100000 in
theorem rsqueeze_any (s : ByteArray) (w : World) (hs : s.size ≤ 100000) :
    Calls Tryd.prog 76 #[.string s] w fun e w' => e = .returned (.tuple #[.string (squeezeOf s).1, faultV (squeezeOf s).2]) ∧ Below w.heap.size w w' := by
  by_cases h : 20000 < s.size
  · have hd : decide (20000 < s.size) = true := by simpa using h
    have hr := Lib.hid (squeeze_big h)
    go_enter Tryd.func76, Tryd.ntmps76
    go_wp2_with fail
    refine (bareF_any _ _).mono ?_
    rintro e w' ⟨rfl, hb⟩
    obtain ⟨c0, c1, f0, f1⟩ := (Two.new w 0 0 29).below hb
    have S := set2 (.int .i64 4) (.int .i64 (-1)) c0 c1
    go_wp2
    exact bodyPost_ret (v := .tuple #[.string ⟨#[]⟩, .agg #[.int .i64 4, .int .i64 (-1)]]) (by simp [results, Tryd.results76, go_sem, S.1, S.2]) rfl ⟨by rw [hr.out]; rfl, below_set2 _ _ ((below1 _ _).trans (hb.mono (by simp))) (Nat.le_refl _)⟩
  · have hd : decide (20000 < s.size) = false := by simpa using h
    have hr := Lib.hid (squeeze_ok h)
    have hlen := tokens_len s
    go_enter Tryd.func76, Tryd.ntmps76
    go_wp2_with fail
    refine (rtokens_any s _ hs).mono ?_
    rintro e w1 ⟨v1, rfl, hT, hb1⟩
    obtain ⟨A, c, rfl⟩ := own_form hT
    go_wp2_with fail
    refine (rtwrite_any w1 _ c A (tokens s) (toks_of_own (by omega) hT) (by omega)).mono ?_
    rintro e w2 ⟨rfl, hb2⟩
    have hb12 := hb1.trans (hb2.mono hb1.size)
    obtain ⟨c0, c1, f0, f1⟩ := (Two.new w 0 0 29).below hb12
    unfold faultV
    generalize hX : twrite (tokens s) = X at *
    obtain ⟨t, e1, p1⟩ := X
    clear hX
    have S := set2 (.int .i64 e1) (.int .i64 p1) c0 c1
    go_wp2
    exact bodyPost_ret (v := .tuple #[.string t, .agg #[.int .i64 e1, .int .i64 p1]]) (by simp [results, Tryd.results76, go_sem, S.1, S.2]) rfl ⟨by rw [hr.out]; rfl, below_set2 _ _ ((below1 _ _).trans (hb12.mono (by simp))) (Nat.le_refl _)⟩
end Go.Proofs.YtglemfdnfaemiaaDoor
