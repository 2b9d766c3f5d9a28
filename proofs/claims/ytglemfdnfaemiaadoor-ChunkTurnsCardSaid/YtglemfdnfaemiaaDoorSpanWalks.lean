/- span.Put, span.Get and Span, Unspan of the reference say what spanOf and unspan say. -/
import Derived.Test.YtglemfdnfaemiaaDoorSpanLaw
import Derived.Test.YtglemfdnfaemiaaDoorVaryWalks
import Derived.Test.YtglemfdnfaemiaaDoorRVary
namespace Go.Proofs.YtglemfdnfaemiaaDoor
open Go.RowKit As
theorem strOf_size (l : List UInt8) : (strOf l).size = l.length := by show l.toArray.size = _; simp
theorem retT2 {v v' u u' : Value} (h1 : v = v') (h2 : u = u') : Ending.returned (.tuple #[v, u]) = .returned (.tuple #[v', u']) := by rw [h1, h2]
theorem retT3' {v v' u u' x x' : Value} (h1 : v = v') (h2 : u = u') (h3 : x = x') : Ending.returned (.tuple #[v, u, x]) = .returned (.tuple #[v', u', x']) := by rw [h1, h2, h3]
set_option maxRecDepth 100000 in
theorem spanput_any (s : ByteArray) (w : World) (hs : s.size ≤ maxLen) :
    Calls Tryd.prog 54 #[.string s] w fun e w' => e = .returned (.tuple #[.string (spanOf s).1, errV (spanOf s).2]) ∧ Below w.heap.size w w' := by
  unfold maxLen at hs
  by_cases hbig : 2000 < s.size
  · have H : spanOf s = (strOf [], 4) := by unfold spanOf; rw [if_pos hbig]
    have HS := Lib.hid H
    clear H
    have hd : decide (2000 < s.size) = true := by simpa using hbig
    go_enter Tryd.func54, Tryd.ntmps54
    go_wp2
    go_ret2
    exact ⟨by rw [HS.out]; rfl, Below.refl _ _⟩
  · have H : spanOf s = (strOf (vput s.size) ++ s, 0) := by unfold spanOf; rw [if_neg hbig]
    have HS := Lib.hid H
    clear H
    have hd : decide (2000 < s.size) = false := by simpa using hbig
    have hl := vput_len10 (n := s.size) (by omega)
    rw [← strOf_size] at hl
    go_enter Tryd.func54, Tryd.ntmps54
    go_wp2_with fail
    refine (vput_any s.size w (by omega)).mono ?_
    rintro e w' ⟨rfl, hb⟩
    obtain ⟨t, ht⟩ : ∃ t, t = strOf (vput s.size) := ⟨_, rfl⟩
    rw [← ht] at hl
    have hE : (⟨(vput s.size).toArray⟩ : ByteArray) = t := ht.symm
    rw [hE]
    have HT := Lib.hid ht
    clear ht hE
    have hcat : t.size + s.size ≤ 9223372036854775807 := by omega
    go_wp2_with fail
    go_ret2
    exact ⟨by rw [HS.out, HT.out]; rfl, hb⟩
set_option maxRecDepth 100000 in
theorem rspan_any (s : ByteArray) (w : World) (hs : s.size ≤ maxLen) :
    Calls Tryd.prog 53 #[.string s] w fun e w' => e = .returned (.tuple #[.string (spanOf s).1, .int .i64 (spanOf s).2]) ∧ Below w.heap.size w w' := by
  unfold maxLen at hs
  by_cases hbig : 2000 < s.size
  · have H : spanOf s = (strOf [], 4) := by unfold spanOf; rw [if_pos hbig]
    have HS := Lib.hid H
    clear H
    have hd : decide (2000 < s.size) = true := by simpa using hbig
    go_enter Tryd.func53, Tryd.ntmps53
    go_wp2
    go_ret2
    exact ⟨by rw [HS.out]; rfl, Below.refl _ _⟩
  · have H : spanOf s = (strOf (vput s.size) ++ s, 0) := by unfold spanOf; rw [if_neg hbig]
    have HS := Lib.hid H
    clear H
    have hd : decide (2000 < s.size) = false := by simpa using hbig
    have hl := vput_len10 (n := s.size) (by omega)
    rw [← strOf_size] at hl
    go_enter Tryd.func53, Tryd.ntmps53
    go_wp2_with fail
    refine (rvary_any s.size w (by omega)).mono ?_
    rintro e w' ⟨rfl, hb⟩
    obtain ⟨t, ht⟩ : ∃ t, t = strOf (vput s.size) := ⟨_, rfl⟩
    rw [← ht] at hl
    have hE : (⟨(vput s.size).toArray⟩ : ByteArray) = t := ht.symm
    rw [hE]
    have HT := Lib.hid ht
    clear ht hE
    have hcat : t.size + s.size ≤ 9223372036854775807 := by omega
    go_wp2_with fail
    go_ret2
    exact ⟨by rw [HS.out, HT.out]; rfl, hb⟩
set_option maxRecDepth 100000 in
theorem runspan_any (s : ByteArray) (w : World) (hs : s.size ≤ maxLen) :
    Calls Tryd.prog 55 #[.string s] w fun e w' => e = .returned (.tuple #[.string (unspan s).1, .int .i64 ((unspan s).2.1 : Int), .int .i64 (unspan s).2.2]) ∧ w = w' := by
  have hS := Lib.hid hs
  unfold maxLen at hs
  have hsay := vget_says s.data.toList
  have hU : unspan s = unspan s := rfl
  obtain ⟨u, hu⟩ : ∃ u, u = unspan s := ⟨_, rfl⟩
  rw [← hu]
  unfold unspan at hu
  clear hU
  obtain ⟨g, hg⟩ : ∃ g, g = vget s.data.toList := ⟨_, rfl⟩
  rw [← hg] at hu hsay
  have HG := Lib.hid hg
  clear hg
  obtain ⟨n, k, e⟩ := g
  simp only at hu hsay
  by_cases he : e = 0
  · subst he
    have hb : n < 18446744073709551616 ∧ 0 < k ∧ k ≤ 10 ∧ k ≤ s.size := by
      rcases hsay with h | h | h | h
      · simpa using h
      all_goals (injection h with h1 h2; injection h2 with h2 h3; omega)
    obtain ⟨hn, hk0, hk10, hks⟩ := hb
    clear hsay
    rw [if_neg (by simp)] at hu
    by_cases h1 : 2000 < n
    · rw [if_pos h1] at hu
      subst hu
      go_enter Tryd.func55, Tryd.ntmps55
      go_wp2_with fail
      refine (runvary_any s w hS.out).mono ?_
      rintro r w' ⟨rfl, rfl⟩
      rw [← HG.out]
      go_wp2
      go_ret3
      exact ⟨rfl, rfl⟩
    · rw [if_neg h1] at hu
      by_cases h2 : s.size < n + k
      · rw [if_pos h2] at hu
        subst hu
        go_enter Tryd.func55, Tryd.ntmps55
        go_wp2_with fail
        refine (runvary_any s w hS.out).mono ?_
        rintro r w' ⟨rfl, rfl⟩
        rw [← HG.out]
        go_wp2
        go_ret3
        exact ⟨rfl, rfl⟩
      · rw [if_neg h2] at hu
        subst hu
        go_enter Tryd.func55, Tryd.ntmps55
        go_wp2_with fail
        refine (runvary_any s w hS.out).mono ?_
        rintro r w' ⟨rfl, rfl⟩
        rw [← HG.out]
        go_wp2
        go_ret3
        exact ⟨rfl, rfl⟩
  · rw [if_pos he] at hu
    subst hu
    go_enter Tryd.func55, Tryd.ntmps55
    have hne : (e != 0) = true := by rw [bne_iff_ne]; exact he
    go_wp2_with fail
    refine (runvary_any s w hS.out).mono ?_
    rintro r w' ⟨rfl, rfl⟩
    rw [← HG.out]
    go_wp2
    go_ret3
    exact ⟨rfl, rfl⟩
set_option maxHeartbeats 1000000 in
set_option maxRecDepth 100000 in
theorem spanget_any (s : ByteArray) (w : World) (hs : s.size ≤ maxLen) (hg : Handle w) :
    Calls Tryd.prog 56 #[.string s] w fun e w' => e = .returned (.tuple #[.string (unspan s).1, .int .i64 ((unspan s).2.1 : Int), errV (unspan s).2.2]) ∧ Below w.heap.size w w' := by
  have hS := Lib.hid hs
  unfold maxLen at hs
  have hsay := vget_says s.data.toList
  obtain ⟨u, hu⟩ : ∃ u, u = unspan s := ⟨_, rfl⟩
  rw [← hu]
  unfold unspan at hu
  obtain ⟨v, hv⟩ : ∃ v, v = vint s.data.toList 2000 := ⟨_, rfl⟩
  have HV := Lib.hid hv
  unfold vint at hv
  generalize vget s.data.toList = g at *
  obtain ⟨n, k, e⟩ := g
  simp only at hu hsay hv
  by_cases he : e = 0
  · subst he
    have hb : n < 18446744073709551616 ∧ 0 < k ∧ k ≤ 10 ∧ k ≤ s.size := by
      rcases hsay with h | h | h | h
      · simpa using h
      all_goals (injection h with h1 h2; injection h2 with h2 h3; omega)
    obtain ⟨hn, hk0, hk10, hks⟩ := hb
    clear hsay
    rw [if_neg (by simp)] at hu hv
    by_cases h1 : 2000 < n
    · rw [if_pos h1] at hu
      rw [if_pos (by right; omega)] at hv
      subst hu hv
      go_enter Tryd.func56, Tryd.ntmps56
      go_wp2_with fail
      refine (vint_any s 2000 w hS.out (by omega)).mono ?_
      rintro r w' ⟨rfl, rfl⟩
      rw [← HV.out]
      go_wp2_with fail
      refine (tell_any (errV_is w 2) hg).mono ?_
      rintro r w1 ⟨rfl, hb⟩
      go_wp2
      go_ret3
      exact ⟨rfl, hb⟩
    · rw [if_neg h1] at hu
      rw [if_neg (by omega)] at hv
      subst hv
      by_cases h2 : s.size < n + k
      · rw [if_pos h2] at hu
        subst hu
        go_enter Tryd.func56, Tryd.ntmps56
        go_wp2_with fail
        refine (vint_any s 2000 w hS.out (by omega)).mono ?_
        rintro r w' ⟨rfl, rfl⟩
        rw [← HV.out]
        simp only [errV_zero]
        go_wp2_with fail
        refine (tell_nil w).mono ?_
        rintro r w1 ⟨rfl, rfl⟩
        go_wp2
        go_ret3
        exact ⟨rfl, Below.refl _ _⟩
      · rw [if_neg h2] at hu
        subst hu
        go_enter Tryd.func56, Tryd.ntmps56
        go_wp2_with fail
        refine (vint_any s 2000 w hS.out (by omega)).mono ?_
        rintro r w' ⟨rfl, rfl⟩
        rw [← HV.out]
        simp only [errV_zero]
        go_wp2_with fail
        refine (tell_nil w).mono ?_
        rintro r w1 ⟨rfl, rfl⟩
        go_wp2
        go_ret3
        exact ⟨rfl, Below.refl _ _⟩
  · rw [if_pos he] at hu hv
    subst hu hv
    have he2 : e ≠ 2 := by
      rcases hsay with h | h | h | h
      · exact absurd h.1 he
      all_goals (injection h with h1 h2; injection h2 with h2 h3; omega)
    have hne : (e == 2) = false := beq_eq_false_iff_ne.2 he2
    clear hsay
    have hE := Lib.hid (errV_of he)
    go_enter Tryd.func56, Tryd.ntmps56
    go_wp2_with fail
    refine (vint_any s 2000 w hS.out (by omega)).mono ?_
    rintro r w' ⟨rfl, rfl⟩
    rw [← HV.out]
    simp only [hE.out]
    go_wp2_with fail
    refine (tell_errno e w hg).mono ?_
    rintro r w1 ⟨rfl, hb⟩
    go_wp2
    go_ret3
    exact ⟨retT3' rfl rfl hE.out.symm, hb⟩
end Go.Proofs.YtglemfdnfaemiaaDoor
