/- span.All and Spans of the reference say what spansOf says. -/
import Derived.Test.YtglemfdnfaemiaaDoorSpansLaw
import Derived.Test.YtglemfdnfaemiaaDoorSpanWalks
import Derived.Test.YtglemfdnfaemiaaDoorVecRight
import Derived.Test.YtglemfdnfaemiaaDoorStepOwn
import Derived.Test.YtglemfdnfaemiaaDoorEqual
namespace Go.Proofs.YtglemfdnfaemiaaDoor
open Go.RowKit As
theorem strInfo : (Tryd.prog.info? 9).map (fun i => (i.zero, i.size, i.bytes)) = some (some (.string ⟨#[]⟩), 1, 16) := by kernel_rfl
theorem ownStr_snoc {w : World} {base : Nat} {E : TypeId} {v : Value} {l : List ByteArray} {b : ByteArray} {n : Nat} (hn : l.length = n) (h : w.ownsRow base E 1 v (n + 1) (l.map Value.string ++ [Value.string b])) : w.ownsRow base E 1 v (l ++ [b]).length ((l ++ [b]).map Value.string) := by
  subst hn; simpa using h
/-- A row of the call's own stands behind a call that leaves all that was there. -/
theorem ownsRow_below {w w' : World} {base : Nat} {e : TypeId} {size n : Nat} {v : Value} {xs : List Value} (h : w.ownsRow base e size v n xs) (hb : Below w.heap.size w w') (_ : base ≤ w.heap.size) : w'.ownsRow base e size v n xs := by
  refine h.kept (row := none) ⟨hb.os, hb.tape, hb.output, hb.size, fun i hi _ => hb.block i hi⟩ ?_
  cases v.ownBlock with
  | none => exact .inl rfl
  | some k => exact .inr (by simp)
set_option maxHeartbeats 2000000 in
set_option maxRecDepth 100000 in
theorem spanall_any (s : ByteArray) (n : Int) (w : World) (hs : s.size ≤ 1500) (hn : n ≤ 3000) (hg : Handle w) :
    Calls Tryd.prog 50 #[.string s, .int .i64 n] w fun e w' => ∃ v x, e = .returned (.tuple #[v, .int .i64 ((spansOf s n.toNat).2.1 : Int), x]) ∧ w'.ownsRow w.heap.size 9 1 v (spansOf s n.toNat).1.length ((spansOf s n.toNat).1.map Value.string) ∧ ErrIs w' x (spansOf s n.toNat).2.2.1 (spansOf s n.toNat).2.2.2 ∧ Below w.heap.size w w' := by
  obtain ⟨i0, hi, hz0, hz1, hz2⟩ := info_parts strInfo
  obtain ⟨X, hX⟩ : ∃ X, X = spansOf s n.toNat := ⟨_, rfl⟩
  rw [← hX]
  have hX0 : X = spansGo s (n.toNat - 0) 0 0 [] := hX
  have HX0 := Lib.hid hX0
  clear hX hX0
  go_enter Tryd.func50, Tryd.ntmps50
  go_wp2
  go_loopw [7, 8, 9, 10, 11, 12, 14] (fun v p _ _ _ _ i wr => ∃ (k at_ : Nat) (acc : List ByteArray), k ≤ n.toNat ∧ i = .int .i64 k ∧ p = .int .i64 at_ ∧ at_ ≤ s.size ∧ acc.length = k ∧ Hid (X = spansGo s (n.toNat - k) k at_ acc) ∧ wr.ownsRow w.heap.size 9 1 v acc.length (acc.map Value.string) ∧ Below w.heap.size w wr) (fun _ _ _ _ _ _ i _ => n.toNat - (intOf i).toNat)
  case atStart => exact ⟨0, 0, [], by omega, rfl, rfl, by omega, rfl, HX0, World.ownsRow_nil _ _ _ _, Below.refl _ _⟩
  case round =>
    clear HX0
    obtain ⟨k, p, acc, hk, rfl, rfl, hp, hacc, HX, hT, hbel⟩ := hrel
    have hBs := hbel.size
    have hgr := hg.below hbel
    by_cases hlt : (k : Int) < n
    · have hr : n.toNat - k = (n.toNat - (k + 1)) + 1 := by omega
      have hX1 : X = spansGo s ((n.toNat - (k + 1)) + 1) k p acc := by rw [← hr]; exact HX
      clear hr HX
      have hrest := extract_rest s p hp
      have hbad := fun he => spans_bad hX1 he
      have hnext := fun he => spans_next hX1 he
      clear hX1
      have hsay := unspan_says (s.extract p s.size)
      rw [hrest] at hsay
      obtain ⟨u, hu⟩ : ∃ u, u = unspan (s.extract p s.size) := ⟨_, rfl⟩
      rw [← hu] at hbad hnext hsay
      have HU := Lib.hid hu
      clear hu
      obtain ⟨t, j, e⟩ := u
      simp only at hbad hnext hsay
      have HR := Lib.hid hrest
      have hms : (s.extract p s.size).size ≤ maxLen := by clear hsay hbad hnext; rw [hrest]; unfold maxLen; omega
      have HMS := Lib.hid hms
      clear hrest hms
      by_cases he : e = 0
      · subst he
        have hj : 0 < j ∧ j ≤ s.size - p ∧ t.size ≤ 2000 := by
          rcases hsay with h | ⟨e, h, h'⟩
          · exact ⟨h.2.1, h.2.2.1, h.2.2.2.2.1⟩
          · injection h with h1 h2; injection h2 with h2 h3; omega
        obtain ⟨hj0, hj1, ht⟩ := hj
        have HN := Lib.hid (hnext rfl)
        clear hbad hnext hsay
        go_wp2_with fail
        refine (spanget_any _ wr HMS.out hgr).mono ?_
        rintro r w1 ⟨rfl, hb1⟩
        rw [← HU.out]
        simp only [errV_zero]
        have hT1 := ownsRow_below hT hb1 hBs
        have hbel1 := hbel.trans (hb1.mono hBs)
        have hB1 := hbel1.size
        clear hT hb1 hbel
        go_wp2_with (first
          | (at_builtin; refine wpList_append_own _ rfl (.tmp 33) (.tmp 35) 45 rfl w.heap.size 9 i0 (.string ⟨#[]⟩) 1 16 Tryd.underlying45 hi hz0 hz1 hz2 rfl (by decide) u7 acc.length (acc.map Value.string) rfl (hT1.alloc _) ⟨w1.heap.size, 0, none⟩ 1 1 [.string t] rfl rfl (cells_new1 _ _ _) (by intro u hu; simp at hu; subst hu; rfl) (by unfold maxLen; omega) (by omega) (by simp; omega) ?_; intro v1 w2 hT2 hg2 _; have hb2 := grown_own (hbel1.alloc hB1 _) hg2 (by simp; omega) (hT1.alloc _); have hT3 := ownStr_snoc rfl hT2))
        go_roundw
        case rel => exact ⟨k + 1, p + j, _, by omega, by go_num, by go_num, by omega, by simp; omega, HN, hT3, hb2⟩
        case measure => simp [intOf]; omega
      · have HB := Lib.hid (hbad he)
        clear hbad hnext
        have htj : t = strOf [] ∧ j = 0 := by
          rcases hsay with h | ⟨e', h, h'⟩
          · exact absurd h.1 he
          · injection h with h1 h2; injection h2 with h2 h3; exact ⟨h1, h2⟩
        obtain ⟨rfl, rfl⟩ := htj
        clear hsay
        have HE := Lib.hid (errV_of he)
        go_wp2_with fail
        refine (spanget_any _ wr HMS.out hgr).mono ?_
        rintro r w1 ⟨rfl, hb1⟩
        rw [← HU.out]
        simp only [HE.out]
        have hbel1 := hbel.trans (hb1.mono hBs)
        have hg1 := hg.below hbel1
        clear hb1 hbel hT
        go_wp2_with fail
        refine (tell_errno e w1 hg1).mono ?_
        rintro r w2 ⟨rfl, hb2⟩
        have hbel2 := hbel1.trans (hb2.mono hbel1.size)
        have hB2 := hbel2.size
        go_wp2
        go_ret3
        refine ⟨_, _, by rw [HB.out]; rfl, ?_, ?_, hbel2.alloc hB2 _⟩
        · rw [HB.out]; exact World.ownsRow_nil _ _ _ _
        · rw [HB.out]; exact err_at _ _ e k he rfl
    · have h0 : n.toNat - k = 0 := by omega
      have HE := Lib.hid (show X = (acc, p, 0, -1) by rw [HX, h0]; rfl)
      clear HX h0
      go_wp2
      go_ret3
      refine ⟨_, _, by rw [HE.out]; rfl, ?_, ?_, hbel⟩
      · rw [HE.out]; exact hT
      · rw [HE.out]; exact .none
set_option maxHeartbeats 2000000 in
set_option maxRecDepth 100000 in
theorem rspans_any (s : ByteArray) (n : Int) (w : World) (hs : s.size ≤ 1500) (hn : n ≤ 3000) :
    Calls Tryd.prog 49 #[.string s, .int .i64 n] w fun e w' => ∃ v, e = .returned (.tuple #[v, .int .i64 ((spansOf s n.toNat).2.1 : Int), .agg #[.int .i64 (spansOf s n.toNat).2.2.1, .int .i64 (spansOf s n.toNat).2.2.2]]) ∧ w'.ownsRow w.heap.size 9 1 v (spansOf s n.toNat).1.length ((spansOf s n.toNat).1.map Value.string) ∧ Below w.heap.size w w' := by
  obtain ⟨i0, hi, hz0, hz1, hz2⟩ := info_parts strInfo
  obtain ⟨X, hX⟩ : ∃ X, X = spansOf s n.toNat := ⟨_, rfl⟩
  rw [← hX]
  have hX0 : X = spansGo s (n.toNat - 0) 0 0 [] := hX
  have HX0 := Lib.hid hX0
  clear hX hX0
  have hall := Lib.hid (extract_all s)
  go_enter Tryd.func49, Tryd.ntmps49
  go_wp2
  go_loopw [7, 8, 9, 10, 11, 12] (fun v p i _ _ _ wr => ∃ (k at_ : Nat) (acc : List ByteArray), k ≤ n.toNat ∧ i = .int .i64 k ∧ p = .string (s.extract at_ s.size) ∧ at_ ≤ s.size ∧ acc.length = k ∧ Hid (X = spansGo s (n.toNat - k) k at_ acc) ∧ wr.ownsRow (w.heap.size + 1) 9 1 v acc.length (acc.map Value.string) ∧ Two wr w.heap.size 0 0 ∧ Below w.heap.size w wr) (fun _ _ i _ _ _ _ => n.toNat - (intOf i).toNat)
  case atStart => exact ⟨0, 0, [], by omega, rfl, by rw [hall.out], by omega, rfl, HX0, World.ownsRow_nil _ _ _ _, Two.new _ _ _ _, below1 _ _⟩
  case round =>
    clear HX0
    obtain ⟨k, p, acc, hk, rfl, rfl, hp, hacc, HX, hT, h2, hbel⟩ := hrel
    have hBs := hbel.size
    have hs0 := h2.lt
    by_cases hlt : (k : Int) < n
    · have hr : n.toNat - k = (n.toNat - (k + 1)) + 1 := by omega
      have hX1 : X = spansGo s ((n.toNat - (k + 1)) + 1) k p acc := by rw [← hr]; exact HX
      clear hr HX
      have hrest := extract_rest s p hp
      have hbad := fun he => spans_bad hX1 he
      have hnext := fun he => spans_next hX1 he
      clear hX1
      have hsay := unspan_says (s.extract p s.size)
      rw [hrest] at hsay
      obtain ⟨u, hu⟩ : ∃ u, u = unspan (s.extract p s.size) := ⟨_, rfl⟩
      rw [← hu] at hbad hnext hsay
      have HU := Lib.hid hu
      clear hu
      obtain ⟨t, j, e⟩ := u
      simp only at hbad hnext hsay
      have HR := Lib.hid hrest
      have hms : (s.extract p s.size).size ≤ maxLen := by clear hsay hbad hnext; rw [hrest]; unfold maxLen; omega
      have HMS := Lib.hid hms
      clear hrest hms
      by_cases he : e = 0
      · subst he
        have hj : 0 < j ∧ j ≤ s.size - p ∧ t.size ≤ 2000 := by
          rcases hsay with h | ⟨e, h, h'⟩
          · exact ⟨h.2.1, h.2.2.1, h.2.2.2.2.1⟩
          · injection h with h1 h2; injection h2 with h2 h3; omega
        obtain ⟨hj0, hj1, ht⟩ := hj
        have HN := Lib.hid (hnext rfl)
        clear hbad hnext hsay
        go_wp2_with fail
        refine (runspan_any _ wr HMS.out).mono ?_
        rintro r w1 ⟨rfl, rfl⟩
        rw [← HU.out]
        go_wp2_with fail
        have hsz := HR.out
        obtain ⟨R, hR⟩ : ∃ R, R = s.extract p s.size := ⟨_, rfl⟩
        rw [← hR] at hsz
        have HRR := Lib.hid hR
        rw [← hR]
        clear hR
        have hjR : j ≤ R.size := by omega
        go_region_law (refine step_append_own rfl (.tmp 30) (.tmp 32) 45 rfl (w.heap.size + 1) 9 i0 (.string ⟨#[]⟩) 1 16 Tryd.underlying45 hi hz0 hz1 hz2 rfl (by decide) u7 acc.length (acc.map Value.string) rfl (hT.alloc _) ⟨wr.heap.size, 0, none⟩ 1 1 [.string t] rfl rfl (cells_new1 _ _ _) (by intro u hu; simp at hu; subst hu; rfl) (by unfold maxLen; omega) (by omega) (by simp; omega) ?_; intro v1 w2 hT2 hg2)
        have hb1 : Below (w.heap.size + 1) wr w2 := grown_own ((Below.refl (w.heap.size + 1) wr).alloc (by omega) _).drew hg2 (by simp; omega) (hT.alloc _)
        have hT3 := ownStr_snoc rfl hT2
        have h23 := h2.keep hb1 (by omega)
        have hb2 := hbel.trans (hb1.mono (by omega))
        have hcut := Lib.hid (extract_twice s p j (s.size - p) hp rfl)
        clear hT2 hg2 hb1 hT h2 hbel
        go_wp2
        go_roundw
        case rel => exact ⟨k + 1, p + j, _, by omega, by go_num, by rw [HRR.out, hcut.out], by omega, by simp; omega, HN, hT3, h23, hb2⟩
        case measure => simp [intOf]; omega
      · have HB := Lib.hid (hbad he)
        clear hbad hnext
        have htj : t = strOf [] ∧ j = 0 := by
          rcases hsay with h | ⟨e', h, h'⟩
          · exact absurd h.1 he
          · injection h with h1 h2; injection h2 with h2 h3; exact ⟨h1, h2⟩
        obtain ⟨rfl, rfl⟩ := htj
        clear hsay
        have hne : (e != 0) = true := by rw [bne_iff_ne]; exact he
        obtain ⟨c0, c1, f0, f1⟩ := h2
        have S := set2 (.int .i64 e) (.int .i64 (k : Int)) c0 c1
        go_wp2_with fail
        refine (runspan_any _ wr HMS.out).mono ?_
        rintro r w1 ⟨rfl, rfl⟩
        rw [← HU.out]
        go_wp2
        refine bodyPost_ret (v := .tuple #[.slice none 0 0, .int .i64 0, .agg #[.int .i64 e, .int .i64 (k : Int)]]) (by simp [results, Tryd.results49, go_sem, S.1, S.2]) rfl ⟨.slice none 0 0, by rw [HB.out]; rfl, ?_, ?_⟩
        · rw [HB.out]; exact World.ownsRow_nil _ _ _ _
        · exact below_set2 _ _ hbel (Nat.le_refl _)
    · have h0 : n.toNat - k = 0 := by omega
      have HE := Lib.hid (show X = (acc, p, 0, -1) by rw [HX, h0]; rfl)
      clear HX h0
      have hrest := extract_rest s p hp
      obtain ⟨R, hR⟩ : ∃ R, R = s.extract p s.size := ⟨_, rfl⟩
      rw [← hR] at hrest ⊢
      clear hR
      go_wp2_with fail
      refine (good_any _).mono ?_
      rintro e w' ⟨rfl, hb⟩
      have hz := hb.size
      obtain ⟨c0, c1, f0, f1⟩ := h2.below hb
      have S := set2 (.int .i64 0) (.int .i64 (-1)) c0 c1
      have hT1 := ownsRow_below hT hb (by omega)
      clear hT h2
      go_wp2
      refine bodyPost_ret (v := .tuple #[u7, .int .i64 ((s.size : Int) - ((s.size - p : Nat) : Int)), .agg #[.int .i64 0, .int .i64 (-1)]]) (by simp [results, Tryd.results49, go_sem, S.1, S.2]) rfl ⟨u7, by rw [HE.out, show (s.size : Int) - ((s.size - p : Nat) : Int) = (p : Int) by omega], ?_, ?_⟩
      · rw [HE.out]; exact own_less (own_set _ (own_set _ hT1 (by omega)) (by omega)) (by omega)
      · exact below_set2 _ _ (hbel.trans (hb.mono hBs)) (Nat.le_refl _)
end Go.Proofs.YtglemfdnfaemiaaDoor
