/- How many bytes a number needs, and which they are, in plain Lean. No program in sight.

Vary of the reference makes what vput says.

span.Put, span.Get and Span, Unspan of the reference say what spanOf and unspan say. -/
import Derived.Test.YtglemfdnfaemiaaDoorZ1
import Derived.Lib.BitFns
import Derived.Test.YtglemfdnfaemiaaDoorZ8
import Derived.Test.YtglemfdnfaemiaaDoorShelfLen
import Derived.OwnWalk
section
namespace Go.Proofs.YtglemfdnfaemiaaDoor
theorem bitLen7 : ∀ n : Fin 128, (Lib.bitLen n.val + 6) / 7 ≤ 1 := by decide +kernel
theorem bitLen_pos {n : Nat} (h : n ≠ 0) : 0 < Lib.bitLen n := by
  unfold Lib.bitLen Lib.bitLenAux
  rw [if_neg h]
  omega
theorem vput_size (f : Nat) : ∀ n : Nat, n < 128 ^ f → n < 18446744073709551616 → (vput n).length = max 1 ((Lib.bitLen n + 6) / 7) := by
  induction f with
  | zero =>
    intro n h _
    obtain rfl : n = 0 := by simpa using h
    rw [vput_small (by omega)]
    decide
  | succ f ih =>
    intro n h hn
    by_cases h7 : n < 128
    · rw [vput_small h7]
      have := bitLen7 ⟨n, h7⟩
      simp only at this
      simp
      omega
    · rw [vput_big h7, List.length_cons, ih (n / 128) (by rw [Nat.pow_succ] at h; omega) (by omega)]
      have hs := Lib.bitLen_shift 7 n (by omega) hn
      have hp := bitLen_pos (n := n / 128) (by omega)
      have e : n / 2 ^ 7 = n / 128 := rfl
      rw [hs, e]
      omega
/-- Byte i of a number. -/
def vbyte (n i : Nat) (last : Bool) : UInt8 := if last then UInt8.ofNat (n / 128 ^ i % 128) else UInt8.ofNat (n / 128 ^ i % 128 + 128)
theorem vput_get (i : Nat) : ∀ n : Nat, i < (vput n).length → (vput n)[i]? = some (vbyte n i (decide ((vput n).length = i + 1))) := by
  induction i with
  | zero =>
    intro n h
    by_cases h7 : n < 128
    · rw [vput_small h7]
      simp [vbyte, Nat.mod_eq_of_lt h7]
    · have hp := vput_pos (n / 128)
      rw [vput_big h7]
      have : ¬ (vput (n / 128)).length + 1 = 0 + 1 := by omega
      simp only [List.length_cons, List.getElem?_cons_zero, decide_eq_false this, vbyte]
      simp
  | succ i ih =>
    intro n h
    by_cases h7 : n < 128
    · rw [vput_small h7] at h; simp at h
    · rw [vput_big h7] at h ⊢
      simp only [List.length_cons] at h
      simp only [List.getElem?_cons_succ, List.length_cons]
      rw [ih (n / 128) (by omega)]
      have e : n / 128 / 128 ^ i = n / 128 ^ (i + 1) := by rw [Nat.div_div_eq_div_mul, Nat.pow_succ, Nat.mul_comm]
      have e2 : decide ((vput (n / 128)).length = i + 1) = decide ((vput (n / 128)).length + 1 = i + 1 + 1) := by rw [decide_eq_decide]; omega
      unfold vbyte
      rw [e, e2]
/-- The bytes ahead of byte i, and noughts from there on. -/
def vpart (n i : Nat) : List UInt8 := (vput n).take i ++ List.replicate ((vput n).length - i) 0
theorem vpart_zero (n : Nat) : vpart n 0 = List.replicate (vput n).length 0 := by simp [vpart]
theorem vpart_len (n i : Nat) (h : i ≤ (vput n).length) : (vpart n i).length = (vput n).length := by simp [vpart]; omega
theorem vpart_end (n : Nat) : vpart n (vput n).length = vput n := by simp [vpart]
theorem vpart_set (n i : Nat) (h : i < (vput n).length) : (vpart n i).set i (vbyte n i (decide ((vput n).length = i + 1))) = vpart n (i + 1) := by
  apply List.ext_getElem?
  intro j
  have hl : ((vput n).take i).length = i := by simp; omega
  have hg := vput_get i n h
  unfold vpart
  rw [List.getElem?_set]
  by_cases hij : i = j
  · subst hij
    rw [if_pos rfl, if_pos (by simp; omega), List.getElem?_append_left (by simp; omega), List.getElem?_take, if_pos (by omega), hg]
  · rw [if_neg hij]
    by_cases hj : j < i
    · rw [List.getElem?_append_left (by simp; omega), List.getElem?_append_left (by simp; omega), List.getElem?_take, List.getElem?_take, if_pos hj, if_pos (by omega)]
    · rw [List.getElem?_append_right (by simp; omega), List.getElem?_append_right (by simp; omega)]
      simp only [List.getElem?_replicate, List.length_take]
      by_cases hje : j < (vput n).length
      · rw [if_pos (by omega), if_pos (by omega)]
      · rw [if_neg (by omega), if_neg (by omega)]
end Go.Proofs.YtglemfdnfaemiaaDoor
end

section
namespace Go.Proofs.YtglemfdnfaemiaaDoor
open Go.RowKit
theorem rpow_any (k : Nat) (w : World) (hk : k ≤ 9) :
    Calls Tryd.prog 97 #[.int .u64 128, .int .i64 (k : Int)] w fun e w' => e = .returned (.int .u64 ((128 ^ k : Nat) : Int)) ∧ w = w' := by
  go_enter Tryd.func97, Tryd.ntmps97
  go_wp2
  go_loop [5, 7] (fun v i => ∃ j : Nat, j ≤ k ∧ i = .int .i64 j ∧ v = .int .u64 ((128 ^ j : Nat) : Int)) (fun _ i => k - (intOf i).toNat)
  case atStart => exact ⟨0, by omega, rfl, rfl⟩
  case round =>
    obtain ⟨j, hj, rfl, rfl⟩ := hrel
    by_cases hlt : j < k
    · have hp := pow128_le (k := j) (by omega)
      have hq := pow128_le (k := j + 1) (by omega)
      have hs := Lib.hid (Nat.pow_succ (n := 128) (m := j))
      obtain ⟨x, hx⟩ : ∃ x, x = 128 ^ j := ⟨_, rfl⟩
      have HX := Lib.hid hx
      rw [← hx] at hp ⊢
      clear hx
      go_wp2
      go_round
      case rel =>
        refine ⟨j + 1, by omega, by go_num, valI ?_⟩
        have := hs.out
        rw [← HX.out] at this
        rw [this]
        rw [IntKind.wrap_u64]
        omega
      case measure => simp [intOf]; omega
    · obtain rfl : j = k := by omega
      go_wp2
      go_ret
      exact ⟨rfl, rfl⟩
set_option maxHeartbeats 1000000 in
set_option maxRecDepth 100000 in
theorem rvary_any (n : Nat) (w : World) (hn : n < 18446744073709551616) :
    Calls Tryd.prog 45 #[.int .u64 (n : Int)] w fun e w' => e = .returned (.string ⟨(vput n).toArray⟩) ∧ Below w.heap.size w w' := by
  obtain ⟨i0, hi, hz0, hz1, hz2⟩ := info_parts byteInfo
  have hlen := vput_len10 hn
  have hpos := vput_pos n
  have hsz := vput_size 10 n (by have e : (128 : Nat) ^ 10 = 1180591620717411303424 := by decide
                                 omega) hn
  have hb64 : Lib.bitLen n ≤ 70 := by omega
  go_enter Tryd.func45, Tryd.ntmps45
  go_wp2_with fail
  refine (Tryd.bits_Len64 (n : Int) w (by omega) (by omega)).mono ?_
  rintro e w' ⟨rfl, rfl⟩
  simp only [Int.toNat_natCast]
  have hmx : max 1 (((Lib.bitLen n : Int) + 6) / 7) = ((vput n).length : Int) := by omega
  clear hsz
  have hE := Lib.hid (vpart_end n)
  have hZ := Lib.hid (vpart_zero n)
  have hSet := Lib.hid (vpart_set n)
  have hL := Lib.hid (vpart_len n)
  obtain ⟨m, hm⟩ : ∃ m, m = (vput n).length := ⟨_, rfl⟩
  rw [← hm] at hmx hlen hpos
  have HM := Lib.hid hm
  clear hm
  go_wp2_with fail
  obtain ⟨W, hrun, hT, hg⟩ := run_make_full (P := Tryd.prog) w' w'.heap.size 144 5 i0 (.int .u8 0) 1 Tryd.underlying144 hi hz0 hz1 .i64 .i64 m (by rw [hz2]; omega) (by unfold maxLen; omega) (Nat.le_refl _)
  have hb : Below w'.heap.size w' W := (Below.refl _ _).grown hg (Nat.le_refl _) (fun k hk => by cases hk)
  have hT0 : W.ownsRow w'.heap.size 5 1 (.slice (some ⟨w'.heap.size, 0, none⟩) m m) m (bytesV (vpart n 0)) := by
    have e : (madeCells (Value.int .u8 0).cells (m * 1)).toList = bytesV (vpart n 0) := by
      rw [hZ.out, Nat.mul_one, ← HM.out]
      show (madeCells #[Value.int .u8 0] m).toList = _
      rw [toList_madeCells_one]
      simp [bytesV, byteV]
    rw [e] at hT
    exact hT
  clear hT
  rw [hrun]
  clear hrun hmx hg
  go_wp2
  go_loopw [5, 15] (fun _ i wr => ∃ k : Nat, k ≤ m ∧ i = .int .i64 k ∧ wr.ownsRow w'.heap.size 5 1 (.slice (some ⟨w'.heap.size, 0, none⟩) m m) m (bytesV (vpart n k)) ∧ Below w'.heap.size w' wr) (fun _ i _ => m - (intOf i).toNat)
  case atStart => exact ⟨0, by omega, rfl, hT0, hb⟩
  case round =>
    clear hT0 hb
    obtain ⟨k, hk, rfl, hT, hbel⟩ := hrel
    by_cases hlt : k < m
    · have hlp := hL.out k (by rw [← HM.out]; omega)
      rw [← HM.out] at hlp
      have c0 : wr.cell? ⟨w'.heap.size, k, none⟩ = some (byteV ((vpart n k).getD k 0)) := by
        rw [hT.cellAt k (by omega), List.getElem?_map, List.getElem?_eq_getElem (by omega), getD_at _ _ _ (by omega)]; rfl
      have f0 : wr.frozen? ⟨w'.heap.size, k, none⟩ = false := hT.frozenAt k
      have hset := hSet.out k (by rw [← HM.out]; exact hlt)
      rw [← HM.out] at hset
      have HS := Lib.hid hset
      have HLP := Lib.hid hlp
      clear hset hlp
      obtain ⟨q, hq⟩ : ∃ q, q = n / 128 ^ k := ⟨_, rfl⟩
      have hqn : q ≤ n := by rw [hq]; exact Nat.div_le_self _ _
      have hw1 : IntKind.u64.wrap ((n : Int) / 128 ^ k) = (q : Int) := by
        have e : ((n / 128 ^ k : Nat) : Int) = (n : Int) / 128 ^ k := by simp
        rw [← e, ← hq, IntKind.wrap_u64]; omega
      have HQ := Lib.hid hq
      clear hq
      have hnz : ¬ ((128 : Int) ^ k = 0) := Int.pow_ne_zero (by omega)
      have hnz' : ((128 : Int) ^ k == 0) = false := beq_eq_false_iff_ne.2 hnz
      by_cases hlast : k + 1 < m
      · have hb1 : vbyte n k (decide (m = k + 1)) = UInt8.ofNat (q % 128 + 128) := by
          rw [decide_eq_false (by omega)]
          unfold vbyte
          rw [HQ.out]
          rfl
        have HB := Lib.hid hb1
        clear hb1
        go_wp2_with (go_at_call 97; refine (rpow_any k _ (by omega)).mono ?_; rintro e w2 ⟨rfl, rfl⟩)
        go_roundw
        case measure => simp [intOf]; omega
        case rel =>
          refine ⟨k + 1, by omega, by go_num, ?_, (hbel.setCell (Nat.le_refl _) _).setCell (Nat.le_refl _) _⟩
          have h1 := ((hT.stored k (.int .u8 ((q : Int) % 128))).1.stored k (byteV (UInt8.ofNat (q % 128 + 128)))).1
          rw [List.set_set, ← List.map_set, ← HB.out, HS.out] at h1
          have e2 : byteV (vbyte n k (decide (m = k + 1))) = Value.int .u8 ((q : Int) % 128 + 128) := by
            rw [HB.out]
            exact valI (by simp; omega)
          rw [e2] at h1
          exact h1
      · have hb1 : vbyte n k (decide (m = k + 1)) = UInt8.ofNat (q % 128) := by
          rw [decide_eq_true (by omega)]
          unfold vbyte
          rw [HQ.out]
          rfl
        have HB := Lib.hid hb1
        clear hb1
        go_wp2_with (go_at_call 97; refine (rpow_any k _ (by omega)).mono ?_; rintro e w2 ⟨rfl, rfl⟩)
        go_roundw
        case measure => simp [intOf]; omega
        case rel =>
          refine ⟨k + 1, by omega, by go_num, ?_, hbel.setCell (Nat.le_refl _) _⟩
          have h1 := (hT.stored k (byteV (UInt8.ofNat (q % 128)))).1
          rw [← List.map_set, ← HB.out, HS.out] at h1
          have e2 : byteV (vbyte n k (decide (m = k + 1))) = Value.int .u8 ((q : Int) % 128) := by
            rw [HB.out]
            exact valI (by simp; omega)
          rw [e2] at h1
          exact h1
    · obtain rfl : k = m := by omega
      rw [HM.out, hE.out, ← HM.out] at hT
      have hs1 := string_own (P := Tryd.prog) 144 5 9 Tryd.underlying144 Tryd.underlying5 Tryd.underlying9 hT HM.out.symm hpos
      go_wp2
      go_ret
      exact ⟨rfl, hbel⟩
end Go.Proofs.YtglemfdnfaemiaaDoor
end

section
namespace Go.Proofs.YtglemfdnfaemiaaDoor
open Go.RowKit As
theorem strOf_size (l : List UInt8) : (strOf l).size = l.length := by show l.toArray.size = _; simp
theorem retT2 {v v' u u' : Value} (h1 : v = v') (h2 : u = u') : Ending.returned (.tuple #[v, u]) = .returned (.tuple #[v', u']) := by rw [h1, h2]
theorem retT3' {v v' u u' x x' : Value} (h1 : v = v') (h2 : u = u') (h3 : x = x') : Ending.returned (.tuple #[v, u, x]) = .returned (.tuple #[v', u', x']) := by rw [h1, h2, h3]
set_option maxRecDepth 100000 in
theorem spanput_any (s : ByteArray) (w : World) (hs : s.size ≤ maxLen) :
    Calls Tryd.prog 54 #[.string s] w fun e w' => e = .returned (.tuple #[.string (spanOf s).1, errV (spanOf s).2]) ∧ Below w.heap.size w w' := by
  unfold maxLen at hs
  by_cases hbig : 2000 < s.size
  · have H : spanOf s = (strOf [], 4) := by unfold spanOf; rw [if_pos hbig]
    have HS := Lib.hid H
    clear H
    have hd : decide (2000 < s.size) = true := by simpa using hbig
    go_enter Tryd.func54, Tryd.ntmps54
    go_wp2
    go_ret2
    exact ⟨by rw [HS.out]; rfl, Below.refl _ _⟩
  · have H : spanOf s = (strOf (vput s.size) ++ s, 0) := by unfold spanOf; rw [if_neg hbig]
    have HS := Lib.hid H
    clear H
    have hd : decide (2000 < s.size) = false := by simpa using hbig
    have hl := vput_len10 (n := s.size) (by omega)
    rw [← strOf_size] at hl
    go_enter Tryd.func54, Tryd.ntmps54
    go_wp2_with fail
    refine (vput_any s.size w (by omega)).mono ?_
    rintro e w' ⟨rfl, hb⟩
    obtain ⟨t, ht⟩ : ∃ t, t = strOf (vput s.size) := ⟨_, rfl⟩
    rw [← ht] at hl
    have hE : (⟨(vput s.size).toArray⟩ : ByteArray) = t := ht.symm
    rw [hE]
    have HT := Lib.hid ht
    clear ht hE
    have hcat : t.size + s.size ≤ 9223372036854775807 := by omega
    go_wp2_with fail
    go_ret2
    exact ⟨by rw [HS.out, HT.out]; rfl, hb⟩
set_option maxRecDepth 100000 in
theorem rspan_any (s : ByteArray) (w : World) (hs : s.size ≤ maxLen) :
    Calls Tryd.prog 53 #[.string s] w fun e w' => e = .returned (.tuple #[.string (spanOf s).1, .int .i64 (spanOf s).2]) ∧ Below w.heap.size w w' := by
  unfold maxLen at hs
  by_cases hbig : 2000 < s.size
  · have H : spanOf s = (strOf [], 4) := by unfold spanOf; rw [if_pos hbig]
    have HS := Lib.hid H
    clear H
    have hd : decide (2000 < s.size) = true := by simpa using hbig
    go_enter Tryd.func53, Tryd.ntmps53
    go_wp2
    go_ret2
    exact ⟨by rw [HS.out]; rfl, Below.refl _ _⟩
  · have H : spanOf s = (strOf (vput s.size) ++ s, 0) := by unfold spanOf; rw [if_neg hbig]
    have HS := Lib.hid H
    clear H
    have hd : decide (2000 < s.size) = false := by simpa using hbig
    have hl := vput_len10 (n := s.size) (by omega)
    rw [← strOf_size] at hl
    go_enter Tryd.func53, Tryd.ntmps53
    go_wp2_with fail
    refine (rvary_any s.size w (by omega)).mono ?_
    rintro e w' ⟨rfl, hb⟩
    obtain ⟨t, ht⟩ : ∃ t, t = strOf (vput s.size) := ⟨_, rfl⟩
    rw [← ht] at hl
    have hE : (⟨(vput s.size).toArray⟩ : ByteArray) = t := ht.symm
    rw [hE]
    have HT := Lib.hid ht
    clear ht hE
    have hcat : t.size + s.size ≤ 9223372036854775807 := by omega
    go_wp2_with fail
    go_ret2
    exact ⟨by rw [HS.out, HT.out]; rfl, hb⟩
set_option maxRecDepth 100000 in
theorem runspan_any (s : ByteArray) (w : World) (hs : s.size ≤ maxLen) :
    Calls Tryd.prog 55 #[.string s] w fun e w' => e = .returned (.tuple #[.string (unspan s).1, .int .i64 ((unspan s).2.1 : Int), .int .i64 (unspan s).2.2]) ∧ w = w' := by
  have hS := Lib.hid hs
  unfold maxLen at hs
  have hsay := vget_says s.data.toList
  have hU : unspan s = unspan s := rfl
  obtain ⟨u, hu⟩ : ∃ u, u = unspan s := ⟨_, rfl⟩
  rw [← hu]
  unfold unspan at hu
  clear hU
  obtain ⟨g, hg⟩ : ∃ g, g = vget s.data.toList := ⟨_, rfl⟩
  rw [← hg] at hu hsay
  have HG := Lib.hid hg
  clear hg
  obtain ⟨n, k, e⟩ := g
  simp only at hu hsay
  by_cases he : e = 0
  · subst he
    have hb : n < 18446744073709551616 ∧ 0 < k ∧ k ≤ 10 ∧ k ≤ s.size := by
      rcases hsay with h | h | h | h
      · simpa using h
      all_goals (injection h with h1 h2; injection h2 with h2 h3; omega)
    obtain ⟨hn, hk0, hk10, hks⟩ := hb
    clear hsay
    rw [if_neg (by simp)] at hu
    by_cases h1 : 2000 < n
    · rw [if_pos h1] at hu
      subst hu
      go_enter Tryd.func55, Tryd.ntmps55
      go_wp2_with fail
      refine (runvary_any s w hS.out).mono ?_
      rintro r w' ⟨rfl, rfl⟩
      rw [← HG.out]
      go_wp2
      go_ret3
      exact ⟨rfl, rfl⟩
    · rw [if_neg h1] at hu
      by_cases h2 : s.size < n + k
      · rw [if_pos h2] at hu
        subst hu
        go_enter Tryd.func55, Tryd.ntmps55
        go_wp2_with fail
        refine (runvary_any s w hS.out).mono ?_
        rintro r w' ⟨rfl, rfl⟩
        rw [← HG.out]
        go_wp2
        go_ret3
        exact ⟨rfl, rfl⟩
      · rw [if_neg h2] at hu
        subst hu
        go_enter Tryd.func55, Tryd.ntmps55
        go_wp2_with fail
        refine (runvary_any s w hS.out).mono ?_
        rintro r w' ⟨rfl, rfl⟩
        rw [← HG.out]
        go_wp2
        go_ret3
        exact ⟨rfl, rfl⟩
  · rw [if_pos he] at hu
    subst hu
    go_enter Tryd.func55, Tryd.ntmps55
    have hne : (e != 0) = true := by rw [bne_iff_ne]; exact he
    go_wp2_with fail
    refine (runvary_any s w hS.out).mono ?_
    rintro r w' ⟨rfl, rfl⟩
    rw [← HG.out]
    go_wp2
    go_ret3
    exact ⟨rfl, rfl⟩
set_option maxHeartbeats 1000000 in
set_option maxRecDepth 100000 in
theorem spanget_any (s : ByteArray) (w : World) (hs : s.size ≤ maxLen) (hg : Handle w) :
    Calls Tryd.prog 56 #[.string s] w fun e w' => e = .returned (.tuple #[.string (unspan s).1, .int .i64 ((unspan s).2.1 : Int), errV (unspan s).2.2]) ∧ Below w.heap.size w w' := by
  have hS := Lib.hid hs
  unfold maxLen at hs
  have hsay := vget_says s.data.toList
  obtain ⟨u, hu⟩ : ∃ u, u = unspan s := ⟨_, rfl⟩
  rw [← hu]
  unfold unspan at hu
  obtain ⟨v, hv⟩ : ∃ v, v = vint s.data.toList 2000 := ⟨_, rfl⟩
  have HV := Lib.hid hv
  unfold vint at hv
  generalize vget s.data.toList = g at *
  obtain ⟨n, k, e⟩ := g
  simp only at hu hsay hv
  by_cases he : e = 0
  · subst he
    have hb : n < 18446744073709551616 ∧ 0 < k ∧ k ≤ 10 ∧ k ≤ s.size := by
      rcases hsay with h | h | h | h
      · simpa using h
      all_goals (injection h with h1 h2; injection h2 with h2 h3; omega)
    obtain ⟨hn, hk0, hk10, hks⟩ := hb
    clear hsay
    rw [if_neg (by simp)] at hu hv
    by_cases h1 : 2000 < n
    · rw [if_pos h1] at hu
      rw [if_pos (by right; omega)] at hv
      subst hu hv
      go_enter Tryd.func56, Tryd.ntmps56
      go_wp2_with fail
      refine (vint_any s 2000 w hS.out (by omega)).mono ?_
      rintro r w' ⟨rfl, rfl⟩
      rw [← HV.out]
      go_wp2_with fail
      refine (tell_any (errV_is w 2) hg).mono ?_
      rintro r w1 ⟨rfl, hb⟩
      go_wp2
      go_ret3
      exact ⟨rfl, hb⟩
    · rw [if_neg h1] at hu
      rw [if_neg (by omega)] at hv
      subst hv
      by_cases h2 : s.size < n + k
      · rw [if_pos h2] at hu
        subst hu
        go_enter Tryd.func56, Tryd.ntmps56
        go_wp2_with fail
        refine (vint_any s 2000 w hS.out (by omega)).mono ?_
        rintro r w' ⟨rfl, rfl⟩
        rw [← HV.out]
        simp only [errV_zero]
        go_wp2_with fail
        refine (tell_nil w).mono ?_
        rintro r w1 ⟨rfl, rfl⟩
        go_wp2
        go_ret3
        exact ⟨rfl, Below.refl _ _⟩
      · rw [if_neg h2] at hu
        subst hu
        go_enter Tryd.func56, Tryd.ntmps56
        go_wp2_with fail
        refine (vint_any s 2000 w hS.out (by omega)).mono ?_
        rintro r w' ⟨rfl, rfl⟩
        rw [← HV.out]
        simp only [errV_zero]
        go_wp2_with fail
        refine (tell_nil w).mono ?_
        rintro r w1 ⟨rfl, rfl⟩
        go_wp2
        go_ret3
        exact ⟨rfl, Below.refl _ _⟩
  · rw [if_pos he] at hu hv
    subst hu hv
    have he2 : e ≠ 2 := by
      rcases hsay with h | h | h | h
      · exact absurd h.1 he
      all_goals (injection h with h1 h2; injection h2 with h2 h3; omega)
    have hne : (e == 2) = false := beq_eq_false_iff_ne.2 he2
    clear hsay
    have hE := Lib.hid (errV_of he)
    go_enter Tryd.func56, Tryd.ntmps56
    go_wp2_with fail
    refine (vint_any s 2000 w hS.out (by omega)).mono ?_
    rintro r w' ⟨rfl, rfl⟩
    rw [← HV.out]
    simp only [hE.out]
    go_wp2_with fail
    refine (tell_errno e w hg).mono ?_
    rintro r w1 ⟨rfl, hb⟩
    go_wp2
    go_ret3
    exact ⟨retT3' rfl rfl hE.out.symm, hb⟩
end Go.Proofs.YtglemfdnfaemiaaDoor
end
