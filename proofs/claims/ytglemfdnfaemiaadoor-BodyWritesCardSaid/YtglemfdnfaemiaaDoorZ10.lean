/- vector.Write says what vwrite says. -/
import Derived.Test.YtglemfdnfaemiaaDoorZ7
import Derived.Test.YtglemfdnfaemiaaDoorZ4
import Derived.Test.YtglemfdnfaemiaaDoorZ5
import Derived.Test.YtglemfdnfaemiaaDoorZ8
import Derived.Test.YtglemfdnfaemiaaDoorZ9
import Derived.Deep.Light
section
namespace Go.Proofs.YtglemfdnfaemiaaDoor
set_option linter.unusedSimpArgs false
open Go.RowKit As
theorem strOf_app (a b : List UInt8) : strOf a ++ strOf b = strOf (a ++ b) := by
  apply ByteArray.ext
  show (strOf a ++ strOf b).data = _
  rw [ByteArray.data_append]
  simp [strOf]
theorem run_part (b o n c k m : Nat) (h : k < n) (h2 : k + m ≤ n) (hc : n ≤ c) (w : World) : (Instr.slice 22 (.slice (some ⟨b, o, none⟩) n c) (some (.int .i64 (k : Int))) (some (.int .i64 ((k : Int) + (m : Int)))) none).run Tryd.prog w = .ok (.slice (some ⟨b, o + k * 2, none⟩) m (c - k)) w := by
  rw [run_slice_lh w _ (some ⟨b, o, none⟩) n c (by kernel_rfl) .i64 .i64 k ((k : Int) + (m : Int)) (by omega) (by omega) (by omega), show (sizeOf (Tryd.prog.elem 22)).run Tryd.prog w = .ok 2 w by kernel_rfl]
  show Result.ok (sliced (some ⟨b, o, none⟩) (k : Int).toNat ((k : Int) + (m : Int)).toNat c 2) w = _
  unfold sliced
  rw [show (k : Int).toNat = k by omega, show ((k : Int) + (m : Int)).toNat = k + m by omega, if_neg (by omega), show k + m - k = m by omega]
  simp [Addr.add]
theorem vwrite_bad {l : List Ent} (h : (vright l).1 ≠ 0) : vwrite l = (strOf [], vright l) := by unfold vwrite; rw [if_pos h]
theorem vwrite_good {l : List Ent} (h : (vright l).1 = 0) : vwrite l = (strOf (vbytes l), 0, -1) := by unfold vwrite; rw [if_neg (by omega)]
theorem run_next {l : List Ent} {k m : Nat} {r t : Int} (hall : ∀ j x, j < m → l[k + j]? = some x → x.1 = r + j) (hx : l[k + m]? = some (r + m, t)) : ∀ j x, j < m + 1 → l[k + j]? = some x → x.1 = r + j := by
  intro j x hj h
  rcases Nat.lt_or_ge j m with h' | h'
  · exact hall j x h' h
  · obtain rfl : j = m := by omega
    rw [hx] at h
    injection h with h
    subst h
    rfl
theorem km_facts {k m n : Nat} {r : Int} (h : k + m ≤ n) (h2 : n ≤ 16) (h3 : 0 ≤ r) (h4 : r ≤ 200) : wrap64 ((k : Int) + (m : Int)) = (k : Int) + (m : Int) ∧ IntKind.i64.wrap ((k : Int) + (m : Int)) = (k : Int) + (m : Int) ∧ wrap64 (r + (m : Int)) = r + (m : Int) ∧ ((k : Int) + (m : Int)).toNat = k + m ∧ IntKind.i64.wrap (r + (m : Int)) = r + (m : Int) ∧ wrap64 ((m : Int) + 1) = (m : Int) + 1 ∧ IntKind.i64.wrap ((m : Int) + 1) = (m : Int) + 1 :=
  ⟨IntWalk.wrap64_in _ (by omega), IntWalk.i64_in _ (by omega), IntWalk.wrap64_in _ (by omega), by omega, IntWalk.i64_in _ (by omega), IntWalk.wrap64_in _ (by omega), IntWalk.i64_in _ (by omega)⟩
theorem lt_facts {k m n : Nat} (h : k + m < n) : decide ((k : Int) + (m : Int) < (n : Int)) = true ∧ decide (k + m < n) = true ∧ ((0 : Int) ≤ (k : Int) + (m : Int) ∧ (k : Int) + (m : Int) < (n : Int)) :=
  ⟨by simp; omega, by simpa using h, by omega, by omega⟩
theorem gap_facts {r e : Int} (h0 : 0 ≤ r) (h1 : r ≤ 200) (h2 : 0 ≤ e) (h3 : e ≤ 201) : wrap64 (r - e) = r - e ∧ IntKind.i64.wrap (r - e) = r - e ∧ wrap64 (r - e - 1) = r - e - 1 ∧ IntKind.i64.wrap (r - e - 1) = r - e - 1 :=
  ⟨IntWalk.wrap64_in _ (by omega), IntWalk.i64_in _ (by omega), IntWalk.wrap64_in _ (by omega), IntWalk.i64_in _ (by omega)⟩
theorem u64_in {G : Nat} (h : G ≤ 1099511627776) : IntKind.u64.wrap (G : Int) = (G : Int) := by simp [IntKind.wrap, IntKind.bits, IntKind.signed]; omega
theorem m_facts {m : Nat} (h : 1 ≤ m) (h2 : m ≤ 16) : wrap64 ((m : Int) - 1) = ((m - 1 : Nat) : Int) ∧ IntKind.i64.wrap ((m : Int) - 1) = ((m - 1 : Nat) : Int) ∧ IntKind.u64.wrap ((m - 1 : Nat) : Int) = ((m - 1 : Nat) : Int) :=
  ⟨by rw [show (m : Int) - 1 = ((m - 1 : Nat) : Int) by omega]; exact IntWalk.wrap64_in _ (by omega), by rw [show (m : Int) - 1 = ((m - 1 : Nat) : Int) by omega]; exact IntWalk.i64_in _ (by omega), u64_in (by omega)⟩
theorem q_facts {q : Nat} (h : q ≤ 16) : IntKind.u64.wrap ((q : Int) + 1) = ((q + 1 : Nat) : Int) := by
  rw [show (q : Int) + 1 = ((q + 1 : Nat) : Int) by omega]; exact u64_in (by omega)
theorem ge_facts {k m n : Nat} (h : n ≤ k + m) : decide ((k : Int) + (m : Int) < (n : Int)) = false ∧ decide (k + m < n) = false := ⟨by simp; omega, by simp; omega⟩
theorem meas_next {m n : Nat} (h : m < n) : n - ((m : Int) + 1).toNat < n - ((m : Int)).toNat := by omega
theorem dec_zero {k : Nat} (h : k = 0) : decide ((0 : Int) < (k : Int)) = false ∧ decide (0 < k) = false := by subst h; exact ⟨by simp, by simp⟩
theorem dec_pos {k : Nat} (h : ¬ k = 0) : decide ((0 : Int) < (k : Int)) = true ∧ decide (0 < k) = true := ⟨by simp; omega, by simp; omega⟩
theorem meas_jump {k m n : Nat} (h : 1 ≤ m) (h2 : k < n) : n - ((k : Int) + (m : Int)).toNat < n - ((k : Int)).toNat := by omega
theorem q_next {q k m : Nat} (h : q ≤ k) (h2 : 1 ≤ m) : q + 1 ≤ k + m := by omega
theorem lt_dec {j m : Nat} (h : j < m) : decide ((j : Int) < (m : Int)) = true ∧ decide (j < m) = true := ⟨by simp; omega, by simpa using h⟩
theorem lt_no {j m : Nat} (h : ¬ j < m) : decide ((j : Int) < (m : Int)) = false ∧ decide (j < m) = false := ⟨by simp; omega, by simpa using h⟩
theorem j_facts {j : Nat} (h : j ≤ 16) : wrap64 ((j : Int) + 1) = (j : Int) + 1 ∧ IntKind.i64.wrap ((j : Int) + 1) = (j : Int) + 1 := ⟨IntWalk.wrap64_in _ (by omega), IntWalk.i64_in _ (by omega)⟩
theorem cat_not {A B : ByteArray} (h : A.size ≤ 10000) (h' : B.size ≤ 10000) : ¬ 9223372036854775807 < A.size + B.size := by omega
theorem str_facts {G M : Nat} {S1 S2 : ByteArray} {X : List UInt8} (hG : G ≤ 200) (hM : M ≤ 16) (h1 : S1 = strOf (vput G)) (h2 : S2 = strOf (vput M)) (hX : X.length ≤ 640) :
    ¬ 9223372036854775807 < S1.size + S2.size ∧ ¬ 9223372036854775807 < (strOf X).size + (S1 ++ S2).size ∧ strOf X ++ (S1 ++ S2) = strOf (X ++ (vput G ++ vput M)) ∧ (X ++ (vput G ++ vput M)).length ≤ 660 := by
  have e1 := vput_len10 (n := G) (by omega)
  have e2 := vput_len10 (n := M) (by omega)
  subst h1 h2
  refine ⟨cat_not (by rw [strOf_size]; omega) (by rw [strOf_size]; omega), cat_not (by rw [strOf_size]; omega) (by rw [strOf_app, strOf_size, List.length_append]; omega), by rw [strOf_app, strOf_app], by simp only [List.length_append]; omega⟩
theorem inner_facts {w1 wx : World} {b o n k m j : Nat} {l : List Ent} (hl : Ents w1 w1.heap.size (some ⟨b, o, none⟩) n l) (hris : Rises 0 l) (hkm : k + m ≤ n) (hj : j < m) (hbx : Below w1.heap.size w1 wx) :
    ∃ (T : Nat) (y : Int), 1 ≤ T ∧ T ≤ 1099511627776 ∧ wx.cell? ⟨b, o + k * 2 + j * 2, none⟩ = some (.int .i64 y) ∧ wx.cell? ⟨b, o + k * 2 + j * 2 + 1, none⟩ = some (.int .i64 (T : Int)) ∧ (runAt l k m)[j]? = some (y, (T : Int)) := by
  obtain ⟨b', o', r3, t3, e', hb, hx, _, c0, c1⟩ := hl.at_ (k := k + j) (by omega)
  injection e' with e'
  injection e' with e1 e2 _
  subst e1 e2
  have h3 := hris.1 _ (List.mem_of_getElem? hx)
  simp only at h3
  obtain ⟨T, rfl⟩ := Int.eq_ofNat_of_zero_le (show 0 ≤ t3 by omega)
  refine ⟨T, r3, by omega, by omega, ?_, ?_, by rw [runAt_get hj]; exact hx⟩
  · rw [show o + k * 2 + j * 2 = o + (k + j) * 2 by omega]
    exact (hbx.cell (p := ⟨b, o + (k + j) * 2, none⟩) hb).trans c0
  · rw [show o + k * 2 + j * 2 + 1 = o + (k + j) * 2 + 1 by omega]
    exact (hbx.cell (p := ⟨b, o + (k + j) * 2 + 1, none⟩) hb).trans c1
theorem time_facts {l : List Ent} {k m j T : Nat} {y : Int} {X1 : List UInt8} (hris : Rises 0 l) (hX : X1.length ≤ 660) (hm : m ≤ 16) (hj : j ≤ m) (hT : T ≤ 1099511627776) (hx : (runAt l k m)[j]? = some (y, (T : Int))) :
    ¬ 9223372036854775807 < (strOf (X1 ++ times ((runAt l k m).take j))).size + (strOf (vput T)).size ∧ strOf (X1 ++ times ((runAt l k m).take j)) ++ strOf (vput T) = strOf (X1 ++ times ((runAt l k m).take (j + 1))) := by
  have e1 := vput_len10 (n := T) (by omega)
  have e2 := times_len (r := (runAt l k m).take j) (fun x hx => by
    have : x ∈ l := List.mem_of_mem_drop (List.mem_of_mem_take (List.mem_of_mem_take hx))
    have := hris.1 x this
    exact ⟨this.2.2.1, this.2.2.2⟩)
  have e3 : ((runAt l k m).take j).length ≤ j := by rw [List.length_take]; omega
  refine ⟨cat_not (by rw [strOf_size, List.length_append]; omega) (by rw [strOf_size]; omega), ?_⟩
  rw [times_next hx, strOf_app, Int.toNat_natCast, List.append_assoc]
theorem fin_facts {l : List Ent} {k m n G M : Nat} {X X1 : List UInt8} (h : X1 = X ++ (vput G ++ vput M)) (hkm : k + m ≤ n) (hl : l.length = n) : X1 ++ times ((runAt l k m).take m) = X ++ (vput G ++ vput M ++ times (runAt l k m)) := by
  rw [List.take_of_length_le (by rw [runAt_len (by omega)]; exact Nat.le_refl _), h, List.append_assoc]
theorem done_of {l : List Ent} {n q : Nat} {X : List UInt8} {e : Int} (h : WAt l n X q e) (hl : l.length = n) : vbytes l = vput q ++ X := by subst hl; exact h.done
theorem end_facts {q : Nat} {X : List UInt8} (hq : q ≤ 16) (hX : X.length ≤ 640) : ¬ 9223372036854775807 < (strOf (vput q)).size + (strOf X).size ∧ strOf (vput q) ++ strOf X = strOf (vput q ++ X) := by
  have e1 := vput_len10 (n := q) (by omega)
  exact ⟨cat_not (by rw [strOf_size]; omega) (by rw [strOf_size]; omega), strOf_app _ _⟩
theorem stop_at {l : List Ent} {k m n : Nat} {r : Int} (h : ¬ (k + m < n ∧ ∃ t', l[k + m]? = some (r + m, t'))) (hl : l.length = n := by assumption) : ∀ y, l[k + m]? = some y → y.1 ≠ r + m := by
  intro y hy e
  have := (List.getElem?_eq_some_iff.1 hy).1
  exact h ⟨by omega, y.2, by rw [hy, ← e]⟩
set_option maxHeartbeats 8000000 in
set_option maxRecDepth 100000 in
theorem vwrite_any (w : World) (n c : Nat) (A : Option Addr) (l : List Ent) (hl : Ents w w.heap.size A n l) (hn : n ≤ maxLen) (hc : n ≤ c) :
    Calls Tryd.prog 52 #[.slice A n c] w fun e w' => ∃ v, e = .returned (.tuple #[.string (vwrite l).1, v]) ∧ ErrOf w' v (vwrite l).2 ∧ Below w.heap.size w w' := by
  by_cases hbad : (vright l).1 = 0
  · have hr := Lib.hid (vwrite_good hbad)
    have hris := Lib.hid (rises_of hbad)
    have hlen := hl.len
    have h16 := vright_ok_len hbad
    have h16n : n ≤ 16 := by rw [← hlen]; exact h16
    go_enter Tryd.func52, Tryd.ntmps52
    go_wp2_with fail
    refine (vright_any w n c A l hl hn).mono ?_
    rintro e w1 ⟨v1, rfl, hv1, hb1⟩
    obtain rfl := err_nil hv1 hbad
    have HB := Lib.hid hbad
    have hl1 := hl.grow hb1
    clear hv1 hl hbad
    go_wp2
    go_loopw [5, 6, 7, 8] (fun qv xv ev kv wr => ∃ (k q : Nat) (X : List UInt8) (e : Int), k ≤ n ∧ kv = .int .i64 k ∧ qv = .int .u64 q ∧ xv = .string (strOf X) ∧ ev = .int .i64 e ∧ Hid (WAt l k X q e) ∧ q ≤ k ∧ Below w1.heap.size w1 wr) (fun _ _ _ kv _ => n - (intOf kv).toNat)
    case atStart => exact ⟨0, 0, [], 0, by omega, rfl, rfl, rfl, rfl, Lib.hid (WAt.new l), Nat.le_refl _, Below.refl _ _⟩
    case round =>
      obtain ⟨k, q, X, e, hk, rfl, rfl, rfl, rfl, hat, hq, hbel⟩ := hrel
      have hB := hbel.size
      by_cases hlt : k < n
      · obtain ⟨b, o, r, t, rfl, hb, hx, hf, hc0, hc1⟩ := hl1.at_ hlt
        have c0 := (hbel.cell (p := ⟨b, o + k * 2, none⟩) (by simp; omega)).trans hc0
        have hX := Lib.hid hx
        have hr0 := hris.out.1 _ (List.mem_of_getElem? hx)
        have hXl := hat.out.len
        have he0 := hat.out.lo
        have he1 := hat.out.hi
        simp only at hr0
        have HC0 := Lib.hid hc0
        have HC0 := Lib.hid hc0
        have HC0 := Lib.hid hc0
        clear hx hf hc0 hc1
        go_wp2
        go_loopw [9] (fun mv wx => ∃ m : Nat, mv = .int .i64 m ∧ 1 ≤ m ∧ k + m ≤ n ∧ Hid (∀ j x, j < m → l[k + j]? = some x → x.1 = r + j) ∧ ∃ z, wx = wr.drewN z) (fun mv _ => n - (intOf mv).toNat)
        case atStart => exact ⟨1, rfl, by omega, by omega, Lib.hid (fun j x hj hjx => by obtain rfl : j = 0 := (by omega); rw [Nat.add_zero, hX.out] at hjx; injection hjx with hjx; subst hjx; simp), 0, rfl⟩
        case round =>
          obtain ⟨m, rfl, hm0, hkm, hall, z, rfl⟩ := hrel
          obtain ⟨w1k, w2k, w3k, a3, w4k, w5k, w6k⟩ := km_facts hkm (show n ≤ 16 by rw [← hlen]; exact h16) hr0.1 hr0.2.1
          by_cases hs : k + m < n ∧ ∃ t', l[k + m]? = some (r + m, t')
          · obtain ⟨hs1, t', ht'⟩ := hs
            obtain ⟨b', o', r2, t2, e', _, hx2, _, hd0, _⟩ := hl1.at_ hs1
            injection e' with e'
            injection e' with e1 e2 _
            subst e1 e2
            rw [ht'] at hx2
            injection hx2 with hx2
            injection hx2 with e3 e4
            subst e3 e4
            have d0 := (hbel.cell (p := ⟨b, o + (k + m) * 2, none⟩) hb).trans hd0
            have hnx := Lib.hid (run_next hall.out ht')
            obtain ⟨a0, a1, a2⟩ := lt_facts hs1
            clear ht' hd0
            go_wp2_with fail
            go_quiet (fail)
            go_wp2
            go_roundw
            case rel => exact ⟨m + 1, by go_num, Nat.le_add_left _ _, hs1, hnx, z + nq, by first | rfl | rw [World.drewN_drewN]⟩
            case measure => exact meas_next (Nat.lt_of_le_of_lt (Nat.le_add_left m k) hs1)
          · have hstop := Lib.hid (stop_at hs)
            obtain ⟨hnext, g0, g1⟩ := hat.out.next hris.out hX.out hm0 (by rw [hlen]; exact hkm) hall.out hstop.out
            obtain ⟨G, hG⟩ := Int.eq_ofNat_of_zero_le g0
            rw [hG] at hnext g1
            rw [Int.toNat_natCast] at hnext
            have hGl : G ≤ 200 := Int.ofNat_le.1 g1
            have hml : m ≤ 16 := Nat.le_trans (Nat.le_add_left m k) (Nat.le_trans hkm h16n)
            obtain ⟨q1, q2, q3, q4⟩ := gap_facts hr0.1 hr0.2.1 he0 he1
            obtain ⟨m1, m2, m3⟩ := m_facts hm0 hml
            obtain ⟨M, hM⟩ : ∃ M, M = m - 1 := ⟨_, rfl⟩
            rw [← hM] at hnext m1 m2 m3
            have hMl : M ≤ 16 := by rw [hM]; exact Nat.le_trans (Nat.sub_le m 1) hml
            have HN := Lib.hid hnext
            have G1 := u64_in (G := G) (Nat.le_trans hGl (by decide))
            have Q1 := q_facts (q := q) (Nat.le_trans hq (Nat.le_trans hk h16n))
            have hkn : (0 : Int) ≤ (k : Int) ∧ (k : Int) < (n : Int) := ⟨Int.natCast_nonneg k, Int.ofNat_lt.2 hlt⟩
            have hGG := Lib.hid hG
            have HM := Lib.hid hM
            have hall' := Lib.hid hall
            clear hnext g0 g1 hs hG hM
            rcases Nat.lt_or_ge (k + m) n with hs1 | hs1
            · obtain ⟨b', o', r2, t2, e', _, hx2, _, hd0, _⟩ := hl1.at_ hs1
              injection e' with e'
              injection e' with e1 e2 _
              subst e1 e2
              have d0 := (hbel.cell (p := ⟨b, o + (k + m) * 2, none⟩) hb).trans hd0
              obtain ⟨a0, a1, a2⟩ := lt_facts hs1
              have hne : (r2 == r + (m : Int)) = false := by
                have := hstop.out _ hx2
                simpa using this
              clear hx2 hd0
              go_wp2_with fail
              go_quiet (fail)
              clear a0 a1 a2 hne d0 a3 hs1
              by_cases hk0 : k = 0
              · obtain ⟨z0, z1⟩ := dec_zero hk0
                have hG' : r - e = (G : Int) := by rw [← hGG.out, if_pos hk0]
                have HK := Lib.hid hk0
                clear hk0
                go_wp2_with fail
                refine (vput_any G _ (Nat.lt_of_le_of_lt hGl (by decide))).mono ?_
                rintro y w3 ⟨rfl, hb3⟩
                have hbel3 := (below_drewN hbel (z + nq)).trans (hb3.mono hB)
                go_wp2_with fail
                refine (vput_any M _ (Nat.lt_of_le_of_lt hMl (by decide))).mono ?_
                rintro y w4 ⟨rfl, hb4⟩
                have hbel4 := hbel3.trans (hb4.mono hbel3.size)
                clear hb3 hb4 hbel3 hbel hall hG' z0 z1 hb1
                obtain ⟨S1, hS1⟩ : ∃ S, S = strOf (vput G) := ⟨_, rfl⟩
                obtain ⟨S2, hS2⟩ : ∃ S, S = strOf (vput M) := ⟨_, rfl⟩
                rw [show (⟨(vput M).toArray⟩ : ByteArray) = S2 from hS2.symm, show (⟨(vput G).toArray⟩ : ByteArray) = S1 from hS1.symm]
                obtain ⟨f1, f2, f3, f4⟩ := str_facts hGl hMl hS1 hS2 (X := X) (Nat.le_trans hXl (Nat.mul_le_mul_left 40 (Nat.le_trans hk h16n)))
                have hsl := run_part b o n c k m hlt hkm hc
                obtain ⟨X1, hX1⟩ : ∃ X1, X1 = X ++ (vput G ++ vput M) := ⟨_, rfl⟩
                rw [← hX1] at f3 f4
                have HX1 := Lib.hid hX1
                clear hX1 hS1 hS2
                go_wp2_with fail
                try rw [f3]
                clear f1 f2 f3 hsl
                have hJ := Lib.hid hkm
                go_loopw [6, 12, 75] (fun ov _ jv wx => ∃ j : Nat, j ≤ m ∧ jv = .int .i64 j ∧ ov = .string (strOf (X1 ++ times ((runAt l k m).take j))) ∧ Below w1.heap.size w1 wx) (fun _ _ jv _ => m - (intOf jv).toNat)
                case atStart => exact ⟨0, Nat.zero_le _, rfl, by simp [times], hbel4⟩
                case round =>
                  obtain ⟨j, hj, rfl, rfl, hbx⟩ := hrel
                  have hBx := hbx.size
                  by_cases hjm : j < m
                  · obtain ⟨T, y3, x1, x2, x3, x4, x5⟩ := inner_facts hl1 hris.out hkm hjm hbx
                    have U1 := u64_in x2
                    have jn : (0 : Int) ≤ (j : Int) ∧ (j : Int) < (m : Int) := ⟨Int.natCast_nonneg j, Int.ofNat_lt.2 hjm⟩
                    obtain ⟨jw1, jw2⟩ := j_facts (j := j) (Nat.le_trans hj hml)
                    obtain ⟨jd1, jd2⟩ := lt_dec hjm
                    go_wp2_with fail
                    refine (vput_any T _ (Nat.lt_of_le_of_lt x2 (by decide))).mono ?_
                    rintro y w5 ⟨rfl, hb5⟩
                    have hbx5 := (hbx.alloc hBx _).trans (hb5.mono (Nat.le_trans hBx (by simp)))
                    obtain ⟨f5, f6⟩ := time_facts (j := j) (m := m) hris.out f4 hml hj x2 x5
                    rw [show (⟨(vput T).toArray⟩ : ByteArray) = strOf (vput T) from rfl]
                    go_wp2_with fail
                    go_roundw
                    case rel => exact ⟨j + 1, hjm, by first | rfl | (congr 1), by first | rfl | rw [f6], hbx5⟩
                    case measure => exact meas_next hjm
                  · obtain rfl : j = m := Nat.le_antisymm hj (Nat.not_lt.1 hjm)
                    have c0x := (hbx.cell (p := ⟨b, o + k * 2, none⟩) hb).trans HC0.out
                    have hfin := Lib.hid (fin_facts (l := l) (k := k) (m := j) (X := X) HX1.out hJ.out hlen)
                    obtain ⟨jd1, jd2⟩ := lt_no (Nat.lt_irrefl j)
                    go_wp2_with fail
                    go_roundw
                    case rel => exact ⟨k + j, q + 1, _, r + j, hkm, by first | rfl | (congr 1), rfl, by rw [hfin.out], rfl, HN, q_next hq hm0, hbx⟩
                    case measure => exact meas_jump hm0 hlt
              · obtain ⟨z0, z1⟩ := dec_pos hk0
                have hG' : r - e - 1 = (G : Int) := by rw [← hGG.out, if_neg hk0]
                have HK := Lib.hid hk0
                clear hk0
                go_wp2_with fail
                refine (vput_any G _ (Nat.lt_of_le_of_lt hGl (by decide))).mono ?_
                rintro y w3 ⟨rfl, hb3⟩
                have hbel3 := (below_drewN hbel (z + nq)).trans (hb3.mono hB)
                go_wp2_with fail
                refine (vput_any M _ (Nat.lt_of_le_of_lt hMl (by decide))).mono ?_
                rintro y w4 ⟨rfl, hb4⟩
                have hbel4 := hbel3.trans (hb4.mono hbel3.size)
                clear hb3 hb4 hbel3 hbel hall hG' z0 z1 hb1
                obtain ⟨S1, hS1⟩ : ∃ S, S = strOf (vput G) := ⟨_, rfl⟩
                obtain ⟨S2, hS2⟩ : ∃ S, S = strOf (vput M) := ⟨_, rfl⟩
                rw [show (⟨(vput M).toArray⟩ : ByteArray) = S2 from hS2.symm, show (⟨(vput G).toArray⟩ : ByteArray) = S1 from hS1.symm]
                obtain ⟨f1, f2, f3, f4⟩ := str_facts hGl hMl hS1 hS2 (X := X) (Nat.le_trans hXl (Nat.mul_le_mul_left 40 (Nat.le_trans hk h16n)))
                have hsl := run_part b o n c k m hlt hkm hc
                obtain ⟨X1, hX1⟩ : ∃ X1, X1 = X ++ (vput G ++ vput M) := ⟨_, rfl⟩
                rw [← hX1] at f3 f4
                have HX1 := Lib.hid hX1
                clear hX1 hS1 hS2
                go_wp2_with fail
                try rw [f3]
                clear f1 f2 f3 hsl
                have hJ := Lib.hid hkm
                go_loopw [6, 12, 75] (fun ov _ jv wx => ∃ j : Nat, j ≤ m ∧ jv = .int .i64 j ∧ ov = .string (strOf (X1 ++ times ((runAt l k m).take j))) ∧ Below w1.heap.size w1 wx) (fun _ _ jv _ => m - (intOf jv).toNat)
                case atStart => exact ⟨0, Nat.zero_le _, rfl, by simp [times], hbel4⟩
                case round =>
                  obtain ⟨j, hj, rfl, rfl, hbx⟩ := hrel
                  have hBx := hbx.size
                  by_cases hjm : j < m
                  · obtain ⟨T, y3, x1, x2, x3, x4, x5⟩ := inner_facts hl1 hris.out hkm hjm hbx
                    have U1 := u64_in x2
                    have jn : (0 : Int) ≤ (j : Int) ∧ (j : Int) < (m : Int) := ⟨Int.natCast_nonneg j, Int.ofNat_lt.2 hjm⟩
                    obtain ⟨jw1, jw2⟩ := j_facts (j := j) (Nat.le_trans hj hml)
                    obtain ⟨jd1, jd2⟩ := lt_dec hjm
                    go_wp2_with fail
                    refine (vput_any T _ (Nat.lt_of_le_of_lt x2 (by decide))).mono ?_
                    rintro y w5 ⟨rfl, hb5⟩
                    have hbx5 := (hbx.alloc hBx _).trans (hb5.mono (Nat.le_trans hBx (by simp)))
                    obtain ⟨f5, f6⟩ := time_facts (j := j) (m := m) hris.out f4 hml hj x2 x5
                    rw [show (⟨(vput T).toArray⟩ : ByteArray) = strOf (vput T) from rfl]
                    go_wp2_with fail
                    go_roundw
                    case rel => exact ⟨j + 1, hjm, by first | rfl | (congr 1), by first | rfl | rw [f6], hbx5⟩
                    case measure => exact meas_next hjm
                  · obtain rfl : j = m := Nat.le_antisymm hj (Nat.not_lt.1 hjm)
                    have c0x := (hbx.cell (p := ⟨b, o + k * 2, none⟩) hb).trans HC0.out
                    have hfin := Lib.hid (fin_facts (l := l) (k := k) (m := j) (X := X) HX1.out hJ.out hlen)
                    obtain ⟨jd1, jd2⟩ := lt_no (Nat.lt_irrefl j)
                    go_wp2_with fail
                    go_roundw
                    case rel => exact ⟨k + j, q + 1, _, r + j, hkm, by first | rfl | (congr 1), rfl, by rw [hfin.out], rfl, HN, q_next hq hm0, hbx⟩
                    case measure => exact meas_jump hm0 hlt
            · obtain ⟨a0, a1⟩ := ge_facts hs1
              go_wp2_with fail
              go_quiet (fail)
              clear a0 a1 a3 hs1
              by_cases hk0 : k = 0
              · obtain ⟨z0, z1⟩ := dec_zero hk0
                have hG' : r - e = (G : Int) := by rw [← hGG.out, if_pos hk0]
                have HK := Lib.hid hk0
                clear hk0
                go_wp2_with fail
                refine (vput_any G _ (Nat.lt_of_le_of_lt hGl (by decide))).mono ?_
                rintro y w3 ⟨rfl, hb3⟩
                have hbel3 := (below_drewN hbel (z + nq)).trans (hb3.mono hB)
                go_wp2_with fail
                refine (vput_any M _ (Nat.lt_of_le_of_lt hMl (by decide))).mono ?_
                rintro y w4 ⟨rfl, hb4⟩
                have hbel4 := hbel3.trans (hb4.mono hbel3.size)
                clear hb3 hb4 hbel3 hbel hall hG' z0 z1 hb1
                obtain ⟨S1, hS1⟩ : ∃ S, S = strOf (vput G) := ⟨_, rfl⟩
                obtain ⟨S2, hS2⟩ : ∃ S, S = strOf (vput M) := ⟨_, rfl⟩
                rw [show (⟨(vput M).toArray⟩ : ByteArray) = S2 from hS2.symm, show (⟨(vput G).toArray⟩ : ByteArray) = S1 from hS1.symm]
                obtain ⟨f1, f2, f3, f4⟩ := str_facts hGl hMl hS1 hS2 (X := X) (Nat.le_trans hXl (Nat.mul_le_mul_left 40 (Nat.le_trans hk h16n)))
                have hsl := run_part b o n c k m hlt hkm hc
                obtain ⟨X1, hX1⟩ : ∃ X1, X1 = X ++ (vput G ++ vput M) := ⟨_, rfl⟩
                rw [← hX1] at f3 f4
                have HX1 := Lib.hid hX1
                clear hX1 hS1 hS2
                go_wp2_with fail
                try rw [f3]
                clear f1 f2 f3 hsl
                have hJ := Lib.hid hkm
                go_loopw [6, 12, 75] (fun ov _ jv wx => ∃ j : Nat, j ≤ m ∧ jv = .int .i64 j ∧ ov = .string (strOf (X1 ++ times ((runAt l k m).take j))) ∧ Below w1.heap.size w1 wx) (fun _ _ jv _ => m - (intOf jv).toNat)
                case atStart => exact ⟨0, Nat.zero_le _, rfl, by simp [times], hbel4⟩
                case round =>
                  obtain ⟨j, hj, rfl, rfl, hbx⟩ := hrel
                  have hBx := hbx.size
                  by_cases hjm : j < m
                  · obtain ⟨T, y3, x1, x2, x3, x4, x5⟩ := inner_facts hl1 hris.out hkm hjm hbx
                    have U1 := u64_in x2
                    have jn : (0 : Int) ≤ (j : Int) ∧ (j : Int) < (m : Int) := ⟨Int.natCast_nonneg j, Int.ofNat_lt.2 hjm⟩
                    obtain ⟨jw1, jw2⟩ := j_facts (j := j) (Nat.le_trans hj hml)
                    obtain ⟨jd1, jd2⟩ := lt_dec hjm
                    go_wp2_with fail
                    refine (vput_any T _ (Nat.lt_of_le_of_lt x2 (by decide))).mono ?_
                    rintro y w5 ⟨rfl, hb5⟩
                    have hbx5 := (hbx.alloc hBx _).trans (hb5.mono (Nat.le_trans hBx (by simp)))
                    obtain ⟨f5, f6⟩ := time_facts (j := j) (m := m) hris.out f4 hml hj x2 x5
                    rw [show (⟨(vput T).toArray⟩ : ByteArray) = strOf (vput T) from rfl]
                    go_wp2_with fail
                    go_roundw
                    case rel => exact ⟨j + 1, hjm, by first | rfl | (congr 1), by first | rfl | rw [f6], hbx5⟩
                    case measure => exact meas_next hjm
                  · obtain rfl : j = m := Nat.le_antisymm hj (Nat.not_lt.1 hjm)
                    have c0x := (hbx.cell (p := ⟨b, o + k * 2, none⟩) hb).trans HC0.out
                    have hfin := Lib.hid (fin_facts (l := l) (k := k) (m := j) (X := X) HX1.out hJ.out hlen)
                    obtain ⟨jd1, jd2⟩ := lt_no (Nat.lt_irrefl j)
                    go_wp2_with fail
                    go_roundw
                    case rel => exact ⟨k + j, q + 1, _, r + j, hkm, by first | rfl | (congr 1), rfl, by rw [hfin.out], rfl, HN, q_next hq hm0, hbx⟩
                    case measure => exact meas_jump hm0 hlt
              · obtain ⟨z0, z1⟩ := dec_pos hk0
                have hG' : r - e - 1 = (G : Int) := by rw [← hGG.out, if_neg hk0]
                have HK := Lib.hid hk0
                clear hk0
                go_wp2_with fail
                refine (vput_any G _ (Nat.lt_of_le_of_lt hGl (by decide))).mono ?_
                rintro y w3 ⟨rfl, hb3⟩
                have hbel3 := (below_drewN hbel (z + nq)).trans (hb3.mono hB)
                go_wp2_with fail
                refine (vput_any M _ (Nat.lt_of_le_of_lt hMl (by decide))).mono ?_
                rintro y w4 ⟨rfl, hb4⟩
                have hbel4 := hbel3.trans (hb4.mono hbel3.size)
                clear hb3 hb4 hbel3 hbel hall hG' z0 z1 hb1
                obtain ⟨S1, hS1⟩ : ∃ S, S = strOf (vput G) := ⟨_, rfl⟩
                obtain ⟨S2, hS2⟩ : ∃ S, S = strOf (vput M) := ⟨_, rfl⟩
                rw [show (⟨(vput M).toArray⟩ : ByteArray) = S2 from hS2.symm, show (⟨(vput G).toArray⟩ : ByteArray) = S1 from hS1.symm]
                obtain ⟨f1, f2, f3, f4⟩ := str_facts hGl hMl hS1 hS2 (X := X) (Nat.le_trans hXl (Nat.mul_le_mul_left 40 (Nat.le_trans hk h16n)))
                have hsl := run_part b o n c k m hlt hkm hc
                obtain ⟨X1, hX1⟩ : ∃ X1, X1 = X ++ (vput G ++ vput M) := ⟨_, rfl⟩
                rw [← hX1] at f3 f4
                have HX1 := Lib.hid hX1
                clear hX1 hS1 hS2
                go_wp2_with fail
                try rw [f3]
                clear f1 f2 f3 hsl
                have hJ := Lib.hid hkm
                go_loopw [6, 12, 75] (fun ov _ jv wx => ∃ j : Nat, j ≤ m ∧ jv = .int .i64 j ∧ ov = .string (strOf (X1 ++ times ((runAt l k m).take j))) ∧ Below w1.heap.size w1 wx) (fun _ _ jv _ => m - (intOf jv).toNat)
                case atStart => exact ⟨0, Nat.zero_le _, rfl, by simp [times], hbel4⟩
                case round =>
                  obtain ⟨j, hj, rfl, rfl, hbx⟩ := hrel
                  have hBx := hbx.size
                  by_cases hjm : j < m
                  · obtain ⟨T, y3, x1, x2, x3, x4, x5⟩ := inner_facts hl1 hris.out hkm hjm hbx
                    have U1 := u64_in x2
                    have jn : (0 : Int) ≤ (j : Int) ∧ (j : Int) < (m : Int) := ⟨Int.natCast_nonneg j, Int.ofNat_lt.2 hjm⟩
                    obtain ⟨jw1, jw2⟩ := j_facts (j := j) (Nat.le_trans hj hml)
                    obtain ⟨jd1, jd2⟩ := lt_dec hjm
                    go_wp2_with fail
                    refine (vput_any T _ (Nat.lt_of_le_of_lt x2 (by decide))).mono ?_
                    rintro y w5 ⟨rfl, hb5⟩
                    have hbx5 := (hbx.alloc hBx _).trans (hb5.mono (Nat.le_trans hBx (by simp)))
                    obtain ⟨f5, f6⟩ := time_facts (j := j) (m := m) hris.out f4 hml hj x2 x5
                    rw [show (⟨(vput T).toArray⟩ : ByteArray) = strOf (vput T) from rfl]
                    go_wp2_with fail
                    go_roundw
                    case rel => exact ⟨j + 1, hjm, by first | rfl | (congr 1), by first | rfl | rw [f6], hbx5⟩
                    case measure => exact meas_next hjm
                  · obtain rfl : j = m := Nat.le_antisymm hj (Nat.not_lt.1 hjm)
                    have c0x := (hbx.cell (p := ⟨b, o + k * 2, none⟩) hb).trans HC0.out
                    have hfin := Lib.hid (fin_facts (l := l) (k := k) (m := j) (X := X) HX1.out hJ.out hlen)
                    obtain ⟨jd1, jd2⟩ := lt_no (Nat.lt_irrefl j)
                    go_wp2_with fail
                    go_roundw
                    case rel => exact ⟨k + j, q + 1, _, r + j, hkm, by first | rfl | (congr 1), rfl, by rw [hfin.out], rfl, HN, q_next hq hm0, hbx⟩
                    case measure => exact meas_jump hm0 hlt
      · obtain rfl : k = n := Nat.le_antisymm hk (Nat.not_lt.1 hlt)
        have hd := Lib.hid (done_of hat.out hlen)
        have hXl := hat.out.len
        obtain ⟨jd1, jd2⟩ := lt_no (Nat.lt_irrefl k)
        go_wp2_with fail
        refine (vput_any q _ (Nat.lt_of_le_of_lt (Nat.le_trans hq h16n) (by decide))).mono ?_
        rintro y w3 ⟨rfl, hb3⟩
        rw [show (⟨(vput q).toArray⟩ : ByteArray) = strOf (vput q) from rfl]
        obtain ⟨f1, f2⟩ := end_facts (q := q) (X := X) (Nat.le_trans hq h16n) (Nat.le_trans hXl (Nat.mul_le_mul_left 40 h16n))
        go_wp2
        go_ret2
        rw [hr.out]
        exact ⟨_, by rw [hd.out]; rfl, .none, hb1.trans ((hbel.trans (hb3.mono hB)).mono hb1.size)⟩
  · have hr := Lib.hid (vwrite_bad hbad)
    go_enter Tryd.func52, Tryd.ntmps52
    go_wp2_with fail
    refine (vright_any w n c A l hl hn).mono ?_
    rintro e w1 ⟨v1, rfl, hv1, hb1⟩
    obtain ⟨ty, u, rfl⟩ := err_some hv1 hbad
    have HV := Lib.hid hv1
    clear hv1 hbad
    go_wp2
    go_ret2
    rw [hr.out]
    exact ⟨_, rfl, HV.out, hb1⟩
end Go.Proofs.YtglemfdnfaemiaaDoor
end
