/- A scanner's entries, and VectorRead of the reference, say what vread says.

Which of two ids is earlier, whether one may be, and whether it is within two vectors: the functions of package ident and of the reference. -/
import Derived.Test.YtnaclpfcldoebaaGreatDoorZ3
import Derived.Test.YtnaclpfcldoebaaGreatDoorZ1
import Derived.Deep.QuietTactic
import Derived.BigQuiet
import Derived.Deep.RegionHeld3
import Derived.StillTailTactics
import Derived.KernelRfl
import Derived.Deep.RegionWith
section
namespace Go.Proofs.YtnaclpfcldoebaaGreatDoor
set_option linter.unusedSimpArgs false
set_option linter.unusedVariables false
open Go.RowKit As
/-- The replica of the run behind a gap. -/
theorem gap_step {r g : Nat} {z : Int} (hz : z = (r : Int) - 1) (hr : r ≤ 10000) (hg : (g : Int) ≤ 200) :
    ∃ (R : Nat) (y : Int), y = (R : Int) - 1 ∧ (r ≤ R ∧ R ≤ r + 201) ∧ (r : Int) + (g : Int) + (if decide (r < 1) then 0 else 1) = (R : Int) ∧
      (decide (0 ≤ z) = true ∧ IntKind.i64.wrap ((g : Int) + 1) = (g : Int) + 1 ∧ IntKind.i64.wrap (z + ((g : Int) + 1)) = y ∨
       decide (0 ≤ z) = false ∧ IntKind.i64.wrap (z + (g : Int)) = y) := by
  by_cases h : r < 1
  · refine ⟨r + g, z + (g : Int), by omega, ⟨by omega, by omega⟩, by rw [if_pos (by simpa using h)]; omega, .inr ⟨by simp only [decide_eq_false_iff_not]; omega, IntWalk.i64_in _ (by omega)⟩⟩
  · refine ⟨r + g + 1, z + ((g : Int) + 1), by omega, ⟨by omega, by omega⟩, by rw [if_neg (by simpa using h)]; omega, .inl ⟨by simp only [decide_eq_true_eq]; omega, IntWalk.i64_in _ (by omega), IntWalk.i64_in _ (by omega)⟩⟩
theorem dec_facts {c : Nat} {y : Int} (hy : y = (c : Int) - 1) (hc : c ≤ 1000) : IntKind.i64.wrap (y - 1) = y - 1 ∧ (decide (0 ≤ y) = decide (1 ≤ c)) := by
  refine ⟨IntWalk.i64_in _ (by omega), ?_⟩
  by_cases h : 1 ≤ c
  · rw [decide_eq_true (show 0 ≤ y by omega), decide_eq_true h]
  · rw [decide_eq_false (show ¬ 0 ≤ y by omega), decide_eq_false h]
theorem inc_facts {r : Nat} {z : Int} (hz : z = (r : Int) - 1) (hr : r ≤ 10000) : IntKind.i64.wrap (z + 1) = (r : Int) := by
  rw [show z + 1 = (r : Int) by omega]; exact IntWalk.i64_in _ (by omega)
theorem u64_one {n : Nat} {m : Int} (h : (n : Int) ≤ m) (hm : m ≤ 1099511627776) : -9223372036854775808 ≤ (n : Int) ∧ (n : Int) ≤ 9223372036854775807 := by omega
theorem run_bound {r R c m : Nat} (h : r ≤ 220 * (16 - (c + 1))) (hc : c + 1 ≤ 16) (hR : R ≤ r + 201) (hm : (m : Int) ≤ 16) : R + (m + 1) ≤ 220 * (16 - c) := by omega
theorem small_r {r c : Nat} (h : r ≤ 220 * (16 - c)) : r ≤ 10000 := by omega
theorem vruns_end {s : ByteArray} {f : Bool} {r : Int} {p : Nat} {acc : List Ent} : vruns s 0 f r p acc = (acc, p, 0, r) := rfl
theorem vtimes_end {s : ByteArray} {r : Int} {p : Nat} {acc : List Ent} : vtimes s 0 r p acc = (acc, p, 0, r) := rfl
/-- Entries that fit. -/
def AFits (l : List Ent) : Prop := ∀ x ∈ l, entFits x
theorem AFits.nil : AFits [] := fun _ h => by cases h
theorem AFits.snoc {l : List Ent} {r t : Nat} (h : AFits l) (hr : r ≤ 10000) (ht : (t : Int) ≤ 1099511627776) : AFits (l ++ [((r : Int), (t : Int))]) := by
  intro x hx
  rcases List.mem_append.1 hx with hx | hx
  · exact h x hx
  · rw [List.mem_singleton.1 hx]
    exact ⟨⟨by simp only; omega, by simp only; omega⟩, ⟨by simp only; omega, by simp only; omega⟩⟩
theorem own_below {w w' : World} {base : Nat} {e : TypeId} {size n : Nat} {v : Value} {xs : List Value} (h : w.ownsRow base e size v n xs) (hb : Below w.heap.size w w') : w'.ownsRow base e size v n xs := by
  refine h.kept (row := none) ⟨hb.os, hb.tape, hb.output, hb.size, fun i hi _ => hb.block i hi⟩ ?_
  cases v.ownBlock with
  | none => exact .inl rfl
  | some k => exact .inr (by simp)
set_option maxHeartbeats 2000000 in
set_option maxRecDepth 100000 in
/-- Where entries ends. -/
def EntEnd (s : ByteArray) (B : Nat) (w : World) (e : Ending) (w' : World) : Prop :=
  ((vread s).2.2 = 0 ∧ ∃ v, e = .returned v ∧ w'.ownsRow w.heap.size 62 2 v (vread s).1.length (entV (vread s).1) ∧ Sc w' B s (vread s).2.1 ∧ Below B w w') ∨
  ((vread s).2.2 ≠ 0 ∧ ∃ q, e = .panicked (Thrown (vread s).2.2 q) ∧ Below B w w')
set_option maxHeartbeats 4000000 in
set_option maxRecDepth 100000 in
theorem entries_any (s : ByteArray) (B : Nat) (w : World) (hs : s.size ≤ 1000000) (h : Sc w B s 0) :
    Calls Tryz.prog 34 #[.pointer (some ⟨B, 0, none⟩)] w fun e w' => EntEnd s B w e w' := by
  obtain ⟨i0, hi, hz0, hz1, hz2⟩ := info_parts entInfo
  have hBl := h.lt
  have HS := h
  obtain ⟨c0, c1, f1⟩ := h
  obtain ⟨X, hX⟩ : ∃ X, X = vrall s := ⟨_, rfl⟩
  have HX := Lib.hid hX.symm
  clear hX
  go_enter Tryz.func34, Tryz.ntmps34
  go_wp2_with fail
  refine (next_any s 0 B 16 _ hs (by omega) (by omega) HS).mono ?_
  rintro r w1 ⟨q1, c, k, e, ha, hx⟩
  rcases hx with ⟨rfl, x1, x2, x3, x4, rfl, rfl⟩ | ⟨he, rfl, rfl⟩
  · have HV := Lib.hid (HX.out.symm.trans (vrall_go ha))
    have hc16 : c ≤ 16 := by omega
    have hk : k ≤ s.size := by omega
    have HS1 := (HS.drewN q1).step (0 + k)
    have b1 := (below_drewN (Below.refl B w) q1).setCell (p := ⟨B, 1, none⟩) (Nat.le_refl _) (.int .i64 ((0 + k : Nat) : Int))
    clear ha x1 x2 x3 x4 c0 c1 f1 HS
    rw [Nat.zero_add] at HS1 b1 ⊢
    go_wp2
    go_loopw [4, 5, 6, 7, 8] (fun ov rv iv _ _ wr => ∃ (c r p : Nat) (acc : List Ent) (z : Int), iv = .int .i64 c ∧ rv = .int .i64 z ∧ Hid (z = (r : Int) - 1) ∧ c ≤ 16 ∧ r ≤ 220 * (16 - c) ∧ p ≤ s.size ∧ Hid (X = vruns s c (decide (r < 1)) (r : Int) p acc) ∧ (acc.length ≤ r ∧ Hid (AFits acc)) ∧ wr.ownsRow w.heap.size 62 2 ov acc.length (entV acc) ∧ Sc wr B s p ∧ Below B w wr) (fun _ _ iv _ _ _ => (intOf iv).toNat)
    case atStart => exact ⟨c, 0, k, [], -1, rfl, rfl, Lib.hid (by omega), hc16, by omega, hk, HV, ⟨Nat.le_refl _, Lib.hid AFits.nil⟩, World.ownsRow_nil _ _ _ _, HS1, b1⟩
    case round =>
      obtain ⟨c, r, p, acc, z, rfl, rfl, HZ, hc, hr, hp, HR, ⟨hacc, HF⟩, hT, hsc, hbel⟩ := hrel
      clear HS1 b1 HV
      have hB := hbel.size
      by_cases h0 : 1 ≤ c
      · obtain ⟨c', hc'⟩ : ∃ c', c = c' + 1 := ⟨c - 1, by omega⟩
        have hcc : c' + 1 ≤ 16 := by omega
        have hrr := small_r hr
        have HR' := Lib.hid (show X = vruns s (c' + 1) (decide (r < 1)) (r : Int) p acc by rw [← hc']; exact HR.out)
        have hr' : r ≤ 220 * (16 - (c' + 1)) := by omega
        have d0 : decide ((0 : Int) < (c : Int)) = true := by simp only [decide_eq_true_eq]; omega
        have d0' : decide (0 < c) = true := by simp only [decide_eq_true_eq]; omega
        have dw : IntKind.i64.wrap ((c : Int) - 1) = (c' : Int) := by rw [hc', show ((c' + 1 : Nat) : Int) - 1 = (c' : Int) by omega]; exact IntWalk.i64_in _ (by omega)
        have HC := Lib.hid hc'
        clear hc' HR hc h0 hr
        go_wp2_with fail
        refine (next_any s p B 200 _ hs hp (by omega) hsc).mono ?_
        rintro e1 w2 ⟨q2, g, k1, e, ha, hx⟩
        rcases hx with ⟨rfl, x1, x2, x3, x4, rfl, rfl⟩ | ⟨he, rfl, rfl⟩
        · have HA := Lib.hid ha
          have hs2 := (hsc.drewN q2).step (p + k1)
          have b2 := (below_drewN hbel q2).setCell (p := ⟨B, 1, none⟩) (Nat.le_refl _) (.int .i64 ((p + k1 : Nat) : Int))
          have T2 : ((wr.drewN q2).setCell ⟨B, 1, none⟩ (.int .i64 ((p + k1 : Nat) : Int))).ownsRow w.heap.size 62 2 u4 acc.length (entV acc) := own_set (.int .i64 ((p + k1 : Nat) : Int)) (show (wr.drewN q2).ownsRow w.heap.size 62 2 u4 acc.length (entV acc) from hT) hBl
          clear ha hsc hbel hT
          obtain ⟨R, y, hy, ⟨hR0, hRr⟩, hif, htests⟩ := gap_step HZ.out hrr x1
          have HY := Lib.hid hy
          have HIF := Lib.hid hif
          clear hy hif
          generalize (wr.drewN q2).setCell ⟨B, 1, none⟩ (.int .i64 ((p + k1 : Nat) : Int)) = W2 at *
          rcases htests with ⟨t0, t1, t2⟩ | ⟨t0, t2⟩
          all_goals
            go_wp2_with fail
            refine (next_any s (p + k1) B 16 _ hs x4 (by omega) hs2).mono ?_
            rintro e1 w3 ⟨q3, m, j, e, hb, hx⟩
            rcases hx with ⟨rfl, y1, y2, y3, y4, rfl, rfl⟩ | ⟨he, rfl, rfl⟩
            · obtain ⟨x, hx, hbad, hgo⟩ := vruns_go HR'.out HA.out hb
              rw [HIF.out] at hx
              have HXX := Lib.hid hx
              have HBD := Lib.hid hbad
              have HGO := Lib.hid hgo
              have hs3 := (hs2.drewN q3).step (p + k1 + j)
              have b3 := (below_drewN b2 q3).setCell (p := ⟨B, 1, none⟩) (Nat.le_refl _) (.int .i64 ((p + k1 + j : Nat) : Int))
              have T3 : ((W2.drewN q3).setCell ⟨B, 1, none⟩ (.int .i64 ((p + k1 + j : Nat) : Int))).ownsRow w.heap.size 62 2 u4 acc.length (entV acc) := own_set (.int .i64 ((p + k1 + j : Nat) : Int)) (show (W2.drewN q3).ownsRow w.heap.size 62 2 u4 acc.length (entV acc) from T2) hBl
              have hRm := run_bound hr' hcc hRr y1
              have hm16 : m ≤ 16 := by omega
              clear hx hbad hgo hs2 b2 T2 hb HR' HA HIF
              generalize (W2.drewN q3).setCell ⟨B, 1, none⟩ (.int .i64 ((p + k1 + j : Nat) : Int)) = W3 at *
              have hma : acc.length ≤ R := Nat.le_trans hacc hR0
              go_wp2
              go_loopw [4, 5, 8] (fun ov rv kv wx => ∃ (c2 R2 p2 : Nat) (acc2 : List Ent) (z2 y2 : Int), kv = .int .i64 y2 ∧ Hid (y2 = (c2 : Int) - 1) ∧ rv = .int .i64 z2 ∧ Hid (z2 = (R2 : Int) - 1) ∧ c2 ≤ m + 1 ∧ R2 + c2 = R + (m + 1) ∧ p2 ≤ s.size ∧ Hid (x = vtimes s c2 (R2 : Int) p2 acc2) ∧ (acc2.length ≤ R2 ∧ Hid (AFits acc2)) ∧ wx.ownsRow w.heap.size 62 2 ov acc2.length (entV acc2) ∧ Sc wx B s p2 ∧ Below B w wx) (fun _ _ kv _ => (intOf kv + 1).toNat)
              case atStart => exact ⟨m + 1, R, p + k1 + j, acc, y, (m : Int), rfl, Lib.hid (by omega), rfl, HY, Nat.le_refl _, rfl, y4, HXX, ⟨hma, HF⟩, T3, hs3, b3⟩
              case round =>
                obtain ⟨c2, R2, p2, acc2, z2, y2, rfl, HY2, rfl, HZ2, hc2, hRc, hp2, HT, ⟨hacc2, HF2⟩, hT2, hsc2, hb2⟩ := hrel
                have hB2 := hb2.size
                obtain ⟨dw2, dd2⟩ := dec_facts HY2.out (by omega)
                have hR2 : R2 ≤ 10000 := by omega
                have hin := inc_facts HZ2.out hR2
                by_cases h1 : 1 ≤ c2
                · rw [decide_eq_true h1] at dd2
                  obtain ⟨c3, hc3⟩ : ∃ c3, c2 = c3 + 1 := ⟨c2 - 1, by omega⟩
                  have HT' := Lib.hid (show x = vtimes s (c3 + 1) (R2 : Int) p2 acc2 by rw [← hc3]; exact HT.out)
                  have hc3m : c3 ≤ m + 1 := by omega
                  have hRc3 : (R2 + 1) + c3 = R + (m + 1) := by omega
                  have hyy : y2 - 1 = (c3 : Int) - 1 := by rw [HY2.out, hc3]; omega
                  have hmeas : (y2 - 1 + 1).toNat < (y2 + 1).toNat := by have := HY2.out; omega
                  have HYY := Lib.hid hyy
                  have HM := Lib.hid hmeas
                  clear hc3 HT hc2 h1 hyy hmeas
                  go_wp2_with fail
                  refine (next_any s p2 B 1099511627776 _ hs hp2 (by omega) hsc2).mono ?_
                  rintro e1 w4 ⟨q4, tm, k4, e, ht, hx⟩
                  rcases hx with ⟨rfl, vt, _, _, v4, rfl, rfl⟩ | ⟨he, rfl, rfl⟩
                  · have HN := Lib.hid (vtimes_next' HT'.out ht)
                    have hs4 := (hsc2.drewN q4).step (p2 + k4)
                    have b4 := (below_drewN hb2 q4).setCell (p := ⟨B, 1, none⟩) (Nat.le_refl _) (.int .i64 ((p2 + k4 : Nat) : Int))
                    have T4 : ((wr.drewN q4).setCell ⟨B, 1, none⟩ (.int .i64 ((p2 + k4 : Nat) : Int))).ownsRow w.heap.size 62 2 u4 acc2.length (entV acc2) := own_set (.int .i64 ((p2 + k4 : Nat) : Int)) (show (wr.drewN q4).ownsRow w.heap.size 62 2 u4 acc2.length (entV acc2) from hT2) hBl
                    have hB4 : w.heap.size ≤ ((wr.drewN q4).setCell ⟨B, 1, none⟩ (.int .i64 ((p2 + k4 : Nat) : Int))).heap.size := by simpa using hB2
                    clear ht hsc2 hb2 hT2 HT'
                    generalize (wr.drewN q4).setCell ⟨B, 1, none⟩ (.int .i64 ((p2 + k4 : Nat) : Int)) = W4 at *
                    have hlen : acc2.length ≤ 10000 := Nat.le_trans hacc2 hR2
                    have hr3 := Lib.hid (show ((R2 : Nat) : Int) = ((R2 + 1 : Nat) : Int) - 1 by omega)
                    have hB5 : B ≤ W4.heap.size := Nat.le_trans (Nat.le_of_lt hBl) hB4
                    clear hin dd2
                    go_wp2_with (first
                      | (at_builtin; refine wpList_append_own _ rfl (.tmp 37) (.tmp 42) 22 rfl w.heap.size 62 i0 (.agg #[.int .i64 0, .int .i64 0]) 2 16 Tryz.underlying22 hi hz0 hz1 hz2 rfl (by decide) u4 acc2.length (entV acc2) rfl (T4.alloc _) ⟨W4.heap.size, 0, none⟩ 1 1 [.int .i64 (R2 : Int), .int .i64 (tm : Int)] rfl rfl (cells_ent _ _ _ _) (by intro u hu; simp at hu; rcases hu with rfl | rfl <;> rfl) (by unfold maxLen; omega) (by omega) (by simp; omega) ?_; intro v1 w6 hT6 hg6 _; have bb := grown_own (Below.refl (B + 1) _) hg6 (by simp; omega) (own_less (T4.alloc _) hBl); have hT7 := entV_snoc (x := ((R2 : Int), (tm : Int))) rfl hT6))
                    have hs6 := (hs4.below (below1 W4 (.cells #[.int .i64 (R2 : Int), .int .i64 (tm : Int)] 62))).keep bb (Nat.lt_succ_self B)
                    have b6 := (b4.alloc hB5 (.cells #[.int .i64 (R2 : Int), .int .i64 (tm : Int)] 62)).trans (bb.mono (Nat.le_succ B))
                    go_roundw
                    case rel => exact ⟨c3, R2 + 1, p2 + k4, acc2 ++ [((R2 : Int), (tm : Int))], (R2 : Int), y2 - 1, by go_num, HYY, rfl, hr3, hc3m, hRc3, v4, HN, ⟨by rw [List.length_append]; exact Nat.succ_le_succ hacc2, Lib.hid (HF2.out.snoc hR2 vt)⟩, hT7, hs6, b6⟩
                    case measure => exact HM.out
                  · have HXB := Lib.hid (vtimes_bad' HT'.out ht he)
                    have HV := Lib.hid (vread_bad HX.out (show X = ([], 0, e, 0) by have h5 := HBD.out (by rw [HXB.out]; exact he); rw [HXB.out] at h5; exact h5) he)
                    have HE := Lib.hid he
                    clear he ht
                    go_wp2
                    exact ⟨rfl, .inr ⟨by rw [HV.out]; exact HE.out, _, by rw [HV.out], below_drewN hb2 q4⟩⟩
                · rw [decide_eq_false h1] at dd2
                  have hc20 : c2 = 0 := by omega
                  have HE0 := Lib.hid (show x = (acc2, p2, 0, (R2 : Int)) by rw [HT.out, hc20]; rfl)
                  have hR2' : R2 = R + (m + 1) := by omega
                  have hdec : decide (R2 < 1) = false := by simp only [decide_eq_false_iff_not]; omega
                  have HR2 := Lib.hid (show X = vruns s c' (decide (R2 < 1)) (R2 : Int) p2 acc2 by
                    have h5 := HGO.out (by rw [HE0.out])
                    rw [HE0.out] at h5
                    rw [hdec]; exact h5)
                  have hb220 : R2 ≤ 220 * (16 - c') := by omega
                  have hcm : c' < c := by have := HC.out; omega
                  have hc16' : c' ≤ 16 := by omega
                  clear hc20 hR2' hdec h1 hRc hc2
                  go_wp2
                  go_roundw
                  case rel => exact ⟨c', R2, p2, acc2, z2, by go_num, rfl, HZ2, hc16', hb220, hp2, HR2, ⟨hacc2, HF2⟩, hT2, hsc2, hb2⟩
                  case measure => simp [intOf]; exact hcm
            · have HV := Lib.hid (vread_bad HX.out (vruns_len' HR'.out HA.out hb he) he)
              have HE := Lib.hid he
              clear he hb
              go_wp2
              exact ⟨rfl, .inr ⟨by rw [HV.out]; exact HE.out, _, by rw [HV.out], below_drewN b2 q3⟩⟩
        · have HV := Lib.hid (vread_bad HX.out (vruns_gap' HR'.out ha he) he)
          have HE := Lib.hid he
          clear he ha
          go_wp2
          exact ⟨rfl, .inr ⟨by rw [HV.out]; exact HE.out, _, by rw [HV.out], below_drewN hbel q2⟩⟩
      · have hc0 : c = 0 := by omega
        have HE0 := Lib.hid (show X = (acc, p, 0, (r : Int)) by rw [HR.out, hc0]; rfl)
        have d0 : decide ((0 : Int) < (c : Int)) = false := by simp only [decide_eq_false_iff_not]; omega
        have d0' : decide (0 < c) = false := by simp only [decide_eq_false_iff_not]; omega
        have hlen : acc.length ≤ maxLen := by have := small_r hr; unfold maxLen; omega
        obtain ⟨A9, c9, rfl⟩ := own_form hT
        have hE : Ents wr wr.heap.size A9 acc.length acc := ⟨Sl.of_own hT, HF.out⟩
        clear hc0 h0 hr hc HR
        go_wp2_with fail
        refine (rvright_any wr acc.length c9 A9 acc hE hlen).mono ?_
        rintro r1 w1 ⟨rfl, hb1⟩
        unfold faultV
        go_wp2_with fail
        have hk1 := below1 w1 (.cells #[.int .i64 (vright acc).1, .int .i64 (vright acc).2] 28)
        have T1 := Two.new w1 (vright acc).1 (vright acc).2 28
        refine (is_any (vright acc) _).mono ?_
        rintro r2 w2 ⟨rfl, hb2⟩
        obtain ⟨g0, g1, _, _⟩ := T1.below hb2
        have bb := (hb1.trans (hk1.mono hb1.size)).trans (hb2.mono (hb1.trans (hk1.mono hb1.size)).size)
        have bw := hbel.trans (bb.mono (Nat.le_trans (Nat.le_of_lt hBl) hbel.size))
        by_cases h1 : (vright acc).1 = 0
        · have HV := Lib.hid (vread_good HX.out HE0.out h1)
          have e1 : ((vright acc).1 == 0) = true := by simpa using h1
          rw [e1]
          have hTb := own_below hT bb
          have hsb := hsc.below bb
          clear e1 g0 g1 h1
          go_wp2
          go_ret
          exact .inl ⟨by rw [HV.out], _, rfl, by rw [HV.out]; exact hTb, by rw [HV.out]; exact hsb, bw⟩
        · have HV := Lib.hid (vread_false HX.out HE0.out h1)
          have e1 : ((vright acc).1 == 0) = false := by simpa using h1
          rw [e1]
          have HE := Lib.hid h1
          clear e1 h1
          go_wp2_with fail
          refine (throw_any _ _ _).mono ?_
          rintro r w3 ⟨rfl, rfl⟩
          go_wp2
          exact ⟨rfl, .inr ⟨by rw [HV.out]; exact HE.out, _, by rw [HV.out], bw⟩⟩
  · have HV := Lib.hid (vread_bad HX.out (HX.out.symm.trans (vrall_bad ha he)) he)
    have HE := Lib.hid he
    clear he ha
    go_wp2
    exact ⟨rfl, .inr ⟨by rw [HV.out]; exact HE.out, _, by rw [HV.out], below_drewN (Below.refl B w) q1⟩⟩
/-- What VectorRead lays over its results where something is wrong. -/
theorem fix_good (F O N : Nat) (y : Int) (w : World) (h0 : w.cell? ⟨F, 0, none⟩ = some (.int .i64 0)) (h1 : w.cell? ⟨F, 1, none⟩ = some (.int .i64 y)) :
    CallsD Tryz.prog 33 #[.pointer (some ⟨F, 0, none⟩), .pointer (some ⟨O, 0, none⟩), .pointer (some ⟨N, 0, none⟩)] .returning w fun e u' w' => u' = .returning ∧ (e = .returned (.tuple #[]) ∧ Below w.heap.size w w') := by
  go_enter_d Tryz.func33, Tryz.ntmps33
  go_wp2_with fail
  refine (is_any (0, y) _).mono ?_
  rintro r w2 ⟨rfl, hb2⟩
  have e1 : (((0, y) : Int × Int).1 == 0) = true := rfl
  rw [e1]
  go_wp2
  go_end0
  exact ⟨rfl, hb2⟩
/-- The results' variables. -/
structure Res (w : World) (O N F : Nat) (v : Value) (n x y : Int) : Prop where
  o : w.cell? ⟨O, 0, none⟩ = some v
  fo : w.frozen? ⟨O, 0, none⟩ = false
  n : w.cell? ⟨N, 0, none⟩ = some (.int .i64 n)
  fn : w.frozen? ⟨N, 0, none⟩ = false
  x : w.cell? ⟨F, 0, none⟩ = some (.int .i64 x)
  y : w.cell? ⟨F, 1, none⟩ = some (.int .i64 y)
  fx : w.frozen? ⟨F, 0, none⟩ = false
  fy : w.frozen? ⟨F, 1, none⟩ = false
theorem Res.keep {w w' : World} {O N F B : Nat} {v : Value} {n x y : Int} (h : Res w O N F v n x y) (hb : Below B w w') (h1 : O < B) (h2 : N < B) (h3 : F < B) : Res w' O N F v n x y :=
  ⟨(hb.cell (p := ⟨O, 0, none⟩) h1).trans h.o, (hb.frozen (p := ⟨O, 0, none⟩) h1).trans h.fo, (hb.cell (p := ⟨N, 0, none⟩) h2).trans h.n, (hb.frozen (p := ⟨N, 0, none⟩) h2).trans h.fn, (hb.cell (p := ⟨F, 0, none⟩) h3).trans h.x, (hb.cell (p := ⟨F, 1, none⟩) h3).trans h.y, (hb.frozen (p := ⟨F, 0, none⟩) h3).trans h.fx, (hb.frozen (p := ⟨F, 1, none⟩) h3).trans h.fy⟩
theorem Res.below {w w' : World} {O N F : Nat} {v : Value} {n x y : Int} (h : Res w O N F v n x y) (hb : Below w.heap.size w w') : Res w' O N F v n x y := h.keep hb (cell_lt h.o) (cell_lt h.n) (cell_lt h.x)
theorem res_ne {w : World} {B i j : Nat} {v u : Value} (h : w.cell? ⟨B, j, none⟩ = some u) (hij : i ≠ j) : (w.setCell ⟨B, i, none⟩ v).cell? ⟨B, j, none⟩ = some u := by
  rw [World.cell?_setCell_other _ _ _ _ (by intro h; injection h with _ h2; exact hij (by first | exact h2 | exact h2.symm | injection h2))]
  exact h
theorem res_nb {w : World} {B C i j : Nat} {v u : Value} (h : w.cell? ⟨C, j, none⟩ = some u) (hij : B ≠ C) : (w.setCell ⟨B, i, none⟩ v).cell? ⟨C, j, none⟩ = some u := by
  rw [World.cell?_setCell_other _ _ _ _ (by intro h; injection h with h1 _; exact hij (by first | exact h1 | exact h1.symm))]
  exact h
theorem Res.setF {w : World} {O N F : Nat} {v : Value} {n x y : Int} (h : Res w O N F v n x y) (h1 : F ≠ O) (h2 : F ≠ N) (x' y' : Int) : Res ((w.setCell ⟨F, 0, none⟩ (.int .i64 x')).setCell ⟨F, 1, none⟩ (.int .i64 y')) O N F v n x' y' :=
  ⟨res_nb (res_nb h.o h1) h1, by simpa using h.fo, res_nb (res_nb h.n h2) h2, by simpa using h.fn, res_ne (World.cell?_setCell_same _ _ _ h.x) (by omega), World.cell?_setCell_same _ _ _ (res_ne h.y (by omega)), by simpa using h.fx, by simpa using h.fy⟩
theorem Res.setO {w : World} {O N F : Nat} {v : Value} {n x y : Int} (h : Res w O N F v n x y) (h1 : O ≠ N) (h2 : O ≠ F) (v' : Value) : Res (w.setCell ⟨O, 0, none⟩ v') O N F v' n x y :=
  ⟨World.cell?_setCell_same _ _ _ h.o, by simpa using h.fo, res_nb h.n h1, by simpa using h.fn, res_nb h.x h2, res_nb h.y h2, by simpa using h.fx, by simpa using h.fy⟩
theorem Res.setN {w : World} {O N F : Nat} {v : Value} {n x y : Int} (h : Res w O N F v n x y) (h1 : N ≠ O) (h2 : N ≠ F) (n' : Int) : Res (w.setCell ⟨N, 0, none⟩ (.int .i64 n')) O N F v n' x y :=
  ⟨res_nb h.o h1, by simpa using h.fo, World.cell?_setCell_same _ _ _ h.n, by simpa using h.fn, res_nb h.x h2, res_nb h.y h2, by simpa using h.fx, by simpa using h.fy⟩
theorem Res.new (w : World) (t1 t2 t3 : TypeId) : Res (((w.alloc (.cells #[.slice none 0 0] t1)).alloc (.cells #[.int .i64 0] t2)).alloc (.cells #[.int .i64 0, .int .i64 0] t3)) w.heap.size (w.heap.size + 1) (w.heap.size + 1 + 1) (.slice none 0 0) 0 0 0 := by
  have b1 := below1 (w.alloc (.cells #[.slice none 0 0] t1)) (.cells #[.int .i64 0] t2)
  have b2 := below1 ((w.alloc (.cells #[.slice none 0 0] t1)).alloc (.cells #[.int .i64 0] t2)) (.cells #[.int .i64 0, .int .i64 0] t3)
  have l1 : (w.alloc (.cells #[.slice none 0 0] t1)).heap.size = w.heap.size + 1 := by simp
  have l2 : ((w.alloc (.cells #[.slice none 0 0] t1)).alloc (.cells #[.int .i64 0] t2)).heap.size = w.heap.size + 1 + 1 := by simp
  have o1 : (w.alloc (.cells #[.slice none 0 0] t1)).cell? ⟨w.heap.size, 0, none⟩ = some (.slice none 0 0) := by rw [World.cell?_alloc_new]; rfl
  have n1 : ((w.alloc (.cells #[.slice none 0 0] t1)).alloc (.cells #[.int .i64 0] t2)).cell? ⟨w.heap.size + 1, 0, none⟩ = some (.int .i64 0) := by rw [← l1, World.cell?_alloc_new]; rfl
  have o2 := (b1.cell (cell_lt o1)).trans o1
  have T := Two.new ((w.alloc (.cells #[.slice none 0 0] t1)).alloc (.cells #[.int .i64 0] t2)) 0 0 t3
  rw [l2] at T
  refine ⟨(b2.cell (cell_lt o2)).trans o2, ?_, (b2.cell (cell_lt n1)).trans n1, ?_, T.c0, T.c1, T.f0, T.f1⟩
  · rw [b2.frozen (p := ⟨w.heap.size, 0, none⟩) (cell_lt o2), b1.frozen (p := ⟨w.heap.size, 0, none⟩) (cell_lt o1)]; simp
  · rw [b2.frozen (p := ⟨w.heap.size + 1, 0, none⟩) (cell_lt n1), ← l1]; simp
theorem fix_bad (F O N : Nat) (v : Value) (n x y : Int) (w : World) (h : Res w O N F v n x y) (hx : x ≠ 0) (h1 : O ≠ N) (h2 : O ≠ F) (h3 : N ≠ F) :
    CallsD Tryz.prog 33 #[.pointer (some ⟨F, 0, none⟩), .pointer (some ⟨O, 0, none⟩), .pointer (some ⟨N, 0, none⟩)] .returning w fun e u' w' => u' = .returning ∧ (e = .returned (.tuple #[]) ∧ Res w' O N F (.slice none 0 0) 0 x (-1) ∧ ∀ B, B ≤ O → B ≤ N → B ≤ F → Below B w w') := by
  have HR := h
  obtain ⟨r0, r1, r2, r3, r4, r5, r6, r7⟩ := h
  have e1 : (((x, y) : Int × Int).1 == 0) = false := by simpa using hx
  go_enter_d Tryz.func33, Tryz.ntmps33
  go_wp2_with fail
  refine (is_any (x, y) _).mono ?_
  rintro r w2 ⟨rfl, hb2⟩
  rw [e1]
  have HR2 := HR.below hb2
  obtain ⟨k0, k1, k2, k3, k4, k5, k6, k7⟩ := HR2
  clear r0 r1 r2 r3 r4 r5 r6 r7
  go_wp2_with fail
  refine (bareF_any x _).mono ?_
  rintro r w3 ⟨rfl, hb3⟩
  have HR3 := (HR.below hb2).below hb3
  have HZ := ((HR3.setO h1 h2 (.slice none 0 0)).setN (Ne.symm h1) h3 0).setF (Ne.symm h2) (Ne.symm h3) x (-1)
  have hb := hb2.trans (hb3.mono hb2.size)
  have lO := cell_lt HR.o
  obtain ⟨j0, j1, j2, j3, j4, j5, j6, j7⟩ := HR3
  clear k0 k1 k2 k3 k4 k5 k6 k7
  go_wp2
  go_end0
  exact ⟨rfl, HZ, fun B q1 q2 q3 => ((((hb.mono (by omega)).setCell (p := ⟨O, 0, none⟩) q1 _).setCell (p := ⟨N, 0, none⟩) q2 _).setCell (p := ⟨F, 0, none⟩) q3 _).setCell (p := ⟨F, 1, none⟩) q3 _⟩
set_option maxHeartbeats 4000000 in
set_option maxRecDepth 100000 in
theorem rvread_any (s : ByteArray) (w : World) (hs : s.size ≤ 1000000) :
    Calls Tryz.prog 13 #[.string s] w fun e w' => ∃ v, e = .returned (.tuple #[v, .int .i64 ((vread s).2.1 : Int), faultV ((vread s).2.2, -1)]) ∧ w'.ownsRow w.heap.size 62 2 v (vread s).1.length (entV (vread s).1) ∧ Below w.heap.size w w' := by
  have hmf : ∀ (fn : Fn) (first cap : Array Value) (w : World), (Instr.makeFunc fn first cap).run Tryz.prog w = .ok (.func fn first cap) w := fun _ _ _ _ => rfl
  have hR := Res.new w 22 3 28
  have b0 := ((below1 w (.cells #[.slice none 0 0] 22)).alloc (by simp) (.cells #[.int .i64 0] 3)).alloc (by simp; omega) (.cells #[.int .i64 0, .int .i64 0] 28)
  go_enter_defers Tryz.func13, Tryz.ntmps13
  go_wp2_with fail
  generalize ((w.alloc (.cells #[.slice none 0 0] 22)).alloc (.cells #[.int .i64 0] 3)).alloc (.cells #[.int .i64 0, .int .i64 0] 28) = W at *
  obtain ⟨N, hN⟩ : ∃ N, N = w.heap.size + 1 := ⟨_, rfl⟩
  obtain ⟨F, hF⟩ : ∃ F, F = w.heap.size + 1 + 1 := ⟨_, rfl⟩
  rw [← hF, ← hN] at hR
  rw [← hF, ← hN]
  have n1 : w.heap.size ≠ N := by omega
  have n2 : w.heap.size ≠ F := by omega
  have n3 : N ≠ F := by omega
  have l2 : w.heap.size ≤ N := by omega
  have l3 : w.heap.size ≤ F := by omega
  clear hN hF
  refine (good_any _).mono ?_
  rintro r w1 ⟨rfl, hb1⟩
  have b1 := b0.trans (hb1.mono b0.size)
  have hR1 := hR.below hb1
  have hR2 := hR1.setF (Ne.symm n2) (Ne.symm n3) 0 (-1)
  have b2 := (b1.setCell (p := ⟨F, 0, none⟩) l3 (.int .i64 0)).setCell (p := ⟨F, 1, none⟩) l3 (.int .i64 (-1))
  obtain ⟨r0, r1, r2, r3, r4, r5, r6, r7⟩ := hR1
  clear hR b0 hb1 b1
  go_wp2_with fail
  have hsz : ((w1.setCell ⟨F, 0, none⟩ (.int .i64 0)).setCell ⟨F, 1, none⟩ (.int .i64 (-1))).heap.size = w1.heap.size := by simp
  have qO := cell_lt r0
  have qN := cell_lt r2
  have qF := cell_lt r4
  simp only at qO qN qF
  clear r0 r1 r2 r3 r4 r5 r6 r7
  generalize (w1.setCell ⟨F, 0, none⟩ (.int .i64 0)).setCell ⟨F, 1, none⟩ (.int .i64 (-1)) = V at *
  rw [← hsz] at qO qN qF ⊢
  have hRS := hR2.below (below1 V (.cells #[.string s, .int .i64 0] 45))
  have b3 := b2.alloc b2.size (.cells #[.string s, .int .i64 0] 45)
  have hSc : Sc (V.alloc (.cells #[.string s, .int .i64 0] 45)) V.heap.size s 0 := ⟨by rw [World.cell?_alloc_new]; rfl, by rw [World.cell?_alloc_new]; rfl, by simp⟩
  generalize hB : V.heap.size = B at *
  have hW3 : (V.alloc (.cells #[.string s, .int .i64 0] 45)).heap.size = B + 1 := by simp [hB]
  generalize V.alloc (.cells #[.string s, .int .i64 0] 45) = W3 at *
  clear hB hsz hR2 b2
  refine (entries_any s B W3 hs hSc).mono ?_
  rintro e w4 h4
  rcases h4 with ⟨he, v, rfl, hT, hsc, hb4⟩ | ⟨he, q, rfl, hb4⟩
  · have hR4 := hRS.keep hb4 qO qN qF
    have b4 := b3.trans (hb4.mono (by omega))
    have HE := Lib.hid he
    clear he
    obtain ⟨A9, c9, rfl⟩ := own_form hT
    have hZ := (((hR4.setO n1 n2 (.slice A9 (vread s).1.length c9)).setO n1 n2 (.slice A9 (vread s).1.length c9)).setN (Ne.symm n1) n3 ((vread s).2.1 : Int)).setF (Ne.symm n2) (Ne.symm n3) 0 (-1)
    have hO := own_set (.int .i64 (-1)) (j := 1) (own_set (.int .i64 0) (j := 0) (own_set (.int .i64 ((vread s).2.1 : Int)) (j := 0) (own_set (.slice A9 (vread s).1.length c9) (j := 0) (own_set (.slice A9 (vread s).1.length c9) (j := 0) hT (show w.heap.size < W3.heap.size by omega)) (show w.heap.size < W3.heap.size by omega)) (show N < W3.heap.size by omega)) (show F < W3.heap.size by omega)) (show F < W3.heap.size by omega)
    have bZ := ((((b4.setCell (p := ⟨w.heap.size, 0, none⟩) (Nat.le_refl _) (.slice A9 (vread s).1.length c9)).setCell (p := ⟨w.heap.size, 0, none⟩) (Nat.le_refl _) (.slice A9 (vread s).1.length c9)).setCell (p := ⟨N, 0, none⟩) l2 (.int .i64 ((vread s).2.1 : Int))).setCell (p := ⟨F, 0, none⟩) l3 (.int .i64 0)).setCell (p := ⟨F, 1, none⟩) l3 (.int .i64 (-1))
    obtain ⟨r0, r1, r2, r3, r4, r5, r6, r7⟩ := hR4
    obtain ⟨s0, s1, _⟩ := hsc
    have s1' := res_nb (i := 0) (v := .slice A9 (vread s).1.length c9) s1 (show w.heap.size ≠ B by omega)
    go_wp2
    go_region
    go_wp2
    generalize ((((w4.setCell ⟨w.heap.size, 0, none⟩ (.slice A9 (vread s).1.length c9)).setCell ⟨w.heap.size, 0, none⟩ (.slice A9 (vread s).1.length c9)).setCell ⟨N, 0, none⟩ (.int .i64 ((vread s).2.1 : Int))).setCell ⟨F, 0, none⟩ (.int .i64 0)).setCell ⟨F, 1, none⟩ (.int .i64 (-1)) = W5 at *
    refine leaves_cons (f := 12) (args := #[.pointer (some ⟨F, 0, none⟩)]) (by simp) (by simp [go_sem]) ?_
    refine (caught_idle F _).mono ?_
    rintro e u' w' ⟨rfl, rfl, rfl⟩
    show Leaves _ _ _ _ _ .returning _
    refine leaves_cons (f := 33) (args := #[.pointer (some ⟨F, 0, none⟩), .pointer (some ⟨w.heap.size, 0, none⟩), .pointer (some ⟨N, 0, none⟩)]) (by simp) (by simp [go_sem]) ?_
    refine (fix_good F w.heap.size N (-1) W5.drew hZ.x hZ.y).mono ?_
    rintro e u' w' ⟨rfl, rfl, hb⟩
    have hZ' := Res.below (w := W5.drew) ⟨hZ.o, hZ.fo, hZ.n, hZ.fn, hZ.x, hZ.y, hZ.fx, hZ.fy⟩ hb
    have hO' := own_below (w := W5.drew) hO hb
    have bF := bZ.drew.trans (hb.mono bZ.size)
    obtain ⟨z0, _, z2, _, z4, z5, _, _⟩ := hZ'
    show Leaves _ _ _ _ [] .returning _
    refine ⟨.tuple #[.slice A9 (vread s).1.length c9, .int .i64 ((vread s).2.1 : Int), .agg #[.int .i64 0, .int .i64 (-1)]], by simp [results, Tryz.results13, go_sem, z0, z2, z4, z5], .slice A9 (vread s).1.length c9, by rw [HE.out]; rfl, own_less hO' (by omega), bF⟩
  · have hR4 := hRS.keep hb4 qO qN qF
    have b4 := b3.trans (hb4.mono (by omega))
    obtain ⟨v1, v2⟩ := vread_none he
    have HE := Lib.hid he
    have V1 := Lib.hid v1
    have V2 := Lib.hid v2
    clear he v1 v2
    have HR := hR4
    obtain ⟨r0, r1, r2, r3, r4, r5, r6, r7⟩ := hR4
    go_wp2
    refine leaves_cons (f := 12) (args := #[.pointer (some ⟨F, 0, none⟩)]) (by simp) (by simp [go_sem]) ?_
    refine (caught_hit F 0 (-1) (vread s).2.2 q [] _ r4 r5 r6 r7).mono ?_
    rintro e u' w' ⟨rfl, rfl, rfl⟩
    show Leaves _ _ _ _ _ .returning _
    have hZ := (HR.below (below1 w4 (.cells #[.int .i64 (vread s).2.2, .int .i64 q] 92))).setF (Ne.symm n2) (Ne.symm n3) (vread s).2.2 q
    have bZ := ((b4.alloc b4.size (.cells #[.int .i64 (vread s).2.2, .int .i64 q] 92)).setCell (p := ⟨F, 0, none⟩) l3 (.int .i64 (vread s).2.2)).setCell (p := ⟨F, 1, none⟩) l3 (.int .i64 q)
    refine leaves_cons (f := 33) (args := #[.pointer (some ⟨F, 0, none⟩), .pointer (some ⟨w.heap.size, 0, none⟩), .pointer (some ⟨N, 0, none⟩)]) (by simp) (by simp [go_sem]) ?_
    refine (fix_bad F w.heap.size N _ _ _ _ _ hZ HE.out n1 n2 n3).mono ?_
    rintro e u' w' ⟨rfl, rfl, hZ', hb⟩
    have bF := bZ.trans (hb w.heap.size (Nat.le_refl _) l2 l3)
    obtain ⟨z0, _, z2, _, z4, z5, _, _⟩ := hZ'
    show Leaves _ _ _ _ [] .returning _
    refine ⟨.tuple #[.slice none 0 0, .int .i64 0, .agg #[.int .i64 (vread s).2.2, .int .i64 (-1)]], by simp [results, Tryz.results13, go_sem, z0, z2, z4, z5], .slice none 0 0, by rw [V2.out]; rfl, by rw [V1.out]; exact World.ownsRow_nil _ _ _ _, bF⟩
end Go.Proofs.YtnaclpfcldoebaaGreatDoor
end

section
namespace Go.Proofs.YtnaclpfcldoebaaGreatDoor
open Go.RowKit

/-- An id: a time and a replica. -/
abbrev Id := Int × Int
def idV (x : Id) : Value := .agg #[.int .i64 x.1, .int .i64 x.2]
def idRight (x : Id) : Bool := decide (1 ≤ x.1 ∧ x.1 ≤ 1099511627776 ∧ 0 ≤ x.2 ∧ x.2 ≤ 200)
def idLess (a b : Id) : Bool := decide (a.1 < b.1 ∨ (a.1 = b.1 ∧ a.2 < b.2))
def idCmp (a b : Id) : Int := if a.1 < b.1 ∨ (a.1 = b.1 ∧ a.2 < b.2) then -1 else if a = b then 0 else 1
theorem below1 (w : World) (o : Obj) : Below w.heap.size w (w.alloc o) := (Below.refl _ _).alloc (Nat.le_refl _) o
theorem below2 (w : World) (o o' : Obj) : Below w.heap.size w ((w.alloc o).alloc o') := (below1 w o).alloc (by simp) o'
theorem idright_any (t r : Int) (w : World) :
    Calls Tryz.prog 58 #[.agg #[.int .i64 t, .int .i64 r]] w fun e w' => e = .returned (.bool (idRight (t, r))) ∧ Below w.heap.size w w' := by
  go_enter Tryz.func58, Tryz.ntmps58
  go_wp2
  all_goals
    go_ret
    refine ⟨retB ?_, below1 _ _⟩
    unfold idRight
    first | (rw [decide_eq_decide]; omega) | (symm; rw [decide_eq_false_iff_not]; omega)
theorem ridright_any (t r : Int) (w : World) :
    Calls Tryz.prog 53 #[.agg #[.int .i64 t, .int .i64 r]] w fun e w' => e = .returned (.bool (idRight (t, r))) ∧ Below w.heap.size w w' := by
  go_enter Tryz.func53, Tryz.ntmps53
  go_wp2
  all_goals
    go_ret
    refine ⟨retB ?_, below1 _ _⟩
    unfold idRight
    first | (rw [decide_eq_decide]; omega) | (symm; rw [decide_eq_false_iff_not]; omega)
def cmpI (a b : Int) : Int := if a < b then -1 else if b < a then 1 else 0
theorem cmp_any (a b : Int) (w : World) :
    Calls Tryz.prog 61 #[.int .i64 a, .int .i64 b] w fun e w' => e = .returned (.int .i64 (cmpI a b)) ∧ w' = w := by
  rcases Int.lt_trichotomy a b with h | h | h
  · go_enter Tryz.func61, Tryz.ntmps61
    go_wp2
    go_ret
    exact ⟨retI (by unfold cmpI; rw [if_pos h]), rfl⟩
  · subst h
    go_enter Tryz.func61, Tryz.ntmps61
    go_wp2
    go_ret
    exact ⟨retI (by unfold cmpI; rw [if_neg (by omega), if_neg (by omega)]), rfl⟩
  · go_enter Tryz.func61, Tryz.ntmps61
    go_wp2
    go_ret
    exact ⟨retI (by unfold cmpI; rw [if_neg (by omega), if_pos h]), rfl⟩
def orI (a b : Int) : Int := if a = 0 then b else a
theorem orI_0 (b : Int) : orI 0 b = b := rfl
theorem orI_n (a b : Int) (h : ¬ a = 0) : orI a b = a := by unfold orI; rw [if_neg h]
def OrRel (a b : Int) (i : Value) : Prop := i = .int .i64 0 ∨ (i = .int .i64 1 ∧ a = 0) ∨ (i = .int .i64 2 ∧ a = 0 ∧ b = 0)
theorem or_any (a b : Int) (g : Nat) (w : World) (h0 : w.cell? ⟨g, 0, none⟩ = some (.int .i64 a)) (h1 : w.cell? ⟨g, 1, none⟩ = some (.int .i64 b)) :
    Calls Tryz.prog 60 #[.slice (some ⟨g, 0, none⟩) 2 2] w fun e w' => e = .returned (.int .i64 (orI a b)) ∧ w' = w := by
  go_enter Tryz.func60, Tryz.ntmps60
  go_wp2
  go_loop [5, 8] (fun _ i => OrRel a b i) (fun _ i => 2 - (intOf i).toNat)
  case atStart => exact .inl rfl
  case round =>
    rcases hrel with rfl | ⟨rfl, rfl⟩ | ⟨rfl, rfl, rfl⟩
    · by_cases ha : a = 0
      · subst ha
        go_wp2
        go_round
        case rel => exact .inr (.inl ⟨rfl, rfl⟩)
        case measure => simp [intOf]
      · have hb : (a != 0) = true := by rw [bne_iff_ne]; exact ha
        have hr := Lib.hid (orI_n a b ha)
        go_wp2
        go_ret
        exact ⟨retI hr.out.symm, rfl⟩
    · by_cases hb : b = 0
      · subst hb
        go_wp2
        go_round
        case rel => exact .inr (.inr ⟨rfl, rfl, rfl⟩)
        case measure => simp [intOf]
      · have hb' : (b != 0) = true := by rw [bne_iff_ne]; exact hb
        go_wp2
        go_ret
        exact ⟨rfl, rfl⟩
    · go_wp2
      go_ret
      exact ⟨rfl, rfl⟩
theorem new_drew (w : World) (c : Array Value) (t : TypeId) (n i : Nat) (v : Value) (hn : n = w.heap.size) (hv : c[i]? = some v) : (w.alloc (.cells c t)).drew.cell? ⟨n, i, none⟩ = some v := by
  show (w.alloc (.cells c t)).cell? ⟨n, i, none⟩ = some v
  rw [World.cell?_alloc_at c t n i hn, hv]
theorem idCmp_eq (t r t' r' : Int) : orI (cmpI t t') (cmpI r r') = idCmp (t, r) (t', r') := by
  have he : ((t, r) = (t', r')) ↔ (t = t' ∧ r = r') := by simp
  unfold orI cmpI idCmp
  simp only [he]
  by_cases a : t < t' <;> by_cases b : t' < t <;> by_cases c : r < r' <;> by_cases d : r' < r <;> by_cases e : t = t' <;> by_cases f : r = r' <;> simp [a, b, c, d, e, f] <;> omega
theorem below3 (w : World) (o o' o'' : Obj) : Below w.heap.size w (((w.alloc o).alloc o').alloc o'').drew := by
  have h : w.heap.size ≤ ((w.alloc o).alloc o').heap.size := by simp; omega
  exact ((below2 w o o').alloc h o'').drew
theorem compare_any (t r t' r' : Int) (w : World) :
    Calls Tryz.prog 51 #[.agg #[.int .i64 t, .int .i64 r], .agg #[.int .i64 t', .int .i64 r']] w fun e w' => e = .returned (.int .i64 (idCmp (t, r) (t', r'))) ∧ Below w.heap.size w w' := by
  go_enter Tryz.func51, Tryz.ntmps51
  go_wp2_with fail
  go_region_held3 (fun wx => wx.cell? ⟨w.heap.size, 0, none⟩ = some (.int .i64 t) ∧ wx.cell? ⟨w.heap.size, 1, none⟩ = some (.int .i64 r) ∧ wx.cell? ⟨w.heap.size + 1, 0, none⟩ = some (.int .i64 t') ∧ wx.cell? ⟨w.heap.size + 1, 1, none⟩ = some (.int .i64 r')) (go_keep)
    (first
      | (go_at_call_of 61 (Value.int .i64 t); refine (cmp_any t t' _).mono ?_; rintro e w' ⟨rfl, rfl⟩)
      | (go_at_call_of 61 (Value.int .i64 r); refine (cmp_any r r' _).mono ?_; rintro e w' ⟨rfl, rfl⟩)
      | (go_at_call 60; refine (or_any (cmpI t t') (cmpI r r') _ _ (new_drew _ _ _ _ 0 _ (by simp) rfl) (new_drew _ _ _ _ 1 _ (by simp) rfl)).mono ?_; rintro e w' ⟨rfl, rfl⟩))
  go_wp2
  go_ret
  exact ⟨retI (idCmp_eq t r t' r'), below3 _ _ _ _⟩
theorem idCmp_lt (t r t' r' : Int) (h : t < t' ∨ (t = t' ∧ r < r')) : idCmp (t, r) (t', r') = -1 := by unfold idCmp; rw [if_pos h]
theorem idCmp_same (t r : Int) : idCmp (t, r) (t, r) = 0 := by unfold idCmp; rw [if_neg (by simp), if_pos rfl]
theorem idCmp_gt (t r t' r' : Int) (h : ¬ (t < t' ∨ (t = t' ∧ r < r'))) (hn : ¬ (t = t' ∧ r = r')) : idCmp (t, r) (t', r') = 1 := by
  unfold idCmp; rw [if_neg h, if_neg (by simpa using hn)]
theorem rcompare_any (t r t' r' : Int) (w : World) :
    Calls Tryz.prog 41 #[.agg #[.int .i64 t, .int .i64 r], .agg #[.int .i64 t', .int .i64 r']] w fun e w' => e = .returned (.int .i64 (idCmp (t, r) (t', r'))) ∧ Below w.heap.size w w' := by
  rcases Int.lt_trichotomy t t' with h | h | h
  · have hr := Lib.hid (idCmp_lt t r t' r' (.inl h))
    go_enter Tryz.func41, Tryz.ntmps41
    go_wp2
    go_ret
    exact ⟨retI hr.out.symm, below2 _ _ _⟩
  · subst h
    rcases Int.lt_trichotomy r r' with h | h | h
    · have hr := Lib.hid (idCmp_lt t r t r' (.inr ⟨rfl, h⟩))
      go_enter Tryz.func41, Tryz.ntmps41
      go_wp2
      go_ret
      exact ⟨retI hr.out.symm, below2 _ _ _⟩
    · subst h
      have hr := Lib.hid (idCmp_same t r)
      go_enter Tryz.func41, Tryz.ntmps41
      go_wp2
      go_ret
      exact ⟨retI hr.out.symm, below2 _ _ _⟩
    · have hr := Lib.hid (idCmp_gt t r t r' (by omega) (by omega))
      have hne : (r == r') = false := beq_eq_false_iff_ne.2 (by omega)
      have hlt : decide (r < r') = false := decide_eq_false (by omega)
      go_enter Tryz.func41, Tryz.ntmps41
      go_wp2
      go_ret
      exact ⟨retI hr.out.symm, below2 _ _ _⟩
  · have hr := Lib.hid (idCmp_gt t r t' r' (by omega) (by omega))
    have hne : (t == t') = false := beq_eq_false_iff_ne.2 (by omega)
    have hlt : decide (t < t') = false := decide_eq_false (by omega)
    go_enter Tryz.func41, Tryz.ntmps41
    go_wp2
    go_ret
    exact ⟨retI hr.out.symm, below2 _ _ _⟩
def idWithin (x : Id) (f h : List Ent) : Bool := decide (vof f x.2 < x.1) && decide (x.1 ≤ vof h x.2)
theorem within1 {x : Id} {f h : List Ent} (a : vof f x.2 < x.1) : idWithin x f h = decide (x.1 ≤ vof h x.2) := by unfold idWithin; rw [decide_eq_true a, Bool.true_and]
theorem within0 {x : Id} {f h : List Ent} (a : ¬ vof f x.2 < x.1) : idWithin x f h = false := by unfold idWithin; rw [decide_eq_false a, Bool.false_and]
theorem iwithin_any (t r : Int) (n n' c c' : Nat) (A A' : Option Addr) (l l' : List Ent) (w : World) (h : Ents w w.heap.size A n l) (h' : Ents w w.heap.size A' n' l') (hn : n ≤ maxLen) (hn' : n' ≤ maxLen) :
    Calls Tryz.prog 52 #[.agg #[.int .i64 t, .int .i64 r], .slice A n c, .slice A' n' c'] w fun e w' => e = .returned (.bool (idWithin (t, r) l l')) ∧ Below w.heap.size w w' := by
  by_cases g : vof l r < t
  · have hr := Lib.hid (within1 (x := (t, r)) (h := l') g)
    have b0 : Below w.heap.size w (w.alloc (.cells #[.int .i64 t, .int .i64 r] 57)) := below1 _ _
    have c0 := Inv.cell (w := w.alloc (.cells #[.int .i64 t, .int .i64 r] 57)) (a := ⟨w.heap.size, 0, none⟩) (v := .int .i64 t) (by rw [World.cell?_alloc_new]; rfl)
    have c1 := Inv.cell (w := w.alloc (.cells #[.int .i64 t, .int .i64 r] 57)) (a := ⟨w.heap.size, 1, none⟩) (v := .int .i64 r) (by rw [World.cell?_alloc_new]; rfl)
    go_enter Tryz.func52, Tryz.ntmps52
    go_wp2_with fail
    refine wp_region_inv (by kernel_rfl) (by kernel_rfl) ?_
    repeat (go_big_quiet_step ((first
        | (go_at_call_of 59 (Value.slice A n c); exact Calls.inv_of (of_any _ n c A l r (h.inv b0 _) hn))
        | (go_at_call_of 59 (Value.slice A' n' c'); exact Calls.inv_of (of_any _ n' c' A' l' r (h'.inv b0 _) hn')))))
    refine wpQuiet_nil ?_
    intro _ hw'
    obtain ⟨x, rfl⟩ := hw'
    go_wp2
    go_ret
    exact ⟨retB hr.out.symm, b0.trans (x.below.mono b0.size)⟩
  · have hr := Lib.hid (within0 (x := (t, r)) (h := l') g)
    have g' : decide (vof l r < t) = false := decide_eq_false g
    have b0 : Below w.heap.size w (w.alloc (.cells #[.int .i64 t, .int .i64 r] 57)) := below1 _ _
    have c0 := Inv.cell (w := w.alloc (.cells #[.int .i64 t, .int .i64 r] 57)) (a := ⟨w.heap.size, 0, none⟩) (v := .int .i64 t) (by rw [World.cell?_alloc_new]; rfl)
    have c1 := Inv.cell (w := w.alloc (.cells #[.int .i64 t, .int .i64 r] 57)) (a := ⟨w.heap.size, 1, none⟩) (v := .int .i64 r) (by rw [World.cell?_alloc_new]; rfl)
    go_enter Tryz.func52, Tryz.ntmps52
    go_wp2_with fail
    refine wp_region_inv (by kernel_rfl) (by kernel_rfl) ?_
    repeat (go_big_quiet_step ((first
        | (go_at_call_of 59 (Value.slice A n c); exact Calls.inv_of (of_any _ n c A l r (h.inv b0 _) hn))
        | (go_at_call_of 59 (Value.slice A' n' c'); exact Calls.inv_of (of_any _ n' c' A' l' r (h'.inv b0 _) hn')))))
    refine wpQuiet_nil ?_
    intro _ hw'
    obtain ⟨x, rfl⟩ := hw'
    go_wp2
    go_ret
    exact ⟨retB hr.out.symm, b0.trans (x.below.mono b0.size)⟩
theorem rwithin_any (t r : Int) (n n' c c' : Nat) (A A' : Option Addr) (l l' : List Ent) (w : World) (h : Ents w w.heap.size A n l) (h' : Ents w w.heap.size A' n' l') (hn : n ≤ maxLen) (hn' : n' ≤ maxLen) :
    Calls Tryz.prog 42 #[.agg #[.int .i64 t, .int .i64 r], .slice A n c, .slice A' n' c'] w fun e w' => e = .returned (.bool (idWithin (t, r) l l')) ∧ Below w.heap.size w w' := by
  by_cases g : vof l r < t
  · have hr := Lib.hid (within1 (x := (t, r)) (h := l') g)
    have b0 : Below w.heap.size w (w.alloc (.cells #[.int .i64 t, .int .i64 r] 57)) := below1 _ _
    have c0 := Inv.cell (w := w.alloc (.cells #[.int .i64 t, .int .i64 r] 57)) (a := ⟨w.heap.size, 0, none⟩) (v := .int .i64 t) (by rw [World.cell?_alloc_new]; rfl)
    have c1 := Inv.cell (w := w.alloc (.cells #[.int .i64 t, .int .i64 r] 57)) (a := ⟨w.heap.size, 1, none⟩) (v := .int .i64 r) (by rw [World.cell?_alloc_new]; rfl)
    go_enter Tryz.func42, Tryz.ntmps42
    go_wp2_with fail
    refine wp_region_inv (by kernel_rfl) (by kernel_rfl) ?_
    repeat (go_big_quiet_step ((first
        | (go_at_call_of 56 (Value.slice A n c); exact Calls.inv_same (rof_any _ n c A l r (h.inv b0 _) hn))
        | (go_at_call_of 56 (Value.slice A' n' c'); exact Calls.inv_same (rof_any _ n' c' A' l' r (h'.inv b0 _) hn')))))
    refine wpQuiet_nil ?_
    intro _ hw'
    obtain ⟨x, rfl⟩ := hw'
    go_wp2
    go_ret
    exact ⟨retB hr.out.symm, b0.trans (x.below.mono b0.size)⟩
  · have hr := Lib.hid (within0 (x := (t, r)) (h := l') g)
    have g' : decide (vof l r < t) = false := decide_eq_false g
    have b0 : Below w.heap.size w (w.alloc (.cells #[.int .i64 t, .int .i64 r] 57)) := below1 _ _
    have c0 := Inv.cell (w := w.alloc (.cells #[.int .i64 t, .int .i64 r] 57)) (a := ⟨w.heap.size, 0, none⟩) (v := .int .i64 t) (by rw [World.cell?_alloc_new]; rfl)
    have c1 := Inv.cell (w := w.alloc (.cells #[.int .i64 t, .int .i64 r] 57)) (a := ⟨w.heap.size, 1, none⟩) (v := .int .i64 r) (by rw [World.cell?_alloc_new]; rfl)
    go_enter Tryz.func42, Tryz.ntmps42
    go_wp2_with fail
    refine wp_region_inv (by kernel_rfl) (by kernel_rfl) ?_
    repeat (go_big_quiet_step ((first
        | (go_at_call_of 56 (Value.slice A n c); exact Calls.inv_same (rof_any _ n c A l r (h.inv b0 _) hn))
        | (go_at_call_of 56 (Value.slice A' n' c'); exact Calls.inv_same (rof_any _ n' c' A' l' r (h'.inv b0 _) hn')))))
    refine wpQuiet_nil ?_
    intro _ hw'
    obtain ⟨x, rfl⟩ := hw'
    go_wp2
    go_ret
    exact ⟨retB hr.out.symm, b0.trans (x.below.mono b0.size)⟩
end Go.Proofs.YtnaclpfcldoebaaGreatDoor
end
