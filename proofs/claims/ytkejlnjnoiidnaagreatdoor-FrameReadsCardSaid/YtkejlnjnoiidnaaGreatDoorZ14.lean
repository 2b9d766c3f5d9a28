/- vector.Read says what vread says.

A region that draws its order and one of whose calls may throw: by an invariant, each operation looked at once. Any program.

What body.Read throws; a reader's check, number, vector and kind.

A reader's kind and vector.

A region that draws its order, its calls may throw: by an invariant, each operation looked at once; what has come up is closed under what it waits for. Any program.

A reader's vector. Printed by gen_reader.py out of reader.src. -/
import Derived.Test.YtkejlnjnoiidnaaGreatDoorZ13
import Derived.Test.YtkejlnjnoiidnaaGreatDoorZ10
import Derived.Test.YtkejlnjnoiidnaaGreatDoorZ12
import Derived.Test.YtkejlnjnoiidnaaGreatDoorZ4
section
namespace Go.Proofs.YtkejlnjnoiidnaaGreatDoor
set_option linter.unusedSimpArgs false
set_option linter.unusedVariables false
open Go.RowKit As
theorem jx0 (a b : Value) (w : World) : (Instr.index 204 (.agg #[a, b]) (.int .i64 0)).run Tryz.prog w = .ok a w := by kernel_rfl
theorem jx1 (a b : Value) (w : World) : (Instr.index 204 (.agg #[a, b]) (.int .i64 1)).run Tryz.prog w = .ok b w := by kernel_rfl
/-- Two numbers of a run: how far they have been read. -/
def NumRel (s : ByteArray) (p : Nat) (w : World) (g : Nat) (pv iv : Value) (wx : World) : Prop :=
 Below w.heap.size w wx ∧ (
  (iv = .int .i64 0 ∧ pv = .int .i64 (p : Int) ∧ Two wx g 0 0) ∨
  (iv = .int .i64 1 ∧ ∃ n k : Nat, vat s p 200 = (n, k, 0) ∧ (n : Int) ≤ 200 ∧ p + k ≤ s.size ∧ pv = .int .i64 ((p + k : Nat) : Int) ∧ Two wx g n 0) ∨
  (iv = .int .i64 2 ∧ ∃ n k m j : Nat, vat s p 200 = (n, k, 0) ∧ (n : Int) ≤ 200 ∧ vat s (p + k) 16 = (m, j, 0) ∧ (m : Int) ≤ 16 ∧ p + k + j ≤ s.size ∧ pv = .int .i64 ((p + k + j : Nat) : Int) ∧ Two wx g n m))
theorem Two.set0 {w : World} {g : Nat} {a b : Int} (h : Two w g a b) (x : Int) : Two (w.setCell ⟨g, 0, none⟩ (.int .i64 x)) g x b :=
 ⟨World.cell?_setCell_same _ _ _ h.c0, res_ne h.c1 (by omega), by simpa using h.f0, by simpa using h.f1⟩
theorem Two.set1 {w : World} {g : Nat} {a b : Int} (h : Two w g a b) (x : Int) : Two (w.setCell ⟨g, 1, none⟩ (.int .i64 x)) g a x :=
 ⟨res_ne h.c0 (by omega), World.cell?_setCell_same _ _ _ h.c1, by simpa using h.f0, by simpa using h.f1⟩
/-- The replica of the run behind a gap, as vector.Read has it. -/
theorem gap_next {r g i : Nat} (hr : r ≤ 10000) (hg : (g : Int) ≤ 200) (hi : decide (r < 1) = decide (i = 0)) :
    ∃ R : Nat, (r ≤ R ∧ R ≤ r + 201) ∧ (r : Int) + (g : Int) + (if decide (r < 1) then 0 else 1) = (R : Int) ∧ IntKind.i64.wrap ((r : Int) + (g : Int)) = (r : Int) + (g : Int) ∧
      (decide ((0 : Int) < (i : Int)) = true ∧ decide (0 < i) = true ∧ IntKind.i64.wrap ((r : Int) + (g : Int) + 1) = (R : Int) ∨
       decide ((0 : Int) < (i : Int)) = false ∧ decide (0 < i) = false ∧ (r : Int) + (g : Int) = (R : Int)) := by
  have w0 : IntKind.i64.wrap ((r : Int) + (g : Int)) = (r : Int) + (g : Int) := IntWalk.i64_in _ (by omega)
  by_cases h : i = 0
  · rw [decide_eq_true h] at hi
    refine ⟨r + g, ⟨by omega, by omega⟩, by rw [hi, if_pos rfl]; omega, w0, .inr ⟨by simp only [decide_eq_false_iff_not]; omega, by simp only [decide_eq_false_iff_not]; omega, by omega⟩⟩
  · rw [decide_eq_false h] at hi
    refine ⟨r + g + 1, ⟨by omega, by omega⟩, by rw [hi, if_neg (by simp)]; omega, w0, .inl ⟨by simp only [decide_eq_true_eq]; omega, by simp only [decide_eq_true_eq]; omega, ?_⟩⟩
    rw [show (r : Int) + (g : Int) + 1 = ((r + g + 1 : Nat) : Int) by omega]
    exact IntWalk.i64_in _ (by omega)
set_option maxHeartbeats 4000000 in
set_option maxRecDepth 100000 in
theorem vecread_any (s : ByteArray) (w : World) (hs : s.size ≤ 1000000) (hg : Handle w) :
  Calls Tryz.prog 134 #[.string s] w fun e w' => ∃ v, e = .returned (.tuple #[v, .int .i64 ((vread s).2.1 : Int), errV (vread s).2.2]) ∧ w'.ownsRow w.heap.size 79 2 v (vread s).1.length (entV (vread s).1) ∧ Below w.heap.size w w' := by
 obtain ⟨i0, hi, hz0, hz1, hz2⟩ := info_parts entInfo
 obtain ⟨X, hX⟩ : ∃ X, X = vrall s := ⟨_, rfl⟩
 have HX := Lib.hid hX.symm
 clear hX
 obtain ⟨c, k, e, ha, hx⟩ := vat_of s 0 16
 have hsm : s.size ≤ maxLen := by unfold maxLen; omega
 have hv0 := Lib.hid (show vint s.data.toList 16 = (c, k, e) by rw [← ha]; unfold vat; rw [show s.extract 0 s.size = s from ByteArray.extract_zero_size])
 go_enter Tryz.func134, Tryz.ntmps134
 go_wp2_with fail
 refine (vint_any s 16 _ hsm (by omega)).mono ?_
 rintro r w' ⟨rfl, rfl⟩
 rw [hv0.out]
 simp only
 rcases hx with ⟨rfl, x1, x2, x3, x4⟩ | ⟨he, rfl, rfl⟩
 ·have HV := Lib.hid (HX.out.symm.trans (vrall_go ha))
  rw [errV_zero]
  have hc16 : c ≤ 16 := by omega
  have hk : k ≤ s.size := by omega
  clear ha x1 x2 x3 x4
  go_wp2
  go_loopw [6, 8, 9, 31] (fun pv ov rv iv wr => ∃ (d c' r p : Nat) (acc : List Ent), iv = .int .i64 d ∧ rv = .int .i64 r ∧ pv = .int .i64 p ∧ d + c' = c ∧ Hid (decide (r < 1) = decide (d = 0)) ∧ r ≤ 220 * (16 - c') ∧ p ≤ s.size ∧ Hid (X = vruns s c' (decide (r < 1)) (r : Int) p acc) ∧ (acc.length ≤ r ∧ Hid (AFits acc)) ∧ wr.ownsRow w.heap.size 79 2 ov acc.length (entV acc) ∧ Below w.heap.size w wr) (fun _ _ _ iv _ => c - (intOf iv).toNat)
  case atStart => exact ⟨0, c, 0, k, [], rfl, rfl, rfl, by omega, Lib.hid rfl, by omega, hk, HV, ⟨Nat.le_refl _, Lib.hid AFits.nil⟩, World.ownsRow_nil _ _ _ _, Below.refl _ _⟩
  case round =>
   obtain ⟨d, c', r, p, acc, rfl, rfl, rfl, hdc, HD, hr, hp, HR, ⟨hacc, HF⟩, hT, hbel⟩ := hrel
   clear HV
   have hB := hbel.size
   have hrr := small_r hr
   by_cases h0 : 1 ≤ c'
   ·obtain ⟨c2, hc2⟩ : ∃ c2, c' = c2 + 1 := ⟨c' - 1, by omega⟩
    have HR' := Lib.hid (show X = vruns s (c2 + 1) (decide (r < 1)) (r : Int) p acc by rw [← hc2]; exact HR.out)
    have hr' : r ≤ 220 * (16 - (c2 + 1)) := by omega
    have hcc : c2 + 1 ≤ 16 := by omega
    have hdc' : d < c := by omega
    have hdc2 : (d + 1) + c2 = c := by omega
    have t0 : decide ((d : Int) < (c : Int)) = true := by simp only [decide_eq_true_eq]; omega
    have t0' : decide (d < c) = true := by simp only [decide_eq_true_eq]; omega
    have dw : IntKind.i64.wrap ((d : Int) + 1) = ((d + 1 : Nat) : Int) := IntWalk.i64_in _ (by omega)
    clear hc2 HR h0 hr hdc
    have hTw := Two.new wr 0 0 204
    have bA := below1 wr (.cells #[.int .i64 0, .int .i64 0] 204)
    go_wp2
    generalize hG : wr.heap.size = g at *
    have hgB : w.heap.size ≤ g := hB
    have hi0 := jx0
    have hi1 := jx1
    go_loopw [6, 35] (fun pv iv wx => NumRel s p wr g pv iv wx) (fun _ iv _ => 2 - (intOf iv).toNat)
    case atStart => exact ⟨by rw [hG]; exact bA, .inl ⟨rfl, rfl, hTw⟩⟩
    case round =>
     obtain ⟨hbx, hcase⟩ := hrel
     clear bA hTw
     have bW := hbel.trans (hbx.mono (by rw [hG]; exact hgB))
     rcases hcase with ⟨rfl, rfl, hC⟩ | ⟨rfl, n, k, ha, hn, hk, rfl, hC⟩ | ⟨rfl, n, k, m, j, ha, hn, hb, hm, hk, rfl, hC⟩
     ·obtain ⟨n, k, e, ha, hx⟩ := vat_of s p 200
      have hl : (s.extract p s.size).size ≤ maxLen := by rw [ByteArray.size_extract]; unfold maxLen; omega
      have hv := Lib.hid (show vint (s.extract p s.size).data.toList 200 = (n, k, e) from ha)
      have q1 : (0 : Int) ≤ (p : Int) := by omega
      have q2 : (p : Int) ≤ (s.size : Int) := by omega
      have HA := Lib.hid ha
      clear ha
      go_wp2_with fail
      refine (vint_any (s.extract p s.size) 200 _ hl (by omega)).mono ?_
      rintro r w' ⟨rfl, rfl⟩
      rw [hv.out]
      simp only
      rcases hx with ⟨rfl, x1, x2, x3, x4⟩ | ⟨he, rfl, rfl⟩
      ·rw [errV_zero]
       have w1 : IntKind.i64.wrap ((p : Int) + (k : Int)) = ((p + k : Nat) : Int) := IntWalk.i64_in _ (by omega)
       have hCn := hC.set0 (n : Int)
       have bn := hbx.setCell (p := ⟨g, 0, none⟩) (by rw [hG]; exact Nat.le_refl _) (.int .i64 (n : Int))
       obtain ⟨k0, k1, f0, f1⟩ := hC
       go_wp2
       go_roundw
       case rel => exact ⟨bn, .inr (.inl ⟨rfl, n, k, HA.out, x1, x4, by go_num, hCn⟩)⟩
       case measure => simp [intOf]
      ·have HV := Lib.hid (vread_bad HX.out (vruns_gap' HR'.out HA.out he) he)
       have HE := Lib.hid he
       rw [errV_of he]
       clear he
       go_wp2
       go_ret3
       refine ⟨_, by rw [HV.out, errV_of HE.out]; rfl, ?_, bW⟩
       rw [HV.out]; exact World.ownsRow_nil _ _ _ _
     ·obtain ⟨m, j, e, hb, hx⟩ := vat_of s (p + k) 16
      have hl : (s.extract (p + k) s.size).size ≤ maxLen := by rw [ByteArray.size_extract]; unfold maxLen; omega
      have hv := Lib.hid (show vint (s.extract (p + k) s.size).data.toList 16 = (m, j, e) from hb)
      have q1 : (0 : Int) ≤ ((p + k : Nat) : Int) := by omega
      have q2 : ((p + k : Nat) : Int) ≤ (s.size : Int) := by omega
      have HA := Lib.hid ha
      have HB := Lib.hid hb
      clear ha hb
      obtain ⟨P, hP⟩ : ∃ P, P = p + k := ⟨_, rfl⟩
      rw [← hP] at hl hv q1 q2 HB hx hk ⊢
      have HP := Lib.hid hP
      clear hP
      go_wp2_with fail
      refine (vint_any (s.extract P s.size) 16 _ hl (by omega)).mono ?_
      rintro r w' ⟨rfl, rfl⟩
      rw [hv.out]
      simp only
      rcases hx with ⟨rfl, x1, x2, x3, x4⟩ | ⟨he, rfl, rfl⟩
      ·rw [errV_zero]
       have w1 : IntKind.i64.wrap ((P : Int) + (j : Int)) = ((P + j : Nat) : Int) := IntWalk.i64_in _ (by omega)
       have hCn := hC.set1 (m : Int)
       have bn := hbx.setCell (p := ⟨g, 1, none⟩) (by rw [hG]; exact Nat.le_refl _) (.int .i64 (m : Int))
       obtain ⟨k0, k1, f0, f1⟩ := hC
       go_wp2
       go_roundw
       case rel => exact ⟨bn, .inr (.inr ⟨rfl, n, k, m, j, HA.out, hn, by rw [← HP.out]; exact HB.out, x1, by rw [← HP.out]; exact x4, by rw [← HP.out]; go_num, hCn⟩)⟩
       case measure => simp [intOf]
      ·have HV := Lib.hid (vread_bad HX.out (vruns_len' HR'.out HA.out (show vat s (p + k) 16 = (0, 0, e) by rw [← HP.out]; exact HB.out) he) he)
       have HE := Lib.hid he
       rw [errV_of he]
       clear he
       go_wp2
       go_ret3
       refine ⟨_, by rw [HV.out, errV_of HE.out]; rfl, ?_, bW⟩
       rw [HV.out]; exact World.ownsRow_nil _ _ _ _
     ·obtain ⟨x, hx, hbad, hgo⟩ := vruns_go HR'.out ha hb
      obtain ⟨R, ⟨R0, R1⟩, hif, ww, ht⟩ := gap_next hrr hn HD.out
      rw [hif] at hx
      have HXX := Lib.hid hx
      have HBD := Lib.hid hbad
      have HGO := Lib.hid hgo
      have hT2 := own_below hT hbx
      have hRm := run_bound hr' hcc R1 hm
      have hm16 : m ≤ 16 := by omega
      have hma : acc.length ≤ R := Nat.le_trans hacc R0
      have wm : IntKind.i64.wrap ((m : Int) + 1) = ((m + 1 : Nat) : Int) := IntWalk.i64_in _ (by omega)
      obtain ⟨k0, k1, f0, f1⟩ := hC
      clear hx hbad hgo ha hb hif hbx hbel hT HR' hn hm hi0 hi1
      obtain ⟨P, hP⟩ : ∃ P, P = p + k + j := ⟨_, rfl⟩
      rw [← hP] at hk HXX ⊢
      clear hP
      obtain ⟨M, hM⟩ : ∃ M, M = m + 1 := ⟨_, rfl⟩
      rw [← hM] at wm HXX hRm
      have hM17 : M ≤ 17 := by omega
      have hM1 : 1 ≤ M := by omega
      clear hM
      rcases ht with ⟨t1, t1', t2⟩ | ⟨t1, t1', t2⟩
      all_goals
       go_wp2
       go_loopw [6, 8, 9, 69] (fun pv ov rv iv wy => ∃ (e2 c3 R2 p2 : Nat) (acc2 : List Ent), iv = .int .i64 e2 ∧ rv = .int .i64 R2 ∧ pv = .int .i64 p2 ∧ e2 + c3 = M ∧ R2 + c3 = R + M ∧ p2 ≤ s.size ∧ Hid (x = vtimes s c3 (R2 : Int) p2 acc2) ∧ (acc2.length ≤ R2 ∧ Hid (AFits acc2)) ∧ wy.ownsRow w.heap.size 79 2 ov acc2.length (entV acc2) ∧ Below w.heap.size w wy) (fun _ _ _ iv _ => M - (intOf iv).toNat)
       case atStart => exact ⟨0, M, R, P, acc, rfl, rfl, rfl, by omega, rfl, hk, HXX, ⟨hma, HF⟩, hT2, bW⟩
       case round =>
        obtain ⟨e2, c3, R2, p2, acc2, rfl, rfl, rfl, hec, hRc, hp2, HT, ⟨hacc2, HF2⟩, hT3, hb3⟩ := hrel
        clear hT2 bW t1 t1' t2 ww k0 k1 f0 f1
        have hB3 := hb3.size
        have hR2 : R2 ≤ 10000 := by omega
        by_cases h1 : 1 ≤ c3
        ·obtain ⟨c4, hc4⟩ : ∃ c4, c3 = c4 + 1 := ⟨c3 - 1, by omega⟩
         have HT' := Lib.hid (show x = vtimes s (c4 + 1) (R2 : Int) p2 acc2 by rw [← hc4]; exact HT.out)
         have hec' : e2 < M := by omega
         have hec4 : (e2 + 1) + c4 = M := by omega
         have hRc4 : (R2 + 1) + c4 = R + M := by omega
         have u0 : decide ((e2 : Int) < (M : Int)) = true := by simp only [decide_eq_true_eq]; omega
         have u0' : decide (e2 < M) = true := by simp only [decide_eq_true_eq]; omega
         have uw : IntKind.i64.wrap ((e2 : Int) + 1) = ((e2 + 1 : Nat) : Int) := IntWalk.i64_in _ (by omega)
         have ur : IntKind.i64.wrap ((R2 : Int) + 1) = ((R2 + 1 : Nat) : Int) := IntWalk.i64_in _ (by omega)
         obtain ⟨tm, k4, e, ht, hx⟩ := vat_of s p2 1099511627776
         have hl : (s.extract p2 s.size).size ≤ maxLen := by rw [ByteArray.size_extract]; unfold maxLen; omega
         have hv := Lib.hid (show vint (s.extract p2 s.size).data.toList 1099511627776 = (tm, k4, e) from ht)
         have q1 : (0 : Int) ≤ (p2 : Int) := by omega
         have q2 : (p2 : Int) ≤ (s.size : Int) := by omega
         have HTT := Lib.hid ht
         clear ht hc4 HT h1 hec hRc
         go_wp2_with fail
         refine (vint_any (s.extract p2 s.size) 1099511627776 _ hl (by omega)).mono ?_
         rintro r w' ⟨rfl, rfl⟩
         rw [hv.out]
         simp only
         rcases hx with ⟨rfl, x1, x2, x3, x4⟩ | ⟨he, rfl, rfl⟩
         ·rw [errV_zero]
          have HN := Lib.hid (vtimes_next' HT'.out HTT.out)
          have up : IntKind.i64.wrap ((p2 : Int) + (k4 : Int)) = ((p2 + k4 : Nat) : Int) := IntWalk.i64_in _ (by omega)
          have hlen : acc2.length ≤ 10000 := Nat.le_trans hacc2 hR2
          go_wp2_with (first
           | (at_builtin; refine wpList_append_own _ rfl (.tmp 82) (.tmp 86) 22 rfl w.heap.size 79 i0 (.agg #[.int .i64 0, .int .i64 0]) 2 16 Tryz.underlying22 hi hz0 hz1 hz2 rfl (by decide) u8 acc2.length (entV acc2) rfl (hT3.alloc _) ⟨wr.heap.size, 0, none⟩ 1 1 [.int .i64 (R2 : Int), .int .i64 (tm : Int)] rfl rfl (cells_ent _ _ _ _) (by intro u hu; simp at hu; rcases hu with rfl | rfl <;> rfl) (by unfold maxLen; omega) (by omega) (by simp; omega) ?_; intro v1 w6 hT6 hg6 _; have b6 := grown_own (hb3.alloc hB3 _) hg6 (by simp; omega) (hT3.alloc _); have hT7 := entV_snoc (x := ((R2 : Int), (tm : Int))) rfl hT6))
          go_roundw
          case rel => exact ⟨e2 + 1, c4, R2 + 1, p2 + k4, acc2 ++ [((R2 : Int), (tm : Int))], by go_num, by go_num, by go_num, hec4, hRc4, x4, HN, ⟨by rw [List.length_append]; exact Nat.succ_le_succ hacc2, Lib.hid (HF2.out.snoc hR2 x1)⟩, hT7, b6⟩
          case measure => simp [intOf]; omega
         ·have HXB := Lib.hid (vtimes_bad' HT'.out HTT.out he)
          have HV := Lib.hid (vread_bad HX.out (show X = ([], 0, e, 0) by have h5 := HBD.out (by rw [HXB.out]; exact he); rw [HXB.out] at h5; exact h5) he)
          have HE := Lib.hid he
          rw [errV_of he]
          clear he
          go_wp2
          go_ret3
          refine ⟨_, by rw [HV.out, errV_of HE.out]; rfl, ?_, hb3⟩
          rw [HV.out]; exact World.ownsRow_nil _ _ _ _
        ·have hc30 : c3 = 0 := by omega
         have HE0 := Lib.hid (show x = (acc2, p2, 0, (R2 : Int)) by rw [HT.out, hc30]; rfl)
         have hdec : decide (R2 < 1) = false := by simp only [decide_eq_false_iff_not]; omega
         have HR2 := Lib.hid (show X = vruns s c2 (decide (R2 < 1)) (R2 : Int) p2 acc2 by
          have h5 := HGO.out (by rw [HE0.out])
          rw [HE0.out] at h5
          rw [hdec]; exact h5)
         have hb220 : R2 ≤ 220 * (16 - c2) := by omega
         have u0 : decide ((e2 : Int) < (M : Int)) = false := by simp only [decide_eq_false_iff_not]; omega
         have u0' : decide (e2 < M) = false := by simp only [decide_eq_false_iff_not]; omega
         have HD2 := Lib.hid (show decide (R2 < 1) = decide (d + 1 = 0) by rw [hdec, decide_eq_false]; omega)
         clear hc30 hdec h1 hRc hec
         go_wp2
         go_roundw
         case rel => exact ⟨d + 1, c2, R2, p2, acc2, by go_num, rfl, rfl, hdc2, HD2, hb220, hp2, HR2, ⟨hacc2, HF2⟩, hT3, hb3⟩
         case measure => simp [intOf]; omega
   ·have hc0 : c' = 0 := by omega
    have HE0 := Lib.hid (show X = (acc, p, 0, (r : Int)) by rw [HR.out, hc0]; rfl)
    have t0 : decide ((d : Int) < (c : Int)) = false := by simp only [decide_eq_false_iff_not]; omega
    have t0' : decide (d < c) = false := by simp only [decide_eq_false_iff_not]; omega
    have hlen : acc.length ≤ maxLen := by unfold maxLen; omega
    obtain ⟨A9, c9, rfl⟩ := own_form hT
    have hE : Ents wr wr.heap.size A9 acc.length acc := ⟨Sl.of_own hT, HF.out⟩
    have hg1 := hg.below hbel
    clear hc0 h0 hr HR hdc
    go_wp2_with fail
    refine (vright_any wr acc.length c9 A9 acc hE hlen).mono ?_
    rintro e w1 ⟨v1, rfl, hv1, hb1⟩
    have hb01 := hbel.trans (hb1.mono hB)
    have hT1 := own_below hT hb1
    by_cases h1 : (vright acc).1 = 0
    ·have HV := Lib.hid (vread_good HX.out HE0.out h1)
     obtain rfl := err_nil hv1 h1
     clear hv1 h1
     go_wp2
     go_ret3
     refine ⟨_, by rw [HV.out]; rfl, ?_, hb01⟩
     rw [HV.out]; exact hT1
    ·have HV := Lib.hid (vread_false HX.out HE0.out h1)
     obtain ⟨ty, u, rfl⟩ := err_some hv1 h1
     have HE := Lib.hid h1
     have HVV := Lib.hid hv1
     clear h1 hv1
     go_wp2_with fail
     refine (tell_any HVV.out (hg.below hb01)).mono ?_
     rintro e w2 ⟨rfl, hb2⟩
     go_wp2
     go_ret3
     refine ⟨_, by rw [HV.out, errV_of HE.out]; rfl, ?_, hb01.trans (hb2.mono hb01.size)⟩
     rw [HV.out]; exact World.ownsRow_nil _ _ _ _
 ·have HV := Lib.hid (vread_bad HX.out (HX.out.symm.trans (vrall_bad ha he)) he)
  have HE := Lib.hid he
  rw [errV_of he]
  clear he ha
  go_wp2
  go_ret3
  refine ⟨_, by rw [HV.out, errV_of HE.out]; rfl, ?_, Below.refl _ _⟩
  rw [HV.out]; exact World.ownsRow_nil _ _ _ _
end Go.Proofs.YtkejlnjnoiidnaaGreatDoor
end

section
namespace Go.Proofs.YtkejlnjnoiidnaaGreatDoor.Flow
open Go
section
variable {P : Program} {ops : Array Oper} {Q : Exit → Act → World → Prop} {md : Region.Mode}
/-- What is asked of an operation's outcome, a call's panic let through. -/
def YlP (P : Program) (Z : List PanicEntry → World → Prop) (K : Value → World → Prop) : Result Next → Prop
 | .ok (.value v) w => K v w
 | .ok .skip w => K undef w
 | .ok (.enter f args) w => Calls P f args w fun e w' => (∃ v, e = .returned v ∧ K v w') ∨ ∃ ch, e = .panicked ch ∧ Z ch w'
 | .halt (.panic v) w => Z [{ v, recovered := false }] w
 | _ => False
variable {Z : List PanicEntry → World → Prop}
theorem ylP_value {K : Value → World → Prop} {v : Value} {w : World} : YlP P Z K (.ok (.value v) w) = K v w := rfl
theorem ylP_skip {K : Value → World → Prop} {w : World} : YlP P Z K (.ok .skip w) = K undef w := rfl
theorem ylP_enter {K : Value → World → Prop} {f : FuncId} {args : Array Value} {w : World} : YlP P Z K (.ok (.enter f args) w) = Calls P f args w fun e w' => (∃ v, e = .returned v ∧ K v w') ∨ ∃ ch, e = .panicked ch ∧ Z ch w' := rfl
theorem ylP_panic {K : Value → World → Prop} {v : Value} {w : World} : YlP P Z K (.halt (.panic v) w) = Z [{ v, recovered := false }] w := rfl
theorem YlP.upon {K : Value → World → Prop} {r : Result Next} (h : YlP P Z K r) {o : Oper} {a : Act} {K' : Act → World → Prop} (hK : ∀ v w, K v w → K' (a.put o.dst v) w) (hZ : ∀ ch w, Z ch w → Q (.panic ch) a w) : o.upon P a K' Q r := by
 cases r with
 | ok n w =>
  cases n with
  | value v => exact hK _ _ h
  | skip => exact hK _ _ h
  | enter f args =>
   refine Calls.mono h fun e w' he => ?_
   rcases he with ⟨v, rfl, h⟩ | ⟨ch, rfl, h⟩
   ·exact hK _ _ h
   ·exact hZ _ _ h
  | _ => exact absurd h (fun h => h)
 | halt x w =>
  cases x with
  | panic v => exact hZ _ _ h
  | _ => exact absurd h (fun h => h)
def Step3 {G : Type} (P : Program) (ops : Array Oper) (a0 : Act) (v : G → Nat → Value) (C : G → (Nat → Bool) → World → Prop) (Z : List PanicEntry → World → Prop) (i : Nat) (o : Oper) : Prop :=
 ∀ (g : G) (L : Nat → Bool) (w : World) (K : Value → World → Prop) (ρ : Operand → Value),
  (∀ x, ρ (.const x) = x) → (∀ f, ρ (.func f) = .func (.func f) #[] #[]) → (∀ t j, who ops t = some j → L j = true → ρ (.tmp t) = v g j) → (∀ t, who ops t = none → ρ (.tmp t) = a0.eval (.tmp t)) →
  L i = false → (∀ e ∈ o.after, Region.binds .any e = true → L e.on = true) → C g L w →
  (∀ g' w', C g' (fun j => j == i || L j) w' → (∀ j, L j = true → v g' j = v g j) → K (v g' i) w') → YlP P Z K ((execOp ρ o).run P w)
theorem wp_region_throw {G : Type} {id : Nat} {l : List Oper} {a0 : Act} {w0 : World} (hm : P.follows .mixedOrders = true) (hlex : lexB l.toArray = true) (hok : okB l.toArray = true) (n : Nat) (hn : a0.tmps.size = n) (hfit : fitB l.toArray n = true)
  (v : G → Nat → Value) (C : G → (Nat → Bool) → World → Prop) (Z : List PanicEntry → World → Prop) (g0 : G) (h0 : C g0 (fun _ => false) w0.drew)
  (hstep : Steps (Step3 P l.toArray a0 v C Z) 0 l) (hthrow : ∀ g L ch w, Z ch w → Q (.panic ch) (frame l.toArray a0 (v g) L) w)
  (hdone : ∀ g L w, (∀ i, i < l.length → L i = true) → C g L w → Q .normal (putAll (v g) 0 l a0) w) :
  (Code.region id l.toArray true).wp P Q a0 w0 := by
 refine wp_region_any hm ?_
 refine wpAny_inv (fun L a w => ∃ g, a = frame l.toArray a0 (v g) (fun i => L.getD i false) ∧ C g (fun i => L.getD i false) w) ?_ ?_ _ _ _ _ (by simp) ?_ ?_
 ·rintro L a w i o hs ⟨g, rfl, hC⟩ ho hi hd
  have hst := hstep.at_ (i := i) (o := o) (by simpa using ho)
  rw [Nat.zero_add] at hst
  have hin : i < L.size := by rw [hs]; exact (Array.getElem?_eq_some_iff.1 ho).1
  have hi' : L.getD i false = false := by rw [getD_in hin false true]; exact hi
  have hfun : (fun j => (L.setIfInBounds i true).getD j false) = fun j => j == i || L.getD j false := by
   funext j
   by_cases hj : j = i
   ·subst hj
    simp [Array.getD, hin]
   ·have hb : (j == i) = false := by simpa using hj
    rw [hb, Bool.false_or]
    simp only [Array.getD_eq_getD_getElem?, Array.getElem?_setIfInBounds]
    rw [if_neg (fun e => hj e.symm)]
  unfold wpOp
  rw [ho]
  simp only
  rw [if_pos (by simp [Region.wanted, (lex_of hlex ho).1])]
  refine .inl (YlP.upon (hst g _ w (fun u w' => ∃ g', u = v g' i ∧ C g' (fun j => j == i || L.getD j false) w' ∧ ∀ j, L.getD j false = true → v g' j = v g j) _ (fun _ => rfl) (fun _ => rfl) (fun t j h1 h2 => frame_dst h1 (by rw [hn]; exact fit_of hfit h1) h2) (fun t h1 => frame_old h1) hi' hd hC (fun g' w' h1 h2 => ⟨g', rfl, h1, h2⟩)) ?_ (fun ch w' hz => hthrow g _ ch w' hz))
  rintro u w' ⟨g', rfl, hC', hv⟩
  refine ⟨g', ?_, ?_⟩
  ·rw [hfun]; exact frame_put hok ho hv
  ·rw [hfun]; exact hC'
 ·rintro L a w hs ⟨g, rfl, hC⟩ hr
  have hall := all_of_ready hlex hs hr
  rw [frame_all hall, putAll_all hok]
  exact hdone g _ w (fun i hi => hall i (by simpa using hi)) hC
 ·refine ⟨g0, ?_, ?_⟩
  ·have : (fun i => (Array.replicate l.toArray.size false).getD i false) = fun _ => false := by
    funext i
    simp [Array.getD]
   rw [this, frame_none]
  ·have : (fun i => (Array.replicate l.toArray.size false).getD i false) = fun _ => false := by
    funext i
    simp [Array.getD]
   rw [this]
   exact h0
 ·unfold left
  simp only [Array.toList_replicate]
  exact Nat.le_trans List.countP_le_length (by simp)
end
end Go.Proofs.YtkejlnjnoiidnaaGreatDoor.Flow
end

section
namespace Go.Proofs.YtkejlnjnoiidnaaGreatDoor
set_option linter.unusedSimpArgs false
set_option linter.unusedVariables false
open Go.RowKit As
/-- What a reader throws. -/
abbrev faultV' (e p : Int) : Value := .iface 143 (.agg #[.int .i64 e, .int .i64 p])
abbrev Faulted (e p : Int) : List PanicEntry := [{ v := faultV' e p, recovered := false }]
theorem check_nil (R : Nat) (w : World) : Calls Tryz.prog 106 #[.pointer (some ⟨R, 0, none⟩), .nilIface] w fun e w' => e = .returned (.tuple #[]) ∧ w = w' := by
 go_enter Tryz.func106, Tryz.ntmps106
 go_wp2
 go_end0
 exact ⟨rfl, rfl⟩
def ckV (R : Nat) (v : Value) (e p : Int) (_ : Unit) : Nat → Value
 | 0 => v
 | 1 => .int .i64 e
 | 2 => .pointer (some ⟨R, 0, none⟩)
 | 3 => .pointer (some ⟨R, 0, none⟩)
 | 4 => .pointer (some ⟨R, 1, none⟩)
 | 5 => .int .i64 p
 | 6 => .agg #[.int .i64 e, .int .i64 p]
 | 7 => .agg #[.int .i64 e, .int .i64 p]
 | 8 => faultV' e p
 | _ => undef
set_option maxHeartbeats 1000000 in
set_option maxRecDepth 100000 in
theorem check_err {v : Value} {e q : Int} {s : ByteArray} {R p : Nat} {w : World} (h : ErrIs w v e q) (he : e ≠ 0) (hg : Handle w) (hs : Sc w R s p) :
  Calls Tryz.prog 106 #[.pointer (some ⟨R, 0, none⟩), v] w fun r w' => r = .panicked (Faulted e p) ∧ Below w.heap.size w w' := by
 obtain ⟨t, u, rfl⟩ : ∃ t u, v = .iface t u := by
  cases h with
  | none => exact absurd rfl he
  | bare _ _ => exact ⟨_, _, rfl⟩
  | at_ _ _ _ _ _ _ _ => exact ⟨_, _, rfl⟩
 have HE := Lib.hid he
 clear he
 go_enter Tryz.func106, Tryz.ntmps106
 go_wp2_with fail
 obtain ⟨c0, c1, f1⟩ := hs
 refine Flow.wp_region_throw (by kernel_rfl) (by kernel_rfl) (by kernel_rfl) 15 rfl (by kernel_rfl) (ckV R (.iface t u) e p) (fun _ L wz => Below w.heap.size w wz ∧ L 9 = false) (fun ch wz => ch = Faulted e p ∧ Below w.heap.size w wz) () ⟨(Below.refl _ _).drew, rfl⟩ ⟨?_, ?_, ?_, ?_, ?_, ?_, ?_, ?_, ?_, ?_, trivial⟩ ?_ ?_
 ·intro g L wz K ρ hc0 hf0 hF hO hi hd hC hK
  have e1 : ρ (.tmp 1) = .iface t u := hO 1 (by kernel_rfl)
  simp [go_sem, Flow.ylP_value, Flow.ylP_skip, Flow.ylP_enter, Flow.ylP_panic, hc0, hf0, e1]
  exact hK g wz ⟨hC.1, hC.2⟩ (fun _ _ => rfl)
 ·intro g L wz K ρ hc0 hf0 hF hO hi hd hC hK
  have d0 : L 0 = true := hd ⟨0, .data⟩ (by simp) rfl
  have e6 : ρ (.tmp 6) = .iface t u := hF 6 0 (by kernel_rfl) d0
  simp [go_sem, Flow.ylP_value, Flow.ylP_skip, Flow.ylP_enter, Flow.ylP_panic, hc0, hf0, e6]
  refine (tell_any (h.below hC.1) (hg.below hC.1)).mono ?_
  rintro r wn ⟨rfl, hbn⟩
  exact .inl ⟨_, rfl, hK g wn ⟨hC.1.trans (hbn.mono hC.1.size), hC.2⟩ (fun _ _ => rfl)⟩
 ·intro g L wz K ρ hc0 hf0 hF hO hi hd hC hK
  have e0 : ρ (.tmp 0) = .pointer (some ⟨R, 0, none⟩) := hO 0 (by kernel_rfl)
  simp [go_sem, Flow.ylP_value, Flow.ylP_skip, Flow.ylP_enter, Flow.ylP_panic, hc0, hf0, e0]
  exact hK g wz ⟨hC.1, hC.2⟩ (fun _ _ => rfl)
 ·intro g L wz K ρ hc0 hf0 hF hO hi hd hC hK
  have d2 : L 2 = true := hd ⟨2, .data⟩ (by simp) rfl
  have e8 : ρ (.tmp 8) = .pointer (some ⟨R, 0, none⟩) := hF 8 2 (by kernel_rfl) d2
  simp [go_sem, Flow.ylP_value, Flow.ylP_skip, Flow.ylP_enter, Flow.ylP_panic, hc0, hf0, e8]
  exact hK g wz ⟨hC.1, hC.2⟩ (fun _ _ => rfl)
 ·intro g L wz K ρ hc0 hf0 hF hO hi hd hC hK
  have d3 : L 3 = true := hd ⟨3, .data⟩ (by simp) rfl
  have e9 : ρ (.tmp 9) = .pointer (some ⟨R, 0, none⟩) := hF 9 3 (by kernel_rfl) d3
  simp [go_sem, Flow.ylP_value, Flow.ylP_skip, Flow.ylP_enter, Flow.ylP_panic, hc0, hf0, e9]
  exact hK g wz ⟨hC.1, hC.2⟩ (fun _ _ => rfl)
 ·intro g L wz K ρ hc0 hf0 hF hO hi hd hC hK
  have d4 : L 4 = true := hd ⟨4, .data⟩ (by simp) rfl
  have e10 : ρ (.tmp 10) = .pointer (some ⟨R, 1, none⟩) := hF 10 4 (by kernel_rfl) d4
  have cc := (hC.1.cell (cell_lt c1)).trans c1
  simp [go_sem, Flow.ylP_value, Flow.ylP_skip, Flow.ylP_enter, Flow.ylP_panic, hc0, hf0, e10, cc]
  exact hK g wz ⟨hC.1, hC.2⟩ (fun _ _ => rfl)
 ·intro g L wz K ρ hc0 hf0 hF hO hi hd hC hK
  have d1 : L 1 = true := hd ⟨1, .data⟩ (by simp) rfl
  have e7 : ρ (.tmp 7) = .int .i64 e := hF 7 1 (by kernel_rfl) d1
  have d5 : L 5 = true := hd ⟨5, .data⟩ (by simp) rfl
  have e11 : ρ (.tmp 11) = .int .i64 (p : Int) := hF 11 5 (by kernel_rfl) d5
  simp [go_sem, Flow.ylP_value, Flow.ylP_skip, Flow.ylP_enter, Flow.ylP_panic, hc0, hf0, e7, e11]
  exact hK g wz ⟨hC.1, hC.2⟩ (fun _ _ => rfl)
 ·intro g L wz K ρ hc0 hf0 hF hO hi hd hC hK
  have d6 : L 6 = true := hd ⟨6, .data⟩ (by simp) rfl
  have e12 : ρ (.tmp 12) = .agg #[.int .i64 e, .int .i64 (p : Int)] := hF 12 6 (by kernel_rfl) d6
  simp [go_sem, Flow.ylP_value, Flow.ylP_skip, Flow.ylP_enter, Flow.ylP_panic, hc0, hf0, e12]
  exact hK g wz ⟨hC.1, hC.2⟩ (fun _ _ => rfl)
 ·intro g L wz K ρ hc0 hf0 hF hO hi hd hC hK
  have d7 : L 7 = true := hd ⟨7, .data⟩ (by simp) rfl
  have e13 : ρ (.tmp 13) = .agg #[.int .i64 e, .int .i64 (p : Int)] := hF 13 7 (by kernel_rfl) d7
  simp [go_sem, Flow.ylP_value, Flow.ylP_skip, Flow.ylP_enter, Flow.ylP_panic, hc0, hf0, e13]
  exact hK g wz ⟨hC.1, hC.2⟩ (fun _ _ => rfl)
 ·intro g L wz K ρ hc0 hf0 hF hO hi hd hC hK
  have d8 : L 8 = true := hd ⟨8, .data⟩ (by simp) rfl
  have e14 : ρ (.tmp 14) = faultV' e (p : Int) := hF 14 8 (by kernel_rfl) d8
  simp [go_sem, Flow.ylP_value, Flow.ylP_skip, Flow.ylP_enter, Flow.ylP_panic, hc0, hf0, e14]
  exact hC.1
 ·rintro g L ch wz ⟨rfl, hb⟩
  exact ⟨rfl, rfl, hb⟩
 ·intro g L wz hL hC
  have := hL 9 (by decide)
  rw [hC.2] at this
  cases this
set_option maxHeartbeats 1000000 in
set_option maxRecDepth 100000 in
theorem number_any (s : ByteArray) (p R : Nat) (most : Int) (w : World) (hs : s.size ≤ 1000000) (hp : p ≤ s.size) (hm : most ≤ 9223372036854775807) (hg : Handle w) (h : Sc w R s p) :
  Calls Tryz.prog 104 #[.pointer (some ⟨R, 0, none⟩), .int .i64 most] w fun r w' => ∃ (q n k : Nat) (e : Int), vat s p most = (n, k, e) ∧
   (e = 0 ∧ (n : Int) ≤ most ∧ 0 < k ∧ k ≤ 10 ∧ p + k ≤ s.size ∧ r = .returned (.int .i64 (n : Int)) ∧ w' = (w.drewN q).setCell ⟨R, 1, none⟩ (.int .i64 ((p + k : Nat) : Int)) ∨
   e ≠ 0 ∧ r = .panicked (Faulted e p) ∧ Below w.heap.size w w') := by
 have HS := h
 obtain ⟨c0, c1, f1⟩ := h
 obtain ⟨n, k, e, ha, hx⟩ := vat_of s p most
 have hl : (s.extract p s.size).size ≤ maxLen := by rw [ByteArray.size_extract]; unfold maxLen; omega
 have hv := Lib.hid (show vint (s.extract p s.size).data.toList most = (n, k, e) from ha)
 have HA := Lib.hid ha
 have i1 : (0 : Int) ≤ (p : Int) := by omega
 have i2 : (p : Int) ≤ (s.size : Int) := by omega
 clear ha
 go_enter Tryz.func104, Tryz.ntmps104
 go_wp2_with fail
 go_quiet ((go_at_call_of 66 (Value.int IntKind.i64 most); exact Calls.quiet_of_same ((vint_any _ most _ hl hm).mono fun _ _ ⟨a, b⟩ => ⟨by rw [a, hv.out], b.symm⟩)))
 simp only
 rcases hx with ⟨rfl, x1, x2, x3, x4⟩ | ⟨he, rfl, rfl⟩
 ·have w1 : IntKind.i64.wrap ((p : Int) + (k : Int)) = ((p + k : Nat) : Int) := IntWalk.i64_in _ (by omega)
  rw [errV_zero]
  go_wp2_with fail
  refine (check_nil R _).mono ?_
  rintro r w' ⟨rfl, rfl⟩
  go_wp2
  go_ret
  refine ⟨nq, n, k, 0, HA.out, .inl ⟨rfl, x1, x2, x3, x4, rfl, by rw [show ((p : Int) + (k : Int)) = ((p + k : Nat) : Int) by omega]⟩⟩
 ·have HE := Lib.hid he
  have bq := below_drewN (Below.refl w.heap.size w) nq
  go_wp2_with fail
  refine (check_err (errV_is _ e) he (hg.below bq) (HS.drewN nq)).mono ?_
  rintro r w' ⟨rfl, hb⟩
  go_wp2
  exact ⟨rfl, nq, 0, 0, e, HA.out, .inr ⟨HE.out, rfl, bq.trans hb⟩⟩
end Go.Proofs.YtkejlnjnoiidnaaGreatDoor
end

section
namespace Go.Proofs.YtkejlnjnoiidnaaGreatDoor
set_option linter.unusedSimpArgs false
set_option linter.unusedVariables false
open Go.RowKit As
/-- Where kind ends. -/
def KindEnd (s : ByteArray) (R p : Nat) (w : World) (r : Ending) (w' : World) : Prop :=
 (s.size ≤ p ∧ r = .panicked (Faulted 7 p) ∧ Below w.heap.size w w') ∨
 (p < s.size ∧ (byteOf s p < 1 ∨ 4 < byteOf s p) ∧ r = .panicked (Faulted 1 p) ∧ Below w.heap.size w w') ∨
 (p < s.size ∧ ¬ (byteOf s p < 1 ∨ 4 < byteOf s p) ∧ r = .returned (.int .i64 (byteOf s p : Int)) ∧ ∃ q, w' = (w.drewN q).setCell ⟨R, 1, none⟩ (.int .i64 ((p + 1 : Nat) : Int)))
set_option maxHeartbeats 1000000 in
set_option maxRecDepth 100000 in
theorem kind_any (s : ByteArray) (p R : Nat) (w : World) (hs : s.size ≤ 1000000) (hp : p ≤ s.size) (hg : Handle w) (h : Sc w R s p) :
  Calls Tryz.prog 107 #[.pointer (some ⟨R, 0, none⟩)] w fun r w' => KindEnd s R p w r w' := by
 have HS := h
 obtain ⟨c0, c1, f1⟩ := h
 by_cases hend : s.size ≤ p
 ·have d0 : ((p : Int) == (s.size : Int)) = true := by rw [beq_iff_eq]; omega
  go_enter Tryz.func107, Tryz.ntmps107
  go_wp2_with fail
  go_quiet (fail)
  have bq := below_drewN (Below.refl w.heap.size w) nq
  go_wp2_with fail
  refine (check_err (.bare 7 (by omega)) (by omega) (hg.below bq) (HS.drewN nq)).mono ?_
  rintro r w' ⟨rfl, hb⟩
  go_wp2
  exact ⟨rfl, .inl ⟨hend, rfl, bq.trans hb⟩⟩
 ·have hlt : p < s.size := by omega
  have d0 : ((p : Int) == (s.size : Int)) = false := by rw [beq_eq_false_iff_ne]; omega
  have i1 : (p : Int) < (s.size : Int) := by omega
  have i0 : (0 : Int) ≤ (p : Int) := by omega
  have hB := byteOf_eq s p hlt
  have hB' : ((s[p].toNat : Nat) : Int) = (byteOf s p : Int) := by rw [← hB]
  have hlB := byteOf_lt s p
  have HK : Hid (KindEnd s R p = KindEnd s R p) := Lib.hid rfl
  obtain ⟨K, hK⟩ : ∃ K, K = byteOf s p := ⟨_, rfl⟩
  have HKB := Lib.hid hK
  rw [← hK] at hB hB' hlB
  have wK : IntKind.i64.wrap (K : Int) = (K : Int) := IntWalk.i64_in _ (by omega)
  clear hK
  by_cases h1 : K < 1
  ·have t1 : decide ((K : Int) < 1) = true := by simp only [decide_eq_true_eq]; omega
   have t1' : decide (K < 1) = true := by simp only [decide_eq_true_eq]; omega
   have H1 := Lib.hid h1
   clear h1
   go_enter Tryz.func107, Tryz.ntmps107
   go_wp2_with fail
   go_quiet (fail)
   have b1 := below_drewN (Below.refl w.heap.size w) nq
   have g1 := hg.below b1
   have HS1 := HS.drewN nq
   obtain ⟨QQ, hQQ⟩ : ∃ x, x = nq := ⟨_, rfl⟩
   subst hQQ
   obtain ⟨k0, k1, k2⟩ := HS1
   go_wp2_with fail
   go_quiet (fail)
   have bq := below_drewN (Below.refl w.heap.size w) (QQ + nq)
   have HSq := HS.drewN (QQ + nq)
   try rw [hB']
   go_wp2_with fail
   refine (check_err (.bare 1 (by omega)) (by omega) (hg.below bq) HSq).mono ?_
   rintro r w' ⟨rfl, hb⟩
   go_wp2
   exact ⟨rfl, .inr (.inl ⟨hlt, .inl (by rw [← HKB.out]; exact H1.out), rfl, bq.trans hb⟩)⟩
  ·have t1 : decide ((K : Int) < 1) = false := by simp only [decide_eq_false_iff_not]; omega
   have t1' : decide (K < 1) = false := by simp only [decide_eq_false_iff_not]; omega
   have H0 := Lib.hid h1
   by_cases h4 : 4 < K
   ·have t2 : decide ((4 : Int) < (K : Int)) = true := by simp only [decide_eq_true_eq]; omega
    have t2' : decide (4 < K) = true := by simp only [decide_eq_true_eq]; omega
    have H1 := Lib.hid h4
    clear h1 h4
    go_enter Tryz.func107, Tryz.ntmps107
    go_wp2_with fail
    go_quiet (fail)
    have b1 := below_drewN (Below.refl w.heap.size w) nq
    have g1 := hg.below b1
    have HS1 := HS.drewN nq
    obtain ⟨QQ, hQQ⟩ : ∃ x, x = nq := ⟨_, rfl⟩
    subst hQQ
    obtain ⟨k0, k1, k2⟩ := HS1
    go_wp2_with fail
    go_quiet (fail)
    have bq := below_drewN (Below.refl w.heap.size w) (QQ + nq)
    have HSq := HS.drewN (QQ + nq)
    try rw [hB']
    go_wp2_with fail
    refine (check_err (.bare 1 (by omega)) (by omega) (hg.below bq) HSq).mono ?_
    rintro r w' ⟨rfl, hb⟩
    go_wp2
    exact ⟨rfl, .inr (.inl ⟨hlt, .inr (by rw [← HKB.out]; exact H1.out), rfl, bq.trans hb⟩)⟩
   ·have t2 : decide ((4 : Int) < (K : Int)) = false := by simp only [decide_eq_false_iff_not]; omega
    have t2' : decide (4 < K) = false := by simp only [decide_eq_false_iff_not]; omega
    have H1 := Lib.hid (show ¬ (byteOf s p < 1 ∨ 4 < byteOf s p) by rw [← HKB.out]; omega)
    have w1 : IntKind.i64.wrap ((p : Int) + 1) = ((p + 1 : Nat) : Int) := IntWalk.i64_in _ (by omega)
    clear h1 h4
    go_enter Tryz.func107, Tryz.ntmps107
    go_wp2_with fail
    go_quiet (fail)
    have b1 := below_drewN (Below.refl w.heap.size w) nq
    have g1 := hg.below b1
    have HS1 := HS.drewN nq
    obtain ⟨QQ, hQQ⟩ : ∃ x, x = nq := ⟨_, rfl⟩
    subst hQQ
    obtain ⟨k0, k1, k2⟩ := HS1
    go_wp2_with fail
    go_quiet (fail)
    have bq := below_drewN (Below.refl w.heap.size w) (QQ + nq)
    have HSq := HS.drewN (QQ + nq)
    try rw [hB']
    obtain ⟨l0, l1, l2⟩ := HSq
    go_wp2
    go_ret
    show KindEnd s R p w (.returned (.int .i64 (K : Int))) _
    exact .inr (.inr ⟨hlt, H1.out, by rw [HKB.out], QQ + nq, by first | rfl | (rw [World.drewN_drewN])⟩)
end Go.Proofs.YtkejlnjnoiidnaaGreatDoor
end

section
namespace Go.Proofs.YtkejlnjnoiidnaaGreatDoor.Flow
open Go
section
variable {P : Program} {ops : Array Oper} {Q : Exit → Act → World → Prop} {Z : List PanicEntry → World → Prop}
/-- Each operation waits for earlier ones alone. -/
def lexG (ops : Array Oper) : Bool := (List.range ops.size).all fun i => match ops[i]? with
 | some o => o.guard.isNone && o.after.toList.all fun e => !Region.binds .any e || decide (e.on < i)
 | none => true
theorem lexG_of (h : lexG ops = true) {i : Nat} {o : Oper} (ho : ops[i]? = some o) : o.guard = none ∧ ∀ e ∈ o.after, Region.binds .any e = true → e.on < i := by
 have hi := (Array.getElem?_eq_some_iff.1 ho).1
 have := List.all_eq_true.1 h i (List.mem_range.2 hi)
 rw [ho] at this
 simp only [Bool.and_eq_true, Option.isNone_iff_eq_none] at this
 refine ⟨this.1, fun e he hb => ?_⟩
 have h2 := List.all_eq_true.1 this.2 e (by simpa using he)
 rw [hb] at h2
 simpa using h2
theorem allG_of_ready (hlex : lexG ops = true) {L : Array Bool} (hs : L.size = ops.size) (h : Region.ready .any ops L = []) (i : Nat) : i < ops.size → L.getD i false = true := by
 induction i using Nat.strongRecOn with
 | ind i ih =>
  intro hi
  rcases hb : L.getD i false with _ | _
  ·exfalso
   have hm : i ∈ Region.ready .any ops L := mem_ready.2 ⟨by rw [getD_in (by omega) true false]; exact hb, ops[i], Array.getElem?_eq_getElem hi, fun e he hbe => ih e.on ((lexG_of hlex (Array.getElem?_eq_getElem hi)).2 e he hbe) (by have := (lexG_of hlex (Array.getElem?_eq_getElem hi)).2 e he hbe; omega)⟩
   rw [h] at hm
   cases hm
  ·rfl
/-- What has come up is closed under what it waits for. -/
def Closed (ops : Array Oper) (L : Nat → Bool) : Prop := ∀ i o, ops[i]? = some o → L i = true → ∀ e ∈ o.after, Region.binds .any e = true → L e.on = true
/-- Operation i waits for j, at last. -/
def reach (ops : Array Oper) : Nat → Nat → Nat → Bool
 | 0, i, j => i == j
 | f + 1, i, j => i == j || match ops[i]? with
  | some o => o.after.toList.any fun e => Region.binds .any e && reach ops f e.on j
  | none => false
theorem Closed.reach {L : Nat → Bool} (h : Closed ops L) : ∀ (f i j : Nat), reach ops f i j = true → L i = true → L j = true := by
 intro f
 induction f with
 | zero => intro i j hr hl; rw [beq_iff_eq.1 hr] at hl; exact hl
 | succ f ih =>
  intro i j hr hl
  unfold Flow.reach at hr
  rcases Bool.or_eq_true_iff.1 hr with hr | hr
  ·rw [beq_iff_eq.1 hr] at hl; exact hl
  ·cases ho : ops[i]? with
   | none => rw [ho] at hr; cases hr
   | some o =>
    rw [ho] at hr
    simp only [List.any_eq_true, Bool.and_eq_true] at hr
    obtain ⟨e, he, hb, hr⟩ := hr
    exact ih _ _ hr (h i o ho hl e (by simpa using he) hb)
def Step4 {G : Type} (P : Program) (ops : Array Oper) (a0 : Act) (v : G → Nat → Value) (C : G → (Nat → Bool) → World → Prop) (Z : List PanicEntry → World → Prop) (i : Nat) (o : Oper) : Prop :=
 ∀ (g : G) (L : Nat → Bool) (w : World) (K : Value → World → Prop) (ρ : Operand → Value),
  (∀ x, ρ (.const x) = x) → (∀ f, ρ (.func f) = .func (.func f) #[] #[]) → (∀ t j, who ops t = some j → L j = true → ρ (.tmp t) = v g j) → (∀ t, who ops t = none → ρ (.tmp t) = a0.eval (.tmp t)) →
  (∀ t j, who ops t = some j → L j = false → ρ (.tmp t) = a0.eval (.tmp t)) →
  (∀ i j, reach ops ops.size i j = true → L i = true → L j = true) →
  L i = false → (∀ e ∈ o.after, Region.binds .any e = true → L e.on = true) → C g L w →
  (∀ g' w', C g' (fun j => j == i || L j) w' → (∀ j, L j = true → v g' j = v g j) → K (v g' i) w') → YlP P Z K ((execOp ρ o).run P w)
theorem wp_region_go {G : Type} {id : Nat} {l : List Oper} {a0 : Act} {w0 : World} (hm : P.follows .mixedOrders = true) (hlex : lexG l.toArray = true) (hok : okB l.toArray = true) (n : Nat) (hn : a0.tmps.size = n) (hfit : fitB l.toArray n = true)
  (v : G → Nat → Value) (C : G → (Nat → Bool) → World → Prop) (Z : List PanicEntry → World → Prop) (g0 : G) (h0 : C g0 (fun _ => false) w0.drew)
  (hstep : Steps (Step4 P l.toArray a0 v C Z) 0 l) (hthrow : ∀ g L ch w, Z ch w → Q (.panic ch) (frame l.toArray a0 (v g) L) w)
  (hdone : ∀ g L w, (∀ i, i < l.length → L i = true) → C g L w → Q .normal (putAll (v g) 0 l a0) w) :
  (Code.region id l.toArray true).wp P Q a0 w0 := by
 refine wp_region_any hm ?_
 refine wpAny_inv (fun L a w => ∃ g, a = frame l.toArray a0 (v g) (fun i => L.getD i false) ∧ Closed l.toArray (fun i => L.getD i false) ∧ C g (fun i => L.getD i false) w) ?_ ?_ _ _ _ _ (by simp) ?_ ?_
 ·rintro L a w i o hs ⟨g, rfl, hcl, hC⟩ ho hi hd
  have hst := hstep.at_ (i := i) (o := o) (by simpa using ho)
  rw [Nat.zero_add] at hst
  have hin : i < L.size := by rw [hs]; exact (Array.getElem?_eq_some_iff.1 ho).1
  have hi' : L.getD i false = false := by rw [getD_in hin false true]; exact hi
  have hfun : (fun j => (L.setIfInBounds i true).getD j false) = fun j => j == i || L.getD j false := by
   funext j
   by_cases hj : j = i
   ·subst hj
    simp [Array.getD, hin]
   ·have hb : (j == i) = false := by simpa using hj
    rw [hb, Bool.false_or]
    simp only [Array.getD_eq_getD_getElem?, Array.getElem?_setIfInBounds]
    rw [if_neg (fun e => hj e.symm)]
  unfold wpOp
  rw [ho]
  simp only
  rw [if_pos (by simp [Region.wanted, (lexG_of hlex ho).1])]
  refine .inl (YlP.upon (hst g _ w (fun u w' => ∃ g', u = v g' i ∧ C g' (fun j => j == i || L.getD j false) w' ∧ ∀ j, L.getD j false = true → v g' j = v g j) _ (fun _ => rfl) (fun _ => rfl) (fun t j h1 h2 => frame_dst h1 (by rw [hn]; exact fit_of hfit h1) h2) (fun t h1 => frame_old h1) (fun t j h1 h2 => frame_not h1 h2) (fun i j => hcl.reach _ i j) hi' hd hC (fun g' w' h1 h2 => ⟨g', rfl, h1, h2⟩)) ?_ (fun ch w' hz => hthrow g _ ch w' hz))
  rintro u w' ⟨g', rfl, hC', hv⟩
  refine ⟨g', ?_, ?_, ?_⟩
  ·rw [hfun]; exact frame_put hok ho hv
  ·rw [hfun]
   intro j oj hoj hlj e he hb
   simp only [Bool.or_eq_true, beq_iff_eq] at hlj ⊢
   rcases hlj with rfl | hlj
   ·rw [ho] at hoj
    injection hoj with hoj
    subst hoj
    exact .inr (hd e he hb)
   ·exact .inr (hcl j oj hoj hlj e he hb)
  ·rw [hfun]; exact hC'
 ·rintro L a w hs ⟨g, rfl, _, hC⟩ hr
  have hall := allG_of_ready hlex hs hr
  rw [frame_all hall, putAll_all hok]
  exact hdone g _ w (fun i hi => hall i (by simpa using hi)) hC
 ·have hz : (fun i => (Array.replicate l.toArray.size false).getD i false) = fun _ => false := by
   funext i
   simp [Array.getD]
  refine ⟨g0, ?_, ?_, ?_⟩
  ·rw [hz, frame_none]
  ·rw [hz]; intro i o _ h; cases h
  ·rw [hz]; exact h0
 ·unfold left
  simp only [Array.toList_replicate]
  exact Nat.le_trans List.countP_le_length (by simp)
end
end Go.Proofs.YtkejlnjnoiidnaaGreatDoor.Flow
end

section
namespace Go.Proofs.YtkejlnjnoiidnaaGreatDoor
set_option linter.unusedSimpArgs false
set_option linter.unusedVariables false
open Go.RowKit As
def rvV (R : Nat) (s : ByteArray) (p n : Nat) (e : Int) (g : Value) : Nat → Value
 | 0 => .pointer (some ⟨R, 0, none⟩)
 | 1 => .pointer (some ⟨R, 0, none⟩)
 | 2 => .pointer (some ⟨R, 0, none⟩)
 | 3 => .string s
 | 4 => .pointer (some ⟨R, 0, none⟩)
 | 5 => .pointer (some ⟨R, 0, none⟩)
 | 6 => .pointer (some ⟨R, 1, none⟩)
 | 7 => .int .i64 (p : Int)
 | 8 => .string (s.extract p s.size)
 | 9 => .tuple #[g, .int .i64 (n : Int), errV e]
 | 10 => .tuple #[g, .int .i64 (n : Int), errV e]
 | 11 => g
 | 12 => .int .i64 (n : Int)
 | 13 => errV e
 | 14 => g
 | 15 => .int .i64 (n : Int)
 | 16 => errV e
 | _ => undef
/-- Where vector ends. -/
def VectorEnd (s : ByteArray) (R p : Nat) (w : World) (r : Ending) (w' : World) : Prop :=
  ∃ (l : List Ent) (n : Nat) (e : Int), vread (s.extract p s.size) = (l, n, e) ∧
    (e = 0 ∧ p + n ≤ s.size ∧ (∃ v w1, r = .returned v ∧ w1.ownsRow w.heap.size 79 2 v l.length (entV l) ∧ Below w.heap.size w w1 ∧ w' = w1.setCell ⟨R, 1, none⟩ (.int .i64 ((p + n : Nat) : Int))) ∨
     e ≠ 0 ∧ r = .panicked (Faulted e p) ∧ Below w.heap.size w w')
set_option maxHeartbeats 1000000 in
set_option maxRecDepth 100000 in
theorem vector_any (s : ByteArray) (p R : Nat) (w : World) (hs : s.size ≤ 1000000) (hp : p ≤ s.size) (hg : Handle w) (h : Sc w R s p) :
  Calls Tryz.prog 103 #[.pointer (some ⟨R, 0, none⟩)] w fun r w' => VectorEnd s R p w r w' := by
 have HS := h
 obtain ⟨c0, c1, f1⟩ := h
 obtain ⟨⟨l, n, e⟩, hv⟩ : ∃ x, vread (s.extract p s.size) = x := ⟨_, rfl⟩
 have hl : (s.extract p s.size).size ≤ 1000000 := by rw [ByteArray.size_extract]; omega
 have hn : p + n ≤ s.size := by
  have h2 := vread_far (s.extract p s.size)
  rw [hv, ByteArray.size_extract] at h2
  simp only at h2
  omega
 have HV := Lib.hid hv
 have i1 : (0 : Int) ≤ (p : Int) := by omega
 have i2 : (p : Int) ≤ (s.size : Int) := by omega
 clear hv
 go_enter Tryz.func103, Tryz.ntmps103
 go_wp2_with fail
 refine Flow.wp_region_go (by kernel_rfl) (by kernel_rfl) (by kernel_rfl) 32 rfl (by kernel_rfl) (rvV R s p n e) (fun g L wz => Below w.heap.size w wz ∧ (L 9 = true → wz.ownsRow w.heap.size 79 2 g l.length (entV l))) (fun _ _ => False) (undef) (⟨(Below.refl _ _).drew, fun h => by cases h⟩) ⟨?_, ?_, ?_, ?_, ?_, ?_, ?_, ?_, ?_, ?_, ?_, ?_, ?_, ?_, ?_, ?_, ?_, trivial⟩ ?_ ?_
 ·intro g L wz K ρ hc0 hf0 hF hO hU hcl hi hd hC hK
  have e0 : ρ (.tmp 0) = .pointer (some ⟨R, 0, none⟩) := hO 0 (by kernel_rfl)
  simp [go_sem, Flow.ylP_value, Flow.ylP_skip, Flow.ylP_enter, Flow.ylP_panic, hc0, hf0, e0]
  exact hK g wz hC (fun _ _ => rfl)
 ·intro g L wz K ρ hc0 hf0 hF hO hU hcl hi hd hC hK
  have d0 : L 0 = true := hd ⟨0, .data⟩ (by simp) rfl
  have e7 : ρ (.tmp 7) = .pointer (some ⟨R, 0, none⟩) := hF 7 0 (by kernel_rfl) d0
  simp [go_sem, Flow.ylP_value, Flow.ylP_skip, Flow.ylP_enter, Flow.ylP_panic, hc0, hf0, e7]
  exact hK g wz hC (fun _ _ => rfl)
 ·intro g L wz K ρ hc0 hf0 hF hO hU hcl hi hd hC hK
  have d1 : L 1 = true := hd ⟨1, .data⟩ (by simp) rfl
  have e8 : ρ (.tmp 8) = .pointer (some ⟨R, 0, none⟩) := hF 8 1 (by kernel_rfl) d1
  simp [go_sem, Flow.ylP_value, Flow.ylP_skip, Flow.ylP_enter, Flow.ylP_panic, hc0, hf0, e8]
  exact hK g wz hC (fun _ _ => rfl)
 ·intro g L wz K ρ hc0 hf0 hF hO hU hcl hi hd hC hK
  have d2 : L 2 = true := hd ⟨2, .data⟩ (by simp) rfl
  have e9 : ρ (.tmp 9) = .pointer (some ⟨R, 0, none⟩) := hF 9 2 (by kernel_rfl) d2
  have cc := (hC.1.cell (cell_lt c0)).trans c0
  simp [go_sem, Flow.ylP_value, Flow.ylP_skip, Flow.ylP_enter, Flow.ylP_panic, hc0, hf0, e9, cc]
  exact hK g wz hC (fun _ _ => rfl)
 ·intro g L wz K ρ hc0 hf0 hF hO hU hcl hi hd hC hK
  have e0 : ρ (.tmp 0) = .pointer (some ⟨R, 0, none⟩) := hO 0 (by kernel_rfl)
  simp [go_sem, Flow.ylP_value, Flow.ylP_skip, Flow.ylP_enter, Flow.ylP_panic, hc0, hf0, e0]
  exact hK g wz hC (fun _ _ => rfl)
 ·intro g L wz K ρ hc0 hf0 hF hO hU hcl hi hd hC hK
  have d4 : L 4 = true := hd ⟨4, .data⟩ (by simp) rfl
  have e11 : ρ (.tmp 11) = .pointer (some ⟨R, 0, none⟩) := hF 11 4 (by kernel_rfl) d4
  simp [go_sem, Flow.ylP_value, Flow.ylP_skip, Flow.ylP_enter, Flow.ylP_panic, hc0, hf0, e11]
  exact hK g wz hC (fun _ _ => rfl)
 ·intro g L wz K ρ hc0 hf0 hF hO hU hcl hi hd hC hK
  have d5 : L 5 = true := hd ⟨5, .data⟩ (by simp) rfl
  have e12 : ρ (.tmp 12) = .pointer (some ⟨R, 0, none⟩) := hF 12 5 (by kernel_rfl) d5
  simp [go_sem, Flow.ylP_value, Flow.ylP_skip, Flow.ylP_enter, Flow.ylP_panic, hc0, hf0, e12]
  exact hK g wz hC (fun _ _ => rfl)
 ·intro g L wz K ρ hc0 hf0 hF hO hU hcl hi hd hC hK
  have d6 : L 6 = true := hd ⟨6, .data⟩ (by simp) rfl
  have e13 : ρ (.tmp 13) = .pointer (some ⟨R, 1, none⟩) := hF 13 6 (by kernel_rfl) d6
  have cc := (hC.1.cell (cell_lt c1)).trans c1
  simp [go_sem, Flow.ylP_value, Flow.ylP_skip, Flow.ylP_enter, Flow.ylP_panic, hc0, hf0, e13, cc]
  exact hK g wz hC (fun _ _ => rfl)
 ·intro g L wz K ρ hc0 hf0 hF hO hU hcl hi hd hC hK
  have d3 : L 3 = true := hd ⟨3, .data⟩ (by simp) rfl
  have e10 : ρ (.tmp 10) = .string s := hF 10 3 (by kernel_rfl) d3
  have d7 : L 7 = true := hd ⟨7, .data⟩ (by simp) rfl
  have e14 : ρ (.tmp 14) = .int .i64 (p : Int) := hF 14 7 (by kernel_rfl) d7
  simp [go_sem, Flow.ylP_value, Flow.ylP_skip, Flow.ylP_enter, Flow.ylP_panic, hc0, hf0, e10, e14, i1, i2]
  exact hK g wz hC (fun _ _ => rfl)
 ·intro g L wz K ρ hc0 hf0 hF hO hU hcl hi hd hC hK
  have d8 : L 8 = true := hd ⟨8, .data⟩ (by simp) rfl
  have e15 : ρ (.tmp 15) = .string (s.extract p s.size) := hF 15 8 (by kernel_rfl) d8
  simp [go_sem, Flow.ylP_value, Flow.ylP_skip, Flow.ylP_enter, Flow.ylP_panic, hc0, hf0, e15]
  refine (vecread_any (s.extract p s.size) wz hl (hg.below hC.1)).mono ?_
  rintro r wn ⟨v1, rfl, hT, hbn⟩
  rw [HV.out] at hT ⊢
  exact ⟨_, rfl, hK v1 wn ⟨hC.1.trans (hbn.mono hC.1.size), fun _ => own_less hT hC.1.size⟩ (by intro j hj; unfold rvV; split <;> first | rfl | (rw [hi] at hj; cases hj) | (have hz := hcl _ 9 (by kernel_rfl) hj; rw [hi] at hz; cases hz))⟩
 ·intro g L wz K ρ hc0 hf0 hF hO hU hcl hi hd hC hK
  have d9 : L 9 = true := hd ⟨9, .data⟩ (by simp) rfl
  have e16 : ρ (.tmp 16) = .tuple #[g, .int .i64 (n : Int), errV e] := hF 16 9 (by kernel_rfl) d9
  simp [go_sem, Flow.ylP_value, Flow.ylP_skip, Flow.ylP_enter, Flow.ylP_panic, hc0, hf0, e16]
  exact hK g wz hC (fun _ _ => rfl)
 ·intro g L wz K ρ hc0 hf0 hF hO hU hcl hi hd hC hK
  have d10 : L 10 = true := hd ⟨10, .data⟩ (by simp) rfl
  have e6 : ρ (.tmp 6) = .tuple #[g, .int .i64 (n : Int), errV e] := hF 6 10 (by kernel_rfl) d10
  simp [go_sem, Flow.ylP_value, Flow.ylP_skip, Flow.ylP_enter, Flow.ylP_panic, hc0, hf0, e6]
  exact hK g wz hC (fun _ _ => rfl)
 ·intro g L wz K ρ hc0 hf0 hF hO hU hcl hi hd hC hK
  have d10 : L 10 = true := hd ⟨10, .data⟩ (by simp) rfl
  have e6 : ρ (.tmp 6) = .tuple #[g, .int .i64 (n : Int), errV e] := hF 6 10 (by kernel_rfl) d10
  simp [go_sem, Flow.ylP_value, Flow.ylP_skip, Flow.ylP_enter, Flow.ylP_panic, hc0, hf0, e6]
  exact hK g wz hC (fun _ _ => rfl)
 ·intro g L wz K ρ hc0 hf0 hF hO hU hcl hi hd hC hK
  have d10 : L 10 = true := hd ⟨10, .data⟩ (by simp) rfl
  have e6 : ρ (.tmp 6) = .tuple #[g, .int .i64 (n : Int), errV e] := hF 6 10 (by kernel_rfl) d10
  simp [go_sem, Flow.ylP_value, Flow.ylP_skip, Flow.ylP_enter, Flow.ylP_panic, hc0, hf0, e6]
  exact hK g wz hC (fun _ _ => rfl)
 ·intro g L wz K ρ hc0 hf0 hF hO hU hcl hi hd hC hK
  have d11 : L 11 = true := hd ⟨11, .data⟩ (by simp) rfl
  have e17 : ρ (.tmp 17) = g := hF 17 11 (by kernel_rfl) d11
  simp [go_sem, Flow.ylP_value, Flow.ylP_skip, Flow.ylP_enter, Flow.ylP_panic, hc0, hf0, e17]
  exact hK g wz hC (fun _ _ => rfl)
 ·intro g L wz K ρ hc0 hf0 hF hO hU hcl hi hd hC hK
  have d12 : L 12 = true := hd ⟨12, .data⟩ (by simp) rfl
  have e18 : ρ (.tmp 18) = .int .i64 (n : Int) := hF 18 12 (by kernel_rfl) d12
  simp [go_sem, Flow.ylP_value, Flow.ylP_skip, Flow.ylP_enter, Flow.ylP_panic, hc0, hf0, e18]
  exact hK g wz hC (fun _ _ => rfl)
 ·intro g L wz K ρ hc0 hf0 hF hO hU hcl hi hd hC hK
  have d13 : L 13 = true := hd ⟨13, .data⟩ (by simp) rfl
  have e19 : ρ (.tmp 19) = errV e := hF 19 13 (by kernel_rfl) d13
  simp [go_sem, Flow.ylP_value, Flow.ylP_skip, Flow.ylP_enter, Flow.ylP_panic, hc0, hf0, e19]
  exact hK g wz hC (fun _ _ => rfl)
 ·intro g L ch wz h; exact h.elim
 ·intro g L wz hL hC
  have hb := hC.1
  have hT := hC.2 (hL 9 (by decide))
  clear hL hC
  simp only [Flow.putAll, rvV]
  have HSz := HS.below hb
  have gz := hg.below hb
  by_cases he : e = 0
  ·subst he
   have w1 : IntKind.i64.wrap ((p : Int) + (n : Int)) = ((p + n : Nat) : Int) := IntWalk.i64_in _ (by omega)
   have HSk := HSz
   obtain ⟨k0, k1, k2⟩ := HSz
   rw [errV_zero]
   go_wp2_with fail
   refine (check_nil R _).mono ?_
   rintro r w' ⟨rfl, rfl⟩
   go_wp2
   go_ret
   exact ⟨l, n, 0, HV.out, .inl ⟨rfl, hn, g, wz, rfl, hT, hb, by rw [show ((p : Int) + (n : Int)) = ((p + n : Nat) : Int) by omega]⟩⟩
  ·have HE := Lib.hid he
   go_wp2_with fail
   refine (check_err (errV_is _ e) he gz HSz).mono ?_
   rintro r w' ⟨rfl, hb2⟩
   go_wp2
   exact ⟨rfl, l, n, e, HV.out, .inr ⟨HE.out, rfl, hb.trans (hb2.mono hb.size)⟩⟩
end Go.Proofs.YtkejlnjnoiidnaaGreatDoor
end
