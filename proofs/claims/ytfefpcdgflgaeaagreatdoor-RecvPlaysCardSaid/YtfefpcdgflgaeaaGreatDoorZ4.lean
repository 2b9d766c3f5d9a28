/- The program's disk: Crash, Sync. -/
import Derived.Test.YtfefpcdgflgaeaaGreatDoorZ3
import Derived.Laws.BitsAllLaws
section
namespace Go.Proofs.YtfefpcdgflgaeaaGreatDoor
set_option linter.unusedSimpArgs false
set_option linter.unusedVariables false
open Go.RowKit As Go.Maps
theorem wpList_clear_im {w : World} {ops : Array Oper} {rest : List Oper} {o : Oper} {a : Act} {Q : Exit → Act → World → Prop} (hg : o.guard = none) (m : Operand)
  (hop : o.op = .call { callee := .builtin .clear, args := #[m], argTypes := #[107] }) (b n : Nat) (f : DF) (hm : a.eval m = .map (some b)) (h : IM w b n f)
  (hK : ∀ w', IM w' b n (fun _ => none) → w.grownBy w' (some b) → wpList Tryz.prog ops Q rest (a.put o.dst (.tuple #[])) w') : wpList Tryz.prog ops Q (o :: rest) a w := by
 refine wpList_plain hg fun K hK' => ?_
 obtain ⟨w', hr, h2, h3⟩ := h.clear o.type
 unfold Oper.wp execOp
 simp only [hop, resolve, invoke, builtin, Sem.run_bind, Sem.run_pure, Result.andThen_ok, List.map_toArray, List.map_cons, List.map_nil, hm, hr]
 exact hK' _ _ (hK w' h2 h3)
theorem PD.stored {w : World} {d R M N c n i : Nat} {S X : DF} {t : ByteArray} (h : PD w d R M N c n S X) (hi : i < N) (ht : t.size = 32) : PD (w.setCell ⟨R, i, none⟩ (.string t)) d R M N c n (upd S i t) X := by
 obtain ⟨h1, h2⟩ := h.row.stored i (.string t)
 have e : (secs N S).set i (.string t) = secs N (upd S i t) := by
  apply List.ext_getElem?
  intro j
  by_cases hj : j < N
  ·rw [secs_at _ hj, List.getElem?_set]
   by_cases e : i = j
   ·subst e
    rw [if_pos rfl, if_pos (by rw [secs_len]; exact hj), safe_upd, if_pos rfl]
   ·rw [if_neg e, secs_at _ hj, safe_upd, if_neg (Ne.symm e)]
  ·rw [List.getElem?_eq_none (by rw [List.length_set, secs_len]; omega), List.getElem?_eq_none (by rw [secs_len]; omega)]
 rw [e] at h1
 have hT : Turned (fun i => i = R) w (w.setCell ⟨R, i, none⟩ (.string t)) := .set w i _ rfl
 refine ⟨hT.cell h.c0 h.dR, hT.cell h.c1 h.dR, h1, hT.im h.im (Ne.symm h.RM), ⟨h.fit.n, fun j s hj => ?_, h.fit.x⟩, h.dR, h.dM, h.RM⟩
 by_cases e : j = i
 ·subst e
  rw [upd_same] at hj
  injection hj with hj
  subst hj
  exact ⟨ht, hi⟩
 ·rw [upd_other S t e] at hj
  exact h.fit.s j s hj
def dcV (d R M N c i : Nat) (t : ByteArray) (g : Unit) : Nat → Value
 | 0 => .pointer (some ⟨d, 0, none⟩)
 | 1 => .pointer (some ⟨d, 0, none⟩)
 | 2 => .pointer (some ⟨d, 0, none⟩)
 | 3 => .slice (some ⟨R, 0, none⟩) N c
 | 4 => .int .i64 (i : Int)
 | 5 => .pointer (some ⟨d, 0, none⟩)
 | 6 => .pointer (some ⟨d, 0, none⟩)
 | 7 => .pointer (some ⟨d, 1, none⟩)
 | 8 => .map (some M)
 | 9 => .int .i64 (i : Int)
 | 10 => .string t
 | 11 => .pointer (some ⟨R, i, none⟩)
 | _ => undef
theorem mtest {mask k m : Nat} (hm : mask < 18446744073709551616) (h : m = min k 63) : (bits BinOp.and IntKind.u64 ((mask : Int) / 2 ^ m) 1 == 1) = mbit mask k := by
 have e : (mask : Int) / 2 ^ m = ((mask / 2 ^ m : Nat) : Int) := by simp
 have e1 : bits BinOp.and IntKind.u64 ((mask : Int) / 2 ^ m) 1 = ((mask / 2 ^ m % 2 : Nat) : Int) := by
  rw [e]
  have := u64_and_nat (mask / 2 ^ m) 1 (Nat.lt_of_le_of_lt (Nat.div_le_self _ _) hm) (by omega)
  rw [Nat.and_one_is_mod] at this
  exact this
 rw [e1]
 unfold mbit
 rw [← h]
 rcases Nat.mod_two_eq_zero_or_one (mask / 2 ^ m) with q | q <;> rw [q] <;> rfl
theorem PD.cleared {w w' : World} {d R M N c n : Nat} {S X : DF} (h : PD w d R M N c n S X) (hg : w.grownBy w' (some M)) (hi : IM w' M n (fun _ => none)) : PD w' d R M N c n S (fun _ => none) :=
 have ht : Turned (fun i => i = M) w w' := .of_grown hg rfl
 ⟨ht.cell h.c0 h.dM, ht.cell h.c1 h.dM, ht.own h.row (fun q e => by injection e with e; subst e; exact h.RM), hi, ⟨h.fit.n, h.fit.s, fun _ _ h => (by cases h)⟩, h.dR, h.dM, h.RM⟩
theorem row_lt {w : World} {R N c : Nat} {e : TypeId} {xs : List Value} (h : w.ownsRow R e 1 (.slice (some ⟨R, 0, none⟩) N c) N xs) : R < w.heap.size := by
 rcases h.2 with ⟨hv, _⟩ | ⟨g, cap, cur, hv, hb, hh, _⟩
 ·cases hv
 ·injection hv with h1
  injection h1 with h1
  injection h1 with h1
  subst h1
  exact (Array.getElem?_eq_some_iff.1 hh).1
theorem down_some {w : World} {B : Nat} {e : TypeId} {size : Nat} {v : Value} {n : Nat} {xs : List Value} (h : w.ownsRow B e size v n xs) (hn : 0 < n) : ∃ g c, v = .slice (some ⟨g, 0, none⟩) n c ∧ B ≤ g ∧ g < w.heap.size := by
 rcases h.2 with ⟨_, h0⟩ | ⟨g, cap, cur, hv, hb, hh, _⟩
 ·omega
 ·exact ⟨g, cap, hv, hb, (Array.getElem?_eq_some_iff.1 hh).1⟩
set_option maxHeartbeats 1000000 in
set_option maxRecDepth 100000 in
theorem dcrash_any {w : World} {d R M N c n mask : Nat} {S X : DF} (h : PD w d R M N c n S X) (hm : mask < 18446744073709551616) :
  Calls Tryz.prog 46 #[.pointer (some ⟨d, 0, none⟩), .int .u64 (mask : Int)] w fun e w' => e = .returned (.tuple #[]) ∧ PD w' d R M N c n (crashed N mask S X) (fun _ => none) ∧ Turned (PFoot R M) w w' := by
 have H140 := Lib.hid h.fit.n
 go_enter Tryz.func46, Tryz.ntmps46
 go_wp2_with fail
 refine (ddirty_any h).mono ?_
 rintro e w1 ⟨v, rfl, ho, hb1⟩
 have hP := h.below hb1
 have hT : Turned (PFoot R M) w w1 := .of_below hb1
 have hle := dirty_le N X
 have lRw := Lib.hid (row_lt h.row)
 obtain ⟨A, c9, rfl⟩ := own_form ho
 go_wp2
 go_loopw [4, 5, 9] (fun _ _ iv wr => ∃ k : Nat, k ≤ (dirty N X).length ∧ iv = .int .i64 (k : Int) ∧ PD wr d R M N c n (lasts mask X (dirty N X) S k) X ∧ wr.ownsRow w.heap.size 3 1 (.slice A (dirty N X).length c9) (dirty N X).length (natV (dirty N X)) ∧ Turned (PFoot R M) w wr) (fun _ _ iv _ => (dirty N X).length - (intOf iv).toNat)
 case atStart => exact ⟨0, Nat.zero_le _, rfl, hP, ho, hT⟩
 case round =>
  clear hP ho hT hb1
  obtain ⟨k, hk, rfl, hP, ho, hT⟩ := hrel
  by_cases hlt : k < (dirty N X).length
  ·have t0 : decide ((k : Int) < ((dirty N X).length : Int)) = true := decide_eq_true (by omega)
   obtain ⟨q1, q2, t, q3⟩ := dirty_at hlt
   obtain ⟨i, hi⟩ : ∃ i, i = (dirty N X).getD k 0 := ⟨_, rfl⟩
   rw [← hi] at q1 q2 q3
   obtain ⟨g, c8, hA, hg1, hg2⟩ := down_some ho (by omega)
   obtain rfl : A = some ⟨g, 0, none⟩ := by injection hA
   have cK : wr.cell? ⟨g, k, none⟩ = some (.int .i64 (i : Int)) := by rw [ho.cellAt k (by omega)]; unfold natV; rw [List.getElem?_map, q1]; rfl
   have k0 : (0 : Int) ≤ (k : Int) := by omega
   have k1 : (k : Int) < ((dirty N X).length : Int) := by omega
   have hmn : (if 63 < (k : Int) then (63 : Int) else (k : Int)) = ((min k 63 : Nat) : Int) := by split <;> omega
   obtain ⟨m, hm63⟩ : ∃ m, m = min k 63 := ⟨_, rfl⟩
   rw [← hm63] at hmn
   have hi6 : i ≤ 1000000 := by have := H140.out; omega
   have wk : IntKind.i64.wrap ((k : Int) + 1) = ((k + 1 : Nat) : Int) := IntWalk.i64_in _ (by have := H140.out; omega)
   have HI := Lib.hid hi
   have HQ1 := Lib.hid q1
   clear hi q1
   cases hb : mbit mask k with
   | true =>
    have HLS := Lib.hid (show lasts mask X (dirty N X) S (k + 1) = upd (lasts mask X (dirty N X) S k) i t by rw [lasts, if_pos hb, ← HI.out, q3]; rfl)
    have tt := mtest (k := k) hm hm63
    rw [hb] at tt
    have i0 : (0 : Int) ≤ (i : Int) := by omega
    have i1 : (i : Int) < (N : Int) := by omega
    have i1' : i < N := q2
    have ht32 := (hP.fit.x i t q3).1
    have hRw := Lib.hid (lRw.out)
    clear hb hm63
    go_wp2
    refine Flow.wp_region_go (by kernel_rfl) (by kernel_rfl) (by kernel_rfl) 37 rfl (by kernel_rfl) (dcV d R M N c i t) (fun _ L wz => PD wz d R M N c n (cond (L 12) (upd (lasts mask X (dirty N X) S k) i t) (lasts mask X (dirty N X) S k)) X ∧ wz.ownsRow w.heap.size 3 1 (.slice (some ⟨g, 0, none⟩) (dirty N X).length c9) (dirty N X).length (natV (dirty N X)) ∧ Turned (PFoot R M) w wz) (fun _ _ => False) (()) (⟨hP.below (Below.refl _ _).drew, (Turned.of_below (S := fun _ => False) (Below.refl _ _).drew).own ho (fun _ _ => id), hT.trans (.of_below (Below.refl _ _).drew)⟩) ⟨?_, ?_, ?_, ?_, ?_, ?_, ?_, ?_, ?_, ?_, ?_, ?_, ?_, trivial⟩ ?_ ?_
    ·intro gz L wz K ρ hc0 hf0 hF hO hU hcl hi hd hC hK
     have e0 : ρ (.tmp 0) = .pointer (some ⟨d, 0, none⟩) := hO 0 (by kernel_rfl)
     simp [go_sem, Flow.ylP_value, Flow.ylP_skip, Flow.ylP_enter, Flow.ylP_panic, hc0, hf0, e0]
     exact hK gz wz hC (fun _ _ => rfl)
    ·intro gz L wz K ρ hc0 hf0 hF hO hU hcl hi hd hC hK
     have d0 : L 0 = true := hd ⟨0, .data⟩ (by simp) rfl
     have e20 : ρ (.tmp 20) = .pointer (some ⟨d, 0, none⟩) := hF 20 0 (by kernel_rfl) d0
     simp [go_sem, Flow.ylP_value, Flow.ylP_skip, Flow.ylP_enter, Flow.ylP_panic, hc0, hf0, e20]
     exact hK gz wz hC (fun _ _ => rfl)
    ·intro gz L wz K ρ hc0 hf0 hF hO hU hcl hi hd hC hK
     have d1 : L 1 = true := hd ⟨1, .data⟩ (by simp) rfl
     have e21 : ρ (.tmp 21) = .pointer (some ⟨d, 0, none⟩) := hF 21 1 (by kernel_rfl) d1
     simp [go_sem, Flow.ylP_value, Flow.ylP_skip, Flow.ylP_enter, Flow.ylP_panic, hc0, hf0, e21]
     exact hK gz wz hC (fun _ _ => rfl)
    ·intro gz L wz K ρ hc0 hf0 hF hO hU hcl hi hd hC hK
     have d2 : L 2 = true := hd ⟨2, .data⟩ (by simp) rfl
     have e22 : ρ (.tmp 22) = .pointer (some ⟨d, 0, none⟩) := hF 22 2 (by kernel_rfl) d2
     have cc := hC.1.c0
     simp [go_sem, Flow.ylP_value, Flow.ylP_skip, Flow.ylP_enter, Flow.ylP_panic, hc0, hf0, e22, cc]
     exact hK gz wz hC (fun _ _ => rfl)
    ·intro gz L wz K ρ hc0 hf0 hF hO hU hcl hi hd hC hK
     have e5 : ρ (.tmp 5) = .int .i64 (i : Int) := hO 5 (by kernel_rfl)
     simp [go_sem, Flow.ylP_value, Flow.ylP_skip, Flow.ylP_enter, Flow.ylP_panic, hc0, hf0, e5]
     exact hK gz wz hC (fun _ _ => rfl)
    ·intro gz L wz K ρ hc0 hf0 hF hO hU hcl hi hd hC hK
     have e0 : ρ (.tmp 0) = .pointer (some ⟨d, 0, none⟩) := hO 0 (by kernel_rfl)
     simp [go_sem, Flow.ylP_value, Flow.ylP_skip, Flow.ylP_enter, Flow.ylP_panic, hc0, hf0, e0]
     exact hK gz wz hC (fun _ _ => rfl)
    ·intro gz L wz K ρ hc0 hf0 hF hO hU hcl hi hd hC hK
     have d5 : L 5 = true := hd ⟨5, .data⟩ (by simp) rfl
     have e25 : ρ (.tmp 25) = .pointer (some ⟨d, 0, none⟩) := hF 25 5 (by kernel_rfl) d5
     simp [go_sem, Flow.ylP_value, Flow.ylP_skip, Flow.ylP_enter, Flow.ylP_panic, hc0, hf0, e25]
     exact hK gz wz hC (fun _ _ => rfl)
    ·intro gz L wz K ρ hc0 hf0 hF hO hU hcl hi hd hC hK
     have d6 : L 6 = true := hd ⟨6, .data⟩ (by simp) rfl
     have e26 : ρ (.tmp 26) = .pointer (some ⟨d, 0, none⟩) := hF 26 6 (by kernel_rfl) d6
     simp [go_sem, Flow.ylP_value, Flow.ylP_skip, Flow.ylP_enter, Flow.ylP_panic, hc0, hf0, e26]
     exact hK gz wz hC (fun _ _ => rfl)
    ·intro gz L wz K ρ hc0 hf0 hF hO hU hcl hi hd hC hK
     have d7 : L 7 = true := hd ⟨7, .data⟩ (by simp) rfl
     have e27 : ρ (.tmp 27) = .pointer (some ⟨d, 1, none⟩) := hF 27 7 (by kernel_rfl) d7
     have cc := hC.1.c1
     simp [go_sem, Flow.ylP_value, Flow.ylP_skip, Flow.ylP_enter, Flow.ylP_panic, hc0, hf0, e27, cc]
     exact hK gz wz hC (fun _ _ => rfl)
    ·intro gz L wz K ρ hc0 hf0 hF hO hU hcl hi hd hC hK
     have e5 : ρ (.tmp 5) = .int .i64 (i : Int) := hO 5 (by kernel_rfl)
     simp [go_sem, Flow.ylP_value, Flow.ylP_skip, Flow.ylP_enter, Flow.ylP_panic, hc0, hf0, e5]
     exact hK gz wz hC (fun _ _ => rfl)
    ·intro gz L wz K ρ hc0 hf0 hF hO hU hcl hi hd hC hK
     have d8 : L 8 = true := hd ⟨8, .data⟩ (by simp) rfl
     have e28 : ρ (.tmp 28) = .map (some M) := hF 28 8 (by kernel_rfl) d8
     have d9 : L 9 = true := hd ⟨9, .data⟩ (by simp) rfl
     have e29 : ρ (.tmp 29) = .int .i64 (i : Int) := hF 29 9 (by kernel_rfl) d9
     have hl := hC.1.im.look i hi6 q3
     simp [go_sem, Flow.ylP_value, Flow.ylP_skip, Flow.ylP_enter, Flow.ylP_panic, hc0, hf0, e28, e29, hl]
     exact hK () wz hC (fun _ _ => rfl)
    ·intro gz L wz K ρ hc0 hf0 hF hO hU hcl hi hd hC hK
     have d3 : L 3 = true := hd ⟨3, .data⟩ (by simp) rfl
     have e23 : ρ (.tmp 23) = .slice (some ⟨R, 0, none⟩) N c := hF 23 3 (by kernel_rfl) d3
     have d4 : L 4 = true := hd ⟨4, .data⟩ (by simp) rfl
     have e24 : ρ (.tmp 24) = .int .i64 (i : Int) := hF 24 4 (by kernel_rfl) d4
     simp [go_sem, Flow.ylP_value, Flow.ylP_skip, Flow.ylP_enter, Flow.ylP_panic, hc0, hf0, e23, e24, i0, i1, i1']
     exact hK gz wz hC (fun _ _ => rfl)
    ·intro gz L wz K ρ hc0 hf0 hF hO hU hcl hi hd hC hK
     have d11 : L 11 = true := hd ⟨11, .data⟩ (by simp) rfl
     have e31 : ρ (.tmp 31) = .pointer (some ⟨R, i, none⟩) := hF 31 11 (by kernel_rfl) d11
     have d10 : L 10 = true := hd ⟨10, .data⟩ (by simp) rfl
     have e30 : ρ (.tmp 30) = .string t := hF 30 10 (by kernel_rfl) d10
     rw [hi] at hC
     have c1 := (hC.1.row.cellAt i (by rw [Nat.mul_one]; exact q2)).trans (secs_at _ q2)
     have f1 := hC.1.row.frozenAt i
     simp [go_sem, Flow.ylP_value, Flow.ylP_skip, Flow.ylP_enter, Flow.ylP_panic, hc0, hf0, e31, e30, c1, f1]
     exact hK () _ ⟨hC.1.stored q2 ht32, own_set (s := R) (j := i) (.string t) hC.2.1 hRw.out, hC.2.2.trans (.set _ i _ (.inl rfl))⟩ (fun _ _ => rfl)
    ·intro gz L ch wz h; exact h.elim
    ·intro gz L wz hL hC
     rw [hL 12 (by decide)] at hC
     simp only [Flow.putAll, dcV]
     go_wp2
     go_roundw
     case rel => exact ⟨k + 1, hlt, by go_num, by rw [HLS.out]; exact hC.1, hC.2.1, hC.2.2⟩
     case measure => simp [intOf]; omega
   | false =>
    have HLS := Lib.hid (show lasts mask X (dirty N X) S (k + 1) = lasts mask X (dirty N X) S k by rw [lasts, hb]; rfl)
    have tt := mtest (k := k) hm hm63
    rw [hb] at tt
    clear hb hm63
    go_wp2
    go_roundw
    case rel => exact ⟨k + 1, hlt, by go_num, by rw [HLS.out]; exact hP, ho, hT⟩
    case measure => simp [intOf]; omega
  ·obtain rfl : k = (dirty N X).length := by omega
   have t0 : decide (((dirty N X).length : Int) < ((dirty N X).length : Int)) = false := decide_eq_false (by omega)
   have c1 := hP.c1
   clear hlt
   go_wp2_with (first
    | (refine wpList_clear_im rfl _ rfl M n X rfl hP.im ?_; intro w9 him hg9))
   go_end0
   exact ⟨rfl, hP.cleared hg9 him, hT.trans (.of_grown hg9 (.inr rfl))⟩
set_option maxHeartbeats 1000000 in
theorem dsync_any {w : World} {d R M N c n : Nat} {S X : DF} (h : PD w d R M N c n S X) :
  Calls Tryz.prog 39 #[.pointer (some ⟨d, 0, none⟩)] w fun e w' => e = .returned (.tuple #[]) ∧ PD w' d R M N c n (crashed N 18446744073709551615 S X) (fun _ => none) ∧ Turned (PFoot R M) w w' := by
 go_enter Tryz.func39, Tryz.ntmps39
 go_wp2_with fail
 refine (dcrash_any (mask := 18446744073709551615) h (by decide)).mono ?_
 rintro e w1 ⟨rfl, hP, hT⟩
 go_wp2
 go_end0
 exact ⟨rfl, hP, hT⟩
end Go.Proofs.YtfefpcdgflgaeaaGreatDoor
end
