/- The reference's disk: Crash, behind what the mask tells. -/
import Derived.Test.YthodlccjnbadhaaDoorRCrash
namespace Go.Proofs.YthodlccjnbadhaaDoor
set_option linter.unusedSimpArgs false
set_option linter.unusedVariables false
open Go.RowKit As Go.Maps
section
variable {w w' : World} {d M1 M2 N n1 n2 : Nat} {S X : DF}
theorem RD.lasted {i n1' : Nat} {t : ByteArray} (h : RD w d M1 M2 N n1 n2 S X) (hg : w.grownBy w' (some M1)) (hm : IM w' M1 n1' (upd S i t)) (hi : i < N) (ht : t.size = 32) : RD w' d M1 M2 N n1' n2 (upd S i t) X := by
  have hT : Turned (fun i => i = M1) w w' := .of_grown hg rfl
  refine ⟨hT.cell h.c0 h.d1, hT.cell h.c1 h.d1, hT.cell h.c2 h.d1, (hT.frozen (a := ⟨d, 2, none⟩) (cell_lt h.c2) h.d1).trans h.f2, hm, hT.im h.i2 (Ne.symm h.m12), ⟨h.fit.n, fun j s hj => ?_, h.fit.x⟩, h.d1, h.d2, h.m12⟩
  by_cases e : j = i
  · subst e
    rw [upd_same] at hj
    injection hj with hj
    subst hj
    exact ⟨ht, hi⟩
  · rw [upd_other S t e] at hj
    exact h.fit.s j s hj
theorem RD.more {n1' : Nat} (h : RD w d M1 M2 N n1 n2 S X) (hn : n1 ≤ n1') : RD w d M1 M2 N n1' n2 S X := ⟨h.c0, h.c1, h.c2, h.f2, h.i1.mono hn, h.i2, h.fit, h.d1, h.d2, h.m12⟩
theorem RD.cleared (h : RD w d M1 M2 N n1 n2 S X) : RD ((w.alloc (.map #[] 0)).setCell ⟨d, 2, none⟩ (.map (some w.heap.size))) d M1 w.heap.size N n1 0 S (fun _ => none) := by
  have hW := h.below (below1 w (.map #[] 0))
  have hi := IM.made w
  have hd : d < w.heap.size := cell_lt h.c0
  have h1 : M1 < w.heap.size := h.i1.lt
  generalize w.alloc (.map #[] 0) = W at *
  have hT : Turned (fun i => i = d) W (W.setCell ⟨d, 2, none⟩ (.map (some w.heap.size))) := .set W 2 _ rfl
  refine ⟨?_, ?_, World.cell?_setCell_same _ _ _ hW.c2, by rw [World.frozen?_setCell]; exact hW.f2, hT.im hW.i1 (Ne.symm h.d1), hT.im hi (by omega), ⟨h.fit.n, h.fit.s, fun _ _ h => (by cases h)⟩, h.d1, by omega, by omega⟩
  · rw [World.cell?_setCell_other _ _ _ _ (by intro h; injection h with _ h2; cases h2)]; exact hW.c0
  · rw [World.cell?_setCell_other _ _ _ _ (by intro h; injection h with _ h2; cases h2)]; exact hW.c1
structure CrLoc (w : World) (B gm : Nat) (A : Option Addr) (l : List Nat) (c9 mask : Nat) : Prop where
  cm : w.cell? ⟨gm, 0, none⟩ = some (.int .u64 (mask : Int))
  row : w.ownsRow B 3 1 (.slice A l.length c9) l.length (natV l)
theorem CrLoc.below {B gm c9 mask : Nat} {A : Option Addr} {l : List Nat} (h : CrLoc w B gm A l c9 mask) (hb : Below w.heap.size w w') : CrLoc w' B gm A l c9 mask :=
  have hT : Turned (fun _ => False) w w' := .of_below hb
  ⟨hT.cell h.cm id, hT.own h.row fun _ _ => id⟩
theorem CrLoc.kept {B gm c9 mask : Nat} {A : Option Addr} {l : List Nat} (h : CrLoc w B gm A l c9 mask) (hg : w.grownBy w' (some M1)) (hn : gm ≠ M1 ∧ M1 < B) : CrLoc w' B gm A l c9 mask := by
  have hT : Turned (fun i => i = M1) w w' := .of_grown hg rfl
  refine ⟨hT.cell h.cm hn.1, hT.own h.row fun k hk e => ?_⟩
  rcases h.row.2 with ⟨hv, _⟩ | ⟨g, cap, cur, hv, hb, _⟩
  · rw [hv] at hk; cases hk
  · rw [hv] at hk
    injection hk with hk
    have := hn.2
    have hb' : B ≤ g := hb
    subst e
    have : g = k := hk
    omega
end
set_option maxHeartbeats 2000000 in
set_option maxRecDepth 100000 in
theorem rcrash_any {w : World} {d M1 M2 N n1 n2 mask : Nat} {S X : DF} (h : RD w d M1 M2 N n1 n2 S X) (hm : mask < 18446744073709551616) (hn1 : n1 + 140 < maxLen) :
    Calls Tryd.prog 10 #[.pointer (some ⟨d, 0, none⟩), .int .u64 (mask : Int)] w fun e w' => ∃ M, e = .returned (.tuple #[]) ∧ RD w' d M1 M N (n1 + 140) 0 (crashed N mask S X) (fun _ => none) ∧ w.heap.size ≤ M ∧ Turned (RFoot d M1 M2) w w' := by
  have H140 := Lib.hid h.fit.n
  have HN1 := Lib.hid hn1
  clear hn1
  have hmf : ∀ (fn : Fn) (first cap : Array Value) (w : World), (Instr.makeFunc fn first cap).run Tryd.prog w = .ok (.func fn first cap) w := fun _ _ _ _ => rfl
  have hmm := @run_makeMap Tryd.prog
  have hbw := below1 w (.cells #[.int .u64 (mask : Int)] 32)
  have hcm : (w.alloc (.cells #[.int .u64 (mask : Int)] 32)).cell? ⟨w.heap.size, 0, none⟩ = some (.int .u64 (mask : Int)) := by rw [World.cell?_alloc_new]; rfl
  have hRw := h.below hbw
  have HM := Lib.hid (And.intro h.i1.lt (cell_lt h.c0))
  have hws : (w.alloc (.cells #[.int .u64 (mask : Int)] 32)).heap.size = w.heap.size + 1 := by simp
  obtain ⟨gm, hgm⟩ : ∃ gm, gm = w.heap.size := ⟨_, rfl⟩
  have HGM := Lib.hid hgm
  go_enter Tryd.func10, Tryd.ntmps10
  go_wp2_with fail
  rw [← hgm]
  rw [← hgm] at hcm
  have hgs : gm < w.heap.size + 1 := by omega
  have HG1 := Lib.hid hgs
  generalize hW : w.alloc (.cells #[.int .u64 (mask : Int)] 32) = W at *
  clear hW
  refine (rdirty_any hRw).mono ?_
  rintro e w1 ⟨v, rfl, ho, hb1⟩
  rw [hws] at ho
  have hP := hRw.below hb1
  have hT : Turned (RFoot d M1 M2) w w1 := (Turned.of_below hbw).trans (.of_below hb1)
  have hle := dirty_le N X
  obtain ⟨A, c9, rfl⟩ := own_form ho
  have hLo : CrLoc w1 (w.heap.size + 1) gm A (dirty N X) c9 mask := ⟨(Turned.of_below (S := fun _ => False) hb1).cell hcm id, ho⟩
  obtain ⟨B, hB⟩ : ∃ B, B = w.heap.size + 1 := ⟨_, rfl⟩
  rw [← hB] at hLo
  have HBM := Lib.hid (show gm ≠ M1 ∧ M1 < B by have := HM.out.1; have := HGM.out; omega)
  clear hB hbw hcm hRw hws hgm hgs ho hb1
  go_wp2
  go_loopw [5, 6, 11] (fun _ _ iv wr => ∃ k : Nat, k ≤ (dirty N X).length ∧ iv = .int .i64 (k : Int) ∧ RD wr d M1 M2 N (n1 + k) n2 (lasts mask X (dirty N X) S k) X ∧ CrLoc wr B gm A (dirty N X) c9 mask ∧ Turned (RFoot d M1 M2) w wr) (fun _ _ iv _ => (dirty N X).length - (intOf iv).toNat)
  case atStart => exact ⟨0, Nat.zero_le _, rfl, hP, hLo, hT⟩
  case round =>
    clear hP hLo hT
    obtain ⟨k, hk, rfl, hP, hLo, hT⟩ := hrel
    by_cases hlt : k < (dirty N X).length
    · have t0 : decide ((k : Int) < ((dirty N X).length : Int)) = true := decide_eq_true (by omega)
      obtain ⟨q1, q2, t, q3⟩ := dirty_at hlt
      obtain ⟨i, hi⟩ : ∃ i, i = (dirty N X).getD k 0 := ⟨_, rfl⟩
      rw [← hi] at q1 q2 q3
      have ho := hLo.row
      obtain ⟨g, c8, hA, hg1, hg2⟩ := down_some ho (by omega)
      obtain rfl : A = some ⟨g, 0, none⟩ := by injection hA
      have cK : wr.cell? ⟨g, k, none⟩ = some (.int .i64 (i : Int)) := by rw [ho.cellAt k (by omega)]; unfold natV; rw [List.getElem?_map, q1]; rfl
      have k0 : (0 : Int) ≤ (k : Int) := by omega
      have k1 : (k : Int) < ((dirty N X).length : Int) := by omega
      have hi6 : i ≤ 1000000 := by have := H140.out; omega
      have hk1000 : k ≤ 1000 := by have := H140.out; omega
      have wk : IntKind.i64.wrap ((k : Int) + 1) = ((k + 1 : Nat) : Int) := IntWalk.i64_in _ (by have := H140.out; omega)
      have hcm := hLo.cm
      have HI := Lib.hid hi
      have HQ1 := Lib.hid q1
      have hn9 : n1 + k < maxLen := by have := HN1.out; have := H140.out; omega
      have HN9 := Lib.hid hn9
      clear hi q1 ho hg1 hg2 hA hn9
      go_wp2_with fail
      refine (rbit_any hcm hm hk1000).mono ?_
      rintro r w2 ⟨rfl, hb2⟩
      have hP2 := hP.below hb2
      have hLo2 := hLo.below hb2
      have hT2 : Turned (RFoot d M1 M2) w w2 := hT.trans (.of_below hb2)
      clear hP hLo hT hb2 hcm cK
      cases hb : mbit mask k with
      | true =>
        have HLS := Lib.hid (show lasts mask X (dirty N X) S (k + 1) = upd (lasts mask X (dirty N X) S k) i t by rw [lasts, if_pos hb, ← HI.out, q3]; rfl)
        have ht32 := (hP2.fit.x i t q3).1
        have hn9 := HN9.out
        have hBM := HBM
        clear hb
        go_wp2
        refine Flow.wp_region_go (by kernel_rfl) (by kernel_rfl) (by kernel_rfl) 35 rfl (by kernel_rfl) (rcV d M1 M2 i t) (fun _ L wz => RD wz d M1 M2 N (cond (L 11) (n1 + (k + 1)) (n1 + k)) n2 (cond (L 11) (upd (lasts mask X (dirty N X) S k) i t) (lasts mask X (dirty N X) S k)) X ∧ CrLoc wz B gm (some ⟨g, 0, none⟩) (dirty N X) c9 mask ∧ Turned (RFoot d M1 M2) w wz) (fun _ _ => False) (()) (⟨hP2.below (Below.refl _ _).drew, hLo2.below (Below.refl _ _).drew, hT2.trans (.of_below (Below.refl _ _).drew)⟩) ⟨?_, ?_, ?_, ?_, ?_, ?_, ?_, ?_, ?_, ?_, ?_, ?_, trivial⟩ ?_ ?_
        · intro gz L wz K ρ hc0 hf0 hF hO hU hcl hi hd hC hK
          have e0 : ρ (.tmp 0) = .pointer (some ⟨d, 0, none⟩) := hO 0 (by kernel_rfl)
          simp [go_sem, Flow.ylP_value, Flow.ylP_skip, Flow.ylP_enter, Flow.ylP_panic, hc0, hf0, e0]
          exact hK gz wz hC (fun _ _ => rfl)
        · intro gz L wz K ρ hc0 hf0 hF hO hU hcl hi hd hC hK
          have d0 : L 0 = true := hd ⟨0, .data⟩ (by simp) rfl
          have e19 : ρ (.tmp 19) = .pointer (some ⟨d, 0, none⟩) := hF 19 0 (by kernel_rfl) d0
          simp [go_sem, Flow.ylP_value, Flow.ylP_skip, Flow.ylP_enter, Flow.ylP_panic, hc0, hf0, e19]
          exact hK gz wz hC (fun _ _ => rfl)
        · intro gz L wz K ρ hc0 hf0 hF hO hU hcl hi hd hC hK
          have d1 : L 1 = true := hd ⟨1, .data⟩ (by simp) rfl
          have e20 : ρ (.tmp 20) = .pointer (some ⟨d, 0, none⟩) := hF 20 1 (by kernel_rfl) d1
          simp [go_sem, Flow.ylP_value, Flow.ylP_skip, Flow.ylP_enter, Flow.ylP_panic, hc0, hf0, e20]
          exact hK gz wz hC (fun _ _ => rfl)
        · intro gz L wz K ρ hc0 hf0 hF hO hU hcl hi hd hC hK
          have d2 : L 2 = true := hd ⟨2, .data⟩ (by simp) rfl
          have e21 : ρ (.tmp 21) = .pointer (some ⟨d, 1, none⟩) := hF 21 2 (by kernel_rfl) d2
          have cc := hC.1.c1
          simp [go_sem, Flow.ylP_value, Flow.ylP_skip, Flow.ylP_enter, Flow.ylP_panic, hc0, hf0, e21, cc]
          exact hK gz wz hC (fun _ _ => rfl)
        · intro gz L wz K ρ hc0 hf0 hF hO hU hcl hi hd hC hK
          have e6 : ρ (.tmp 6) = .int .i64 (i : Int) := hO 6 (by kernel_rfl)
          simp [go_sem, Flow.ylP_value, Flow.ylP_skip, Flow.ylP_enter, Flow.ylP_panic, hc0, hf0, e6]
          exact hK gz wz hC (fun _ _ => rfl)
        · intro gz L wz K ρ hc0 hf0 hF hO hU hcl hi hd hC hK
          have e0 : ρ (.tmp 0) = .pointer (some ⟨d, 0, none⟩) := hO 0 (by kernel_rfl)
          simp [go_sem, Flow.ylP_value, Flow.ylP_skip, Flow.ylP_enter, Flow.ylP_panic, hc0, hf0, e0]
          exact hK gz wz hC (fun _ _ => rfl)
        · intro gz L wz K ρ hc0 hf0 hF hO hU hcl hi hd hC hK
          have d5 : L 5 = true := hd ⟨5, .data⟩ (by simp) rfl
          have e24 : ρ (.tmp 24) = .pointer (some ⟨d, 0, none⟩) := hF 24 5 (by kernel_rfl) d5
          simp [go_sem, Flow.ylP_value, Flow.ylP_skip, Flow.ylP_enter, Flow.ylP_panic, hc0, hf0, e24]
          exact hK gz wz hC (fun _ _ => rfl)
        · intro gz L wz K ρ hc0 hf0 hF hO hU hcl hi hd hC hK
          have d6 : L 6 = true := hd ⟨6, .data⟩ (by simp) rfl
          have e25 : ρ (.tmp 25) = .pointer (some ⟨d, 0, none⟩) := hF 25 6 (by kernel_rfl) d6
          simp [go_sem, Flow.ylP_value, Flow.ylP_skip, Flow.ylP_enter, Flow.ylP_panic, hc0, hf0, e25]
          exact hK gz wz hC (fun _ _ => rfl)
        · intro gz L wz K ρ hc0 hf0 hF hO hU hcl hi hd hC hK
          have d7 : L 7 = true := hd ⟨7, .data⟩ (by simp) rfl
          have e26 : ρ (.tmp 26) = .pointer (some ⟨d, 2, none⟩) := hF 26 7 (by kernel_rfl) d7
          have cc := hC.1.c2
          simp [go_sem, Flow.ylP_value, Flow.ylP_skip, Flow.ylP_enter, Flow.ylP_panic, hc0, hf0, e26, cc]
          exact hK gz wz hC (fun _ _ => rfl)
        · intro gz L wz K ρ hc0 hf0 hF hO hU hcl hi hd hC hK
          have e6 : ρ (.tmp 6) = .int .i64 (i : Int) := hO 6 (by kernel_rfl)
          simp [go_sem, Flow.ylP_value, Flow.ylP_skip, Flow.ylP_enter, Flow.ylP_panic, hc0, hf0, e6]
          exact hK gz wz hC (fun _ _ => rfl)
        · intro gz L wz K ρ hc0 hf0 hF hO hU hcl hi hd hC hK
          have d8 : L 8 = true := hd ⟨8, .data⟩ (by simp) rfl
          have e27 : ρ (.tmp 27) = .map (some M2) := hF 27 8 (by kernel_rfl) d8
          have d9 : L 9 = true := hd ⟨9, .data⟩ (by simp) rfl
          have e28 : ρ (.tmp 28) = .int .i64 (i : Int) := hF 28 9 (by kernel_rfl) d9
          have hl := hC.1.i2.look i hi6 q3
          simp [go_sem, Flow.ylP_value, Flow.ylP_skip, Flow.ylP_enter, Flow.ylP_panic, hc0, hf0, e27, e28, hl]
          exact hK () wz hC (fun _ _ => rfl)
        · intro gz L wz K ρ hc0 hf0 hF hO hU hcl hi hd hC hK
          have d3 : L 3 = true := hd ⟨3, .data⟩ (by simp) rfl
          have e22 : ρ (.tmp 22) = .map (some M1) := hF 22 3 (by kernel_rfl) d3
          have d4 : L 4 = true := hd ⟨4, .data⟩ (by simp) rfl
          have e23 : ρ (.tmp 23) = .int .i64 (i : Int) := hF 23 4 (by kernel_rfl) d4
          have d10 : L 10 = true := hd ⟨10, .data⟩ (by simp) rfl
          have e29 : ρ (.tmp 29) = .string t := hF 29 10 (by kernel_rfl) d10
          rw [hi] at hC
          obtain ⟨w9, hrun, him, hg9⟩ := hC.1.i1.put i hi6 hn9 (s := t) (by rw [ht32]; unfold maxLen; omega)
          unfold execOp
          simp only [resolve, Sem.run_bind, Sem.run_pure, Result.andThen_ok, e22, e23, e29, hrun]
          refine hK () w9 ?_ (fun _ _ => rfl)
          exact ⟨hC.1.lasted hg9 him q2 ht32, hC.2.1.kept hg9 hBM.out, hC.2.2.trans (.of_grown hg9 (.inr (.inl rfl)))⟩
        · intro gz L ch wz h; exact h.elim
        · intro gz L wz hL hC
          rw [hL 11 (by decide)] at hC
          simp only [Flow.putAll, rcV]
          go_wp2
          go_roundw
          case rel => exact ⟨k + 1, hlt, by go_num, by rw [HLS.out]; exact hC.1, hC.2.1, hC.2.2⟩
          case measure => simp [intOf]; omega
      | false =>
        have HLS := Lib.hid (show lasts mask X (dirty N X) S (k + 1) = lasts mask X (dirty N X) S k by rw [lasts, hb]; rfl)
        clear hb
        go_wp2
        go_roundw
        case rel => exact ⟨k + 1, hlt, by go_num, by rw [HLS.out]; exact hP2.more (by omega), hLo2, hT2⟩
        case measure => simp [intOf]; omega
    · obtain rfl : k = (dirty N X).length := by omega
      have t0 : decide (((dirty N X).length : Int) < ((dirty N X).length : Int)) = false := decide_eq_false (by omega)
      have hE := hP.cleared
      have hb3 := below1 wr (.map #[] 0)
      have hPW := hP.below hb3
      have hT3 : Turned (RFoot d M1 M2) w ((wr.alloc (.map #[] 0)).setCell ⟨d, 2, none⟩ (.map (some wr.heap.size))) := (hT.trans (.of_below hb3)).trans (.set _ 2 _ (.inl rfl))
      have hsz := hT.size
      have cd2 := hPW.c2
      have fd2 := hPW.f2
      have hlt2 := HN1.out
      have HE2 := Lib.hid (hE.more (n1' := n1 + 140) (by have := H140.out; omega))
      have HT3 := Lib.hid hT3
      clear hlt hE hPW hT3 hlt2
      go_wp2
      go_end0
      exact ⟨_, rfl, HE2.out, hsz, HT3.out⟩
end Go.Proofs.YthodlccjnbadhaaDoor
