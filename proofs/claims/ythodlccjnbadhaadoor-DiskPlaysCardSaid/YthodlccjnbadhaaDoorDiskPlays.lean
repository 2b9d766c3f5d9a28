/- The law DiskPlays: whatever is done, both disks answer alike. -/
import Derived.Test.YthodlccjnbadhaaDoorTouch
namespace Go.Proofs.YthodlccjnbadhaaDoor
set_option linter.unusedSimpArgs false
set_option linter.unusedVariables false
open Go.RowKit As Go.Maps
theorem yes_same {x : Int} : decide (x = x ∧ (-1 : Int) = -1) = true := by simp
theorem yes_eq {α : Type} [DecidableEq α] {x : α} : decide (x = x) = true := by simp
theorem Handle.below_ {w w' : World} (h : Handle w) (hb : Below w.heap.size w w') : Handle w' := h.below hb
structure TC (w : World) (g : Nat) (x : Tch) : Prop where
  c0 : w.cell? ⟨g, 0, none⟩ = some (.int .i64 x.1)
  c1 : w.cell? ⟨g, 1, none⟩ = some (.int .i64 x.2.1)
  c2 : w.cell? ⟨g, 2, none⟩ = some (.string x.2.2.1)
  c3 : w.cell? ⟨g, 3, none⟩ = some (.int .u64 x.2.2.2)
theorem TC.turned {w w' : World} {g : Nat} {x : Tch} {F : Nat → Prop} (h : TC w g x) (ht : Turned F w w') (hn : ¬ F g) : TC w' g x := ⟨ht.cell h.c0 hn, ht.cell h.c1 hn, ht.cell h.c2 hn, ht.cell h.c3 hn⟩
theorem TC.below {w w' : World} {g : Nat} {x : Tch} (h : TC w g x) (hb : Below w.heap.size w w') : TC w' g x := h.turned (F := fun _ => False) (.of_below hb) id
def dpV (N d e gt : Nat) (at_ : Int) (s : ByteArray) (g : Unit) : Nat → Value
  | 0 => .pointer (some ⟨d, 0, none⟩)
  | 1 => .pointer (some ⟨gt, 1, none⟩)
  | 2 => .int .i64 at_
  | 3 => .pointer (some ⟨gt, 2, none⟩)
  | 4 => .string s
  | 5 => errV (dwErr N at_ s)
  | 6 => .pointer (some ⟨e, 0, none⟩)
  | 7 => .pointer (some ⟨gt, 1, none⟩)
  | 8 => .int .i64 at_
  | 9 => .pointer (some ⟨gt, 2, none⟩)
  | 10 => .string s
  | 11 => .int .i64 (dwErr N at_ s)
  | 12 => .bool true
  | 13 => .bool false
  | _ => undef
set_option maxHeartbeats 4000000 in
set_option maxRecDepth 100000 in
theorem walkDiskPlays (n : Int) (a : TchArg) (w : World) (hn : (Lit.int .i64 n).wf = true) (ha : Sl w w.heap.size 4 a.A a.n (a.l.flatMap tchCells) ∧ (∀ x ∈ a.l, tchFits x) ∧ a.n ≤ maxLen) (hg : Handle w) :
    Calls Tryd.prog 3 #[.int .i64 n, .slice a.A a.n a.c] w fun e w' => e = .returned (.bool true) ∧ Below w.heap.size w w' := by
  obtain ⟨A, ln, c, l⟩ := a
  obtain ⟨hs, hf, hlen⟩ := ha
  simp only at hs hf hlen
  clear hn
  by_cases h1 : 100 < ln
  · have d1 : decide (100 < (ln : Int)) = true := decide_eq_true (by omega)
    go_enter Tryd.func3, Tryd.ntmps3
    go_wp2
    go_ret
    exact ⟨rfl, Below.refl _ _⟩
  have d1 : decide (100 < (ln : Int)) = false := decide_eq_false (by omega)
  clear hlen
  by_cases h2 : n < 0 ∨ 140 < n
  · go_enter Tryd.func3, Tryd.ntmps3
    go_wp2_with fail
    refine (dnew_no n h2 w).mono ?_
    rintro r w1 ⟨rfl, rfl⟩
    by_cases h0 : n < 0
    · have d0 : decide (n < 0) = true := decide_eq_true h0
      clear h2
      go_wp2_with fail
      refine (bare_any (errV_is w 2) hg 2).mono ?_
      rintro r w1 ⟨rfl, hb⟩
      go_wp2
      go_ret
      exact ⟨rfl, hb⟩
    · have d0 : decide (n < 0) = false := decide_eq_false h0
      have d2 : decide (140 < n) = true := decide_eq_true (by omega)
      clear h2 h0
      go_wp2_with fail
      refine (bare_any (errV_is w 2) hg 2).mono ?_
      rintro r w1 ⟨rfl, hb⟩
      go_wp2
      go_ret
      exact ⟨rfl, hb⟩
  obtain ⟨N, rfl⟩ := Int.eq_ofNat_of_zero_le (show 0 ≤ n by omega)
  have hN : N ≤ 140 := by omega
  have d2 : decide ((N : Int) < 0) = false := decide_eq_false (by omega)
  have d3 : decide (140 < (N : Int)) = false := decide_eq_false (by omega)
  go_enter Tryd.func3, Tryd.ntmps3
  go_wp2_with fail
  refine (dnew_any N hN w).mono ?_
  rintro r w1 ⟨d, R, M, rfl, hP, hlo, hb1⟩
  clear h2
  go_wp2_with fail
  refine (rnew_any N hN w1).mono ?_
  rintro r w2 ⟨e, M1, M2, rfl, hR, hhi, hb2⟩
  obtain ⟨H, hH⟩ : ∃ H, H = w1.heap.size := ⟨_, rfl⟩
  have hT : TwoD w2 w.heap.size H d R M e M1 M2 N 0 0 0 (fun _ => none) (fun _ => none) := by
    have h8 : d < w1.heap.size := cell_lt hP.c0
    have := row_lt hP.row
    have := hP.im.lt
    have := hb1.size
    have h9 := hb2.size
    exact ⟨hP.below hb2, hR, ⟨hlo.1, hlo.2.1, hlo.2.2, by omega⟩, ⟨by omega, by omega, by omega, by omega, by omega, by omega⟩, by omega⟩
  have hb : Below w.heap.size w w2 := hb1.trans (hb2.mono hb1.size)
  have HH := Lib.hid hg
  have H100 := Lib.hid h1
  clear hg hH hP hR hlo hhi hb1 hb2 h1 d1 d2 d3 hN
  go_wp2
  go_loopw [44] (fun iv wr => ∃ (k : Nat) (M2 n n1 n2 : Nat) (S X : DF), k ≤ ln ∧ iv = .int .i64 (k : Int) ∧ n ≤ k ∧ n1 ≤ 140 * k ∧ n2 ≤ k ∧ TwoD wr w.heap.size H d R M e M1 M2 N n n1 n2 S X ∧ Below w.heap.size w wr) (fun iv _ => ln - (intOf iv).toNat)
  case atStart => exact ⟨0, M2, 0, 0, 0, _, _, Nat.zero_le _, rfl, Nat.zero_le _, Nat.zero_le _, Nat.zero_le _, hT, hb⟩
  case round =>
    clear hT hb
    obtain ⟨k, M2, n, n1, n2, S, X, hk, rfl, q0, q1, q2, hT, hb⟩ := hrel
    by_cases hlt : k < ln
    · have t0 : decide ((k : Int) < (ln : Int)) = true := decide_eq_true (by omega)
      obtain ⟨b, o, ⟨kd, at_, s, mk⟩, rfl, hbl, hfx, c0, c1, c2, c3⟩ := tch_at (hs.below hb) hf hlt
      simp only at hfx c0 c1 c2 c3
      have bA := below1 wr (.cells #[.int .i64 kd, .int .i64 at_, .string s, .int .u64 mk] 34)
      have hC : TC (wr.alloc (.cells #[.int .i64 kd, .int .i64 at_, .string s, .int .u64 mk] 34)) wr.heap.size (kd, at_, s, mk) := ⟨by rw [World.cell?_alloc_new]; rfl, by rw [World.cell?_alloc_new]; rfl, by rw [World.cell?_alloc_new]; rfl, by rw [World.cell?_alloc_new]; rfl⟩
      have hTA := hT.below bA
      have hbA := hb.trans (bA.mono hb.size)
      obtain ⟨gt, hgt⟩ : ∃ gt, gt = wr.heap.size := ⟨_, rfl⟩
      have hord : (gt ≠ R ∧ gt ≠ M) ∧ (gt ≠ e ∧ gt ≠ M1 ∧ gt ≠ M2) := by
        have h1 := hT.hi
        have h2 := hT.sz
        have h3 : e < wr.heap.size := cell_lt hT.r.c0
        have h4 := hT.r.i1.lt
        have h5 := hT.r.i2.lt
        omega
      have HF := Lib.hid (show ¬ PFoot R M e ∧ ¬ PFoot R M M1 ∧ ¬ PFoot R M M2 ∧ ¬ PFoot R M gt by have h1 := hT.hi; unfold PFoot; omega)
      have HE := Lib.hid (show ¬ RFoot e M1 M2 d ∧ ¬ RFoot e M1 M2 R ∧ ¬ RFoot e M1 M2 M ∧ ¬ RFoot e M1 M2 gt by have h1 := hT.hi; unfold RFoot; omega)
      have HL := Lib.hid (show (w.heap.size ≤ R ∧ w.heap.size ≤ M) ∧ (w.heap.size ≤ e ∧ w.heap.size ≤ M1 ∧ w.heap.size ≤ M2) by have h1 := hT.hi; have h2 := hT.lo; omega)
      have HL2 := Lib.hid (And.intro hT.lo hT.hi)
      have HNN := Lib.hid (show n < maxLen ∧ n2 < maxLen by have := H100.out; unfold maxLen; omega)
      have HN1 := Lib.hid (show n1 + 140 < maxLen by have := H100.out; unfold maxLen; omega)
      have wk : IntKind.i64.wrap ((k : Int) + 1) = ((k + 1 : Nat) : Int) := IntWalk.i64_in _ (by have := H100.out; omega)
      rw [← hgt] at hC
      clear hord hT hb bA
      by_cases hz : 200 < s.size
      · have t1 : decide (200 < (s.size : Int)) = true := decide_eq_true (by omega)
        have HB := Lib.hid hbA
        clear hz hC hTA hbA
        go_wp2
        go_ret
        exact ⟨rfl, HB.out⟩
      have t1 : decide (200 < (s.size : Int)) = false := decide_eq_false (by omega)
      have hs6 : s.size ≤ 1000000 := by omega
      clear hz
      go_upto_block 2 with fail
      rw [← hgt]
      clear hgt c0 c1 c2 c3 t1
      generalize wr.alloc (.cells #[.int .i64 kd, .int .i64 at_, .string s, .int .u64 mk] 34) = W at *
      have hT := hTA
      have hb := hbA
      clear hTA hbA
      go_cut [9] (fun v wx => v = .pointer (some ⟨gt, 0, none⟩) ∧ ∃ (M3 n' n1' n2' : Nat) (S' X' : DF), n' ≤ k + 1 ∧ n1' ≤ 140 * (k + 1) ∧ n2' ≤ k + 1 ∧ TwoD wx w.heap.size H d R M e M1 M3 N n' n1' n2' S' X' ∧ TC wx gt (kd, at_, s, mk) ∧ Below w.heap.size w wx)
      case first =>
        by_cases hk0 : kd = 0
        · subst hk0
          go_wp2
          refine Flow.wp_region_go (by kernel_rfl) (by kernel_rfl) (by kernel_rfl) 118 rfl (by kernel_rfl) (dpV N d e gt at_ s) (fun _ L wz => PD wz d R M N N (cond (L 5) (n + 1) n) S (cond (L 5) (dwX N X at_ s) X) ∧ RD wz e M1 M2 N n1 (cond (L 11) (n2 + 1) n2) S (cond (L 11) (dwX N X at_ s) X) ∧ TC wz gt (0, at_, s, mk) ∧ Below w.heap.size w wz ∧ H ≤ wz.heap.size) (fun _ _ => False) (()) (⟨hT.p.below (Below.refl _ _).drew, hT.r.below (Below.refl _ _).drew, hC.below (Below.refl _ _).drew, hb.trans ((Below.refl _ _).drew), hT.sz⟩) ⟨?_, ?_, ?_, ?_, ?_, ?_, ?_, ?_, ?_, ?_, ?_, ?_, ?_, ?_, trivial⟩ ?_ ?_
          · intro gz L wz K ρ hc0 hf0 hF hO hU hcl hi hd hC hK
            have e5 : ρ (.tmp 5) = .pointer (some ⟨d, 0, none⟩) := hO 5 (by kernel_rfl)
            simp [go_sem, Flow.ylP_value, Flow.ylP_skip, Flow.ylP_enter, Flow.ylP_panic, hc0, hf0, e5]
            exact hK gz wz hC (fun _ _ => rfl)
          · intro gz L wz K ρ hc0 hf0 hF hO hU hcl hi hd hC hK
            have e9 : ρ (.tmp 9) = .pointer (some ⟨gt, 0, none⟩) := hO 9 (by kernel_rfl)
            simp [go_sem, Flow.ylP_value, Flow.ylP_skip, Flow.ylP_enter, Flow.ylP_panic, hc0, hf0, e9]
            exact hK gz wz hC (fun _ _ => rfl)
          · intro gz L wz K ρ hc0 hf0 hF hO hU hcl hi hd hC hK
            have d1 : L 1 = true := hd ⟨1, .data⟩ (by simp) rfl
            have e57 : ρ (.tmp 57) = .pointer (some ⟨gt, 1, none⟩) := hF 57 1 (by kernel_rfl) d1
            have cc := hC.2.2.1.c1
            simp [go_sem, Flow.ylP_value, Flow.ylP_skip, Flow.ylP_enter, Flow.ylP_panic, hc0, hf0, e57, cc]
            exact hK gz wz hC (fun _ _ => rfl)
          · intro gz L wz K ρ hc0 hf0 hF hO hU hcl hi hd hC hK
            have e9 : ρ (.tmp 9) = .pointer (some ⟨gt, 0, none⟩) := hO 9 (by kernel_rfl)
            simp [go_sem, Flow.ylP_value, Flow.ylP_skip, Flow.ylP_enter, Flow.ylP_panic, hc0, hf0, e9]
            exact hK gz wz hC (fun _ _ => rfl)
          · intro gz L wz K ρ hc0 hf0 hF hO hU hcl hi hd hC hK
            have d3 : L 3 = true := hd ⟨3, .data⟩ (by simp) rfl
            have e59 : ρ (.tmp 59) = .pointer (some ⟨gt, 2, none⟩) := hF 59 3 (by kernel_rfl) d3
            have cc := hC.2.2.1.c2
            simp [go_sem, Flow.ylP_value, Flow.ylP_skip, Flow.ylP_enter, Flow.ylP_panic, hc0, hf0, e59, cc]
            exact hK gz wz hC (fun _ _ => rfl)
          · intro gz L wz K ρ hc0 hf0 hF hO hU hcl hi hd hC hK
            have d0 : L 0 = true := hd ⟨0, .data⟩ (by simp) rfl
            have e56 : ρ (.tmp 56) = .pointer (some ⟨d, 0, none⟩) := hF 56 0 (by kernel_rfl) d0
            have d2 : L 2 = true := hd ⟨2, .data⟩ (by simp) rfl
            have e58 : ρ (.tmp 58) = .int .i64 at_ := hF 58 2 (by kernel_rfl) d2
            have d4 : L 4 = true := hd ⟨4, .data⟩ (by simp) rfl
            have e60 : ρ (.tmp 60) = .string s := hF 60 4 (by kernel_rfl) d4
            simp [go_sem, Flow.ylP_value, Flow.ylP_skip, Flow.ylP_enter, Flow.ylP_panic, hc0, hf0, e56, e58, e60]
            rw [hi] at hC
            refine (dwrite_any hC.1 at_ s hs6 (by have := HNN.out.1; exact this)).mono ?_
            rintro r wn ⟨rfl, hpn, htn⟩
            exact ⟨_, rfl, hK () wn ⟨hpn, hC.2.1.stays htn HF.out.1 HF.out.2.1 HF.out.2.2.1, hC.2.2.1.turned htn HF.out.2.2.2, pfoot_lo HL.out.1 hC.2.2.2.1 htn (Nat.le_refl _), Nat.le_trans hC.2.2.2.2 htn.size⟩ (by intro j hj; unfold dpV; split <;> first | rfl | (rw [hi] at hj; cases hj) | (have hz := hcl _ 5 (by kernel_rfl) hj; rw [hi] at hz; cases hz))⟩
          · intro gz L wz K ρ hc0 hf0 hF hO hU hcl hi hd hC hK
            have e7 : ρ (.tmp 7) = .pointer (some ⟨e, 0, none⟩) := hO 7 (by kernel_rfl)
            simp [go_sem, Flow.ylP_value, Flow.ylP_skip, Flow.ylP_enter, Flow.ylP_panic, hc0, hf0, e7]
            exact hK gz wz hC (fun _ _ => rfl)
          · intro gz L wz K ρ hc0 hf0 hF hO hU hcl hi hd hC hK
            have e9 : ρ (.tmp 9) = .pointer (some ⟨gt, 0, none⟩) := hO 9 (by kernel_rfl)
            simp [go_sem, Flow.ylP_value, Flow.ylP_skip, Flow.ylP_enter, Flow.ylP_panic, hc0, hf0, e9]
            exact hK gz wz hC (fun _ _ => rfl)
          · intro gz L wz K ρ hc0 hf0 hF hO hU hcl hi hd hC hK
            have d7 : L 7 = true := hd ⟨7, .data⟩ (by simp) rfl
            have e63 : ρ (.tmp 63) = .pointer (some ⟨gt, 1, none⟩) := hF 63 7 (by kernel_rfl) d7
            have cc := hC.2.2.1.c1
            simp [go_sem, Flow.ylP_value, Flow.ylP_skip, Flow.ylP_enter, Flow.ylP_panic, hc0, hf0, e63, cc]
            exact hK gz wz hC (fun _ _ => rfl)
          · intro gz L wz K ρ hc0 hf0 hF hO hU hcl hi hd hC hK
            have e9 : ρ (.tmp 9) = .pointer (some ⟨gt, 0, none⟩) := hO 9 (by kernel_rfl)
            simp [go_sem, Flow.ylP_value, Flow.ylP_skip, Flow.ylP_enter, Flow.ylP_panic, hc0, hf0, e9]
            exact hK gz wz hC (fun _ _ => rfl)
          · intro gz L wz K ρ hc0 hf0 hF hO hU hcl hi hd hC hK
            have d9 : L 9 = true := hd ⟨9, .data⟩ (by simp) rfl
            have e65 : ρ (.tmp 65) = .pointer (some ⟨gt, 2, none⟩) := hF 65 9 (by kernel_rfl) d9
            have cc := hC.2.2.1.c2
            simp [go_sem, Flow.ylP_value, Flow.ylP_skip, Flow.ylP_enter, Flow.ylP_panic, hc0, hf0, e65, cc]
            exact hK gz wz hC (fun _ _ => rfl)
          · intro gz L wz K ρ hc0 hf0 hF hO hU hcl hi hd hC hK
            have d6 : L 6 = true := hd ⟨6, .data⟩ (by simp) rfl
            have e62 : ρ (.tmp 62) = .pointer (some ⟨e, 0, none⟩) := hF 62 6 (by kernel_rfl) d6
            have d8 : L 8 = true := hd ⟨8, .data⟩ (by simp) rfl
            have e64 : ρ (.tmp 64) = .int .i64 at_ := hF 64 8 (by kernel_rfl) d8
            have d10 : L 10 = true := hd ⟨10, .data⟩ (by simp) rfl
            have e66 : ρ (.tmp 66) = .string s := hF 66 10 (by kernel_rfl) d10
            simp [go_sem, Flow.ylP_value, Flow.ylP_skip, Flow.ylP_enter, Flow.ylP_panic, hc0, hf0, e62, e64, e66]
            rw [hi] at hC
            refine (rwrite_any hC.2.1 at_ s hs6 (by have := HNN.out.2; exact this)).mono ?_
            rintro r wn ⟨rfl, hpn, htn⟩
            exact ⟨_, rfl, hK () wn ⟨hC.1.stays htn HE.out.1 HE.out.2.1 HE.out.2.2.1, hpn, hC.2.2.1.turned htn HE.out.2.2.2, rfoot_lo HL.out.2 hC.2.2.2.1 htn (Nat.le_refl _), Nat.le_trans hC.2.2.2.2 htn.size⟩ (by intro j hj; unfold dpV; split <;> first | rfl | (rw [hi] at hj; cases hj) | (have hz := hcl _ 11 (by kernel_rfl) hj; rw [hi] at hz; cases hz))⟩
          · intro gz L wz K ρ hc0 hf0 hF hO hU hcl hi hd hC hK
            have d5 : L 5 = true := hd ⟨5, .data⟩ (by simp) rfl
            have e61 : ρ (.tmp 61) = errV (dwErr N at_ s) := hF 61 5 (by kernel_rfl) d5
            have d11 : L 11 = true := hd ⟨11, .data⟩ (by simp) rfl
            have e67 : ρ (.tmp 67) = .int .i64 (dwErr N at_ s) := hF 67 11 (by kernel_rfl) d11
            simp [go_sem, Flow.ylP_value, Flow.ylP_skip, Flow.ylP_enter, Flow.ylP_panic, hc0, hf0, e61, e67]
            refine (bare_any (errV_is wz (dwErr N at_ s)) (Handle.below_ HH.out hC.2.2.2.1) (dwErr N at_ s)).mono ?_
            rintro r wn ⟨rfl, hbn⟩
            rw [yes_same]
            exact ⟨_, rfl, hK () wn ⟨hC.1.below hbn, hC.2.1.below hbn, hC.2.2.1.below hbn, hC.2.2.2.1.trans (hbn.mono hC.2.2.2.1.size), Nat.le_trans hC.2.2.2.2 hbn.size⟩ (by intro j hj; unfold dpV; split <;> first | rfl | (rw [hi] at hj; cases hj) | (have hz := hcl _ 12 (by kernel_rfl) hj; rw [hi] at hz; cases hz))⟩
          · intro gz L wz K ρ hc0 hf0 hF hO hU hcl hi hd hC hK
            have d12 : L 12 = true := hd ⟨12, .data⟩ (by simp) rfl
            have e68 : ρ (.tmp 68) = .bool true := hF 68 12 (by kernel_rfl) d12
            simp [go_sem, Flow.ylP_value, Flow.ylP_skip, Flow.ylP_enter, Flow.ylP_panic, hc0, hf0, e68]
            exact hK gz wz hC (fun _ _ => rfl)
          · intro gz L ch wz h; exact h.elim
          · intro gz L wz hL hC
            obtain ⟨p1, p2, p3, p4, p5⟩ := hC
            rw [hL 5 (by decide)] at p1
            rw [hL 11 (by decide)] at p2
            have hT : TwoD wz w.heap.size H d R M e M1 M2 N (n + 1) n1 (n2 + 1) S (dwX N X at_ s) := ⟨p1, p2, HL2.out.1, HL2.out.2, p5⟩
            have hC := p3
            have hb := p4
            clear p1 p2 p3 p4 p5
            simp only [Flow.putAll, dpV]
            simp [Act.put]
            go_wp2
            go_meet
            exact ⟨rfl, M2, n + 1, n1, n2 + 1, _, _, by omega, by omega, by omega, hT, hC, hb⟩
        have e0 : (kd == 0) = false := beq_eq_false_iff_ne.2 hk0
        by_cases hk1 : kd = 1
        · subst hk1
          clear hk0
          go_wp2_with fail
          refine (dsync_any hT.p).mono ?_
          rintro r w3 ⟨rfl, hp3, ht3⟩
          have hr3 := hT.rkeep ht3
          have hC3 := hC.turned ht3 HF.out.2.2.2
          have hb3 := pfoot_lo HL.out.1 hb ht3 (Nat.le_refl _)
          have hs3 := Nat.le_trans hT.sz ht3.size
          clear hT hC hb
          go_wp2_with fail
          refine (rcrash_any (mask := 18446744073709551615) hr3 (by decide) HN1.out).mono ?_
          rintro r w4 ⟨M3, rfl, hr4, hM3, ht4⟩
          have hp4 := hp3.stays ht4 HE.out.1 HE.out.2.1 HE.out.2.2.1
          have hC4 := hC3.turned ht4 HE.out.2.2.2
          have hb4 := rfoot_lo HL.out.2 hb3 ht4 (Nat.le_refl _)
          have hT4 : TwoD w4 w.heap.size H d R M e M1 M3 N n (n1 + 140) 0 (crashed N 18446744073709551615 S X) (fun _ => none) := ⟨hp4, hr4, HL2.out.1, by have := HL2.out.2; omega, Nat.le_trans hs3 ht4.size⟩
          go_wp2
          go_meet
          exact ⟨rfl, M3, n, n1 + 140, 0, _, _, by omega, by omega, by omega, hT4, hC4, hb4⟩
        have e1 : (kd == 1) = false := beq_eq_false_iff_ne.2 hk1
        by_cases hk2 : kd = 2
        · subst hk2
          clear hk0 hk1
          obtain ⟨m, rfl⟩ := Int.eq_ofNat_of_zero_le hfx.1
          have hm : m < 18446744073709551616 := by have := hfx.2; simp only at this; omega
          clear hfx
          have c3 := hC.c3
          go_wp2_with fail
          refine (dcrash_any (mask := m) hT.p hm).mono ?_
          rintro r w3 ⟨rfl, hp3, ht3⟩
          have hr3 := hT.rkeep ht3
          have hC3 := hC.turned ht3 HF.out.2.2.2
          have hb3 := pfoot_lo HL.out.1 hb ht3 (Nat.le_refl _)
          have hs3 := Nat.le_trans hT.sz ht3.size
          clear hT hC hb c3
          have c3 := hC3.c3
          go_wp2_with fail
          refine (rcrash_any (mask := m) hr3 hm HN1.out).mono ?_
          rintro r w4 ⟨M3, rfl, hr4, hM3, ht4⟩
          have hp4 := hp3.stays ht4 HE.out.1 HE.out.2.1 HE.out.2.2.1
          have hC4 := hC3.turned ht4 HE.out.2.2.2
          have hb4 := rfoot_lo HL.out.2 hb3 ht4 (Nat.le_refl _)
          have hT4 : TwoD w4 w.heap.size H d R M e M1 M3 N n (n1 + 140) 0 (crashed N m S X) (fun _ => none) := ⟨hp4, hr4, HL2.out.1, by have := HL2.out.2; omega, Nat.le_trans hs3 ht4.size⟩
          go_wp2
          go_meet
          exact ⟨rfl, M3, n, n1 + 140, 0, _, _, by omega, by omega, by omega, hT4, hC4, hb4⟩
        have e2 : (kd == 2) = false := beq_eq_false_iff_ne.2 hk2
        clear hk0 hk1 hk2
        have HT2 := Lib.hid hT
        have HC2 := Lib.hid hC
        clear hT hC
        go_wp2
        go_meet
        exact ⟨rfl, M2, n, n1, n2, _, _, by omega, by omega, by omega, HT2.out, HC2.out, hb⟩
      case rest =>
        clear hT hC hb HF HE HL HL2 HNN HN1
        obtain ⟨rfl, M3, n', n1', n2', S', X', q0', q1', q2', hT, hC, hb⟩ := hcut
        clear q0 q1 q2
        have cc1 := hC.c1
        go_wp2_with fail
        refine (rread_any hT.r at_).mono ?_
        rintro r w3 ⟨rfl, hb3⟩
        have hT3 := hT.below hb3
        have hC3 := hC.below hb3
        have hb4 := hb.trans (hb3.mono hb.size)
        clear hT hC hb hb3
        have cc1 := hC3.c1
        go_wp2_with fail
        refine (dread_any hT3.p at_).mono ?_
        rintro r w4 ⟨rfl, hb3⟩
        have hT := hT3.below hb3
        have hb := hb4.trans (hb3.mono hb4.size)
        clear hT3 hC3 cc1 hb4 hb3
        go_wp2_with fail
        refine (bare_any (errV_is w4 (drErr N at_)) (Handle.below_ HH.out hb) (drErr N at_)).mono ?_
        rintro r w5 ⟨rfl, hb3⟩
        rw [yes_same]
        have hT3 := hT.below hb3
        have hb4 := hb.trans (hb3.mono hb.size)
        clear hT hb hb3
        have hdl := Lib.hid (Nat.le_trans (dirty_le N X') hT3.p.fit.n)
        go_wp2_with fail
        refine (ddirty_any hT3.p).mono ?_
        rintro r w6 ⟨v, rfl, ho6, hb6⟩
        have hT := hT3.below hb6
        have hb := hb4.trans (hb6.mono hb4.size)
        clear hT3 hb4 hb6
        obtain ⟨A6, c6, rfl⟩ := own_form ho6
        go_wp2_with fail
        refine (rdirty_any hT.r).mono ?_
        rintro r w7 ⟨v, rfl, ho7, hb7⟩
        have hT3 := hT.below hb7
        have hb4 := hb.trans (hb7.mono hb.size)
        obtain ⟨A7, c7, rfl⟩ := own_form ho7
        rw [← natV_eq] at ho6 ho7
        have s6 := Sl.grow (Ints.of_own ho6) hb7
        have s7 := Ints.of_own ho7
        clear hT hb hb7 ho6 ho7
        go_wp2_with fail
        refine (equal_ints _ _ c6 c7 A6 A7 _ _ w7 s6 s7 (by have := hdl.out; unfold maxLen; omega) (by have := hdl.out; unfold maxLen; omega)).mono ?_
        rintro r w8 ⟨rfl, q, rfl⟩
        rw [yes_eq]
        have hb8 : Below w7.heap.size w7 (w7.drewN q) := below_drewN (Below.refl _ _) q
        have hT9 := hT3.below hb8
        have hb9 := hb4.trans (hb8.mono hb4.size)
        clear s6 s7 hT3 hb4 hb8
        generalize w7.drewN q = W9 at *
        have HR := Lib.hid (And.intro hT9 hb9)
        clear hT9 hb9
        go_wp2
        go_roundw
        case rel => exact ⟨k + 1, M3, n', n1', n2', S', X', by omega, by go_num, by omega, by omega, by omega, HR.out.1, HR.out.2⟩
        case measure => simp [intOf]; omega
    · obtain rfl : k = ln := by omega
      have t0 : decide ((k : Int) < (k : Int)) = false := decide_eq_false (by omega)
      clear hlt
      go_wp2
      go_ret
      exact ⟨rfl, hb⟩
end Go.Proofs.YthodlccjnbadhaaDoor
