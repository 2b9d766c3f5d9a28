/- The law CrcJoins returns true and changes nothing: crc.Join, JoinSums. Printed by gen_crcjoin.py. -/
import Derived.Test.YtjlbhchfkhphhaaArr
import Derived.Test.YtjlbhchfkhphhaaFlowGo
import Derived.Test.YtjlbhchfkhphhaaShelfRep
import Derived.OpenShut
import Derived.Deep.QuietTactic
import Derived.BigQuiet
namespace Go.Proofs.Ytjlbhchfkhphhaa.Crc
set_option linter.unusedSimpArgs false
set_option linter.unusedVariables false
open Go.RowKit
def cjV (f : Nat → Nat) (B C k : Nat) (g : Unit) : Nat → Value
  | 0 => .int .i64 (k : Int)
  | 1 => .agg (av f).toArray
  | 2 => .int .i64 (k : Int)
  | 3 => .pointer (some ⟨B, k, none⟩)
  | 4 => .int .u32 (f k : Int)
  | 5 => .int .u32 (some_ f (f k) 32 : Int)
  | 6 => .pointer (some ⟨C, k, none⟩)
  | _ => undef
def sj (j i : Nat) : Nat := iter j (2 ^ i % 4294967296)
theorem sj_lt (j i : Nat) : sj j i < 4294967296 := iter_lt j (Nat.mod_lt _ (by omega))
theorem sj_at {j i : Nat} (h : i < 32) : sj j i = iter j (2 ^ i) := by unfold sj; rw [Nat.mod_eq_of_lt (two_lt h)]
theorem some_same {f g : Nat → Nat} (n : Nat) : ∀ k, (∀ i, i < k → f i = g i) → some_ f n k = some_ g n k
  | 0, _ => rfl
  | k + 1, h => by
    show (if n / 2 ^ k % 2 = 1 then some_ f n k ^^^ f k else some_ f n k) = (if n / 2 ^ k % 2 = 1 then some_ g n k ^^^ g k else some_ g n k)
    rw [some_same n k (fun i hi => h i (by omega)), h k (by omega)]
theorem some_sj (j n : Nat) (h : n < 4294967296) : some_ (sj j) n 32 = iter j n := by
  rw [some_same n 32 (fun i hi => sj_at (j := j) hi)]
  exact some_full j n h
theorem sq_next {w : World} {C k j : Nat} (h : AR w C (fun i => if i < k then sj (2 * j) i else 0)) (hk : k < 32) : AR (w.setCell ⟨C, k, none⟩ (.int .u32 (some_ (sj j) (sj j k) 32 : Int))) C (fun i => if i < k + 1 then sj (2 * j) i else 0) := by
  have e : some_ (sj j) (sj j k) 32 = sj (2 * j) k := by rw [some_sj j _ (sj_lt j k)]; unfold sj; rw [square]
  rw [e]
  refine (h.set (x := sj (2 * j) k) hk).same (fun i _ => ?_)
  by_cases e : i = k
  · subst e; simp
  · rw [if_neg e]
    by_cases e2 : i < k
    · rw [if_pos e2, if_pos (by omega)]
    · rw [if_neg e2, if_neg (by omega)]
theorem odd_and (m : Nat) (h : m ≤ 3000) : bits BinOp.and IntKind.i64 (m : Int) 1 = ((m % 2 : Nat) : Int) := by
  have e1 : BitVec.ofInt 64 (m : Int) = BitVec.ofNat 64 m := BitVec.ofInt_natCast 64 m
  have e2 : BitVec.ofInt 64 1 = BitVec.ofNat 64 1 := rfl
  show IntKind.i64.wrap ((BitVec.ofInt 64 (m : Int) &&& BitVec.ofInt 64 1).toNat : Int) = _
  rw [e1, e2, BitVec.toNat_and, BitVec.toNat_ofNat, BitVec.toNat_ofNat, Nat.mod_eq_of_lt (show m < 2 ^ 64 by omega), show 1 % 2 ^ 64 = 1 from rfl, Nat.and_one_is_mod]
  exact IntWalk.i64_in _ (by omega)
theorem odd_yes {m : Nat} (h : m ≤ 3000) (t : m % 2 = 1) : (bits BinOp.and IntKind.i64 (m : Int) 1 == 1) = true := by rw [odd_and m h, t]; rfl
theorem odd_no {m : Nat} (h : m ≤ 3000) (t : ¬ m % 2 = 1) : (bits BinOp.and IntKind.i64 (m : Int) 1 == 1) = false := by
  rw [odd_and m h, beq_eq_false_iff_ne]
  omega
set_option maxHeartbeats 4000000 in
set_option maxRecDepth 100000 in
theorem join_any (a b n : Nat) (ha : a < 4294967296) (hb : b < 4294967296) (hn : n ≤ 3000) (w : World) :
    Calls Try.prog 4 #[.int .u32 (a : Int), .int .u32 (b : Int), .int .i64 (n : Int)] w fun e w' => e = .returned (.int .u32 ((iter (8 * n) a ^^^ b : Nat) : Int)) ∧ Below w.heap.size w w' := by
  have d0 : decide ((n : Int) < 0) = false := by simp only [decide_eq_false_iff_not]; omega
  have hBB := Lib.hid hb
  clear hb
  go_enter Try.func4, Try.ntmps4
  go_wp2_with fail
  refine (mat_any w).mono ?_
  rintro r w1 ⟨rfl, hb1⟩
  have hZ := AR.new w1 (fun _ => 0) 25
  have bZ := (Below.refl w1.heap.size w1).alloc (Nat.le_refl _) (.cells (av fun _ => 0).toArray 25)
  have hS := (hZ.put (g := m8)).same (g := sj 8) (fun k hk => by rw [sj_at hk]; rfl)
  have b2 := hb1.trans ((setCells_below (Nat.le_refl _) (av m8) 0 bZ).mono hb1.size)
  have lB := hb1.size
  rw [av_zero] at hZ hS b2
  go_wp2_with (first
    | (refine wpList_store_mid rfl 25 _ _ rfl _ 0 (av m8).toArray rfl rfl hZ.there (arr_size'' _) (all_oneCell_toArray (av_one _)) ?_))
  generalize w1.heap.size = B0 at *
  generalize World.setCells _ B0 0 (av m8) = W1 at *
  clear hZ hb1 bZ
  simp [Act.put]
  go_loopw [0, 2, 7, 8, 9, 23] (fun av nv sv _ _ _ wr => ∃ (m acc j B : Nat), nv = .int .i64 (m : Int) ∧ av = .int .u32 (acc : Int) ∧ acc < 4294967296 ∧ sv = .pointer (some ⟨B, 0, none⟩) ∧ m ≤ 3000 ∧ AR wr B (sj j) ∧ w.heap.size ≤ B ∧ Hid (iter (8 * n) a = iter (j * m) acc) ∧ Below w.heap.size w wr) (fun _ nv _ _ _ _ _ => (intOf nv).toNat)
  case atStart => exact ⟨n, a, 8, B0, rfl, rfl, ha, rfl, hn, hS, lB, Lib.hid rfl, b2⟩
  case round =>
    obtain ⟨m, acc, j, B, rfl, rfl, hacc, rfl, hm, hS, lB, HN, hb⟩ := hrel
    clear b2 d0
    by_cases hlt : 0 < m
    · have t0 : decide ((0 : Int) < (m : Int)) = true := by simp only [decide_eq_true_eq]; omega
      have LB := Lib.hid lB
      by_cases ho : m % 2 = 1
      · have tod := odd_yes hm ho
        have HN2 := Lib.hid (show iter (8 * n) a = iter (2 * j * (m / 2)) (iter j acc) from HN.out.trans (turn_odd j m acc ho))
        have HAC := Lib.hid (iter_lt j hacc)
        clear ho lB
        go_wp2_with (first
          | (refine wpList_load_mid rfl 25 _ rfl _ 0 rfl (Crc.av (sj j)) _ hS.range arr_under rfl (arr_size' _) ?_))
        refine (times_any (sj j) (sj_lt j) acc hacc wr).mono ?_
        rintro r w2 ⟨rfl, hb2⟩
        replace hS := hS.below hb2
        replace hb := hb.trans (hb2.mono hb.size)
        rw [some_sj j acc hacc]
        clear hb2
        generalize hwr : w2 = wr at *
        clear hwr
        have hN0 := AR.new wr (fun _ => 0) 25
        have bN0 := (Below.refl wr.heap.size wr).alloc (Nat.le_refl _) (.cells (av fun _ => 0).toArray 25)
        have hS1 := hS.below bN0
        have b1 := hb.trans (bN0.mono hb.size)
        have NBC := Lib.hid (Nat.ne_of_lt hS.lt)
        have LC := Lib.hid hb.size
        rw [av_zero] at hN0 bN0 hS1 b1
        go_wp2
        generalize wr.alloc _ = W3 at *
        generalize wr.heap.size = C at *
        clear hS hb bN0

        go_loopw [9, 23] (fun _ iv wr => ∃ k : Nat, k ≤ 32 ∧ iv = .int .i64 k ∧ AR wr B (sj j) ∧ AR wr C (fun i => if i < k then sj (2 * j) i else 0) ∧ Below w.heap.size w wr) (fun _ iv _ => 32 - (intOf iv).toNat)
        case atStart => exact ⟨0, by omega, rfl, hS1, hN0.same (fun k _ => by simp), b1⟩
        case round =>
          obtain ⟨k, hk, rfl, hS', hN', hb'⟩ := hrel
          clear hS1 hN0 b1
          by_cases hlt' : k < 32
          · have hk0 : (0 : Int) ≤ (k : Int) := by omega
            have hk32 : (k : Int) < 32 := by omega
            have hk32' : k < 32 := hlt'
            go_wp2
            refine Flow.wp_region_go (by kernel_rfl) (by kernel_rfl) (by kernel_rfl) 39 rfl (by kernel_rfl) (cjV (sj j) B C k) (fun _ L wz => AR wz B (sj j) ∧ AR wz C (fun i => if i < cond (L 7) (k + 1) k then sj (2 * j) i else 0) ∧ Below w.heap.size w wz) (fun _ _ => False) (()) (⟨hS'.below (Below.refl _ _).drew, hN'.below (Below.refl _ _).drew, hb'.drew⟩) ⟨?_, ?_, ?_, ?_, ?_, ?_, ?_, ?_, trivial⟩ ?_ ?_
            · intro g L wz K ρ hc0 hf0 hF hO hU hcl hi hd hC hK
              have e9 : ρ (.tmp 9) = .int .i64 (k : Int) := hO 9 (by kernel_rfl)
              simp [go_sem, Flow.ylP_value, Flow.ylP_skip, Flow.ylP_enter, Flow.ylP_panic, hc0, hf0, e9]
              exact hK g wz hC (fun _ _ => rfl)
            · intro g L wz K ρ hc0 hf0 hF hO hU hcl hi hd hC hK
              have e7 : ρ (.tmp 7) = .pointer (some ⟨B, 0, none⟩) := hO 7 (by kernel_rfl)
              have hl := run_loadAt_mid (P := Try.prog) wz B 0 25 (av (sj j)) _ hC.1.range arr_under rfl (arr_size' _)
              unfold execOp
              simp only [resolve, Sem.run_bind, Sem.run_pure, Result.andThen_ok, e7, hl]
              exact hK () wz hC (fun _ _ => rfl)
            · intro g L wz K ρ hc0 hf0 hF hO hU hcl hi hd hC hK
              have e9 : ρ (.tmp 9) = .int .i64 (k : Int) := hO 9 (by kernel_rfl)
              simp [go_sem, Flow.ylP_value, Flow.ylP_skip, Flow.ylP_enter, Flow.ylP_panic, hc0, hf0, e9]
              exact hK g wz hC (fun _ _ => rfl)
            · intro g L wz K ρ hc0 hf0 hF hO hU hcl hi hd hC hK
              have e7 : ρ (.tmp 7) = .pointer (some ⟨B, 0, none⟩) := hO 7 (by kernel_rfl)
              have d2 : L 2 = true := hd ⟨2, .data⟩ (by simp) rfl
              have e28 : ρ (.tmp 28) = .int .i64 (k : Int) := hF 28 2 (by kernel_rfl) d2
              simp [go_sem, Flow.ylP_value, Flow.ylP_skip, Flow.ylP_enter, Flow.ylP_panic, hc0, hf0, e7, e28, hk0, hk32, hk32']
              exact hK g wz hC (fun _ _ => rfl)
            · intro g L wz K ρ hc0 hf0 hF hO hU hcl hi hd hC hK
              have d3 : L 3 = true := hd ⟨3, .data⟩ (by simp) rfl
              have e29 : ρ (.tmp 29) = .pointer (some ⟨B, k, none⟩) := hF 29 3 (by kernel_rfl) d3
              have cc := hC.1.c k hlt'
              simp [go_sem, Flow.ylP_value, Flow.ylP_skip, Flow.ylP_enter, Flow.ylP_panic, hc0, hf0, e29, cc]
              exact hK g wz hC (fun _ _ => rfl)
            · intro g L wz K ρ hc0 hf0 hF hO hU hcl hi hd hC hK
              have d1 : L 1 = true := hd ⟨1, .data⟩ (by simp) rfl
              have e27 : ρ (.tmp 27) = .agg (av (sj j)).toArray := hF 27 1 (by kernel_rfl) d1
              have d4 : L 4 = true := hd ⟨4, .data⟩ (by simp) rfl
              have e30 : ρ (.tmp 30) = .int .u32 ((sj j) k : Int) := hF 30 4 (by kernel_rfl) d4
              simp [go_sem, Flow.ylP_value, Flow.ylP_skip, Flow.ylP_enter, Flow.ylP_panic, hc0, hf0, e27, e30]
              refine (times_any (sj j) (sj_lt j) ((sj j) k) (sj_lt j k) wz).mono ?_
              rintro r wn ⟨rfl, hbn⟩
              exact ⟨_, rfl, hK () wn ⟨hC.1.below hbn, hC.2.1.below hbn, hC.2.2.trans (hbn.mono hC.2.2.size)⟩ (by intro j hj; unfold cjV; split <;> first | rfl | (rw [hi] at hj; cases hj) | (have hz := hcl _ 5 (by kernel_rfl) hj; rw [hi] at hz; cases hz))⟩
            · intro g L wz K ρ hc0 hf0 hF hO hU hcl hi hd hC hK
              have e8 : ρ (.tmp 8) = .pointer (some ⟨C, 0, none⟩) := hO 8 (by kernel_rfl)
              have d0 : L 0 = true := hd ⟨0, .data⟩ (by simp) rfl
              have e26 : ρ (.tmp 26) = .int .i64 (k : Int) := hF 26 0 (by kernel_rfl) d0
              simp [go_sem, Flow.ylP_value, Flow.ylP_skip, Flow.ylP_enter, Flow.ylP_panic, hc0, hf0, e8, e26, hk0, hk32, hk32']
              exact hK g wz hC (fun _ _ => rfl)
            · intro g L wz K ρ hc0 hf0 hF hO hU hcl hi hd hC hK
              have d6 : L 6 = true := hd ⟨6, .data⟩ (by simp) rfl
              have e32 : ρ (.tmp 32) = .pointer (some ⟨C, k, none⟩) := hF 32 6 (by kernel_rfl) d6
              have d5 : L 5 = true := hd ⟨5, .data⟩ (by simp) rfl
              have e31 : ρ (.tmp 31) = .int .u32 (some_ (sj j) ((sj j) k) 32 : Int) := hF 31 5 (by kernel_rfl) d5
              rw [hi] at hC
              have c0 := hC.2.1.c k hlt'
              have f0 := hC.2.1.f k
              simp only [cond] at c0
              rw [if_neg (Nat.lt_irrefl k)] at c0
              simp [go_sem, Flow.ylP_value, Flow.ylP_skip, Flow.ylP_enter, Flow.ylP_panic, hc0, hf0, e32, e31, c0, f0]
              refine hK () _ ⟨hC.1.other (Ne.symm NBC.out) _, ?_, hC.2.2.setCell (p := ⟨C, k, none⟩) LC.out _⟩ (fun _ _ => rfl)
              exact sq_next hC.2.1 hlt'
            · intro g L ch wz h; exact h.elim
            · intro g L wz hL hC
              rw [hL 7 (by decide)] at hC
              simp only [Flow.putAll, cjV]
              go_wp2
              go_roundw
              case rel => exact ⟨k + 1, by omega, by go_num, hC.1, hC.2.1, hC.2.2⟩
              case measure => simp [intOf]; omega
          · obtain rfl : k = 32 := by omega
            have hN9 := hN'.same (g := sj (2 * j)) (fun k hk => by rw [if_pos hk])
            obtain ⟨F, hF⟩ : ∃ F, F = sj (2 * j) := ⟨_, rfl⟩
            rw [← hF] at hN9
            have HF := Lib.hid hF
            have e9 : (av F).toArray.toList = av F := List.toList_toArray ..
            have HS9 := Lib.hid (show AR (wr.setCells B 0 (av F).toArray.toList) B F by rw [e9]; exact hS'.put (g := F))
            have HB9 := Lib.hid (show Below w.heap.size w (wr.setCells B 0 (av F).toArray.toList) by rw [e9]; exact setCells_below LB.out (av F) 0 hb')
            clear e9 hF hlt' hN' hk hb'
            go_wp2_with (first
              | (refine wpList_load_mid rfl 25 _ rfl _ 0 rfl (av F) _ hN9.range arr_under rfl (arr_size' _) ?_)
              | (refine wpList_store_mid rfl 25 _ _ rfl B 0 (av F).toArray rfl rfl hS'.there (arr_size'' _) (all_oneCell_toArray (av_one _)) ?_; have hS9 := HS9.out; have b9 := HB9.out; clear hN9 hS' HS9 HB9; generalize wr.setCells B 0 (av F).toArray.toList = W9 at *; have hZ := AR.new W9 (fun _ => 0) 25; have bZ := (Below.refl W9.heap.size W9).alloc (Nat.le_refl _) (.cells (av fun _ => 0).toArray 25); have HD := Lib.hid (hZ.put (g := F)); have HBD := Lib.hid (b9.trans ((setCells_below (Nat.le_refl _) (av F) 0 bZ).mono b9.size)); have LD := Lib.hid b9.size; rw [av_zero] at hZ HD HBD; clear bZ b9; simp [Act.put])
              | (refine wpList_load_mid rfl 25 _ rfl _ 0 rfl (av F) _ hS9.range arr_under rfl (arr_size' _) ?_; clear hS9; simp [Act.put])
              | (refine wpList_store_mid rfl 25 _ _ rfl _ 0 (av F).toArray rfl rfl hZ.there (arr_size'' _) (all_oneCell_toArray (av_one _)) ?_; clear hZ; simp [Act.put]))
            go_roundw
            case rel => exact ⟨m / 2, iter j acc, 2 * j, _, by rw [Int.natCast_ediv]; rfl, rfl, HAC.out, rfl, by omega, by rw [← HF.out]; exact HD.out, LD.out, HN2, HBD.out⟩
            case measure => simp [intOf]; omega
      · have tod := odd_no hm ho
        have HN2 := Lib.hid (show iter (8 * n) a = iter (2 * j * (m / 2)) acc from HN.out.trans (turn_even j m acc (by omega)))
        have HAC := Lib.hid hacc
        clear ho lB
        have hN0 := AR.new wr (fun _ => 0) 25
        have bN0 := (Below.refl wr.heap.size wr).alloc (Nat.le_refl _) (.cells (av fun _ => 0).toArray 25)
        have hS1 := hS.below bN0
        have b1 := hb.trans (bN0.mono hb.size)
        have NBC := Lib.hid (Nat.ne_of_lt hS.lt)
        have LC := Lib.hid hb.size
        rw [av_zero] at hN0 bN0 hS1 b1
        go_wp2
        generalize wr.alloc _ = W3 at *
        generalize wr.heap.size = C at *
        clear hS hb bN0

        go_loopw [9, 23] (fun _ iv wr => ∃ k : Nat, k ≤ 32 ∧ iv = .int .i64 k ∧ AR wr B (sj j) ∧ AR wr C (fun i => if i < k then sj (2 * j) i else 0) ∧ Below w.heap.size w wr) (fun _ iv _ => 32 - (intOf iv).toNat)
        case atStart => exact ⟨0, by omega, rfl, hS1, hN0.same (fun k _ => by simp), b1⟩
        case round =>
          obtain ⟨k, hk, rfl, hS', hN', hb'⟩ := hrel
          clear hS1 hN0 b1
          by_cases hlt' : k < 32
          · have hk0 : (0 : Int) ≤ (k : Int) := by omega
            have hk32 : (k : Int) < 32 := by omega
            have hk32' : k < 32 := hlt'
            go_wp2
            refine Flow.wp_region_go (by kernel_rfl) (by kernel_rfl) (by kernel_rfl) 39 rfl (by kernel_rfl) (cjV (sj j) B C k) (fun _ L wz => AR wz B (sj j) ∧ AR wz C (fun i => if i < cond (L 7) (k + 1) k then sj (2 * j) i else 0) ∧ Below w.heap.size w wz) (fun _ _ => False) (()) (⟨hS'.below (Below.refl _ _).drew, hN'.below (Below.refl _ _).drew, hb'.drew⟩) ⟨?_, ?_, ?_, ?_, ?_, ?_, ?_, ?_, trivial⟩ ?_ ?_
            · intro g L wz K ρ hc0 hf0 hF hO hU hcl hi hd hC hK
              have e9 : ρ (.tmp 9) = .int .i64 (k : Int) := hO 9 (by kernel_rfl)
              simp [go_sem, Flow.ylP_value, Flow.ylP_skip, Flow.ylP_enter, Flow.ylP_panic, hc0, hf0, e9]
              exact hK g wz hC (fun _ _ => rfl)
            · intro g L wz K ρ hc0 hf0 hF hO hU hcl hi hd hC hK
              have e7 : ρ (.tmp 7) = .pointer (some ⟨B, 0, none⟩) := hO 7 (by kernel_rfl)
              have hl := run_loadAt_mid (P := Try.prog) wz B 0 25 (av (sj j)) _ hC.1.range arr_under rfl (arr_size' _)
              unfold execOp
              simp only [resolve, Sem.run_bind, Sem.run_pure, Result.andThen_ok, e7, hl]
              exact hK () wz hC (fun _ _ => rfl)
            · intro g L wz K ρ hc0 hf0 hF hO hU hcl hi hd hC hK
              have e9 : ρ (.tmp 9) = .int .i64 (k : Int) := hO 9 (by kernel_rfl)
              simp [go_sem, Flow.ylP_value, Flow.ylP_skip, Flow.ylP_enter, Flow.ylP_panic, hc0, hf0, e9]
              exact hK g wz hC (fun _ _ => rfl)
            · intro g L wz K ρ hc0 hf0 hF hO hU hcl hi hd hC hK
              have e7 : ρ (.tmp 7) = .pointer (some ⟨B, 0, none⟩) := hO 7 (by kernel_rfl)
              have d2 : L 2 = true := hd ⟨2, .data⟩ (by simp) rfl
              have e28 : ρ (.tmp 28) = .int .i64 (k : Int) := hF 28 2 (by kernel_rfl) d2
              simp [go_sem, Flow.ylP_value, Flow.ylP_skip, Flow.ylP_enter, Flow.ylP_panic, hc0, hf0, e7, e28, hk0, hk32, hk32']
              exact hK g wz hC (fun _ _ => rfl)
            · intro g L wz K ρ hc0 hf0 hF hO hU hcl hi hd hC hK
              have d3 : L 3 = true := hd ⟨3, .data⟩ (by simp) rfl
              have e29 : ρ (.tmp 29) = .pointer (some ⟨B, k, none⟩) := hF 29 3 (by kernel_rfl) d3
              have cc := hC.1.c k hlt'
              simp [go_sem, Flow.ylP_value, Flow.ylP_skip, Flow.ylP_enter, Flow.ylP_panic, hc0, hf0, e29, cc]
              exact hK g wz hC (fun _ _ => rfl)
            · intro g L wz K ρ hc0 hf0 hF hO hU hcl hi hd hC hK
              have d1 : L 1 = true := hd ⟨1, .data⟩ (by simp) rfl
              have e27 : ρ (.tmp 27) = .agg (av (sj j)).toArray := hF 27 1 (by kernel_rfl) d1
              have d4 : L 4 = true := hd ⟨4, .data⟩ (by simp) rfl
              have e30 : ρ (.tmp 30) = .int .u32 ((sj j) k : Int) := hF 30 4 (by kernel_rfl) d4
              simp [go_sem, Flow.ylP_value, Flow.ylP_skip, Flow.ylP_enter, Flow.ylP_panic, hc0, hf0, e27, e30]
              refine (times_any (sj j) (sj_lt j) ((sj j) k) (sj_lt j k) wz).mono ?_
              rintro r wn ⟨rfl, hbn⟩
              exact ⟨_, rfl, hK () wn ⟨hC.1.below hbn, hC.2.1.below hbn, hC.2.2.trans (hbn.mono hC.2.2.size)⟩ (by intro j hj; unfold cjV; split <;> first | rfl | (rw [hi] at hj; cases hj) | (have hz := hcl _ 5 (by kernel_rfl) hj; rw [hi] at hz; cases hz))⟩
            · intro g L wz K ρ hc0 hf0 hF hO hU hcl hi hd hC hK
              have e8 : ρ (.tmp 8) = .pointer (some ⟨C, 0, none⟩) := hO 8 (by kernel_rfl)
              have d0 : L 0 = true := hd ⟨0, .data⟩ (by simp) rfl
              have e26 : ρ (.tmp 26) = .int .i64 (k : Int) := hF 26 0 (by kernel_rfl) d0
              simp [go_sem, Flow.ylP_value, Flow.ylP_skip, Flow.ylP_enter, Flow.ylP_panic, hc0, hf0, e8, e26, hk0, hk32, hk32']
              exact hK g wz hC (fun _ _ => rfl)
            · intro g L wz K ρ hc0 hf0 hF hO hU hcl hi hd hC hK
              have d6 : L 6 = true := hd ⟨6, .data⟩ (by simp) rfl
              have e32 : ρ (.tmp 32) = .pointer (some ⟨C, k, none⟩) := hF 32 6 (by kernel_rfl) d6
              have d5 : L 5 = true := hd ⟨5, .data⟩ (by simp) rfl
              have e31 : ρ (.tmp 31) = .int .u32 (some_ (sj j) ((sj j) k) 32 : Int) := hF 31 5 (by kernel_rfl) d5
              rw [hi] at hC
              have c0 := hC.2.1.c k hlt'
              have f0 := hC.2.1.f k
              simp only [cond] at c0
              rw [if_neg (Nat.lt_irrefl k)] at c0
              simp [go_sem, Flow.ylP_value, Flow.ylP_skip, Flow.ylP_enter, Flow.ylP_panic, hc0, hf0, e32, e31, c0, f0]
              refine hK () _ ⟨hC.1.other (Ne.symm NBC.out) _, ?_, hC.2.2.setCell (p := ⟨C, k, none⟩) LC.out _⟩ (fun _ _ => rfl)
              exact sq_next hC.2.1 hlt'
            · intro g L ch wz h; exact h.elim
            · intro g L wz hL hC
              rw [hL 7 (by decide)] at hC
              simp only [Flow.putAll, cjV]
              go_wp2
              go_roundw
              case rel => exact ⟨k + 1, by omega, by go_num, hC.1, hC.2.1, hC.2.2⟩
              case measure => simp [intOf]; omega
          · obtain rfl : k = 32 := by omega
            have hN9 := hN'.same (g := sj (2 * j)) (fun k hk => by rw [if_pos hk])
            obtain ⟨F, hF⟩ : ∃ F, F = sj (2 * j) := ⟨_, rfl⟩
            rw [← hF] at hN9
            have HF := Lib.hid hF
            have e9 : (av F).toArray.toList = av F := List.toList_toArray ..
            have HS9 := Lib.hid (show AR (wr.setCells B 0 (av F).toArray.toList) B F by rw [e9]; exact hS'.put (g := F))
            have HB9 := Lib.hid (show Below w.heap.size w (wr.setCells B 0 (av F).toArray.toList) by rw [e9]; exact setCells_below LB.out (av F) 0 hb')
            clear e9 hF hlt' hN' hk hb'
            go_wp2_with (first
              | (refine wpList_load_mid rfl 25 _ rfl _ 0 rfl (av F) _ hN9.range arr_under rfl (arr_size' _) ?_)
              | (refine wpList_store_mid rfl 25 _ _ rfl B 0 (av F).toArray rfl rfl hS'.there (arr_size'' _) (all_oneCell_toArray (av_one _)) ?_; have hS9 := HS9.out; have b9 := HB9.out; clear hN9 hS' HS9 HB9; generalize wr.setCells B 0 (av F).toArray.toList = W9 at *; have hZ := AR.new W9 (fun _ => 0) 25; have bZ := (Below.refl W9.heap.size W9).alloc (Nat.le_refl _) (.cells (av fun _ => 0).toArray 25); have HD := Lib.hid (hZ.put (g := F)); have HBD := Lib.hid (b9.trans ((setCells_below (Nat.le_refl _) (av F) 0 bZ).mono b9.size)); have LD := Lib.hid b9.size; rw [av_zero] at hZ HD HBD; clear bZ b9; simp [Act.put])
              | (refine wpList_load_mid rfl 25 _ rfl _ 0 rfl (av F) _ hS9.range arr_under rfl (arr_size' _) ?_; clear hS9; simp [Act.put])
              | (refine wpList_store_mid rfl 25 _ _ rfl _ 0 (av F).toArray rfl rfl hZ.there (arr_size'' _) (all_oneCell_toArray (av_one _)) ?_; clear hZ; simp [Act.put]))
            go_roundw
            case rel => exact ⟨m / 2, acc, 2 * j, _, by rw [Int.natCast_ediv]; rfl, rfl, HAC.out, rfl, by omega, by rw [← HF.out]; exact HD.out, LD.out, HN2, HBD.out⟩
            case measure => simp [intOf]; omega
    · have t0 : decide ((0 : Int) < (m : Int)) = false := by simp only [decide_eq_false_iff_not]; omega
      obtain rfl : m = 0 := by omega
      have he : iter (8 * n) a = acc := HN.out.trans rfl
      go_wp2
      go_ret
      exact ⟨by rw [he]; exact retI (u32_xor_nat _ _ hacc hBB.out), hb⟩
theorem rep_list (n : Nat) : Lib.repeatL (⟨#[0]⟩ : ByteArray).data.toList n = List.replicate n 0 := by
  induction n with
  | zero => rfl
  | succ n ih => rw [Lib.repeatL, ih, List.replicate_succ]; rfl
theorem rjoin_any (a b n : Nat) (ha : a < 4294967296) (hb : b < 4294967296) (hn : n ≤ 3000) (w : World) :
    Calls Try.prog 5 #[.int .u32 (a : Int), .int .u32 (b : Int), .int .i64 (n : Int)] w fun e w' => e = .returned (.int .u32 ((iter (8 * n) a ^^^ b : Nat) : Int)) ∧ Below w.heap.size w w' := by
  have d0 : decide ((n : Int) < 0) = false := by simp only [decide_eq_false_iff_not]; omega
  have HE := Lib.hid (run_noughts a n)
  have HX := Lib.hid (u32_xor_nat (iter (8 * n) a) b (iter_lt _ ha) hb)
  go_enter Try.func5, Try.ntmps5
  go_wp2_with fail
  refine (Try.strings_Repeat ⟨#[0]⟩ n w (by omega) (by show 1 * n ≤ _; omega)).mono ?_
  rintro r w1 ⟨rfl, hb1⟩
  go_wp2_with fail
  refine (carry_any a _ w1 ha (by show (Lib.repeatL (⟨#[0]⟩ : ByteArray).data.toList n).toArray.size ≤ _; rw [rep_list]; simp; omega)).mono ?_
  rintro r w2 ⟨rfl, rfl⟩
  rw [show (⟨(Lib.repeatL (⟨#[0]⟩ : ByteArray).data.toList n).toArray⟩ : ByteArray).data.toList = List.replicate n 0 by rw [← rep_list n], HE.out]
  go_wp2
  go_ret
  exact ⟨retI HX.out, hb1⟩
theorem join_neg (a b n : Int) (h : n < 0) (w : World) : Calls Try.prog 4 #[.int .u32 a, .int .u32 b, .int .i64 n] w fun e w' => e = .returned (.int .u32 0) ∧ w = w' := by
  have d0 : decide (n < 0) = true := by simpa using h
  go_enter Try.func4, Try.ntmps4
  go_wp2
  go_ret
  exact ⟨rfl, rfl⟩
theorem rjoin_neg (a b n : Int) (h : n < 0) (w : World) : Calls Try.prog 5 #[.int .u32 a, .int .u32 b, .int .i64 n] w fun e w' => e = .returned (.int .u32 0) ∧ w = w' := by
  have d0 : decide (n < 0) = true := by simpa using h
  go_enter Try.func5, Try.ntmps5
  go_wp2
  go_ret
  exact ⟨rfl, rfl⟩
end Go.Proofs.Ytjlbhchfkhphhaa.Crc
namespace Go.Proofs.Ytjlbhchfkhphhaa
open Go.RowKit Crc
theorem walkCrcJoins (a b n : Int) (w : World) (ha : (Lit.int .u32 a).wf = true) (hb : (Lit.int .u32 b).wf = true) (_ : (Lit.int .i64 n).wf = true) :
    Calls Try.prog 3 #[.int .u32 a, .int .u32 b, .int .i64 n] w fun e w' => e = .returned (.bool true) ∧ Below w.heap.size w w' := by
  obtain ⟨a0, a1⟩ := bounds_u32 ha
  obtain ⟨b0, b1⟩ := bounds_u32 hb
  obtain ⟨x, rfl⟩ := Int.eq_ofNat_of_zero_le a0
  obtain ⟨y, rfl⟩ := Int.eq_ofNat_of_zero_le b0
  clear ha hb
  have hx : x < 4294967296 := by omega
  have hy : y < 4294967296 := by omega
  by_cases hbig : 3000 < n
  · have d0 : decide (3000 < n) = true := by simpa using hbig
    go_enter Try.func3, Try.ntmps3
    go_wp2
    go_ret
    exact ⟨rfl, Below.refl _ _⟩
  · have d0 : decide (3000 < n) = false := by simpa using hbig
    by_cases h0 : n < 0
    · go_enter Try.func3, Try.ntmps3
      go_wp2_with fail
      refine (join_neg _ _ n h0 w).mono ?_
      rintro r w1 ⟨rfl, rfl⟩
      go_wp2_with fail
      refine (rjoin_neg _ _ n h0 w).mono ?_
      rintro r w2 ⟨rfl, rfl⟩
      go_wp2
      go_ret
      exact ⟨by first | rfl | simp, Below.refl _ _⟩
    · obtain ⟨m, rfl⟩ := Int.eq_ofNat_of_zero_le (Int.not_lt.1 h0)
      have hm : m ≤ 3000 := by omega
      go_enter Try.func3, Try.ntmps3
      go_wp2_with fail
      refine (join_any x y m hx hy hm w).mono ?_
      rintro r w1 ⟨rfl, hb1⟩
      go_wp2_with fail
      refine (rjoin_any x y m hx hy hm w1).mono ?_
      rintro r w2 ⟨rfl, hb2⟩
      go_wp2
      go_ret
      exact ⟨by first | rfl | simp, hb1.trans (hb2.mono hb1.size)⟩
end Go.Proofs.Ytjlbhchfkhphhaa
