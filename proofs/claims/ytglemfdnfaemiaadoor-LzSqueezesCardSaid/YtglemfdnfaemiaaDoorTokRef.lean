/- The reference's Tokens computes what the plain function tokens says. -/
import Derived.Test.YtglemfdnfaemiaaDoorTokWalks
import Derived.Laws.OwnMore
import Derived.StillTailTactics
namespace Go.Proofs.YtglemfdnfaemiaaDoor.Tokens
open Go.RowKit Match
/-- Ahead of a text of its own stands nothing, or a piece taken from earlier. -/
theorem st_last (s : ByteArray) (k : Nat) : (st s k).done = [] ∨ ∃ d b n, (st s k).done = d ++ [(ByteArray.empty, b, n)] := by
  induction k with
  | zero => exact .inl rfl
  | succ k ih =>
    rw [st_succ]
    by_cases hlt : (st s k).at_ < s.size
    · by_cases hz : (find s.data.toList (st s k).at_).2 = 0
      · rw [step_none s _ hlt hz]; exact ih
      · rw [step_some s _ hlt hz]; exact .inr ⟨_, _, _, rfl⟩
    · unfold step; rw [if_neg hlt]; exact ih
theorem own_some {w : World} {B : Nat} {e : TypeId} {size : Nat} {v : Value} {n : Nat} {xs : List Value} (h : w.ownsRow B e size v n xs) (hn : 0 < n) : ∃ g c, v = .slice (some ⟨g, 0, none⟩) n c ∧ B ≤ g ∧ g < w.heap.size := by
  rcases h.2 with ⟨_, h0⟩ | ⟨g, cap, cur, hv, hb, hh, _⟩
  · omega
  · exact ⟨g, cap, hv, hb, (Array.getElem?_eq_some_iff.1 hh).1⟩
theorem ext_succ (s : ByteArray) (o p : Nat) (h1 : o ≤ p) (_h2 : p < s.size) : s.extract o p ++ s.extract p (p + 1) = s.extract o (p + 1) := by
  rw [ByteArray.extract_append_extract]
  congr 1 <;> omega
/-- The tokens told so far, once a byte more is read that starts no piece. -/
theorem grow_one (s : ByteArray) (p o : Nat) (d : List Tok) (h1 : o ≤ p) : flush s ⟨p + 1, o, d⟩ = d ++ [(s.extract o (p + 1), 0, 0)] := flush_own s _ (by simp only; omega)
theorem ext_ne (s : ByteArray) (o p : Nat) (h : o < p) (h2 : p ≤ s.size) : (s.extract o p).toList.isEmpty = false := by
  rw [List.isEmpty_eq_false_iff]
  intro e
  have h3 := congrArg List.length e
  rw [ByteArray.toList_eq] at h3
  simp at h3
  omega
theorem ext_none (s : ByteArray) (o p : Nat) (h : o = p) : s.extract o p = ⟨#[]⟩ := by
  subst h
  apply ByteArray.ext
  simp
theorem tokV_app (d e : List Tok) : tokV (d ++ e) = tokV d ++ tokV e := List.flatMap_append
theorem tokV_len (d : List Tok) : (tokV d).length = d.length * 3 := by
  induction d with
  | nil => rfl
  | cons x d ih => simp [tokV, tokCells] at ih ⊢; omega
theorem tok_at (d : List Tok) (x : ByteArray) (y z : Int) : (tokV (d ++ [(x, y, z)]))[d.length * 3]? = some (.string x) := by
  rw [tokV_app, List.getElem?_append_right (by rw [tokV_len]; exact Nat.le_refl _), tokV_len, Nat.sub_self]
  rfl
theorem tok_set (d : List Tok) (x x' : ByteArray) (y z : Int) : (tokV (d ++ [(x, y, z)])).set (d.length * 3) (.string x') = tokV (d ++ [(x', y, z)]) := by
  rw [tokV_app, tokV_app, List.set_append_right _ _ (by rw [tokV_len]; exact Nat.le_refl _), tokV_len, Nat.sub_self]
  rfl
theorem tok_set' (d : List Tok) (n : Nat) (hn : d.length = n) (x x' : ByteArray) (y z : Int) : (tokV (d ++ [(x, y, z)])).set (n * 3) (.string x') = tokV (d ++ [(x', y, z)]) := by rw [← hn]; exact tok_set d x x' y z
theorem new_tok {w : World} {B T n : Nat} {v : Value} {D : List Tok} {E0 : ByteArray} (h : w.ownsRow B T 3 v (n + 1) (tokV D ++ [.string ⟨#[]⟩, .int .i64 0, .int .i64 0])) (hn : D.length = n) (hE : E0 = ⟨#[]⟩) :
    ∃ g c, v = .slice (some ⟨g, 0, none⟩) (n + 1) c ∧ B ≤ g ∧ w.ownsRow B T 3 (.slice (some ⟨g, 0, none⟩) (n + 1) c) (n + 1) (tokV (D ++ [(E0, 0, 0)])) ∧ w.cell? ⟨g, n * 3, none⟩ = some (.string E0) ∧ w.frozen? ⟨g, n * 3, none⟩ = false := by
  obtain ⟨g, c, rfl, hg, _⟩ := own_some h (by omega)
  subst hn hE
  have h2 : w.ownsRow B T 3 (.slice (some ⟨g, 0, none⟩) (D.length + 1) c) (D.length + 1) (tokV (D ++ [(⟨#[]⟩, 0, 0)])) := by rw [tokV_app]; exact h
  refine ⟨g, c, rfl, hg, h2, ?_, h2.frozenAt _⟩
  rw [h2.cellAt (D.length * 3) (by omega)]
  exact tok_at D _ _ _
set_option maxHeartbeats 1000000 in
set_option maxRecDepth 100000 in
theorem rtokens_any (s : ByteArray) (w : World) (hs : s.size ≤ 100000) :
    Calls Tryd.prog 109 #[.string s] w fun e w' => ∃ v, e = .returned v ∧ w'.ownsRow w.heap.size 104 3 v (tokens s).length (tokV (tokens s)) ∧ Below w.heap.size w w' := by
  obtain ⟨i0, hi, hz0, hz1, hz2⟩ := info_parts tokInfo
  go_enter Tryd.func109, Tryd.ntmps109
  go_wp2
  go_loopw [3, 4, 5, 6] (fun v a _ _ wr => ∃ k : Nat, ∃ x : St, x = st s k ∧ x.own ≤ x.at_ ∧ x.at_ ≤ s.size ∧ x.done.length ≤ x.own ∧ a = .int .i64 x.at_ ∧ wr.ownsRow w.heap.size 104 3 v (flush s x).length (tokV (flush s x)) ∧ Below w.heap.size w wr) (fun _ a _ _ _ => s.size - (intOf a).toNat)
  case atStart => exact ⟨0, ⟨0, 0, []⟩, rfl, Nat.le_refl _, Nat.zero_le _, Nat.le_refl _, rfl, World.ownsRow_nil _ _ _ _, Below.refl _ _⟩
  case round =>
    obtain ⟨k, x, hx, h1, h2, h3, rfl, hT, hbel⟩ := hrel
    have hla := st_last s k
    rw [← hx] at hla
    obtain ⟨p, o, done⟩ := x
    have hX := Lib.hid hx
    clear hx
    simp only at h1 h2 h3 hT hla
    have hB := hbel.size
    by_cases hlt : p < s.size
    · have hfe := Nat.le_trans (find_end s.data.toList p (by simpa using h2)) (Nat.le_of_eq (show s.data.toList.length = s.size by simp))
      have hfl := find_le s.data.toList p
      go_wp2_with fail
      refine (rfind_in s p wr (by omega) hlt).mono ?_
      rintro e wq ⟨rfl, q, hq⟩
      have hTq : wq.ownsRow w.heap.size 104 3 u3 (flush s ⟨p, o, done⟩).length (tokV (flush s ⟨p, o, done⟩)) := by rw [hq]; exact hT
      have hbq : Below w.heap.size w wq := by rw [hq]; exact below_drewN hbel q
      have hBq := hbq.size
      clear hq hT hbel hB
      rw [Int.toNat_natCast]
      obtain ⟨b, hb⟩ : ∃ b, b = (find s.data.toList p).1 := ⟨_, rfl⟩
      obtain ⟨n, hn⟩ : ∃ n, n = (find s.data.toList p).2 := ⟨_, rfl⟩
      have hstep := fun hz => step_none s ⟨p, o, done⟩ hlt hz
      have hstep2 := fun hz => step_some s ⟨p, o, done⟩ hlt hz
      have hnext := Lib.hid (st_succ s k)
      simp only at hstep hstep2
      rw [← hn] at hfe hfl hstep hstep2
      rw [← hb] at hfl hstep2
      rw [← hb, ← hn]
      clear hb hn
      have hpn : p + n < 1000000 := by omega
      have hfe := Lib.hid hfe
      have hfl2 := flush_len s ⟨p, o, done⟩ h3 h1
      simp only at hfl2
      by_cases hn0 : n = 0
      · subst hn0
        have hS := Lib.hid (hstep rfl)
        clear hstep hstep2
        by_cases hown : o < p
        · have hF := flush_own s ⟨p, o, done⟩ hown
          simp only at hF
          rw [hF] at hTq hfl2
          rw [show (done ++ [(s.extract o p, (0 : Int), (0 : Int))]).length = done.length + 1 from by simp] at hTq hfl2
          obtain ⟨g, c, rfl, hg0, hg1⟩ := own_some hTq (by omega)
          have hne : ((s.extract o p).size == 0) = false := by simp; omega
          have hc0 : wq.cell? ⟨g, done.length * 3, none⟩ = some (.string (s.extract o p)) := by
            rw [hTq.cellAt _ (by omega)]
            exact tok_at done _ _ _
          have hf0 : wq.frozen? ⟨g, done.length * 3, none⟩ = false := hTq.frozenAt _
          have he : (s.extract o p).toList.isEmpty = false := ext_ne s o p hown h2
          have hz0 : (((done.length : Nat) : Int) + 1 == 0) = false := beq_eq_false_iff_ne.2 (by omega)
          have hlt3 : ((p : Nat) : Int) + 1 ≤ (s.size : Int) := by omega
          generalize hE : s.extract o p = E at *
          have hE' := Lib.hid hE
          clear hE
          have hTh := Lib.hid hTq
          clear hTq
          go_wp2_with fail
          have hEs : E.size ≤ s.size := by rw [← hE'.out, ByteArray.size_extract]; omega
          have hEs : E.size ≤ s.size := by rw [← hE'.out, ByteArray.size_extract]; omega
          have hEs : E.size ≤ s.size := by rw [← hE'.out, ByteArray.size_extract]; omega
          have hEs : E.size ≤ s.size := by rw [← hE'.out, ByteArray.size_extract]; omega
          have hEs : E.size ≤ s.size := by rw [← hE'.out, ByteArray.size_extract]; omega
          have hEs : E.size ≤ s.size := by rw [← hE'.out, ByteArray.size_extract]; omega
          have hEs : E.size ≤ s.size := by rw [← hE'.out, ByteArray.size_extract]; omega
          have hwn : IntKind.i64.wrap ((((done).length : Nat) : Int)) = (((done).length : Nat) : Int) := IntWalk.i64_in _ (by omega)
          have hwp : IntKind.i64.wrap (((p : Nat) : Int) + 1) = ((p : Nat) : Int) + 1 := IntWalk.i64_in _ (by omega)
          have hin : (0 : Int) ≤ (((done).length : Nat) : Int) ∧ (((done).length : Nat) : Int) < (((done).length : Nat) : Int) + 1 := by omega
          have htn : ((((done).length : Nat) : Int)).toNat = (done).length := by omega
          have hp1 : (0 : Int) ≤ ((p : Nat) : Int) + 1 := by omega
          have hp2 : ((p : Nat) : Int) ≤ ((p : Nat) : Int) + 1 := by omega
          have hc1 : (wq).drew.cell? ⟨g, (done).length * 3, none⟩ = some (.string E) := hc0
          have hsz : ¬ 9223372036854775807 < (E).size + (min (p + 1) s.size - p) := by have := hEs; omega
          refine wp_region_still_tail 13 (by kernel_rfl) (by kernel_rfl) ?_
          simp only [List.take_succ_cons, List.take_zero, List.drop_succ_cons, List.drop_zero]
          repeat (refine wpStill_step (fun K hK => ?_); go_simp; (try simp only [hwn, hwp, if_pos hin, if_pos hp1, if_pos hp2, if_neg hsz, htn, Int.toNat_natCast, hc1]); (try go_simp); refine hK _ ?_; clear hK K)
          refine wpStill_nil ?_
          change wpList _ _ _ _ _ (wq).drew
          go_wp2
          go_roundw
          case rel =>
            have hst := hTh.out.stored ((done).length * 3) (.string (E ++ s.extract p (p + 1)))
            have hset := tok_set' (done) (done).length rfl E (E ++ s.extract p (p + 1)) 0 0
            refine ⟨k + 1, ⟨p + 1, o, done⟩, ?_, ?_⟩
            · rw [hnext.out, ← hX.out, hS.out]
            · refine ⟨by simp; omega, by simp; omega, h3, by go_num, ?_, ?_⟩
              · rw [grow_one s p o _ h1, ← ext_succ s o p h1 hlt, hE'.out, ← hset, show (done ++ [(E ++ s.extract p (p + 1), (0 : Int), (0 : Int))]).length = (done).length + 1 from by (rw [List.length_append, show (done).length = (done).length from rfl]; rfl)]
                exact hst.1
              · exact Below.setCell (below_drewN hbq 1) hg0 _
          case measure => simp [intOf]; omega
        · have hF := flush_no s ⟨p, o, done⟩ hown
          simp only at hF
          rw [hF] at hTq hfl2
          have hlt3 : ((p : Nat) : Int) + 1 ≤ (s.size : Int) := by omega
          have hop : o = p := by omega
          obtain ⟨E0, hE0⟩ : ∃ E0 : ByteArray, E0 = ⟨#[]⟩ := ⟨_, rfl⟩
          have hEs : E0.size ≤ s.size := by rw [hE0]; exact Nat.zero_le _
          have hE' := Lib.hid (show s.extract o p = E0 from (ext_none s o p hop).trans hE0.symm)
          have hE1 := Lib.hid hE0
          clear hE0
          rcases hla with hd | ⟨d, b', n', hd⟩
          · subst hd
            obtain ⟨A, c, rfl⟩ := own_form hTq
            simp only [List.length_nil] at hTq hfl2
            go_wp2_with (first
              | (at_builtin; go_loud (refine wpList_append_own _ rfl (.tmp 41) (.tmp 43) 53 rfl w.heap.size 104 i0 (.agg #[.string ⟨#[]⟩, .int .i64 0, .int .i64 0]) 3 32 Tryd.underlying53 hi hz0 hz1 hz2 rfl (by decide) _ 0 (tokV (([] : List Tok))) rfl (hTq.alloc _) ⟨wq.heap.size, 0, none⟩ 1 1 [.string ⟨#[]⟩, .int .i64 0, .int .i64 0] rfl rfl (cells_new _ #[.string ⟨#[]⟩, .int .i64 0, .int .i64 0] _) (by intro u hu; simp at hu; rcases hu with rfl | rfl | rfl <;> rfl) (by unfold maxLen; omega) (by omega) (by simp; omega) ?_; intro v2 w2 hT2 hg2 _; have hb2 := grown_own (hbq.alloc hbq.size _) hg2 (by simp; omega) (hTq.alloc _); obtain ⟨g, c', rfl, hg0, hTn, hc2, hf2⟩ := new_tok hT2 rfl hE1.out; have hTh := Lib.hid hTn; clear hTn hT2)))
            have hwn : IntKind.i64.wrap ((0 : Int)) = (0 : Int) := IntWalk.i64_in _ (by omega)
            have hwp : IntKind.i64.wrap (((p : Nat) : Int) + 1) = ((p : Nat) : Int) + 1 := IntWalk.i64_in _ (by omega)
            have hin : (0 : Int) ≤ (0 : Int) ∧ (0 : Int) < (1 : Int) := by omega
            have htn : ((0 : Int)).toNat = 0 := by omega
            have hp1 : (0 : Int) ≤ ((p : Nat) : Int) + 1 := by omega
            have hp2 : ((p : Nat) : Int) ≤ ((p : Nat) : Int) + 1 := by omega
            have hc1 : (w2).drew.cell? ⟨g, 0, none⟩ = some (.string E0) := hc2
            have hsz : ¬ 9223372036854775807 < (E0).size + (min (p + 1) s.size - p) := by have := hEs; omega
            refine wp_region_still_tail 13 (by kernel_rfl) (by kernel_rfl) ?_
            simp only [List.take_succ_cons, List.take_zero, List.drop_succ_cons, List.drop_zero]
            repeat (refine wpStill_step (fun K hK => ?_); go_simp; (try simp only [hwn, hwp, if_pos hin, if_pos hp1, if_pos hp2, if_neg hsz, htn, Int.toNat_natCast, hc1]); (try go_simp); refine hK _ ?_; clear hK K)
            refine wpStill_nil ?_
            change wpList _ _ _ _ _ (w2).drew
            go_wp2
            go_roundw
            case rel =>
              have hst := hTh.out.stored (0 * 3) (.string (E0 ++ s.extract p (p + 1)))
              have hset := tok_set' (([] : List Tok)) 0 rfl E0 (E0 ++ s.extract p (p + 1)) 0 0
              refine ⟨k + 1, ⟨p + 1, o, ([] : List Tok)⟩, ?_, ?_⟩
              · rw [hnext.out, ← hX.out, hS.out]
              · refine ⟨by simp; omega, by simp; omega, h3, by go_num, ?_, ?_⟩
                · rw [grow_one s p o _ h1, ← ext_succ s o p h1 hlt, hE'.out, ← hset, show (([] : List Tok) ++ [(E0 ++ s.extract p (p + 1), (0 : Int), (0 : Int))]).length = 0 + 1 from by (rw [List.length_append, show (([] : List Tok)).length = 0 from rfl]; rfl)]
                  exact hst.1
                · exact Below.setCell (below_drewN hb2 1) hg0 _
            case measure => simp [intOf]; omega

          · have hdl : 0 < done.length := by rw [hd]; simp
            obtain ⟨m, hm⟩ : ∃ m, done.length = m + 1 := ⟨done.length - 1, by omega⟩
            have hmd : m = d.length := by rw [hd] at hm; simp at hm; omega
            rw [hm] at hTq hfl2
            obtain ⟨gq, c, rfl, hg0q, hg1q⟩ := own_some hTq (by omega)
            have hc0 : wq.cell? ⟨gq, m * 3, none⟩ = some (.string ⟨#[]⟩) := by
              rw [hTq.cellAt (m * 3) (by omega), hd, hmd]
              exact tok_at d _ _ _
            have hf0 : wq.frozen? ⟨gq, m * 3, none⟩ = false := hTq.frozenAt _
            clear hd hmd
            have hzm : ((((m + 1 : Nat) : Int)) == 0) = false := beq_eq_false_iff_ne.2 (by omega)
            have hzm' : (((m : Nat) : Int) + 1 == 0) = false := beq_eq_false_iff_ne.2 (by omega)
            go_wp2_with (first
              | (at_builtin; go_loud (refine wpList_append_own _ rfl (.tmp 41) (.tmp 43) 53 rfl w.heap.size 104 i0 (.agg #[.string ⟨#[]⟩, .int .i64 0, .int .i64 0]) 3 32 Tryd.underlying53 hi hz0 hz1 hz2 rfl (by decide) _ (m + 1) (tokV (done)) rfl (hTq.alloc _) ⟨wq.heap.size, 0, none⟩ 1 1 [.string ⟨#[]⟩, .int .i64 0, .int .i64 0] rfl rfl (cells_new _ #[.string ⟨#[]⟩, .int .i64 0, .int .i64 0] _) (by intro u hu; simp at hu; rcases hu with rfl | rfl | rfl <;> rfl) (by unfold maxLen; omega) (by omega) (by simp; omega) ?_; intro v2 w2 hT2 hg2 _; have hb2 := grown_own (hbq.alloc hbq.size _) hg2 (by simp; omega) (hTq.alloc _); obtain ⟨g, c', rfl, hg0, hTn, hc2, hf2⟩ := new_tok hT2 hm hE1.out; have hTh := Lib.hid hTn; clear hTn hT2)))
            have hwn : IntKind.i64.wrap (((m : Nat) : Int) + 1) = ((m : Nat) : Int) + 1 := IntWalk.i64_in _ (by omega)
            have hwp : IntKind.i64.wrap (((p : Nat) : Int) + 1) = ((p : Nat) : Int) + 1 := IntWalk.i64_in _ (by omega)
            have hin : (0 : Int) ≤ ((m : Nat) : Int) + 1 ∧ ((m : Nat) : Int) + 1 < ((m : Nat) : Int) + 1 + 1 := by omega
            have htn : (((m : Nat) : Int) + 1).toNat = (m + 1) := by omega
            have hp1 : (0 : Int) ≤ ((p : Nat) : Int) + 1 := by omega
            have hp2 : ((p : Nat) : Int) ≤ ((p : Nat) : Int) + 1 := by omega
            have hc1 : (w2).drew.cell? ⟨g, (m + 1) * 3, none⟩ = some (.string E0) := hc2
            have hsz : ¬ 9223372036854775807 < (E0).size + (min (p + 1) s.size - p) := by have := hEs; omega
            refine wp_region_still_tail 13 (by kernel_rfl) (by kernel_rfl) ?_
            simp only [List.take_succ_cons, List.take_zero, List.drop_succ_cons, List.drop_zero]
            repeat (refine wpStill_step (fun K hK => ?_); go_simp; (try simp only [hwn, hwp, if_pos hin, if_pos hp1, if_pos hp2, if_neg hsz, htn, Int.toNat_natCast, hc1]); (try go_simp); refine hK _ ?_; clear hK K)
            refine wpStill_nil ?_
            change wpList _ _ _ _ _ (w2).drew
            go_wp2
            go_roundw
            case rel =>
              have hst := hTh.out.stored ((m + 1) * 3) (.string (E0 ++ s.extract p (p + 1)))
              have hset := tok_set' (done) (m + 1) hm E0 (E0 ++ s.extract p (p + 1)) 0 0
              refine ⟨k + 1, ⟨p + 1, o, done⟩, ?_, ?_⟩
              · rw [hnext.out, ← hX.out, hS.out]
              · refine ⟨by simp; omega, by simp; omega, h3, by go_num, ?_, ?_⟩
                · rw [grow_one s p o _ h1, ← ext_succ s o p h1 hlt, hE'.out, ← hset, show (done ++ [(E0 ++ s.extract p (p + 1), (0 : Int), (0 : Int))]).length = (m + 1) + 1 from by (rw [List.length_append, show (done).length = (m + 1) from hm]; rfl)]
                  exact hst.1
                · exact Below.setCell (below_drewN hb2 1) hg0 _
            case measure => simp [intOf]; omega

      · have hnb : (0 : Int) < (n : Int) := by omega
        have hS := Lib.hid (hstep2 hn0)
        clear hstep hstep2
        generalize hF : flush s ⟨p, o, done⟩ = F at *
        go_wp2_with (first
            | (at_builtin; refine wpList_append_own _ rfl (.tmp 19) (.tmp 23) 53 rfl w.heap.size 104 i0 (.agg #[.string ⟨#[]⟩, .int .i64 0, .int .i64 0]) 3 32 Tryd.underlying53 hi hz0 hz1 hz2 rfl (by decide) u3 F.length (tokV F) rfl (hTq.alloc _) ⟨wq.heap.size, 0, none⟩ 1 1 [.string ⟨#[]⟩, .int .i64 (b : Int), .int .i64 (n : Int)] rfl rfl (cells_new _ #[.string ⟨#[]⟩, .int .i64 (b : Int), .int .i64 (n : Int)] _) (by intro u hu; simp at hu; rcases hu with rfl | rfl | rfl <;> rfl) (by unfold maxLen; omega) (by omega) (by simp; omega) ?_; intro v2 w2 hT2 hg2 _; have hb2 := grown_own (hbq.alloc hbq.size _) hg2 (by simp; omega) (hTq.alloc _)))
        go_roundw
        case rel =>
          rw [cast_sum p n]
          refine ⟨k + 1, ⟨p + n, p + n, _⟩, rel_next hX.out hS.out, Nat.le_refl _, hfe.out, by simp; omega, rfl, ?_, hb2⟩
          rw [flush_no s ⟨p + n, p + n, _⟩ (by simp)]
          simpa [tokV, tokCells, List.flatMap_append, emptyB] using hT2
        case measure =>
          rw [cast_sum p n]
          simp [intOf]; omega
    · have hpe : p = s.size := by omega
      have hend := Lib.hid (st_end s k (by rw [← hX.out]; simp only; omega))
      subst hpe
      have hlt' : ¬ ((s.size : Nat) : Int) < ((s.size : Nat) : Int) := by omega
      go_wp2_with fail
      go_ret
      refine ⟨_, rfl, ?_, hbel⟩
      rw [← hend.out, ← hX.out]
      exact hT
end Go.Proofs.YtglemfdnfaemiaaDoor.Tokens
