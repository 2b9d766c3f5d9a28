/- The Go function Tokens of package match computes what the plain function tokens says. -/
import Derived.Test.YtglemfdnfaemiaaDoorTokLaw
import Derived.Test.YtglemfdnfaemiaaDoorMatchRef
import Derived.Test.YtglemfdnfaemiaaDoorBytes
import Derived.OwnWalk
import Derived.Maps.AppendAt
import Derived.KernelRfl
import Derived.Deep.DeepCutAuto
import Derived.Deep.Cut
import Derived.Deep.CutBlock
namespace Go.Proofs.YtglemfdnfaemiaaDoor.Tokens
open Go.RowKit Match
theorem tokInfo : (Tryd.prog.info? 104).map (fun i => (i.zero, i.size, i.bytes)) = some (some (.agg #[.string ⟨#[]⟩, .int .i64 0, .int .i64 0]), 3, 32) := by kernel_rfl
theorem cells_new (w : World) (c : Array Value) (t : TypeId) : ∀ j u, c.toList[j]? = some u → (w.alloc (.cells c t)).cell? ((⟨w.heap.size, 0, none⟩ : Addr).add j) = some u := by
  intro j u hu
  have hadd : (⟨w.heap.size, 0, none⟩ : Addr).add j = ⟨w.heap.size, j, none⟩ := by unfold Addr.add; split <;> simp_all
  rw [hadd, World.cell?_alloc_new]
  simpa using hu
theorem emptyB : (ByteArray.empty) = ⟨#[]⟩ := rfl
theorem cast_sum (p n : Nat) : (p : Int) + (n : Int) = ((p + n : Nat) : Int) := by omega
theorem rel_next {s : ByteArray} {k p o n : Nat} {done D : List Tok} (hX : ⟨p, o, done⟩ = st s k) (hS : step s ⟨p, o, done⟩ = ⟨p + n, p + n, D⟩) : (⟨p + n, p + n, D⟩ : St) = st s (k + 1) := by rw [st_succ, ← hX, hS]
abbrev tokV (l : List Tok) : List Value := l.flatMap tokCells
set_option maxRecDepth 100000 in
theorem tokens_any (s : ByteArray) (w : World) (hs : s.size ≤ 100000) :
    Calls Tryd.prog 110 #[.string s] w fun e w' => ∃ v, e = .returned v ∧ w'.ownsRow w.heap.size 104 3 v (tokens s).length (tokV (tokens s)) ∧ Below w.heap.size w w' := by
  obtain ⟨i0, hi, hz0, hz1, hz2⟩ := info_parts tokInfo
  go_enter Tryd.func110, Tryd.ntmps110
  go_wp2
  go_loopw [3, 4, 5, 6, 7] (fun v o a _ _ wr => ∃ k : Nat, ∃ x : St, x = st s k ∧ x.own ≤ x.at_ ∧ x.at_ ≤ s.size ∧ x.done.length ≤ x.own ∧ o = .int .i64 x.own ∧ a = .int .i64 x.at_ ∧ wr.ownsRow w.heap.size 104 3 v x.done.length (tokV x.done) ∧ Below w.heap.size w wr) (fun _ _ a _ _ _ => s.size - (intOf a).toNat)
  case atStart => exact ⟨0, ⟨0, 0, []⟩, rfl, Nat.le_refl _, Nat.zero_le _, Nat.le_refl _, rfl, rfl, World.ownsRow_nil _ _ _ _, Below.refl _ _⟩
  case round =>
    obtain ⟨k, x, hx, h1, h2, h3, rfl, rfl, hT, hbel⟩ := hrel
    obtain ⟨p, o, done⟩ := x
    have hX := Lib.hid hx
    clear hx
    simp only at h1 h2 h3 hT
    have hB := hbel.size
    by_cases hlt : p < s.size
    · have hfe := find_end s.data.toList p (by simpa using h2)
      have hfl := find_le s.data.toList p
      go_wp2_with fail
      refine (find_in s p wr (by omega) hlt).mono ?_
      rintro e wq ⟨rfl, q, hq⟩
      have hTq : wq.ownsRow w.heap.size 104 3 u3 done.length (tokV done) := by rw [hq]; exact hT
      have hbq : Below w.heap.size w wq := by rw [hq]; exact below_drewN hbel q
      have hBq := hbq.size
      clear hq hT hbel hB
      rw [Int.toNat_natCast]
      obtain ⟨b, hb⟩ : ∃ b, b = (find s.data.toList p).1 := ⟨_, rfl⟩
      obtain ⟨n, hn⟩ : ∃ n, n = (find s.data.toList p).2 := ⟨_, rfl⟩
      have hstep := fun hz => step_none s ⟨p, o, done⟩ hlt hz
      have hstep2 := fun hz => step_some s ⟨p, o, done⟩ hlt hz
      have hnext := Lib.hid (st_succ s k)
      simp only at hstep hstep2
      rw [← hn] at hfe hfl hstep hstep2
      rw [← hb] at hfl hstep2
      rw [← hb, ← hn]
      clear hb hn
      have hpn : p + n < 1000000 := by omega
      have hfe := Lib.hid hfe
      by_cases hn0 : n = 0
      · subst hn0
        have hS := Lib.hid (hstep rfl)
        clear hstep hstep2
        go_wp2_with fail
        go_roundw
        case rel => exact ⟨k + 1, ⟨p + 1, o, done⟩, by rw [hnext.out, ← hX.out, hS.out], by simp; omega, by simp; omega, h3, rfl, by go_num, hTq, hbq⟩
        case measure => simp [intOf]; omega
      · have hnb : ((n : Int) == 0) = false := beq_eq_false_iff_ne.2 (by omega)
        have hS := hstep2 hn0
        clear hstep hstep2
        by_cases hown : o < p
        · rw [flush_own s ⟨p, o, done⟩ hown] at hS
          simp only at hS
          have hS' := Lib.hid hS
          clear hS
          go_wp2_with (first
            | (at_builtin; refine wpList_append_own _ rfl (.tmp 25) (.tmp 31) 53 rfl w.heap.size 104 i0 (.agg #[.string ⟨#[]⟩, .int .i64 0, .int .i64 0]) 3 32 Tryd.underlying53 hi hz0 hz1 hz2 rfl (by decide) u3 done.length (tokV done) rfl (hTq.alloc _) ⟨wq.heap.size, 0, none⟩ 1 1 [.string (s.extract o p), .int .i64 0, .int .i64 0] rfl rfl (cells_new _ #[.string (s.extract o p), .int .i64 0, .int .i64 0] _) (by intro u hu; simp at hu; rcases hu with rfl | rfl <;> rfl) (by unfold maxLen; omega) (by omega) (by simp; omega) ?_; intro v1 w1 hT1 hg1 _; have hb1 := grown_own (hbq.alloc hBq _) hg1 (by simp; omega) (hTq.alloc _))
            | (at_builtin; refine wpList_append_own _ rfl (.tmp 33) (.tmp 37) 53 rfl w.heap.size 104 i0 (.agg #[.string ⟨#[]⟩, .int .i64 0, .int .i64 0]) 3 32 Tryd.underlying53 hi hz0 hz1 hz2 rfl (by decide) v1 (done.length + 1) _ rfl (hT1.alloc _) ⟨w1.heap.size, 0, none⟩ 1 1 [.string ⟨#[]⟩, .int .i64 (b : Int), .int .i64 (n : Int)] rfl rfl (cells_new _ #[.string ⟨#[]⟩, .int .i64 (b : Int), .int .i64 (n : Int)] _) (by intro u hu; simp at hu; rcases hu with rfl | rfl | rfl <;> rfl) (by unfold maxLen; omega) (by omega) (by have := hb1.size; simp; omega) ?_; intro v2 w2 hT2 hg2 _; have hb2 := grown_own (hb1.alloc hb1.size _) hg2 (by have := hb1.size; simp; omega) (hT1.alloc _)))
          go_roundw
          case rel =>
            rw [cast_sum p n]
            refine ⟨k + 1, ⟨p + n, p + n, _⟩, rel_next hX.out hS'.out, Nat.le_refl _, hfe.out, by simp; omega, rfl, rfl, ?_, hb2⟩
            simpa [tokV, tokCells, List.flatMap_append, emptyB] using hT2
          case measure =>
            rw [cast_sum p n]
            simp [intOf]; omega
        · rw [flush_no s ⟨p, o, done⟩ hown] at hS
          simp only at hS
          have hS' := Lib.hid hS
          clear hS
          have hop : ¬ (o : Int) < (p : Int) := by omega
          go_wp2_with (first
            | (at_builtin; refine wpList_append_own _ rfl (.tmp 33) (.tmp 37) 53 rfl w.heap.size 104 i0 (.agg #[.string ⟨#[]⟩, .int .i64 0, .int .i64 0]) 3 32 Tryd.underlying53 hi hz0 hz1 hz2 rfl (by decide) u3 done.length (tokV done) rfl (hTq.alloc _) ⟨wq.heap.size, 0, none⟩ 1 1 [.string ⟨#[]⟩, .int .i64 (b : Int), .int .i64 (n : Int)] rfl rfl (cells_new _ #[.string ⟨#[]⟩, .int .i64 (b : Int), .int .i64 (n : Int)] _) (by intro u hu; simp at hu; rcases hu with rfl | rfl | rfl <;> rfl) (by unfold maxLen; omega) (by omega) (by simp; omega) ?_; intro v2 w2 hT2 hg2 _; have hb2 := grown_own (hbq.alloc hbq.size _) hg2 (by simp; omega) (hTq.alloc _)))
          go_roundw
          case rel =>
            rw [cast_sum p n]
            refine ⟨k + 1, ⟨p + n, p + n, _⟩, rel_next hX.out hS'.out, Nat.le_refl _, hfe.out, by simp; omega, rfl, rfl, ?_, hb2⟩
            simpa [tokV, tokCells, List.flatMap_append, emptyB] using hT2
          case measure =>
            rw [cast_sum p n]
            simp [intOf]; omega
    · have hpe : p = s.size := by omega
      have hend := Lib.hid (st_end s k (by rw [← hX.out]; simp only; omega))
      subst hpe
      have hlt' : ¬ ((s.size : Nat) : Int) < ((s.size : Nat) : Int) := by omega
      by_cases hown : o < s.size
      · have hF := Lib.hid (flush_own s ⟨s.size, o, done⟩ hown)
        go_wp2_with (first
            | (at_builtin; refine wpList_append_own _ rfl (.tmp 47) (.tmp 52) 53 rfl w.heap.size 104 i0 (.agg #[.string ⟨#[]⟩, .int .i64 0, .int .i64 0]) 3 32 Tryd.underlying53 hi hz0 hz1 hz2 rfl (by decide) u3 done.length (tokV done) rfl (hT.alloc _) ⟨wr.heap.size, 0, none⟩ 1 1 [.string (s.extract o s.size), .int .i64 0, .int .i64 0] rfl rfl (cells_new _ #[.string (s.extract o s.size), .int .i64 0, .int .i64 0] _) (by intro u hu; simp at hu; rcases hu with rfl | rfl <;> rfl) (by unfold maxLen; omega) (by omega) (by simp; omega) ?_; intro v1 w1 hT1 hg1 _; have hb1 := grown_own (hbel.alloc hB _) hg1 (by simp; omega) (hT.alloc _)))
        go_ret
        refine ⟨_, rfl, ?_, hb1⟩
        rw [← hend.out, ← hX.out, hF.out]
        simpa [tokV, tokCells, List.flatMap_append] using hT1
      · have hF := Lib.hid (flush_no s ⟨s.size, o, done⟩ hown)
        go_wp2_with fail
        go_ret
        refine ⟨_, rfl, ?_, hbel⟩
        rw [← hend.out, ← hX.out, hF.out]
        exact hT
end Go.Proofs.YtglemfdnfaemiaaDoor.Tokens
