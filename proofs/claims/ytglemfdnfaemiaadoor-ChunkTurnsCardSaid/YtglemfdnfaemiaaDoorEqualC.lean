/- slices.Equal over slices of chunks. -/
import Derived.Test.YtglemfdnfaemiaaDoorEqStruct
namespace Go.Proofs.YtglemfdnfaemiaaDoor
open Go.RowKit
/-- A chunk: its name, how many bytes in all, where, its bytes. -/
abbrev Chk := Int × Int × Int × ByteArray
def chkCells (x : Chk) : List Value := [.int .u32 x.1, .int .i64 x.2.1, .int .i64 x.2.2.1, .string x.2.2.2]
theorem chkFields : (Tryd.prog.fieldsOf 74).toList.map (fun f => (f.name, f.type, f.offset)) = [("Name", 72, 0), ("Total", 3, 1), ("At", 3, 2), ("Data", 9, 3)] := by kernel_rfl
@[go_sem] theorem eqChk (d : Nat) (m m' r t r' t' : Int) (s s' : ByteArray) (w : World) : (Op.equalIn (d + 2) 74 (.agg #[.int .u32 m, .int .i64 r, .int .i64 t, .string s]) (.agg #[.int .u32 m', .int .i64 r', .int .i64 t', .string s'])).run Tryd.prog w = .ok (decide ((m, r, t, s) = (m', r', t', s'))) w := by
  rw [run_equalIn_agg w (d + 1) _ _ _ (by kernel_rfl) (by kernel_rfl), eqFields_eq Tryd.prog, chkFields]
  by_cases h0 : m = m'
  · by_cases h1 : r = r'
    · by_cases h2 : t = t'
      · by_cases h3 : s = s' <;> simp [eqF, go_sem, beq_str, h0, h1, h2, h3]
      · simp [eqF, go_sem, h0, h1, h2]
    · simp [eqF, go_sem, h0, h1]
  · simp [eqF, go_sem, h0]
theorem eqChk_no {a1 a2 a3 b1 b2 b3 : Int} {a4 b4 : ByteArray} (h : ¬ (a1, a2, a3, a4) = (b1, b2, b3, b4)) (w : World) : (Op.equalIn 10000 74 (.agg #[.int .u32 a1, .int .i64 a2, .int .i64 a3, .string a4]) (.agg #[.int .u32 b1, .int .i64 b2, .int .i64 b3, .string b4])).run Tryd.prog w = .ok false w :=
  (eqChk 9998 a1 b1 a2 a3 b2 b3 a4 b4 w).trans (by rw [decide_eq_false h])
theorem equal_chunks (n n' c c' : Nat) (A A' : Option Addr) (l l' : List Chk) (w : World) (h : Sl w w.heap.size 4 A n (l.flatMap chkCells)) (h' : Sl w w.heap.size 4 A' n' (l'.flatMap chkCells)) (hn : n ≤ maxLen) (hn' : n' ≤ maxLen) :
    Calls Tryd.prog 48 #[.slice A n c, .slice A' n' c'] w fun e w' => e = .returned (.bool (decide (l = l'))) ∧ ∃ q, w' = w.drewN q := by
  unfold maxLen at hn hn'
  have hl := slk_len chkCells 4 (by omega) (fun _ => rfl) h
  have hl' := slk_len chkCells 4 (by omega) (fun _ => rfl) h'
  by_cases hne : n = n'
  · subst hne
    have hL := Lib.hid hl
    have hL' := Lib.hid hl'
    clear hl hl'
    go_enter Tryd.func48, Tryd.ntmps48
    go_wp2
    go_loopw [5, 13] (fun _ i wr => (∃ k : Nat, k ≤ n ∧ i = .int .i64 k ∧ Alike l l' k) ∧ ∃ q, wr = w.drewN q) (fun _ i _ => n - (intOf i).toNat)
    case atStart => exact ⟨⟨0, by omega, rfl, fun j hj => by omega⟩, 0, rfl⟩
    case round =>
      obtain ⟨⟨k, hk, rfl, hall⟩, q, rfl⟩ := hrel
      by_cases hlt : k < n
      · obtain ⟨b, o, x, rfl, hb, hx, hc⟩ := slk_at chkCells 4 (fun _ => rfl) h hL.out hlt
        obtain ⟨b', o', y, rfl, hb', hy, hc'⟩ := slk_at chkCells 4 (fun _ => rfl) h' hL'.out hlt
        obtain ⟨a1, a2, a3, a4⟩ := x
        obtain ⟨b1, b2, b3, b4⟩ := y
        have c0 := hc 0 _ rfl
        have e0 := hc' 0 _ rfl
        have c1 := hc 1 _ rfl
        have e1 := hc' 1 _ rfl
        have c2 := hc 2 _ rfl
        have e2 := hc' 2 _ rfl
        have c3 := hc 3 _ rfl
        have e3 := hc' 3 _ rfl
        simp only [Nat.add_zero] at c0 e0
        clear hc hc' h h'
        have hkn : (k : Int) < (n : Int) := by omega
        have hX := Lib.hid hx
        have hY := Lib.hid hy
        clear hx hy
        by_cases hxy : ((a1, a2, a3, a4) : Chk) = (b1, b2, b3, b4)
        · simp only [Prod.mk.injEq] at hxy
          obtain ⟨rfl, rfl, rfl, rfl⟩ := hxy
          go_wp2_with fail
          go_quiet (fail)
          go_wp2
          go_roundw
          case rel => exact ⟨⟨k + 1, by omega, by go_num, hall.succ hX.out hY.out⟩, q + nq, by first | rfl | rw [World.drewN_drewN]⟩
          case measure => simp [intOf]; omega
        · have hd := Lib.hid (unlike hX.out hY.out hxy)
          have hdec : ∀ w : World, (Op.equalIn 10000 74 (.agg #[.int .u32 a1, .int .i64 a2, .int .i64 a3, .string a4]) (.agg #[.int .u32 b1, .int .i64 b2, .int .i64 b3, .string b4])).run Tryd.prog w = .ok false w := fun w => by
            exact eqChk_no hxy w
          clear hxy
          go_wp2_with fail
          go_quiet (fail)
          go_wp2
          go_ret
          exact ⟨bool_no hd.out, q + nq, by first | rfl | rw [World.drewN_drewN]⟩
      · obtain rfl : k = n := by omega
        go_wp2_with fail
        go_ret
        exact ⟨bool_yes (hall.all hL.out hL'.out), q, rfl⟩
  · have hne' : ((n : Int) != (n' : Int)) = true := by rw [bne_iff_ne]; omega
    have hd := Lib.hid (fun e : l = l' => hne (by rw [← hl, ← hl', e]))
    go_enter Tryd.func48, Tryd.ntmps48
    go_wp2
    go_ret
    exact ⟨bool_no hd.out, 0, rfl⟩
end Go.Proofs.YtglemfdnfaemiaaDoor
