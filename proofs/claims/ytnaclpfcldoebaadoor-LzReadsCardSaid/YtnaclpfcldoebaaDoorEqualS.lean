/- slices.Equal over slices of entries, tokens and writes. -/
import Derived.Test.YtnaclpfcldoebaaDoorEqStruct
namespace Go.Proofs.YtnaclpfcldoebaaDoor
open Go.RowKit
/-- A token: its own text, how far back, how many. A write: its time, its replica, its kind, its key, its value, its number. -/
abbrev Tok := ByteArray × Int × Int
def tokCells (x : Tok) : List Value := [.string x.1, .int .i64 x.2.1, .int .i64 x.2.2]
abbrev Wr := Int × Int × Int × ByteArray × ByteArray × Int
def wrCells (x : Wr) : List Value := [.int .i64 x.1, .int .i64 x.2.1, .int .i64 x.2.2.1, .string x.2.2.2.1, .string x.2.2.2.2.1, .int .i64 x.2.2.2.2.2]
abbrev Ent := Int × Int
def entCells (x : Ent) : List Value := [.int .i64 x.1, .int .i64 x.2]
theorem equal_ents (n n' c c' : Nat) (A A' : Option Addr) (l l' : List Ent) (w : World) (h : Sl w w.heap.size 2 A n (l.flatMap entCells)) (h' : Sl w w.heap.size 2 A' n' (l'.flatMap entCells)) (hn : n ≤ maxLen) (hn' : n' ≤ maxLen) :
    Calls Tryd.prog 11 #[.slice A n c, .slice A' n' c'] w fun e w' => e = .returned (.bool (decide (l = l'))) ∧ ∃ q, w' = w.drewN q := by
  unfold maxLen at hn hn'
  have hl := slk_len entCells 2 (by omega) (fun _ => rfl) h
  have hl' := slk_len entCells 2 (by omega) (fun _ => rfl) h'
  by_cases hne : n = n'
  · subst hne
    have hL := Lib.hid hl
    have hL' := Lib.hid hl'
    clear hl hl'
    go_enter Tryd.func11, Tryd.ntmps11
    go_wp2
    go_loopw [5, 13] (fun _ i wr => (∃ k : Nat, k ≤ n ∧ i = .int .i64 k ∧ Alike l l' k) ∧ ∃ q, wr = w.drewN q) (fun _ i _ => n - (intOf i).toNat)
    case atStart => exact ⟨⟨0, by omega, rfl, fun j hj => by omega⟩, 0, rfl⟩
    case round =>
      obtain ⟨⟨k, hk, rfl, hall⟩, q, rfl⟩ := hrel
      by_cases hlt : k < n
      · obtain ⟨b, o, x, rfl, hb, hx, hc⟩ := slk_at entCells 2 (fun _ => rfl) h hL.out hlt
        obtain ⟨b', o', y, rfl, hb', hy, hc'⟩ := slk_at entCells 2 (fun _ => rfl) h' hL'.out hlt
        obtain ⟨a1, a2⟩ := x
        obtain ⟨b1, b2⟩ := y
        have c0 := hc 0 _ rfl
        have e0 := hc' 0 _ rfl
        have c1 := hc 1 _ rfl
        have e1 := hc' 1 _ rfl
        simp only [Nat.add_zero] at c0 e0
        clear hc hc' h h'
        have hkn : (k : Int) < (n : Int) := by omega
        have hX := Lib.hid hx
        have hY := Lib.hid hy
        clear hx hy
        by_cases hxy : ((a1, a2) : Ent) = (b1, b2)
        · simp only [Prod.mk.injEq] at hxy
          obtain ⟨rfl, rfl⟩ := hxy
          go_wp2_with fail
          go_quiet (fail)
          go_wp2
          go_roundw
          case rel => exact ⟨⟨k + 1, by omega, by go_num, hall.succ hX.out hY.out⟩, q + nq, by first | rfl | rw [World.drewN_drewN]⟩
          case measure => simp [intOf]; omega
        · have hd := Lib.hid (unlike hX.out hY.out hxy)
          have hdec : ∀ w : World, (Op.equalIn 10000 35 (.agg #[.int .i64 a1, .int .i64 a2]) (.agg #[.int .i64 b1, .int .i64 b2])).run Tryd.prog w = .ok false w := fun w => by
            exact eqEnt_no hxy w
          clear hxy
          go_wp2_with fail
          go_quiet (fail)
          go_wp2
          go_ret
          exact ⟨bool_no hd.out, q + nq, by first | rfl | rw [World.drewN_drewN]⟩
      · obtain rfl : k = n := by omega
        go_wp2_with fail
        go_ret
        exact ⟨bool_yes (hall.all hL.out hL'.out), q, rfl⟩
  · have hne' : ((n : Int) != (n' : Int)) = true := by rw [bne_iff_ne]; omega
    have hd := Lib.hid (fun e : l = l' => hne (by rw [← hl, ← hl', e]))
    go_enter Tryd.func11, Tryd.ntmps11
    go_wp2
    go_ret
    exact ⟨bool_no hd.out, 0, rfl⟩
theorem equal_toks (n n' c c' : Nat) (A A' : Option Addr) (l l' : List Tok) (w : World) (h : Sl w w.heap.size 3 A n (l.flatMap tokCells)) (h' : Sl w w.heap.size 3 A' n' (l'.flatMap tokCells)) (hn : n ≤ maxLen) (hn' : n' ≤ maxLen) :
    Calls Tryd.prog 16 #[.slice A n c, .slice A' n' c'] w fun e w' => e = .returned (.bool (decide (l = l'))) ∧ ∃ q, w' = w.drewN q := by
  unfold maxLen at hn hn'
  have hl := slk_len tokCells 3 (by omega) (fun _ => rfl) h
  have hl' := slk_len tokCells 3 (by omega) (fun _ => rfl) h'
  by_cases hne : n = n'
  · subst hne
    have hL := Lib.hid hl
    have hL' := Lib.hid hl'
    clear hl hl'
    go_enter Tryd.func16, Tryd.ntmps16
    go_wp2
    go_loopw [5, 13] (fun _ i wr => (∃ k : Nat, k ≤ n ∧ i = .int .i64 k ∧ Alike l l' k) ∧ ∃ q, wr = w.drewN q) (fun _ i _ => n - (intOf i).toNat)
    case atStart => exact ⟨⟨0, by omega, rfl, fun j hj => by omega⟩, 0, rfl⟩
    case round =>
      obtain ⟨⟨k, hk, rfl, hall⟩, q, rfl⟩ := hrel
      by_cases hlt : k < n
      · obtain ⟨b, o, x, rfl, hb, hx, hc⟩ := slk_at tokCells 3 (fun _ => rfl) h hL.out hlt
        obtain ⟨b', o', y, rfl, hb', hy, hc'⟩ := slk_at tokCells 3 (fun _ => rfl) h' hL'.out hlt
        obtain ⟨a1, a2, a3⟩ := x
        obtain ⟨b1, b2, b3⟩ := y
        have c0 := hc 0 _ rfl
        have e0 := hc' 0 _ rfl
        have c1 := hc 1 _ rfl
        have e1 := hc' 1 _ rfl
        have c2 := hc 2 _ rfl
        have e2 := hc' 2 _ rfl
        simp only [Nat.add_zero] at c0 e0
        clear hc hc' h h'
        have hkn : (k : Int) < (n : Int) := by omega
        have hX := Lib.hid hx
        have hY := Lib.hid hy
        clear hx hy
        by_cases hxy : ((a1, a2, a3) : Tok) = (b1, b2, b3)
        · simp only [Prod.mk.injEq] at hxy
          obtain ⟨rfl, rfl, rfl⟩ := hxy
          go_wp2_with fail
          go_quiet (fail)
          go_wp2
          go_roundw
          case rel => exact ⟨⟨k + 1, by omega, by go_num, hall.succ hX.out hY.out⟩, q + nq, by first | rfl | rw [World.drewN_drewN]⟩
          case measure => simp [intOf]; omega
        · have hd := Lib.hid (unlike hX.out hY.out hxy)
          have hdec : ∀ w : World, (Op.equalIn 10000 48 (.agg #[.string a1, .int .i64 a2, .int .i64 a3]) (.agg #[.string b1, .int .i64 b2, .int .i64 b3])).run Tryd.prog w = .ok false w := fun w => by
            exact eqTok_no hxy w
          clear hxy
          go_wp2_with fail
          go_quiet (fail)
          go_wp2
          go_ret
          exact ⟨bool_no hd.out, q + nq, by first | rfl | rw [World.drewN_drewN]⟩
      · obtain rfl : k = n := by omega
        go_wp2_with fail
        go_ret
        exact ⟨bool_yes (hall.all hL.out hL'.out), q, rfl⟩
  · have hne' : ((n : Int) != (n' : Int)) = true := by rw [bne_iff_ne]; omega
    have hd := Lib.hid (fun e : l = l' => hne (by rw [← hl, ← hl', e]))
    go_enter Tryd.func16, Tryd.ntmps16
    go_wp2
    go_ret
    exact ⟨bool_no hd.out, 0, rfl⟩
end Go.Proofs.YtnaclpfcldoebaaDoor
