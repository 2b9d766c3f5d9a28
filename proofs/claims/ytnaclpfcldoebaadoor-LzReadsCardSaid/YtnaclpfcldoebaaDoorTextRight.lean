/- match.Right says what tright says; the law's heavy says something. -/
import Derived.Test.YtnaclpfcldoebaaDoorToks
namespace Go.Proofs.YtnaclpfcldoebaaDoor
open Go.RowKit As
/-- A call that returns yes or no. -/
def IsBool (e : Ending) : Prop := ∃ b, e = .returned (.bool b)
theorem IsBool.of {e : Ending} {b : Bool} (h : e = .returned (.bool b)) : IsBool e := ⟨b, h⟩
set_option maxHeartbeats 2000000 in
set_option maxRecDepth 100000 in
theorem tright_any (w : World) (n c : Nat) (A : Option Addr) (l : List Tok) (hl : Toks w w.heap.size A n l) (hn : n ≤ maxLen) :
    Calls Tryd.prog 45 #[.slice A n c] w fun e w' => ∃ v, e = .returned v ∧ ErrOf w' v (tright l) ∧ Below w.heap.size w w' := by
  unfold maxLen at hn
  have hlen := Lib.hid hl.len
  go_enter Tryd.func45, Tryd.ntmps45
  go_wp2
  go_loopw [3, 4, 5, 6, 7, 10] (fun m _ _ _ _ i wr => ∃ k p : Nat, k ≤ n ∧ i = .int .i64 k ∧ m = .int .i64 p ∧ TAt l k p ∧ Below w.heap.size w wr) (fun _ _ _ _ _ i _ => n - (intOf i).toNat)
  case atStart => exact ⟨0, 0, by omega, rfl, rfl, TAt.zero l, Below.refl _ _⟩
  case round =>
    obtain ⟨k, p, hk, rfl, rfl, hat, hbel⟩ := hrel
    have hp := hat.2
    have Hat := Lib.hid hat
    clear hat
    have hsz := hbel.size
    by_cases hlt : k < n
    · obtain ⟨b, o, s, r, t, rfl, hb, hx, hf, c0, c1, c2⟩ := hl.at_ hlt
      have c0 := (hbel.cell (p := ⟨b, o + k * 3, none⟩) (by simp; omega)).trans c0
      have c1 := (hbel.cell (p := ⟨b, o + k * 3 + 1, none⟩) (by simp; omega)).trans c1
      have c2 := (hbel.cell (p := ⟨b, o + k * 3 + 2, none⟩) (by simp; omega)).trans c2
      have hX := Lib.hid hx
      obtain ⟨f0, f1, f2⟩ := hf
      simp only at f0 f1 f2
      clear hx
      by_cases ha : tokArg (s, r, t)
      · have hres := Lib.hid (Hat.out.arg hX.out ha)
        have hparts : (s.toList.isEmpty = true ∧ (t != 0) = false ∧ (r != 0) = false) ∨ (s.toList.isEmpty = false ∧ (t != 0) = true) ∨ (s.toList.isEmpty = false ∧ (t != 0) = false ∧ (r != 0) = true) := by
          unfold tokArg at ha
          simp only at ha
          rw [str_empty]
          simp only [decide_eq_true_eq, decide_eq_false_iff_not, bne_iff_ne, bne_eq_false_iff_eq]
          omega
        clear ha
        rcases hparts with ⟨d0, d1, d2⟩ | ⟨d0, d1⟩ | ⟨d0, d1, d2⟩
        all_goals
          go_wp2
          go_ret
          exact ⟨_, rfl, ErrOf.of (err_at _ _ 1 k (by omega) (by simp)) hres.out, (hbel.alloc hsz _).alloc (by simp; omega) _⟩
      · by_cases h1 : s.size = 0
        · have hparts : (s.toList.isEmpty = true ∧ (t != 0) = true) ∨ (s.toList.isEmpty = true ∧ (t != 0) = false ∧ (r != 0) = true) := by
            unfold tokArg at ha
            simp only at ha
            rw [str_empty]
            simp only [decide_eq_true_eq, bne_iff_ne, bne_eq_false_iff_eq]
            omega
          have Ha := Lib.hid ha
          have H1 := Lib.hid h1
          clear ha h1
          by_cases h2 : tokRange (s, r, t)
          · have hres := Lib.hid (Hat.out.range hX.out Ha.out H1.out h2)
            have hq : (decide (t < 4) = true) ∨ (decide (t < 4) = false ∧ decide (67 < t) = true) ∨ (decide (t < 4) = false ∧ decide (67 < t) = false ∧ decide (r < 1) = true) ∨ (decide (t < 4) = false ∧ decide (67 < t) = false ∧ decide (r < 1) = false ∧ decide (1024 < r) = true) := by
              unfold tokRange at h2
              simp only at h2
              simp only [decide_eq_true_eq, decide_eq_false_iff_not]
              omega
            clear h2
            rcases hparts with ⟨d0, d1⟩ | ⟨d0, d1, d2⟩
            all_goals
              rcases hq with e0 | ⟨e0, e1⟩ | ⟨e0, e1, e2⟩ | ⟨e0, e1, e2, e3⟩
            all_goals
              go_wp2
              go_ret
              exact ⟨_, rfl, ErrOf.of (err_at _ _ 2 k (by omega) (by simp)) hres.out, (hbel.alloc hsz _).alloc (by simp; omega) _⟩
          · have hq : decide (t < 4) = false ∧ decide (67 < t) = false ∧ decide (r < 1) = false ∧ decide (1024 < r) = false := by
              unfold tokRange at h2
              simp only at h2
              simp only [decide_eq_false_iff_not]
              omega
            obtain ⟨e0, e1, e2, e3⟩ := hq
            have ht : 4 ≤ t ∧ t ≤ 67 ∧ 1 ≤ r ∧ r ≤ 1024 := by unfold tokRange at h2; simp only at h2; omega
            obtain ⟨q0, q1, q2, q3⟩ := ht
            have H2 := Lib.hid h2
            clear h2
            by_cases h3 : (p : Int) < r
            · have hres := Lib.hid (Hat.out.missing hX.out Ha.out H1.out H2.out h3)
              have e4 : decide ((p : Int) < r) = true := by simpa using h3
              clear h3
              rcases hparts with ⟨d0, d1⟩ | ⟨d0, d1, d2⟩
              all_goals
                go_wp2
                go_ret
                exact ⟨_, rfl, ErrOf.of (err_at _ _ 7 k (by omega) (by simp)) hres.out, (hbel.alloc hsz _).alloc (by simp; omega) _⟩
            · have e4 : decide ((p : Int) < r) = false := by simpa using h3
              have H3 := Lib.hid h3
              clear h3
              by_cases h4 : 20000 < p + t.toNat
              · have hres := Lib.hid (Hat.out.big hX.out Ha.out H1.out H2.out H3.out h4)
                have e5 : decide (20000 - (p : Int) < t) = true := by simp; omega
                clear h4
                rcases hparts with ⟨d0, d1⟩ | ⟨d0, d1, d2⟩
                all_goals
                  go_wp2
                  go_ret
                  exact ⟨_, rfl, ErrOf.of (err_at _ _ 4 k (by omega) (by simp)) hres.out, (hbel.alloc hsz _).alloc (by simp; omega) _⟩
              · have hnext := Lib.hid (Hat.out.next hX.out Ha.out H1.out H2.out H3.out h4)
                have e5 : decide (20000 - (p : Int) < t) = false := by simp; omega
                have H4 := Lib.hid h4
                clear h4
                rcases hparts with ⟨d0, d1⟩ | ⟨d0, d1, d2⟩
                all_goals
                  go_wp2
                  go_roundw
                  case rel => exact ⟨k + 1, p + t.toNat, by omega, by go_num, valI (by omega), hnext.out, hbel.alloc hsz _⟩
                  case measure => simp [intOf]; omega
        · have d0 : s.toList.isEmpty = false := str_yes h1
          have hz : t = 0 ∧ r = 0 := by unfold tokArg at ha; simp only at ha; omega
          obtain ⟨rfl, rfl⟩ := hz
          have Ha := Lib.hid ha
          have H1 := Lib.hid h1
          clear ha h1
          by_cases h2 : 20000 < p + s.size
          · have hres := Lib.hid (Hat.out.ownBig hX.out Ha.out H1.out h2)
            have e5 : decide (20000 - (p : Int) < (s.size : Int)) = true := by simp; omega
            clear h2
            go_wp2
            go_ret
            exact ⟨_, rfl, ErrOf.of (err_at _ _ 4 k (by omega) (by simp)) hres.out, (hbel.alloc hsz _).alloc (by simp; omega) _⟩
          · have hnext := Lib.hid (Hat.out.ownNext hX.out Ha.out H1.out h2)
            have e5 : decide (20000 - (p : Int) < (s.size : Int)) = false := by simp; omega
            go_wp2
            go_roundw
            case rel => exact ⟨k + 1, p + s.size, by omega, by go_num, by go_num, hnext.out, hbel.alloc hsz _⟩
            case measure => simp [intOf]; omega
    · obtain rfl : k = n := by omega
      have hend := Lib.hid (Hat.out.all (by rw [hlen.out]; exact Nat.le_refl _))
      clear hlt
      go_wp2
      go_ret
      exact ⟨_, rfl, ErrOf.of .none hend.out, hbel⟩
end Go.Proofs.YtnaclpfcldoebaaDoor
