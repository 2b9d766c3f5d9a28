/- The program's disk: Read, Dirty. -/
import Derived.Test.YthodlccjnbadhaaDoorTurned
import Derived.Test.YthodlccjnbadhaaDoorDiskLaw
import Derived.Test.YthodlccjnbadhaaDoorErr
import Derived.Lib.Hide
import Derived.Laws.OwnMore
import Derived.WalkSpells
namespace Go.Proofs.YthodlccjnbadhaaDoor
set_option linter.unusedSimpArgs false
set_option linter.unusedVariables false
open Go.RowKit As Go.Maps
def secs (N : Nat) (S : DF) : List Value := (List.range N).map fun i => .string (safeAt S i)
theorem secs_len (N : Nat) (S : DF) : (secs N S).length = N := by simp [secs]
theorem secs_at {N : Nat} (S : DF) {i : Nat} (h : i < N) : (secs N S)[i]? = some (.string (safeAt S i)) := by unfold secs; rw [List.getElem?_map, List.getElem?_range h]; rfl
/-- The disk lies in block d: its sectors in R, what was written since in the map M. -/
structure PD (w : World) (d R M N c n : Nat) (S X : DF) : Prop where
  c0 : w.cell? ⟨d, 0, none⟩ = some (.slice (some ⟨R, 0, none⟩) N c)
  c1 : w.cell? ⟨d, 1, none⟩ = some (.map (some M))
  row : w.ownsRow R 9 1 (.slice (some ⟨R, 0, none⟩) N c) N (secs N S)
  im : IM w M n X
  fit : DFit N S X
  dR : d ≠ R
  dM : d ≠ M
  RM : R ≠ M
def PFoot (R M : Nat) : Nat → Prop := fun i => i = R ∨ i = M
section
variable {w w' : World} {d R M N c n : Nat} {S X : DF} {F : Nat → Prop}
theorem PD.stays (h : PD w d R M N c n S X) (ht : Turned F w w') (h1 : ¬ F d) (h2 : ¬ F R) (h3 : ¬ F M) : PD w' d R M N c n S X :=
  ⟨ht.cell h.c0 h1, ht.cell h.c1 h1, ht.own h.row (fun k e => by injection e with e; subst e; exact h2), ht.im h.im h3, h.fit, h.dR, h.dM, h.RM⟩
theorem PD.below (h : PD w d R M N c n S X) (hb : Below w.heap.size w w') : PD w' d R M N c n S X := h.stays (F := fun _ => False) (.of_below hb) id id id
end
def drErr (N : Nat) (at_ : Int) : Int := if at_ < 0 ∨ (N : Int) ≤ at_ then 2 else 0
def drText (N : Nat) (S X : DF) (at_ : Int) : ByteArray := if at_ < 0 ∨ (N : Int) ≤ at_ then ⟨#[]⟩ else nowAt S X at_.toNat
set_option maxHeartbeats 1000000 in
set_option maxRecDepth 100000 in
theorem dread_any {w : World} {d R M N c n : Nat} {S X : DF} (h : PD w d R M N c n S X) (at_ : Int) :
    Calls Tryd.prog 13 #[.pointer (some ⟨d, 0, none⟩), .int .i64 at_] w fun e w' => e = .returned (.tuple #[.string (drText N S X at_), errV (drErr N at_)]) ∧ Below w.heap.size w w' := by
  have c0 := h.c0
  have c1 := h.c1
  have h140 := h.fit.n
  by_cases h0 : at_ < 0
  · have d0 : decide (at_ < 0) = true := by simpa using h0
    have e1 := Lib.hid (show drText N S X at_ = ⟨#[]⟩ by unfold drText; rw [if_pos (.inl h0)])
    have e2 := Lib.hid (show drErr N at_ = 2 by unfold drErr; rw [if_pos (.inl h0)])
    go_enter Tryd.func13, Tryd.ntmps13
    go_wp2
    go_ret2
    rw [e1.out, e2.out]
    exact ⟨rfl, Below.refl _ _⟩
  · obtain ⟨k, rfl⟩ := Int.eq_ofNat_of_zero_le (Int.not_lt.1 h0)
    have d0 : decide ((k : Int) < 0) = false := by simp
    by_cases hN : k < N
    · have d1 : decide ((N : Int) ≤ (k : Int)) = false := by simp only [decide_eq_false_iff_not]; omega
      have hno : ¬ ((k : Int) < 0 ∨ (N : Int) ≤ (k : Int)) := by omega
      have e2 := Lib.hid (show drErr N k = 0 by unfold drErr; rw [if_neg hno])
      have hl := h.im.look_ok k (by omega)
      have hc := (h.row.cellAt k (by rw [Nat.mul_one]; exact hN)).trans (secs_at S hN)
      have i0 : (0 : Int) ≤ (k : Int) := by omega
      have i1 : (k : Int) < (N : Int) := by omega
      cases hx : X k with
      | none =>
        have e1 := Lib.hid (show drText N S X k = safeAt S k by unfold drText nowAt; rw [if_neg hno]; simp [hx])
        rw [hx] at hl
        simp only [Option.getD_none, Option.isSome_none] at hl
        clear h0 hno
        go_enter Tryd.func13, Tryd.ntmps13
        go_wp2
        go_ret2
        rw [e1.out, e2.out]
        exact ⟨rfl, Below.refl _ _⟩
      | some t =>
        have e1 := Lib.hid (show drText N S X k = t by unfold drText nowAt; rw [if_neg hno]; simp [hx])
        rw [hx] at hl
        simp only [Option.getD_some, Option.isSome_some] at hl
        clear h0 hno
        go_enter Tryd.func13, Tryd.ntmps13
        go_wp2
        go_ret2
        rw [e1.out, e2.out]
        exact ⟨rfl, Below.refl _ _⟩
    · have d1 : decide ((N : Int) ≤ (k : Int)) = true := by simp only [decide_eq_true_eq]; omega
      have e1 := Lib.hid (show drText N S X k = ⟨#[]⟩ by unfold drText; rw [if_pos (.inr (by omega))])
      have e2 := Lib.hid (show drErr N k = 2 by unfold drErr; rw [if_pos (.inr (by omega))])
      go_enter Tryd.func13, Tryd.ntmps13
      go_wp2
      go_ret2
      rw [e1.out, e2.out]
      exact ⟨rfl, Below.refl _ _⟩
def natV (l : List Nat) : List Value := l.map fun x : Nat => Value.int .i64 (x : Int)
theorem natV_snoc {w : World} {base : Nat} {E : TypeId} {v : Value} {l : List Nat} {x : Nat} {n : Nat} (hn : l.length = n) (h : w.ownsRow base E 1 v (n + 1) (natV l ++ [Value.int .i64 (x : Int)])) : w.ownsRow base E 1 v (l ++ [x]).length (natV (l ++ [x])) := by
  subst hn
  simpa [natV] using h
theorem diInt : (Tryd.prog.info? 3).map (fun i => (i.zero, i.size, i.bytes)) = some (some (.int .i64 0), 1, 8) := by kernel_rfl
set_option maxHeartbeats 1000000 in
set_option maxRecDepth 100000 in
theorem ddirty_any {w : World} {d R M N c n : Nat} {S X : DF} (h : PD w d R M N c n S X) :
    Calls Tryd.prog 15 #[.pointer (some ⟨d, 0, none⟩)] w fun e w' => ∃ v, e = .returned v ∧ w'.ownsRow w.heap.size 3 1 v (dirty N X).length (natV (dirty N X)) ∧ Below w.heap.size w w' := by
  obtain ⟨j0, hj, hy0, hy1, hy2⟩ := info_parts diInt
  have c0 := h.c0
  have H140 := Lib.hid h.fit.n
  go_enter Tryd.func15, Tryd.ntmps15
  go_wp2
  go_loopw [3, 4, 5, 6, 12] (fun ov _ _ _ iv wr => ∃ k : Nat, k ≤ N ∧ iv = .int .i64 (k : Int) ∧ wr.ownsRow w.heap.size 3 1 ov (dirty k X).length (natV (dirty k X)) ∧ Below w.heap.size w wr) (fun _ _ _ _ iv _ => N - (intOf iv).toNat)
  case atStart => exact ⟨0, Nat.zero_le _, rfl, World.ownsRow_nil _ _ _ _, Below.refl _ _⟩
  case round =>
    obtain ⟨k, hk, rfl, ho, hb⟩ := hrel
    by_cases hlt : k < N
    · have t0 : decide ((k : Int) < (N : Int)) = true := decide_eq_true (by omega)
      have t0' : decide (k < N) = true := decide_eq_true hlt
      have hP := h.below hb
      have c1 := hP.c1
      have hl := hP.im.look_ok k (by have := H140.out; omega)
      have hle := dirty_le k X
      have HLE := Lib.hid (show (dirty k X).length + 1 ≤ maxLen ∧ ((dirty k X).length + 1) * 8 ≤ 140737488355328 by have := H140.out; unfold maxLen; omega)
      have wk : IntKind.i64.wrap ((k : Int) + 1) = ((k + 1 : Nat) : Int) := IntWalk.i64_in _ (by have := H140.out; omega)
      cases hx : (X k).isSome with
      | true =>
        rw [hx] at hl
        have hD := Lib.hid (dirty_yes hx)
        clear hP hx hle
        go_wp2_with (first
          | (at_builtin; (refine wpList_append_own _ rfl (.tmp 25) (.tmp 27) 43 rfl w.heap.size 3 j0 (.int .i64 0) 1 8 Tryd.underlying43 hj hy0 hy1 hy2 rfl (by decide) u3 (dirty k X).length (natV (dirty k X)) rfl (ho.alloc _) ⟨wr.heap.size, 0, none⟩ 1 1 [.int .i64 (k : Int)] rfl rfl (cell_one_new _ _ _) (by intro u hu; simp at hu; subst hu; rfl) HLE.out.1 HLE.out.2 (by have := hb.size; simp; omega) ?_); intro v1 w2 hS1 hg2 _; have b2 := grown_own (hb.alloc hb.size _) hg2 (by have := hb.size; simp; omega) (ho.alloc _); have hS2 := natV_snoc (x := k) rfl hS1))
        go_roundw
        case rel => exact ⟨k + 1, hlt, by go_num, by rw [hD.out]; exact hS2, b2⟩
        case measure => simp [intOf]; omega
      | false =>
        rw [hx] at hl
        have hD := Lib.hid (dirty_no hx)
        clear hP hx hle
        go_wp2
        go_roundw
        case rel => exact ⟨k + 1, hlt, by go_num, by rw [hD.out]; exact ho, hb⟩
        case measure => simp [intOf]; omega
    · obtain rfl : k = N := by omega
      have t0 : decide ((k : Int) < (k : Int)) = false := decide_eq_false (by omega)
      have t0' : decide (k < k) = false := decide_eq_false hlt
      clear hlt
      go_wp2
      go_ret
      exact ⟨_, rfl, ho, hb⟩
end Go.Proofs.YthodlccjnbadhaaDoor
