/- What is thrown and caught in the reference; a scanner's next number. -/
import Derived.Test.YtnaclpfcldoebaaDoorVecRight
import Derived.Test.YtnaclpfcldoebaaDoorVecReadLaw
import Derived.Test.YtnaclpfcldoebaaDoorVaryWalks
import Derived.Deep.QuietTactic
import Derived.Deep.RegionWith
import Derived.BigQuiet
import Derived.Defers
import Derived.Recover
import Derived.Laws.Pointers
namespace Go.Proofs.YtnaclpfcldoebaaDoor
set_option linter.unusedSimpArgs false
open Go.RowKit As
/-- What throw throws. -/
abbrev thrownV (e p : Int) : Value := .iface 141 (.agg #[.int .i64 e, .int .i64 p])
abbrev Thrown (e p : Int) : List PanicEntry := [{ v := thrownV e p, recovered := false }]
set_option maxRecDepth 100000 in
theorem throw_any (e p : Int) (w : World) : Calls Tryd.prog 40 #[.int .i64 e, .int .i64 p] w fun r w' => r = .panicked (Thrown e p) ∧ w = w' := by
  go_enter Tryd.func40, Tryd.ntmps40
  go_wp2
  exact ⟨rfl, rfl, rfl⟩
theorem isThrown (v : Value) (w : World) : (Instr.typeAssert (.iface 141 v) 20 141 true).run Tryd.prog w = .ok (.tuple #[v, .bool true]) w := by kernel_rfl
set_option maxHeartbeats 1000000 in
set_option maxRecDepth 100000 in
theorem caught_hit (F : Nat) (x y e p : Int) (older : List PanicEntry) (w : World) (h0 : w.cell? ⟨F, 0, none⟩ = some (.int .i64 x)) (h1 : w.cell? ⟨F, 1, none⟩ = some (.int .i64 y)) (f0 : w.frozen? ⟨F, 0, none⟩ = false) (f1 : w.frozen? ⟨F, 1, none⟩ = false) :
    CallsD Tryd.prog 32 #[.pointer (some ⟨F, 0, none⟩)] (.panicking ({ v := thrownV e p, recovered := false } :: older)) w fun r u' w' =>
      r = .returned (.tuple #[]) ∧ u' = .panicking ({ v := thrownV e p, recovered := true } :: older) ∧ w' = ((w.alloc (.cells #[.int .i64 e, .int .i64 p] 141)).setCell ⟨F, 0, none⟩ (.int .i64 e)).setCell ⟨F, 1, none⟩ (.int .i64 p) := by
  have hta := isThrown (.agg #[.int .i64 e, .int .i64 p])
  refine callsD_of_wpS Tryd.func32 rfl fun c₀ cs hu => ?_
  apply wpS_seq
  apply wpS_region
  simp [wpOpsS, go_sem, recoverD, hu, Tryd.ntmps32, Exit.thenS]
  apply wpS_seq
  apply wpS_region
  simp [wpOpsS, go_sem, Exit.thenS]
  refine wpS_cond (t := true) (by simp [Act.eval, Array.replicate]) ?_
  simp only [if_true]
  apply wpS_seq
  apply wpS_region
  simp [wpOpsS, go_sem, Exit.thenS, hta]
  apply wpS_seq
  apply wpS_seq
  apply wpS_region
  simp [wpOpsS, go_sem, Exit.thenS]
  refine wpS_cond (t := false) (by simp [Act.eval, Array.replicate]) ?_
  simp only [Bool.false_eq_true, if_false]
  refine wpS_of_wp (wp_skip ?_)
  simp only [Exit.thenS]
  apply wpS_region
  have hb := below1 w (.cells #[.int .i64 e, .int .i64 p] 141)
  have k0 := (hb.cell (cell_lt h0)).trans h0
  have k1 := (hb.cell (cell_lt h1)).trans h1
  have g0 := (hb.frozen (p := ⟨F, 0, none⟩) (cell_lt h0)).trans f0
  have g1 := (hb.frozen (p := ⟨F, 1, none⟩) (cell_lt h1)).trans f1
  simp [wpOpsS, go_sem, k0, k1, g0, g1, bodyPostS, results, Tryd.results32]
set_option maxHeartbeats 1000000 in
set_option maxRecDepth 100000 in
theorem caught_idle (F : Nat) (w : World) :
    CallsD Tryd.prog 32 #[.pointer (some ⟨F, 0, none⟩)] .returning w fun r u' w' => r = .returned (.tuple #[]) ∧ u' = .returning ∧ w' = w := by
  refine callsD_of_wpS Tryd.func32 rfl fun c₀ cs hu => ?_
  apply wpS_seq
  apply wpS_region
  simp [wpOpsS, go_sem, recoverD, hu, Tryd.ntmps32, Exit.thenS]
  apply wpS_seq
  apply wpS_region
  simp [wpOpsS, go_sem, Exit.thenS]
  refine wpS_cond (t := false) (by simp [Act.eval, Array.replicate]) ?_
  simp only [Bool.false_eq_true, if_false]
  refine wpS_of_wp (wp_skip ?_)
  cases c₀
  simp_all [bodyPostS, results, Tryd.results32]
/-- A scanner's two cells. -/
structure Sc (w : World) (B : Nat) (s : ByteArray) (p : Nat) : Prop where
  c0 : w.cell? ⟨B, 0, none⟩ = some (.string s)
  c1 : w.cell? ⟨B, 1, none⟩ = some (.int .i64 (p : Int))
  f1 : w.frozen? ⟨B, 1, none⟩ = false
theorem Sc.drewN {w : World} {B p : Nat} {s : ByteArray} (h : Sc w B s p) (q : Nat) : Sc (w.drewN q) B s p := ⟨h.c0, h.c1, h.f1⟩
theorem Sc.below {w w' : World} {B p : Nat} {s : ByteArray} (h : Sc w B s p) (hb : Below w.heap.size w w') : Sc w' B s p :=
  ⟨(hb.cell (cell_lt h.c0)).trans h.c0, (hb.cell (cell_lt h.c1)).trans h.c1, (hb.frozen (cell_lt h.c1)).trans h.f1⟩
theorem Sc.step {w : World} {B p : Nat} {s : ByteArray} (h : Sc w B s p) (n : Nat) : Sc (w.setCell ⟨B, 1, none⟩ (.int .i64 (n : Int))) B s n := by
  refine ⟨?_, World.cell?_setCell_same _ _ _ h.c1, by simpa using h.f1⟩
  rw [World.cell?_setCell_other _ _ _ _ (by simp)]
  exact h.c0
theorem Sc.lt {w : World} {B p : Nat} {s : ByteArray} (h : Sc w B s p) : B < w.heap.size := cell_lt h.c0
theorem Sc.keep {w w' : World} {B N p : Nat} {s : ByteArray} (h : Sc w B s p) (hb : Below N w w') (hN : B < N) : Sc w' B s p :=
  ⟨(hb.cell (p := ⟨B, 0, none⟩) hN).trans h.c0, (hb.cell (p := ⟨B, 1, none⟩) hN).trans h.c1, (hb.frozen (p := ⟨B, 1, none⟩) hN).trans h.f1⟩
set_option maxHeartbeats 1000000 in
set_option maxRecDepth 100000 in
theorem next_any (s : ByteArray) (p B : Nat) (most : Int) (w : World) (hs : s.size ≤ 1000000) (hp : p ≤ s.size) (hm : most ≤ 9223372036854775807) (h : Sc w B s p) :
    Calls Tryd.prog 76 #[.pointer (some ⟨B, 0, none⟩), .int .i64 most] w fun r w' => ∃ (q n k : Nat) (e : Int), vat s p most = (n, k, e) ∧
      (e = 0 ∧ (n : Int) ≤ most ∧ 0 < k ∧ k ≤ 10 ∧ p + k ≤ s.size ∧ r = .returned (.int .i64 (n : Int)) ∧ w' = (w.drewN q).setCell ⟨B, 1, none⟩ (.int .i64 ((p + k : Nat) : Int)) ∨
      e ≠ 0 ∧ r = .panicked (Thrown e p) ∧ w' = w.drewN q) := by
  obtain ⟨c0, c1, f1⟩ := h
  obtain ⟨n, k, e, ha, hx⟩ := vat_of s p most
  have hl : (s.extract p s.size).size ≤ maxLen := by rw [ByteArray.size_extract]; unfold maxLen; omega
  have hv := Lib.hid (show vint (s.extract p s.size).data.toList most = (n, k, e) from ha)
  have HA := Lib.hid ha
  have i1 : (0 : Int) ≤ (p : Int) := by omega
  have i2 : (p : Int) ≤ (s.size : Int) := by omega
  clear ha
  go_enter Tryd.func76, Tryd.ntmps76
  go_wp2_with fail
  go_quiet ((go_at_call_of 41 (Value.int IntKind.i64 most); exact Calls.quiet_of_same ((rvint_any _ most _ hl hm).mono fun _ _ ⟨a, b⟩ => ⟨by rw [a, hv.out], b.symm⟩)))
  simp only
  rcases hx with ⟨rfl, x1, x2, x3, x4⟩ | ⟨he, rfl, rfl⟩
  · have w1 : IntKind.i64.wrap ((p : Int) + (k : Int)) = ((p + k : Nat) : Int) := IntWalk.i64_in _ (by omega)
    go_wp2
    go_ret
    refine ⟨nq, n, k, 0, HA.out, .inl ⟨rfl, x1, x2, x3, x4, rfl, by rw [show ((p : Int) + (k : Int)) = ((p + k : Nat) : Int) by omega]⟩⟩
  · have hne : (e != 0) = true := by rw [bne_iff_ne]; exact he
    have HE := Lib.hid he
    clear he
    go_wp2_with fail
    refine (throw_any e p _).mono ?_
    rintro r w' ⟨rfl, rfl⟩
    go_wp2
    exact ⟨rfl, nq, 0, 0, e, HA.out, .inr ⟨HE.out, rfl, rfl⟩⟩
end Go.Proofs.YtnaclpfcldoebaaDoor
