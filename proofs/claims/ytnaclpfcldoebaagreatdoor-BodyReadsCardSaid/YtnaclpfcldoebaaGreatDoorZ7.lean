/- What body.Read throws; a reader's check, number, vector and kind.

Batches in memory. Any program.

body.Read's results, and what it lays over them where something is wrong.

The results of the reference's Unbody, and what it lays over them where something is wrong.

Whether a text is empty. Any program.

write.Right says what wright says. Printed by gen_write.py. -/
import Derived.Test.YtnaclpfcldoebaaGreatDoorZ3
import Derived.Test.YtnaclpfcldoebaaGreatDoorZ5
import Derived.Test.YtnaclpfcldoebaaGreatDoorZ6
import Derived.Test.YtnaclpfcldoebaaGreatDoorZ1
import Derived.Test.YtnaclpfcldoebaaGreatDoorZ2
import Derived.Deep.QuietTactic
import Derived.BigQuiet
section
namespace Go.Proofs.YtnaclpfcldoebaaGreatDoor
set_option linter.unusedSimpArgs false
set_option linter.unusedVariables false
open Go.RowKit As
/-- What a reader throws. -/
abbrev faultV' (e p : Int) : Value := .iface 71 (.agg #[.int .i64 e, .int .i64 p])
abbrev Faulted (e p : Int) : List PanicEntry := [{ v := faultV' e p, recovered := false }]
theorem check_nil (R : Nat) (w : World) : Calls Tryz.prog 25 #[.pointer (some ⟨R, 0, none⟩), .nilIface] w fun e w' => e = .returned (.tuple #[]) ∧ w = w' := by
  go_enter Tryz.func25, Tryz.ntmps25
  go_wp2
  go_end0
  exact ⟨rfl, rfl⟩
def ckV (R : Nat) (v : Value) (e p : Int) (_ : Unit) : Nat → Value
  | 0 => v
  | 1 => .int .i64 e
  | 2 => .pointer (some ⟨R, 0, none⟩)
  | 3 => .pointer (some ⟨R, 0, none⟩)
  | 4 => .pointer (some ⟨R, 1, none⟩)
  | 5 => .int .i64 p
  | 6 => .agg #[.int .i64 e, .int .i64 p]
  | 7 => .agg #[.int .i64 e, .int .i64 p]
  | 8 => faultV' e p
  | _ => undef
set_option maxHeartbeats 1000000 in
set_option maxRecDepth 100000 in
theorem check_err {v : Value} {e q : Int} {s : ByteArray} {R p : Nat} {w : World} (h : ErrIs w v e q) (he : e ≠ 0) (hg : Handle w) (hs : Sc w R s p) :
    Calls Tryz.prog 25 #[.pointer (some ⟨R, 0, none⟩), v] w fun r w' => r = .panicked (Faulted e p) ∧ Below w.heap.size w w' := by
  obtain ⟨t, u, rfl⟩ : ∃ t u, v = .iface t u := by
    cases h with
    | none => exact absurd rfl he
    | bare _ _ => exact ⟨_, _, rfl⟩
    | at_ _ _ _ _ _ _ _ => exact ⟨_, _, rfl⟩
  have HE := Lib.hid he
  clear he
  go_enter Tryz.func25, Tryz.ntmps25
  go_wp2_with fail
  obtain ⟨c0, c1, f1⟩ := hs
  refine Flow.wp_region_throw (by kernel_rfl) (by kernel_rfl) (by kernel_rfl) 15 rfl (by kernel_rfl) (ckV R (.iface t u) e p) (fun _ L wz => Below w.heap.size w wz ∧ L 9 = false) (fun ch wz => ch = Faulted e p ∧ Below w.heap.size w wz) () ⟨(Below.refl _ _).drew, rfl⟩ ⟨?_, ?_, ?_, ?_, ?_, ?_, ?_, ?_, ?_, ?_, trivial⟩ ?_ ?_
  · intro g L wz K ρ hc0 hf0 hF hO hi hd hC hK
    have e1 : ρ (.tmp 1) = .iface t u := hO 1 (by kernel_rfl)
    simp [go_sem, Flow.ylP_value, Flow.ylP_skip, Flow.ylP_enter, Flow.ylP_panic, hc0, hf0, e1]
    exact hK g wz ⟨hC.1, hC.2⟩ (fun _ _ => rfl)
  · intro g L wz K ρ hc0 hf0 hF hO hi hd hC hK
    have d0 : L 0 = true := hd ⟨0, .data⟩ (by simp) rfl
    have e6 : ρ (.tmp 6) = .iface t u := hF 6 0 (by kernel_rfl) d0
    simp [go_sem, Flow.ylP_value, Flow.ylP_skip, Flow.ylP_enter, Flow.ylP_panic, hc0, hf0, e6]
    refine (tell_any (h.below hC.1) (hg.below hC.1)).mono ?_
    rintro r wn ⟨rfl, hbn⟩
    exact .inl ⟨_, rfl, hK g wn ⟨hC.1.trans (hbn.mono hC.1.size), hC.2⟩ (fun _ _ => rfl)⟩
  · intro g L wz K ρ hc0 hf0 hF hO hi hd hC hK
    have e0 : ρ (.tmp 0) = .pointer (some ⟨R, 0, none⟩) := hO 0 (by kernel_rfl)
    simp [go_sem, Flow.ylP_value, Flow.ylP_skip, Flow.ylP_enter, Flow.ylP_panic, hc0, hf0, e0]
    exact hK g wz ⟨hC.1, hC.2⟩ (fun _ _ => rfl)
  · intro g L wz K ρ hc0 hf0 hF hO hi hd hC hK
    have d2 : L 2 = true := hd ⟨2, .data⟩ (by simp) rfl
    have e8 : ρ (.tmp 8) = .pointer (some ⟨R, 0, none⟩) := hF 8 2 (by kernel_rfl) d2
    simp [go_sem, Flow.ylP_value, Flow.ylP_skip, Flow.ylP_enter, Flow.ylP_panic, hc0, hf0, e8]
    exact hK g wz ⟨hC.1, hC.2⟩ (fun _ _ => rfl)
  · intro g L wz K ρ hc0 hf0 hF hO hi hd hC hK
    have d3 : L 3 = true := hd ⟨3, .data⟩ (by simp) rfl
    have e9 : ρ (.tmp 9) = .pointer (some ⟨R, 0, none⟩) := hF 9 3 (by kernel_rfl) d3
    simp [go_sem, Flow.ylP_value, Flow.ylP_skip, Flow.ylP_enter, Flow.ylP_panic, hc0, hf0, e9]
    exact hK g wz ⟨hC.1, hC.2⟩ (fun _ _ => rfl)
  · intro g L wz K ρ hc0 hf0 hF hO hi hd hC hK
    have d4 : L 4 = true := hd ⟨4, .data⟩ (by simp) rfl
    have e10 : ρ (.tmp 10) = .pointer (some ⟨R, 1, none⟩) := hF 10 4 (by kernel_rfl) d4
    have cc := (hC.1.cell (cell_lt c1)).trans c1
    simp [go_sem, Flow.ylP_value, Flow.ylP_skip, Flow.ylP_enter, Flow.ylP_panic, hc0, hf0, e10, cc]
    exact hK g wz ⟨hC.1, hC.2⟩ (fun _ _ => rfl)
  · intro g L wz K ρ hc0 hf0 hF hO hi hd hC hK
    have d1 : L 1 = true := hd ⟨1, .data⟩ (by simp) rfl
    have e7 : ρ (.tmp 7) = .int .i64 e := hF 7 1 (by kernel_rfl) d1
    have d5 : L 5 = true := hd ⟨5, .data⟩ (by simp) rfl
    have e11 : ρ (.tmp 11) = .int .i64 (p : Int) := hF 11 5 (by kernel_rfl) d5
    simp [go_sem, Flow.ylP_value, Flow.ylP_skip, Flow.ylP_enter, Flow.ylP_panic, hc0, hf0, e7, e11]
    exact hK g wz ⟨hC.1, hC.2⟩ (fun _ _ => rfl)
  · intro g L wz K ρ hc0 hf0 hF hO hi hd hC hK
    have d6 : L 6 = true := hd ⟨6, .data⟩ (by simp) rfl
    have e12 : ρ (.tmp 12) = .agg #[.int .i64 e, .int .i64 (p : Int)] := hF 12 6 (by kernel_rfl) d6
    simp [go_sem, Flow.ylP_value, Flow.ylP_skip, Flow.ylP_enter, Flow.ylP_panic, hc0, hf0, e12]
    exact hK g wz ⟨hC.1, hC.2⟩ (fun _ _ => rfl)
  · intro g L wz K ρ hc0 hf0 hF hO hi hd hC hK
    have d7 : L 7 = true := hd ⟨7, .data⟩ (by simp) rfl
    have e13 : ρ (.tmp 13) = .agg #[.int .i64 e, .int .i64 (p : Int)] := hF 13 7 (by kernel_rfl) d7
    simp [go_sem, Flow.ylP_value, Flow.ylP_skip, Flow.ylP_enter, Flow.ylP_panic, hc0, hf0, e13]
    exact hK g wz ⟨hC.1, hC.2⟩ (fun _ _ => rfl)
  · intro g L wz K ρ hc0 hf0 hF hO hi hd hC hK
    have d8 : L 8 = true := hd ⟨8, .data⟩ (by simp) rfl
    have e14 : ρ (.tmp 14) = faultV' e (p : Int) := hF 14 8 (by kernel_rfl) d8
    simp [go_sem, Flow.ylP_value, Flow.ylP_skip, Flow.ylP_enter, Flow.ylP_panic, hc0, hf0, e14]
    exact hC.1
  · rintro g L ch wz ⟨rfl, hb⟩
    exact ⟨rfl, rfl, hb⟩
  · intro g L wz hL hC
    have := hL 9 (by decide)
    rw [hC.2] at this
    cases this
set_option maxHeartbeats 1000000 in
set_option maxRecDepth 100000 in
theorem number_any (s : ByteArray) (p R : Nat) (most : Int) (w : World) (hs : s.size ≤ 1000000) (hp : p ≤ s.size) (hm : most ≤ 9223372036854775807) (hg : Handle w) (h : Sc w R s p) :
    Calls Tryz.prog 23 #[.pointer (some ⟨R, 0, none⟩), .int .i64 most] w fun r w' => ∃ (q n k : Nat) (e : Int), vat s p most = (n, k, e) ∧
      (e = 0 ∧ (n : Int) ≤ most ∧ 0 < k ∧ k ≤ 10 ∧ p + k ≤ s.size ∧ r = .returned (.int .i64 (n : Int)) ∧ w' = (w.drewN q).setCell ⟨R, 1, none⟩ (.int .i64 ((p + k : Nat) : Int)) ∨
      e ≠ 0 ∧ r = .panicked (Faulted e p) ∧ Below w.heap.size w w') := by
  have HS := h
  obtain ⟨c0, c1, f1⟩ := h
  obtain ⟨n, k, e, ha, hx⟩ := vat_of s p most
  have hl : (s.extract p s.size).size ≤ maxLen := by rw [ByteArray.size_extract]; unfold maxLen; omega
  have hv := Lib.hid (show vint (s.extract p s.size).data.toList most = (n, k, e) from ha)
  have HA := Lib.hid ha
  have i1 : (0 : Int) ≤ (p : Int) := by omega
  have i2 : (p : Int) ≤ (s.size : Int) := by omega
  clear ha
  go_enter Tryz.func23, Tryz.ntmps23
  go_wp2_with fail
  go_quiet ((go_at_call_of 44 (Value.int IntKind.i64 most); exact Calls.quiet_of_same ((vint_any _ most _ hl hm).mono fun _ _ ⟨a, b⟩ => ⟨by rw [a, hv.out], b.symm⟩)))
  simp only
  rcases hx with ⟨rfl, x1, x2, x3, x4⟩ | ⟨he, rfl, rfl⟩
  · have w1 : IntKind.i64.wrap ((p : Int) + (k : Int)) = ((p + k : Nat) : Int) := IntWalk.i64_in _ (by omega)
    rw [errV_zero]
    go_wp2_with fail
    refine (check_nil R _).mono ?_
    rintro r w' ⟨rfl, rfl⟩
    go_wp2
    go_ret
    refine ⟨nq, n, k, 0, HA.out, .inl ⟨rfl, x1, x2, x3, x4, rfl, by rw [show ((p : Int) + (k : Int)) = ((p + k : Nat) : Int) by omega]⟩⟩
  · have HE := Lib.hid he
    have bq := below_drewN (Below.refl w.heap.size w) nq
    go_wp2_with fail
    refine (check_err (errV_is _ e) he (hg.below bq) (HS.drewN nq)).mono ?_
    rintro r w' ⟨rfl, hb⟩
    go_wp2
    exact ⟨rfl, nq, 0, 0, e, HA.out, .inr ⟨HE.out, rfl, bq.trans hb⟩⟩
end Go.Proofs.YtnaclpfcldoebaaGreatDoor
end

section
namespace Go.Proofs.YtnaclpfcldoebaaGreatDoor
open Go.RowKit
/-- A batch in an argument: three slices. -/
structure BatArg where
  A : Option Addr
  n : Nat
  c : Nat
  A' : Option Addr
  n' : Nat
  c' : Nat
  A'' : Option Addr
  n'' : Nat
  c'' : Nat
  f : List Ent
  h : List Ent
  l : List Wr
def BatArg.v (b : BatArg) : Value := .agg #[.slice b.A b.n b.c, .slice b.A' b.n' b.c', .slice b.A'' b.n'' b.c'']
structure Bat (w : World) (b : BatArg) : Prop where
  f : Sl w w.heap.size 2 b.A b.n (b.f.flatMap entCells)
  h : Sl w w.heap.size 2 b.A' b.n' (b.h.flatMap entCells)
  l : Sl w w.heap.size 6 b.A'' b.n'' (b.l.flatMap wrCells)
  nf : b.n ≤ maxLen
  nh : b.n' ≤ maxLen
  nl : b.n'' ≤ maxLen
theorem Bat.grow {w w' : World} {b : BatArg} (h : Bat w b) (hb : Below w.heap.size w w') : Bat w' b := ⟨h.f.grow hb, h.h.grow hb, h.l.grow hb, h.nf, h.nh, h.nl⟩
end Go.Proofs.YtnaclpfcldoebaaGreatDoor
end

section
namespace Go.Proofs.YtnaclpfcldoebaaGreatDoor
set_option linter.unusedSimpArgs false
set_option linter.unusedVariables false
open Go.RowKit As
/-- A batch's three slices and an error. -/
structure BT (w : World) (O E : Nat) (v0 v1 v2 ve : Value) : Prop where
  c0 : w.cell? ⟨O, 0, none⟩ = some v0
  c1 : w.cell? ⟨O, 1, none⟩ = some v1
  c2 : w.cell? ⟨O, 2, none⟩ = some v2
  ce : w.cell? ⟨E, 0, none⟩ = some ve
  f0 : w.frozen? ⟨O, 0, none⟩ = false
  f1 : w.frozen? ⟨O, 1, none⟩ = false
  f2 : w.frozen? ⟨O, 2, none⟩ = false
  fe : w.frozen? ⟨E, 0, none⟩ = false
section
variable {w w' : World} {O E B : Nat} {v0 v1 v2 ve : Value}
theorem BT.keep (h : BT w O E v0 v1 v2 ve) (hb : Below B w w') (h1 : O < B) (h2 : E < B) : BT w' O E v0 v1 v2 ve :=
  ⟨(hb.cell (p := ⟨O, 0, none⟩) h1).trans h.c0, (hb.cell (p := ⟨O, 1, none⟩) h1).trans h.c1, (hb.cell (p := ⟨O, 2, none⟩) h1).trans h.c2, (hb.cell (p := ⟨E, 0, none⟩) h2).trans h.ce,
   (hb.frozen (p := ⟨O, 0, none⟩) h1).trans h.f0, (hb.frozen (p := ⟨O, 1, none⟩) h1).trans h.f1, (hb.frozen (p := ⟨O, 2, none⟩) h1).trans h.f2, (hb.frozen (p := ⟨E, 0, none⟩) h2).trans h.fe⟩
theorem BT.below (h : BT w O E v0 v1 v2 ve) (hb : Below w.heap.size w w') : BT w' O E v0 v1 v2 ve := h.keep hb (cell_lt h.c0) (cell_lt h.ce)
theorem BT.drewN (h : BT w O E v0 v1 v2 ve) (q : Nat) : BT (w.drewN q) O E v0 v1 v2 ve := ⟨h.c0, h.c1, h.c2, h.ce, h.f0, h.f1, h.f2, h.fe⟩
theorem BT.drew (h : BT w O E v0 v1 v2 ve) : BT w.drew O E v0 v1 v2 ve := ⟨h.c0, h.c1, h.c2, h.ce, h.f0, h.f1, h.f2, h.fe⟩
theorem BT.set0 (h : BT w O E v0 v1 v2 ve) (hn : O ≠ E) (v : Value) : BT (w.setCell ⟨O, 0, none⟩ v) O E v v1 v2 ve :=
  ⟨World.cell?_setCell_same _ _ _ h.c0, res_ne h.c1 (by omega), res_ne h.c2 (by omega), res_nb h.ce hn, by simpa using h.f0, by simpa using h.f1, by simpa using h.f2, by simpa using h.fe⟩
theorem BT.set1 (h : BT w O E v0 v1 v2 ve) (hn : O ≠ E) (v : Value) : BT (w.setCell ⟨O, 1, none⟩ v) O E v0 v v2 ve :=
  ⟨res_ne h.c0 (by omega), World.cell?_setCell_same _ _ _ h.c1, res_ne h.c2 (by omega), res_nb h.ce hn, by simpa using h.f0, by simpa using h.f1, by simpa using h.f2, by simpa using h.fe⟩
theorem BT.set2 (h : BT w O E v0 v1 v2 ve) (hn : O ≠ E) (v : Value) : BT (w.setCell ⟨O, 2, none⟩ v) O E v0 v1 v ve :=
  ⟨res_ne h.c0 (by omega), res_ne h.c1 (by omega), World.cell?_setCell_same _ _ _ h.c2, res_nb h.ce hn, by simpa using h.f0, by simpa using h.f1, by simpa using h.f2, by simpa using h.fe⟩
theorem BT.setE (h : BT w O E v0 v1 v2 ve) (hn : O ≠ E) (v : Value) : BT (w.setCell ⟨E, 0, none⟩ v) O E v0 v1 v2 v :=
  ⟨res_nb h.c0 (Ne.symm hn), res_nb h.c1 (Ne.symm hn), res_nb h.c2 (Ne.symm hn), World.cell?_setCell_same _ _ _ h.ce, by simpa using h.f0, by simpa using h.f1, by simpa using h.f2, by simpa using h.fe⟩
theorem BT.other (h : BT w O E v0 v1 v2 ve) {C i : Nat} (h1 : C ≠ O) (h2 : C ≠ E) (v : Value) : BT (w.setCell ⟨C, i, none⟩ v) O E v0 v1 v2 ve :=
  ⟨res_nb h.c0 h1, res_nb h.c1 h1, res_nb h.c2 h1, res_nb h.ce h2, by simpa using h.f0, by simpa using h.f1, by simpa using h.f2, by simpa using h.fe⟩
end
abbrev nilS : Value := .slice none 0 0
/-- Nothing, and an error. -/
def over (w : World) (O E : Nat) (v : Value) : World := (((w.setCell ⟨O, 0, none⟩ nilS).setCell ⟨O, 1, none⟩ nilS).setCell ⟨O, 2, none⟩ nilS).setCell ⟨E, 0, none⟩ v
theorem BT.over {w : World} {O E : Nat} {v0 v1 v2 ve : Value} (h : BT w O E v0 v1 v2 ve) (hn : O ≠ E) (v : Value) : BT (over w O E v) O E nilS nilS nilS v := (((h.set0 hn _).set1 hn _).set2 hn _).setE hn _
theorem below_over {B O E : Nat} {a w : World} (h : Below B a w) (h1 : B ≤ O) (h2 : B ≤ E) (v : Value) : Below B a (over w O E v) :=
  (((h.setCell (p := ⟨O, 0, none⟩) h1 _).setCell (p := ⟨O, 1, none⟩) h1 _).setCell (p := ⟨O, 2, none⟩) h1 _).setCell (p := ⟨E, 0, none⟩) h2 _
theorem isFault (v : Value) (w : World) : (Instr.typeAssert (.iface 71 v) 20 71 true).run Tryz.prog w = .ok (.tuple #[v, .bool true]) w := by kernel_rfl
set_option maxHeartbeats 1000000 in
set_option maxRecDepth 100000 in
theorem bd_caught (O E : Nat) (v0 v1 v2 ve : Value) (e p : Int) (older : List PanicEntry) (w : World) (h : BT w O E v0 v1 v2 ve) (hn : O ≠ E) :
    CallsD Tryz.prog 21 #[.pointer (some ⟨O, 0, none⟩), .pointer (some ⟨E, 0, none⟩)] (.panicking ({ v := faultV' e p, recovered := false } :: older)) w fun r u' w' =>
      r = .returned (.tuple #[]) ∧ u' = .panicking ({ v := faultV' e p, recovered := true } :: older) ∧ w' = over (w.alloc (.cells #[.int .i64 e, .int .i64 p] 71)) O E (.iface 73 (.pointer (some ⟨w.heap.size, 0, none⟩))) := by
  have hta := isFault (.agg #[.int .i64 e, .int .i64 p])
  have hb := below1 w (.cells #[.int .i64 e, .int .i64 p] 71)
  have H1 := h.below hb
  have H2 := H1.set0 hn nilS
  have H3 := H2.set1 hn nilS
  have H4 := H3.set2 hn nilS
  refine callsD_of_wpS Tryz.func21 rfl fun c₀ cs hu => ?_
  apply wpS_seq
  apply wpS_region
  simp [wpOpsS, go_sem, recoverD, hu, Tryz.ntmps21, Exit.thenS]
  apply wpS_seq
  apply wpS_region
  simp [wpOpsS, go_sem, Exit.thenS]
  refine wpS_cond (t := true) (by simp [Act.eval, Array.replicate]) ?_
  simp only [if_true]
  apply wpS_seq
  apply wpS_region
  simp [wpOpsS, go_sem, Exit.thenS, hta]
  apply wpS_seq
  apply wpS_seq
  apply wpS_region
  simp [wpOpsS, go_sem, Exit.thenS]
  refine wpS_cond (t := false) (by simp [Act.eval, Array.replicate]) ?_
  simp only [Bool.false_eq_true, if_false]
  refine wpS_of_wp (wp_skip ?_)
  simp only [Exit.thenS]
  apply wpS_region
  simp [wpOpsS, go_sem, H1.c0, H1.c1, H1.c2, H1.f0, H1.f1, H1.f2, H1.ce, H1.fe, H2.c1, H3.c2, H4.ce, bodyPostS, results, Tryz.results21]
  rfl
set_option maxHeartbeats 1000000 in
set_option maxRecDepth 100000 in
theorem bd_idle (O E : Nat) (w : World) :
    CallsD Tryz.prog 21 #[.pointer (some ⟨O, 0, none⟩), .pointer (some ⟨E, 0, none⟩)] .returning w fun r u' w' => r = .returned (.tuple #[]) ∧ u' = .returning ∧ w' = w := by
  refine callsD_of_wpS Tryz.func21 rfl fun c₀ cs hu => ?_
  apply wpS_seq
  apply wpS_region
  simp [wpOpsS, go_sem, recoverD, hu, Tryz.ntmps21, Exit.thenS]
  apply wpS_seq
  apply wpS_region
  simp [wpOpsS, go_sem, Exit.thenS]
  refine wpS_cond (t := false) (by simp [Act.eval, Array.replicate]) ?_
  simp only [Bool.false_eq_true, if_false]
  refine wpS_of_wp (wp_skip ?_)
  cases c₀
  simp_all [bodyPostS, results, Tryz.results21]
/-- Where Read ends. -/
def BdEnd (s : ByteArray) (w : World) (e : Ending) (w' : World) : Prop :=
  ∃ (x : BatArg) (ve : Value), e = .returned (.tuple #[x.v, ve]) ∧ Bat w' x ∧ (x.f, x.h, x.l) = (bread s).1 ∧ (x.n ≤ x.c ∧ x.n' ≤ x.c') ∧ ErrIs w' ve (bread s).2.1 (bread s).2.2 ∧ Below w.heap.size w w'
abbrev noBat : BatArg := ⟨none, 0, 0, none, 0, 0, none, 0, 0, [], [], []⟩
theorem noBat_is (w : World) : Bat w noBat := ⟨Sl.nil, Sl.nil, Sl.nil, Nat.zero_le _, Nat.zero_le _, Nat.zero_le _⟩
theorem bdoor_bad {s : ByteArray} {w W : World} {O E : Nat} {v0 v1 v2 ve : Value} {e q : Int} {tmps : Array Value} (hv : bread s = (noB, e, q)) (he : e ≠ 0) (R : BT W O E v0 v1 v2 ve) (hn : O ≠ E) (lO : w.heap.size ≤ O) (lE : w.heap.size ≤ E) (b : Below w.heap.size w W)
    (t2 : tmps[2]? = some (.pointer (some ⟨O, 0, none⟩))) (t3 : tmps[3]? = some (.pointer (some ⟨E, 0, none⟩))) :
    Leaves Tryz.prog Tryz.f5 tmps (BdEnd s w) [{ target := .fn (.func 21) #[.pointer (some ⟨O, 0, none⟩), .pointer (some ⟨E, 0, none⟩)], args := #[] }] (.panicking (Faulted e q)) W := by
  refine leaves_cons (f := 21) (args := #[.pointer (some ⟨O, 0, none⟩), .pointer (some ⟨E, 0, none⟩)]) (by simp) (by simp [go_sem]) ?_
  refine (bd_caught O E v0 v1 v2 ve e q [] _ R hn).mono ?_
  rintro e' u' w' ⟨rfl, rfl, rfl⟩
  show Leaves _ _ _ _ [] .returning _
  have bA := below1 W (.cells #[.int .i64 e, .int .i64 q] 71)
  have hT := Two.new W e q 71
  have hZ := (R.below bA).over hn (.iface 73 (.pointer (some ⟨W.heap.size, 0, none⟩)))
  have bZ := below_over (b.trans (bA.mono b.size)) lO lE (.iface 73 (.pointer (some ⟨W.heap.size, 0, none⟩)))
  have lO' := cell_lt R.c0
  have lE' := cell_lt R.ce
  simp only at lO' lE'
  have k0 : (over (W.alloc (.cells #[.int .i64 e, .int .i64 q] 71)) O E (.iface 73 (.pointer (some ⟨W.heap.size, 0, none⟩)))).cell? ⟨W.heap.size, 0, none⟩ = some (.int .i64 e) := res_nb (res_nb (res_nb (res_nb hT.c0 (by omega)) (by omega)) (by omega)) (by omega)
  have k1 : (over (W.alloc (.cells #[.int .i64 e, .int .i64 q] 71)) O E (.iface 73 (.pointer (some ⟨W.heap.size, 0, none⟩)))).cell? ⟨W.heap.size, 1, none⟩ = some (.int .i64 q) := res_nb (res_nb (res_nb (res_nb hT.c1 (by omega)) (by omega)) (by omega)) (by omega)
  obtain ⟨z0, z1, z2, z3, _, _, _, _⟩ := hZ
  refine ⟨.tuple #[noBat.v, .iface 73 (.pointer (some ⟨W.heap.size, 0, none⟩))], by simp [results, Tryz.results5, go_sem, t2, t3, z0, z1, z2, z3, BatArg.v], noBat, _, rfl, noBat_is _, by rw [hv], ⟨Nat.le_refl _, Nat.le_refl _⟩, ?_, bZ⟩
  rw [hv]
  exact .at_ _ _ _ _ he k0 k1
end Go.Proofs.YtnaclpfcldoebaaGreatDoor
end

section
namespace Go.Proofs.YtnaclpfcldoebaaGreatDoor
set_option linter.unusedSimpArgs false
set_option linter.unusedVariables false
open Go.RowKit As
/-- A batch's three slices and a fault. -/
structure RB (w : World) (O F : Nat) (v0 v1 v2 : Value) (x y : Int) : Prop where
  c0 : w.cell? ⟨O, 0, none⟩ = some v0
  c1 : w.cell? ⟨O, 1, none⟩ = some v1
  c2 : w.cell? ⟨O, 2, none⟩ = some v2
  x : w.cell? ⟨F, 0, none⟩ = some (.int .i64 x)
  y : w.cell? ⟨F, 1, none⟩ = some (.int .i64 y)
  f0 : w.frozen? ⟨O, 0, none⟩ = false
  f1 : w.frozen? ⟨O, 1, none⟩ = false
  f2 : w.frozen? ⟨O, 2, none⟩ = false
  fx : w.frozen? ⟨F, 0, none⟩ = false
  fy : w.frozen? ⟨F, 1, none⟩ = false
section
variable {w w' : World} {O F B : Nat} {v0 v1 v2 : Value} {x y : Int}
theorem RB.keep (h : RB w O F v0 v1 v2 x y) (hb : Below B w w') (h1 : O < B) (h2 : F < B) : RB w' O F v0 v1 v2 x y :=
  ⟨(hb.cell (p := ⟨O, 0, none⟩) h1).trans h.c0, (hb.cell (p := ⟨O, 1, none⟩) h1).trans h.c1, (hb.cell (p := ⟨O, 2, none⟩) h1).trans h.c2, (hb.cell (p := ⟨F, 0, none⟩) h2).trans h.x, (hb.cell (p := ⟨F, 1, none⟩) h2).trans h.y,
   (hb.frozen (p := ⟨O, 0, none⟩) h1).trans h.f0, (hb.frozen (p := ⟨O, 1, none⟩) h1).trans h.f1, (hb.frozen (p := ⟨O, 2, none⟩) h1).trans h.f2, (hb.frozen (p := ⟨F, 0, none⟩) h2).trans h.fx, (hb.frozen (p := ⟨F, 1, none⟩) h2).trans h.fy⟩
theorem RB.below (h : RB w O F v0 v1 v2 x y) (hb : Below w.heap.size w w') : RB w' O F v0 v1 v2 x y := h.keep hb (cell_lt h.c0) (cell_lt h.x)
theorem RB.drew (h : RB w O F v0 v1 v2 x y) : RB w.drew O F v0 v1 v2 x y := ⟨h.c0, h.c1, h.c2, h.x, h.y, h.f0, h.f1, h.f2, h.fx, h.fy⟩
theorem RB.set0 (h : RB w O F v0 v1 v2 x y) (hn : O ≠ F) (v : Value) : RB (w.setCell ⟨O, 0, none⟩ v) O F v v1 v2 x y :=
  ⟨World.cell?_setCell_same _ _ _ h.c0, res_ne h.c1 (by omega), res_ne h.c2 (by omega), res_nb h.x hn, res_nb h.y hn, by simpa using h.f0, by simpa using h.f1, by simpa using h.f2, by simpa using h.fx, by simpa using h.fy⟩
theorem RB.set1 (h : RB w O F v0 v1 v2 x y) (hn : O ≠ F) (v : Value) : RB (w.setCell ⟨O, 1, none⟩ v) O F v0 v v2 x y :=
  ⟨res_ne h.c0 (by omega), World.cell?_setCell_same _ _ _ h.c1, res_ne h.c2 (by omega), res_nb h.x hn, res_nb h.y hn, by simpa using h.f0, by simpa using h.f1, by simpa using h.f2, by simpa using h.fx, by simpa using h.fy⟩
theorem RB.set2 (h : RB w O F v0 v1 v2 x y) (hn : O ≠ F) (v : Value) : RB (w.setCell ⟨O, 2, none⟩ v) O F v0 v1 v x y :=
  ⟨res_ne h.c0 (by omega), res_ne h.c1 (by omega), World.cell?_setCell_same _ _ _ h.c2, res_nb h.x hn, res_nb h.y hn, by simpa using h.f0, by simpa using h.f1, by simpa using h.f2, by simpa using h.fx, by simpa using h.fy⟩
theorem RB.setF (h : RB w O F v0 v1 v2 x y) (hn : O ≠ F) (x' y' : Int) : RB ((w.setCell ⟨F, 0, none⟩ (.int .i64 x')).setCell ⟨F, 1, none⟩ (.int .i64 y')) O F v0 v1 v2 x' y' :=
  have q : F ≠ O := Ne.symm hn
  ⟨res_nb (res_nb h.c0 q) q, res_nb (res_nb h.c1 q) q, res_nb (res_nb h.c2 q) q, res_ne (World.cell?_setCell_same _ _ _ h.x) (by omega), World.cell?_setCell_same _ _ _ (res_ne h.y (by omega)), by simpa using h.f0, by simpa using h.f1, by simpa using h.f2, by simpa using h.fx, by simpa using h.fy⟩
theorem RB.other (h : RB w O F v0 v1 v2 x y) {C i : Nat} (h1 : C ≠ O) (h2 : C ≠ F) (v : Value) : RB (w.setCell ⟨C, i, none⟩ v) O F v0 v1 v2 x y :=
  ⟨res_nb h.c0 h1, res_nb h.c1 h1, res_nb h.c2 h1, res_nb h.x h2, res_nb h.y h2, by simpa using h.f0, by simpa using h.f1, by simpa using h.f2, by simpa using h.fx, by simpa using h.fy⟩
end
theorem RB.new (w : World) (t1 t2 : TypeId) : RB ((w.alloc (.cells #[nilS, nilS, nilS] t1)).alloc (.cells #[.int .i64 0, .int .i64 0] t2)) w.heap.size (w.heap.size + 1) nilS nilS nilS 0 0 := by
  generalize hW : w.alloc (.cells #[nilS, nilS, nilS] t1) = w1
  have b2 := below1 w1 (.cells #[.int .i64 0, .int .i64 0] t2)
  have l1 : w1.heap.size = w.heap.size + 1 := by rw [← hW]; simp
  have o : ∀ i, i < 3 → w1.cell? ⟨w.heap.size, i, none⟩ = some nilS := by
    intro i hi
    rw [← hW, World.cell?_alloc_new]
    have : i = 0 ∨ i = 1 ∨ i = 2 := by omega
    rcases this with rfl | rfl | rfl <;> rfl
  have g : ∀ i, (w1.alloc (.cells #[.int .i64 0, .int .i64 0] t2)).frozen? ⟨w.heap.size, i, none⟩ = false := by
    intro i
    rw [b2.frozen (p := ⟨w.heap.size, i, none⟩) (by simp; omega), ← hW]; simp
  have T := Two.new w1 0 0 t2
  rw [l1] at T
  exact ⟨(b2.cell (cell_lt (o 0 (by omega)))).trans (o 0 (by omega)), (b2.cell (cell_lt (o 1 (by omega)))).trans (o 1 (by omega)), (b2.cell (cell_lt (o 2 (by omega)))).trans (o 2 (by omega)), T.c0, T.c1, g 0, g 1, g 2, T.f0, T.f1⟩
set_option maxHeartbeats 1000000 in
set_option maxRecDepth 100000 in
theorem rbd_good (F O : Nat) (y : Int) (w : World) (h0 : w.cell? ⟨F, 0, none⟩ = some (.int .i64 0)) (h1 : w.cell? ⟨F, 1, none⟩ = some (.int .i64 y)) :
    CallsD Tryz.prog 10 #[.pointer (some ⟨F, 0, none⟩), .pointer (some ⟨O, 0, none⟩)] .returning w fun e u' w' => u' = .returning ∧ (e = .returned (.tuple #[]) ∧ Below w.heap.size w w') := by
  go_enter_d Tryz.func10, Tryz.ntmps10
  go_wp2_with fail
  refine (is_any (0, y) _).mono ?_
  rintro r w2 ⟨rfl, hb2⟩
  have e1 : (((0, y) : Int × Int).1 == 0) = true := rfl
  rw [e1]
  go_wp2
  go_end0
  exact ⟨rfl, hb2⟩
set_option maxHeartbeats 1000000 in
set_option maxRecDepth 100000 in
theorem rbd_bad (F O : Nat) (v0 v1 v2 : Value) (x y : Int) (w : World) (h : RB w O F v0 v1 v2 x y) (hx : x ≠ 0) (h2 : O ≠ F) :
    CallsD Tryz.prog 10 #[.pointer (some ⟨F, 0, none⟩), .pointer (some ⟨O, 0, none⟩)] .returning w fun e u' w' => u' = .returning ∧ (e = .returned (.tuple #[]) ∧ RB w' O F nilS nilS nilS x y ∧ ∀ B, B ≤ O → Below B w w') := by
  have HR := h
  obtain ⟨r0, r1, r2, r3, r4, _, _, _, _, _⟩ := h
  have e1 : (((x, y) : Int × Int).1 == 0) = false := by simpa using hx
  go_enter_d Tryz.func10, Tryz.ntmps10
  go_wp2_with fail
  refine (is_any (x, y) _).mono ?_
  rintro r w2 ⟨rfl, hb2⟩
  rw [e1]
  have H1 := (HR.below hb2).set0 h2 nilS
  have H2 := H1.set1 h2 nilS
  have H3 := H2.set2 h2 nilS
  have lO : O < w.heap.size := cell_lt HR.c0
  have p1 := H1.c1
  have p2 := H2.c2
  obtain ⟨k0, k1, k2, k3, k4, k5, k6, k7, k8, k9⟩ := HR.below hb2
  clear r0 r1 r2 r3 r4
  go_wp2
  go_end0
  exact ⟨rfl, H3, fun B q1 => (((hb2.mono (by omega)).setCell (p := ⟨O, 0, none⟩) q1 _).setCell (p := ⟨O, 1, none⟩) q1 _).setCell (p := ⟨O, 2, none⟩) q1 _⟩
/-- Where Unbody ends. -/
def RbEnd (s : ByteArray) (w : World) (e : Ending) (w' : World) : Prop :=
  ∃ x : BatArg, e = .returned (.tuple #[x.v, faultV (bread s).2]) ∧ Bat w' x ∧ (x.f, x.h, x.l) = (bread s).1 ∧ (x.n ≤ x.c ∧ x.n' ≤ x.c') ∧ Below w.heap.size w w'
theorem rdoor_bad {s : ByteArray} {w W : World} {O F : Nat} {v0 v1 v2 : Value} {e q : Int} {tmps : Array Value} (hv : bread s = (noB, e, q)) (he : e ≠ 0) (R : RB W O F v0 v1 v2 0 (-1)) (hn : O ≠ F) (lO : w.heap.size ≤ O) (lF : w.heap.size ≤ F) (b : Below w.heap.size w W)
    (t2 : tmps[2]? = some (.pointer (some ⟨O, 0, none⟩))) (t3 : tmps[3]? = some (.pointer (some ⟨F, 0, none⟩))) :
    Leaves Tryz.prog Tryz.f4 tmps (RbEnd s w) [{ target := .fn (.func 12) #[], args := #[.pointer (some ⟨F, 0, none⟩)] }, { target := .fn (.func 10) #[.pointer (some ⟨F, 0, none⟩), .pointer (some ⟨O, 0, none⟩)], args := #[] }] (.panicking (Thrown e q)) W := by
  have HR := R
  refine leaves_cons (f := 12) (args := #[.pointer (some ⟨F, 0, none⟩)]) (by simp) (by simp [go_sem]) ?_
  refine (caught_hit F 0 (-1) e q [] _ R.x R.y R.fx R.fy).mono ?_
  rintro e' u' w' ⟨rfl, rfl, rfl⟩
  show Leaves _ _ _ _ _ .returning _
  have hZ := (HR.below (below1 W (.cells #[.int .i64 e, .int .i64 q] 92))).setF hn e q
  have bZ := ((b.alloc b.size (.cells #[.int .i64 e, .int .i64 q] 92)).setCell (p := ⟨F, 0, none⟩) lF (.int .i64 e)).setCell (p := ⟨F, 1, none⟩) lF (.int .i64 q)
  refine leaves_cons (f := 10) (args := #[.pointer (some ⟨F, 0, none⟩), .pointer (some ⟨O, 0, none⟩)]) (by simp) (by simp [go_sem]) ?_
  refine (rbd_bad F O _ _ _ _ _ _ hZ he hn).mono ?_
  rintro e' u' w' ⟨rfl, rfl, hZ', hb⟩
  have bF := bZ.trans (hb w.heap.size lO)
  obtain ⟨z0, z1, z2, z3, z4, _, _, _, _, _⟩ := hZ'
  show Leaves _ _ _ _ [] .returning _
  exact ⟨.tuple #[noBat.v, .agg #[.int .i64 e, .int .i64 q]], by simp [results, Tryz.results4, go_sem, t2, t3, z0, z1, z2, z3, z4, BatArg.v], noBat, by rw [hv]; rfl, noBat_is _, by rw [hv], ⟨Nat.le_refl _, Nat.le_refl _⟩, bF⟩
end Go.Proofs.YtnaclpfcldoebaaGreatDoor
end

section
namespace Go.Proofs.YtnaclpfcldoebaaGreatDoor
theorem str_empty' (s : ByteArray) : s.toList.isEmpty = decide (s.size = 0) := by
  rw [ByteArray.toList_eq]
  by_cases h : s.size = 0
  · rw [decide_eq_true h]
    have : s.data.toList = [] := by
      apply List.length_eq_zero_iff.1
      simpa using h
    rw [this]; rfl
  · rw [decide_eq_false h]
    rw [List.isEmpty_eq_false_iff]
    intro e
    apply h
    have := congrArg List.length e
    simpa using this
end Go.Proofs.YtnaclpfcldoebaaGreatDoor
end

section
namespace Go.Proofs.YtnaclpfcldoebaaGreatDoor
set_option linter.unusedSimpArgs false
open Go.RowKit As
def wrightC (k : Int) (i : Bool) (x y : Nat) (n : Int) : Int :=
  if k < 1 ∨ 4 < k then 1
  else if i = false then 2
  else if 40 < x ∨ 300 < y then 4
  else if (k ≠ 1 ∧ k ≠ 4 ∧ y ≠ 0) ∨ (k ≠ 3 ∧ k ≠ 4 ∧ n ≠ 0) then 3
  else if k = 3 ∧ (n < -1125899906842624 ∨ 1125899906842624 < n) ∨ k = 4 ∧ (n < 0 ∨ 1000 < n) then 2 else 0
theorem wright_is (a b c f : Int) (d e : ByteArray) : wright (a, b, c, d, e, f) = wrightC c (idRight (a, b)) d.size e.size f := rfl
abbrev wrV (a b c : Int) (d e : ByteArray) (f : Int) : Value := .agg #[.int .i64 a, .int .i64 b, .int .i64 c, .string d, .string e, .int .i64 f]
abbrev wrO (a b c : Int) (d e : ByteArray) (f : Int) : Obj := .cells #[.int .i64 a, .int .i64 b, .int .i64 c, .string d, .string e, .int .i64 f] 59
/-- The write's cells, later on. -/
structure WrAt (w : World) (B : Nat) (a b c : Int) (d e : ByteArray) (f : Int) : Prop where
  c0 : w.cell? ⟨B, 0, none⟩ = some (.int .i64 a)
  c1 : w.cell? ⟨B, 1, none⟩ = some (.int .i64 b)
  c2 : w.cell? ⟨B, 2, none⟩ = some (.int .i64 c)
  c3 : w.cell? ⟨B, 3, none⟩ = some (.string d)
  c4 : w.cell? ⟨B, 4, none⟩ = some (.string e)
  c5 : w.cell? ⟨B, 5, none⟩ = some (.int .i64 f)
theorem WrAt.new (w : World) (a b c : Int) (d e : ByteArray) (f : Int) : WrAt (w.alloc (wrO a b c d e f)) w.heap.size a b c d e f := by
  refine ⟨?_, ?_, ?_, ?_, ?_, ?_⟩ <;> (rw [World.cell?_alloc_new]; rfl)
theorem WrAt.drewN {w : World} {B : Nat} {a b c f : Int} {d e : ByteArray} (h : WrAt w B a b c d e f) (q : Nat) : WrAt (w.drewN q) B a b c d e f := ⟨h.c0, h.c1, h.c2, h.c3, h.c4, h.c5⟩
theorem WrAt.below {w w' : World} {B : Nat} {a b c f : Int} {d e : ByteArray} (h : WrAt w B a b c d e f) (hb : Below w.heap.size w w') : WrAt w' B a b c d e f :=
  ⟨(hb.cell (cell_lt h.c0)).trans h.c0, (hb.cell (cell_lt h.c1)).trans h.c1, (hb.cell (cell_lt h.c2)).trans h.c2, (hb.cell (cell_lt h.c3)).trans h.c3, (hb.cell (cell_lt h.c4)).trans h.c4, (hb.cell (cell_lt h.c5)).trans h.c5⟩
set_option maxHeartbeats 2000000 in
set_option maxRecDepth 100000 in
theorem wright1 (a b f : Int) (d e : ByteArray) (w : World) : Calls Tryz.prog 48 #[wrV a b (1) d e f] w fun r w' => r = .returned (errV (wright (a, b, 1, d, e, f))) ∧ Below w.heap.size w w' := by
  rw [wright_is]
  have hW := WrAt.new w a b (1) d e f
  cases hidv : idRight (a, b) with
  | false =>
    have hid := Lib.hid hidv
    clear hidv
    have hr := Lib.hid (show wrightC 1 false d.size e.size f = 2 by unfold wrightC; rw [if_neg (by omega), if_pos rfl])
    go_enter Tryz.func48, Tryz.ntmps48
    go_wp2_with fail
    go_quiet (fail)
    go_wp2_with fail
    refine (idright_any a b _).mono ?_
    rintro r w1 ⟨rfl, hb1⟩
    rw [hid.out]
    obtain ⟨c0, c1, c2, c3, c4, c5⟩ := (hW.drewN nq).below hb1
    have hbl : Below w.heap.size w w1 := (below_drewN (below1 w _) nq).trans (hb1.mono (by simp))
    go_wp2
    go_ret
    exact ⟨by rw [hr.out]; rfl, hbl⟩
  | true =>
    have hid := Lib.hid hidv
    clear hidv
    by_cases h1 : 40 < d.size
    · have hr := Lib.hid (show wrightC 1 true d.size e.size f = 4 by unfold wrightC; rw [if_neg (by omega), if_neg (by simp), if_pos (by omega)])
      have s0 : decide (40 < d.size) = true := by simp only [decide_eq_true_eq, decide_eq_false_iff_not]; omega
      have t0 : decide (40 < (d.size : Int)) = true := by simp only [decide_eq_true_eq, decide_eq_false_iff_not]; omega
      clear h1
      go_enter Tryz.func48, Tryz.ntmps48
      go_wp2_with fail
      go_quiet (fail)
      go_wp2_with fail
      refine (idright_any a b _).mono ?_
      rintro r w1 ⟨rfl, hb1⟩
      rw [hid.out]
      obtain ⟨c0, c1, c2, c3, c4, c5⟩ := (hW.drewN nq).below hb1
      have hbl : Below w.heap.size w w1 := (below_drewN (below1 w _) nq).trans (hb1.mono (by simp))
      go_wp2
      go_ret
      exact ⟨by rw [hr.out]; rfl, hbl⟩
    · by_cases h2 : 300 < e.size
      · have hr := Lib.hid (show wrightC 1 true d.size e.size f = 4 by unfold wrightC; rw [if_neg (by omega), if_neg (by simp), if_pos (by omega)])
        have s0 : decide (40 < d.size) = false := by simp only [decide_eq_true_eq, decide_eq_false_iff_not]; omega
        have t0 : decide (40 < (d.size : Int)) = false := by simp only [decide_eq_true_eq, decide_eq_false_iff_not]; omega
        have s1 : decide (300 < e.size) = true := by simp only [decide_eq_true_eq, decide_eq_false_iff_not]; omega
        have t1 : decide (300 < (e.size : Int)) = true := by simp only [decide_eq_true_eq, decide_eq_false_iff_not]; omega
        clear h1 h2
        go_enter Tryz.func48, Tryz.ntmps48
        go_wp2_with fail
        go_quiet (fail)
        go_wp2_with fail
        refine (idright_any a b _).mono ?_
        rintro r w1 ⟨rfl, hb1⟩
        rw [hid.out]
        obtain ⟨c0, c1, c2, c3, c4, c5⟩ := (hW.drewN nq).below hb1
        have hbl : Below w.heap.size w w1 := (below_drewN (below1 w _) nq).trans (hb1.mono (by simp))
        go_wp2
        go_ret
        exact ⟨by rw [hr.out]; rfl, hbl⟩
      · have hz := str_empty' e
        have s0 : decide (40 < d.size) = false := by simp only [decide_eq_true_eq, decide_eq_false_iff_not]; omega
        have t0 : decide (40 < (d.size : Int)) = false := by simp only [decide_eq_true_eq, decide_eq_false_iff_not]; omega
        have s1 : decide (300 < e.size) = false := by simp only [decide_eq_true_eq, decide_eq_false_iff_not]; omega
        have t1 : decide (300 < (e.size : Int)) = false := by simp only [decide_eq_true_eq, decide_eq_false_iff_not]; omega
        have HZ := Lib.hid hz
        clear hz
        by_cases h3 : f = 0
        · skip
          have hr := Lib.hid (show wrightC 1 true d.size e.size f = 0 by unfold wrightC; rw [if_neg (by omega), if_neg (by simp), if_neg (by omega), if_neg (by omega), if_neg (by omega)])
          have q0 : (f != 0) = false := by simp only [bne_iff_ne, bne_eq_false_iff_eq, ne_eq]; omega
          clear h1 h2 h3
          go_enter Tryz.func48, Tryz.ntmps48
          go_wp2_with fail
          go_quiet (fail)
          go_wp2_with fail
          refine (idright_any a b _).mono ?_
          rintro r w1 ⟨rfl, hb1⟩
          rw [hid.out]
          obtain ⟨c0, c1, c2, c3, c4, c5⟩ := (hW.drewN nq).below hb1
          have hbl : Below w.heap.size w w1 := (below_drewN (below1 w _) nq).trans (hb1.mono (by simp))
          go_wp2
          go_ret
          exact ⟨by rw [hr.out]; rfl, hbl⟩
        · skip
          have hr := Lib.hid (show wrightC 1 true d.size e.size f = 3 by unfold wrightC; rw [if_neg (by omega), if_neg (by simp), if_neg (by omega), if_pos (by omega)])
          have q0 : (f != 0) = true := by simp only [bne_iff_ne, bne_eq_false_iff_eq, ne_eq]; omega
          clear h1 h2 h3
          go_enter Tryz.func48, Tryz.ntmps48
          go_wp2_with fail
          go_quiet (fail)
          go_wp2_with fail
          refine (idright_any a b _).mono ?_
          rintro r w1 ⟨rfl, hb1⟩
          rw [hid.out]
          obtain ⟨c0, c1, c2, c3, c4, c5⟩ := (hW.drewN nq).below hb1
          have hbl : Below w.heap.size w w1 := (below_drewN (below1 w _) nq).trans (hb1.mono (by simp))
          go_wp2
          go_ret
          exact ⟨by rw [hr.out]; rfl, hbl⟩
set_option maxHeartbeats 2000000 in
set_option maxRecDepth 100000 in
theorem wright2 (a b f : Int) (d e : ByteArray) (w : World) : Calls Tryz.prog 48 #[wrV a b (2) d e f] w fun r w' => r = .returned (errV (wright (a, b, 2, d, e, f))) ∧ Below w.heap.size w w' := by
  rw [wright_is]
  have hW := WrAt.new w a b (2) d e f
  cases hidv : idRight (a, b) with
  | false =>
    have hid := Lib.hid hidv
    clear hidv
    have hr := Lib.hid (show wrightC 2 false d.size e.size f = 2 by unfold wrightC; rw [if_neg (by omega), if_pos rfl])
    go_enter Tryz.func48, Tryz.ntmps48
    go_wp2_with fail
    go_quiet (fail)
    go_wp2_with fail
    refine (idright_any a b _).mono ?_
    rintro r w1 ⟨rfl, hb1⟩
    rw [hid.out]
    obtain ⟨c0, c1, c2, c3, c4, c5⟩ := (hW.drewN nq).below hb1
    have hbl : Below w.heap.size w w1 := (below_drewN (below1 w _) nq).trans (hb1.mono (by simp))
    go_wp2
    go_ret
    exact ⟨by rw [hr.out]; rfl, hbl⟩
  | true =>
    have hid := Lib.hid hidv
    clear hidv
    by_cases h1 : 40 < d.size
    · have hr := Lib.hid (show wrightC 2 true d.size e.size f = 4 by unfold wrightC; rw [if_neg (by omega), if_neg (by simp), if_pos (by omega)])
      have s0 : decide (40 < d.size) = true := by simp only [decide_eq_true_eq, decide_eq_false_iff_not]; omega
      have t0 : decide (40 < (d.size : Int)) = true := by simp only [decide_eq_true_eq, decide_eq_false_iff_not]; omega
      clear h1
      go_enter Tryz.func48, Tryz.ntmps48
      go_wp2_with fail
      go_quiet (fail)
      go_wp2_with fail
      refine (idright_any a b _).mono ?_
      rintro r w1 ⟨rfl, hb1⟩
      rw [hid.out]
      obtain ⟨c0, c1, c2, c3, c4, c5⟩ := (hW.drewN nq).below hb1
      have hbl : Below w.heap.size w w1 := (below_drewN (below1 w _) nq).trans (hb1.mono (by simp))
      go_wp2
      go_ret
      exact ⟨by rw [hr.out]; rfl, hbl⟩
    · by_cases h2 : 300 < e.size
      · have hr := Lib.hid (show wrightC 2 true d.size e.size f = 4 by unfold wrightC; rw [if_neg (by omega), if_neg (by simp), if_pos (by omega)])
        have s0 : decide (40 < d.size) = false := by simp only [decide_eq_true_eq, decide_eq_false_iff_not]; omega
        have t0 : decide (40 < (d.size : Int)) = false := by simp only [decide_eq_true_eq, decide_eq_false_iff_not]; omega
        have s1 : decide (300 < e.size) = true := by simp only [decide_eq_true_eq, decide_eq_false_iff_not]; omega
        have t1 : decide (300 < (e.size : Int)) = true := by simp only [decide_eq_true_eq, decide_eq_false_iff_not]; omega
        clear h1 h2
        go_enter Tryz.func48, Tryz.ntmps48
        go_wp2_with fail
        go_quiet (fail)
        go_wp2_with fail
        refine (idright_any a b _).mono ?_
        rintro r w1 ⟨rfl, hb1⟩
        rw [hid.out]
        obtain ⟨c0, c1, c2, c3, c4, c5⟩ := (hW.drewN nq).below hb1
        have hbl : Below w.heap.size w w1 := (below_drewN (below1 w _) nq).trans (hb1.mono (by simp))
        go_wp2
        go_ret
        exact ⟨by rw [hr.out]; rfl, hbl⟩
      · have hz := str_empty' e
        have s0 : decide (40 < d.size) = false := by simp only [decide_eq_true_eq, decide_eq_false_iff_not]; omega
        have t0 : decide (40 < (d.size : Int)) = false := by simp only [decide_eq_true_eq, decide_eq_false_iff_not]; omega
        have s1 : decide (300 < e.size) = false := by simp only [decide_eq_true_eq, decide_eq_false_iff_not]; omega
        have t1 : decide (300 < (e.size : Int)) = false := by simp only [decide_eq_true_eq, decide_eq_false_iff_not]; omega
        have HZ := Lib.hid hz
        clear hz
        by_cases h3 : e.size = 0
        · by_cases h4 : f = 0
          · skip
            have hr := Lib.hid (show wrightC 2 true d.size e.size f = 0 by unfold wrightC; rw [if_neg (by omega), if_neg (by simp), if_neg (by omega), if_neg (by omega), if_neg (by omega)])
            have q0 : e.toList.isEmpty = true := by rw [HZ.out]; simp only [decide_eq_true_eq, decide_eq_false_iff_not]; omega
            have q1 : (f != 0) = false := by simp only [bne_iff_ne, bne_eq_false_iff_eq, ne_eq]; omega
            clear h1 h2 h3 h4
            go_enter Tryz.func48, Tryz.ntmps48
            go_wp2_with fail
            go_quiet (fail)
            go_wp2_with fail
            refine (idright_any a b _).mono ?_
            rintro r w1 ⟨rfl, hb1⟩
            rw [hid.out]
            obtain ⟨c0, c1, c2, c3, c4, c5⟩ := (hW.drewN nq).below hb1
            have hbl : Below w.heap.size w w1 := (below_drewN (below1 w _) nq).trans (hb1.mono (by simp))
            go_wp2
            go_ret
            exact ⟨by rw [hr.out]; rfl, hbl⟩
          · skip
            have hr := Lib.hid (show wrightC 2 true d.size e.size f = 3 by unfold wrightC; rw [if_neg (by omega), if_neg (by simp), if_neg (by omega), if_pos (by omega)])
            have q0 : e.toList.isEmpty = true := by rw [HZ.out]; simp only [decide_eq_true_eq, decide_eq_false_iff_not]; omega
            have q1 : (f != 0) = true := by simp only [bne_iff_ne, bne_eq_false_iff_eq, ne_eq]; omega
            clear h1 h2 h3 h4
            go_enter Tryz.func48, Tryz.ntmps48
            go_wp2_with fail
            go_quiet (fail)
            go_wp2_with fail
            refine (idright_any a b _).mono ?_
            rintro r w1 ⟨rfl, hb1⟩
            rw [hid.out]
            obtain ⟨c0, c1, c2, c3, c4, c5⟩ := (hW.drewN nq).below hb1
            have hbl : Below w.heap.size w w1 := (below_drewN (below1 w _) nq).trans (hb1.mono (by simp))
            go_wp2
            go_ret
            exact ⟨by rw [hr.out]; rfl, hbl⟩
        · skip
          have hr := Lib.hid (show wrightC 2 true d.size e.size f = 3 by unfold wrightC; rw [if_neg (by omega), if_neg (by simp), if_neg (by omega), if_pos (by omega)])
          have q0 : e.toList.isEmpty = false := by rw [HZ.out]; simp only [decide_eq_true_eq, decide_eq_false_iff_not]; omega
          clear h1 h2 h3
          go_enter Tryz.func48, Tryz.ntmps48
          go_wp2_with fail
          go_quiet (fail)
          go_wp2_with fail
          refine (idright_any a b _).mono ?_
          rintro r w1 ⟨rfl, hb1⟩
          rw [hid.out]
          obtain ⟨c0, c1, c2, c3, c4, c5⟩ := (hW.drewN nq).below hb1
          have hbl : Below w.heap.size w w1 := (below_drewN (below1 w _) nq).trans (hb1.mono (by simp))
          go_wp2
          go_ret
          exact ⟨by rw [hr.out]; rfl, hbl⟩
set_option maxHeartbeats 2000000 in
set_option maxRecDepth 100000 in
theorem wright3 (a b f : Int) (d e : ByteArray) (w : World) : Calls Tryz.prog 48 #[wrV a b (3) d e f] w fun r w' => r = .returned (errV (wright (a, b, 3, d, e, f))) ∧ Below w.heap.size w w' := by
  rw [wright_is]
  have hW := WrAt.new w a b (3) d e f
  cases hidv : idRight (a, b) with
  | false =>
    have hid := Lib.hid hidv
    clear hidv
    have hr := Lib.hid (show wrightC 3 false d.size e.size f = 2 by unfold wrightC; rw [if_neg (by omega), if_pos rfl])
    go_enter Tryz.func48, Tryz.ntmps48
    go_wp2_with fail
    go_quiet (fail)
    go_wp2_with fail
    refine (idright_any a b _).mono ?_
    rintro r w1 ⟨rfl, hb1⟩
    rw [hid.out]
    obtain ⟨c0, c1, c2, c3, c4, c5⟩ := (hW.drewN nq).below hb1
    have hbl : Below w.heap.size w w1 := (below_drewN (below1 w _) nq).trans (hb1.mono (by simp))
    go_wp2
    go_ret
    exact ⟨by rw [hr.out]; rfl, hbl⟩
  | true =>
    have hid := Lib.hid hidv
    clear hidv
    by_cases h1 : 40 < d.size
    · have hr := Lib.hid (show wrightC 3 true d.size e.size f = 4 by unfold wrightC; rw [if_neg (by omega), if_neg (by simp), if_pos (by omega)])
      have s0 : decide (40 < d.size) = true := by simp only [decide_eq_true_eq, decide_eq_false_iff_not]; omega
      have t0 : decide (40 < (d.size : Int)) = true := by simp only [decide_eq_true_eq, decide_eq_false_iff_not]; omega
      clear h1
      go_enter Tryz.func48, Tryz.ntmps48
      go_wp2_with fail
      go_quiet (fail)
      go_wp2_with fail
      refine (idright_any a b _).mono ?_
      rintro r w1 ⟨rfl, hb1⟩
      rw [hid.out]
      obtain ⟨c0, c1, c2, c3, c4, c5⟩ := (hW.drewN nq).below hb1
      have hbl : Below w.heap.size w w1 := (below_drewN (below1 w _) nq).trans (hb1.mono (by simp))
      go_wp2
      go_ret
      exact ⟨by rw [hr.out]; rfl, hbl⟩
    · by_cases h2 : 300 < e.size
      · have hr := Lib.hid (show wrightC 3 true d.size e.size f = 4 by unfold wrightC; rw [if_neg (by omega), if_neg (by simp), if_pos (by omega)])
        have s0 : decide (40 < d.size) = false := by simp only [decide_eq_true_eq, decide_eq_false_iff_not]; omega
        have t0 : decide (40 < (d.size : Int)) = false := by simp only [decide_eq_true_eq, decide_eq_false_iff_not]; omega
        have s1 : decide (300 < e.size) = true := by simp only [decide_eq_true_eq, decide_eq_false_iff_not]; omega
        have t1 : decide (300 < (e.size : Int)) = true := by simp only [decide_eq_true_eq, decide_eq_false_iff_not]; omega
        clear h1 h2
        go_enter Tryz.func48, Tryz.ntmps48
        go_wp2_with fail
        go_quiet (fail)
        go_wp2_with fail
        refine (idright_any a b _).mono ?_
        rintro r w1 ⟨rfl, hb1⟩
        rw [hid.out]
        obtain ⟨c0, c1, c2, c3, c4, c5⟩ := (hW.drewN nq).below hb1
        have hbl : Below w.heap.size w w1 := (below_drewN (below1 w _) nq).trans (hb1.mono (by simp))
        go_wp2
        go_ret
        exact ⟨by rw [hr.out]; rfl, hbl⟩
      · have hz := str_empty' e
        have s0 : decide (40 < d.size) = false := by simp only [decide_eq_true_eq, decide_eq_false_iff_not]; omega
        have t0 : decide (40 < (d.size : Int)) = false := by simp only [decide_eq_true_eq, decide_eq_false_iff_not]; omega
        have s1 : decide (300 < e.size) = false := by simp only [decide_eq_true_eq, decide_eq_false_iff_not]; omega
        have t1 : decide (300 < (e.size : Int)) = false := by simp only [decide_eq_true_eq, decide_eq_false_iff_not]; omega
        have HZ := Lib.hid hz
        clear hz
        by_cases h3 : e.size = 0
        · by_cases h4 : f < -1125899906842624
          · skip
            have hr := Lib.hid (show wrightC 3 true d.size e.size f = 2 by unfold wrightC; rw [if_neg (by omega), if_neg (by simp), if_neg (by omega), if_neg (by omega), if_pos (by omega)])
            have q0 : e.toList.isEmpty = true := by rw [HZ.out]; simp only [decide_eq_true_eq, decide_eq_false_iff_not]; omega
            have q1 : decide (f < -1125899906842624) = true := by simp only [decide_eq_true_eq, decide_eq_false_iff_not]; omega
            clear h1 h2 h3 h4
            go_enter Tryz.func48, Tryz.ntmps48
            go_wp2_with fail
            go_quiet (fail)
            go_wp2_with fail
            refine (idright_any a b _).mono ?_
            rintro r w1 ⟨rfl, hb1⟩
            rw [hid.out]
            obtain ⟨c0, c1, c2, c3, c4, c5⟩ := (hW.drewN nq).below hb1
            have hbl : Below w.heap.size w w1 := (below_drewN (below1 w _) nq).trans (hb1.mono (by simp))
            go_wp2
            go_ret
            exact ⟨by rw [hr.out]; rfl, hbl⟩
          · by_cases h5 : 1125899906842624 < f
            · skip
              have hr := Lib.hid (show wrightC 3 true d.size e.size f = 2 by unfold wrightC; rw [if_neg (by omega), if_neg (by simp), if_neg (by omega), if_neg (by omega), if_pos (by omega)])
              have q0 : e.toList.isEmpty = true := by rw [HZ.out]; simp only [decide_eq_true_eq, decide_eq_false_iff_not]; omega
              have q1 : decide (f < -1125899906842624) = false := by simp only [decide_eq_true_eq, decide_eq_false_iff_not]; omega
              have q2 : decide (1125899906842624 < f) = true := by simp only [decide_eq_true_eq, decide_eq_false_iff_not]; omega
              clear h1 h2 h3 h4 h5
              go_enter Tryz.func48, Tryz.ntmps48
              go_wp2_with fail
              go_quiet (fail)
              go_wp2_with fail
              refine (idright_any a b _).mono ?_
              rintro r w1 ⟨rfl, hb1⟩
              rw [hid.out]
              obtain ⟨c0, c1, c2, c3, c4, c5⟩ := (hW.drewN nq).below hb1
              have hbl : Below w.heap.size w w1 := (below_drewN (below1 w _) nq).trans (hb1.mono (by simp))
              go_wp2
              go_ret
              exact ⟨by rw [hr.out]; rfl, hbl⟩
            · skip
              have hr := Lib.hid (show wrightC 3 true d.size e.size f = 0 by unfold wrightC; rw [if_neg (by omega), if_neg (by simp), if_neg (by omega), if_neg (by omega), if_neg (by omega)])
              have q0 : e.toList.isEmpty = true := by rw [HZ.out]; simp only [decide_eq_true_eq, decide_eq_false_iff_not]; omega
              have q1 : decide (f < -1125899906842624) = false := by simp only [decide_eq_true_eq, decide_eq_false_iff_not]; omega
              have q2 : decide (1125899906842624 < f) = false := by simp only [decide_eq_true_eq, decide_eq_false_iff_not]; omega
              clear h1 h2 h3 h4 h5
              go_enter Tryz.func48, Tryz.ntmps48
              go_wp2_with fail
              go_quiet (fail)
              go_wp2_with fail
              refine (idright_any a b _).mono ?_
              rintro r w1 ⟨rfl, hb1⟩
              rw [hid.out]
              obtain ⟨c0, c1, c2, c3, c4, c5⟩ := (hW.drewN nq).below hb1
              have hbl : Below w.heap.size w w1 := (below_drewN (below1 w _) nq).trans (hb1.mono (by simp))
              go_wp2
              go_ret
              exact ⟨by rw [hr.out]; rfl, hbl⟩
        · skip
          have hr := Lib.hid (show wrightC 3 true d.size e.size f = 3 by unfold wrightC; rw [if_neg (by omega), if_neg (by simp), if_neg (by omega), if_pos (by omega)])
          have q0 : e.toList.isEmpty = false := by rw [HZ.out]; simp only [decide_eq_true_eq, decide_eq_false_iff_not]; omega
          clear h1 h2 h3
          go_enter Tryz.func48, Tryz.ntmps48
          go_wp2_with fail
          go_quiet (fail)
          go_wp2_with fail
          refine (idright_any a b _).mono ?_
          rintro r w1 ⟨rfl, hb1⟩
          rw [hid.out]
          obtain ⟨c0, c1, c2, c3, c4, c5⟩ := (hW.drewN nq).below hb1
          have hbl : Below w.heap.size w w1 := (below_drewN (below1 w _) nq).trans (hb1.mono (by simp))
          go_wp2
          go_ret
          exact ⟨by rw [hr.out]; rfl, hbl⟩
set_option maxHeartbeats 2000000 in
set_option maxRecDepth 100000 in
theorem wright4 (a b f : Int) (d e : ByteArray) (w : World) : Calls Tryz.prog 48 #[wrV a b (4) d e f] w fun r w' => r = .returned (errV (wright (a, b, 4, d, e, f))) ∧ Below w.heap.size w w' := by
  rw [wright_is]
  have hW := WrAt.new w a b (4) d e f
  cases hidv : idRight (a, b) with
  | false =>
    have hid := Lib.hid hidv
    clear hidv
    have hr := Lib.hid (show wrightC 4 false d.size e.size f = 2 by unfold wrightC; rw [if_neg (by omega), if_pos rfl])
    go_enter Tryz.func48, Tryz.ntmps48
    go_wp2_with fail
    go_quiet (fail)
    go_wp2_with fail
    refine (idright_any a b _).mono ?_
    rintro r w1 ⟨rfl, hb1⟩
    rw [hid.out]
    obtain ⟨c0, c1, c2, c3, c4, c5⟩ := (hW.drewN nq).below hb1
    have hbl : Below w.heap.size w w1 := (below_drewN (below1 w _) nq).trans (hb1.mono (by simp))
    go_wp2
    go_ret
    exact ⟨by rw [hr.out]; rfl, hbl⟩
  | true =>
    have hid := Lib.hid hidv
    clear hidv
    by_cases h1 : 40 < d.size
    · have hr := Lib.hid (show wrightC 4 true d.size e.size f = 4 by unfold wrightC; rw [if_neg (by omega), if_neg (by simp), if_pos (by omega)])
      have s0 : decide (40 < d.size) = true := by simp only [decide_eq_true_eq, decide_eq_false_iff_not]; omega
      have t0 : decide (40 < (d.size : Int)) = true := by simp only [decide_eq_true_eq, decide_eq_false_iff_not]; omega
      clear h1
      go_enter Tryz.func48, Tryz.ntmps48
      go_wp2_with fail
      go_quiet (fail)
      go_wp2_with fail
      refine (idright_any a b _).mono ?_
      rintro r w1 ⟨rfl, hb1⟩
      rw [hid.out]
      obtain ⟨c0, c1, c2, c3, c4, c5⟩ := (hW.drewN nq).below hb1
      have hbl : Below w.heap.size w w1 := (below_drewN (below1 w _) nq).trans (hb1.mono (by simp))
      go_wp2
      go_ret
      exact ⟨by rw [hr.out]; rfl, hbl⟩
    · by_cases h2 : 300 < e.size
      · have hr := Lib.hid (show wrightC 4 true d.size e.size f = 4 by unfold wrightC; rw [if_neg (by omega), if_neg (by simp), if_pos (by omega)])
        have s0 : decide (40 < d.size) = false := by simp only [decide_eq_true_eq, decide_eq_false_iff_not]; omega
        have t0 : decide (40 < (d.size : Int)) = false := by simp only [decide_eq_true_eq, decide_eq_false_iff_not]; omega
        have s1 : decide (300 < e.size) = true := by simp only [decide_eq_true_eq, decide_eq_false_iff_not]; omega
        have t1 : decide (300 < (e.size : Int)) = true := by simp only [decide_eq_true_eq, decide_eq_false_iff_not]; omega
        clear h1 h2
        go_enter Tryz.func48, Tryz.ntmps48
        go_wp2_with fail
        go_quiet (fail)
        go_wp2_with fail
        refine (idright_any a b _).mono ?_
        rintro r w1 ⟨rfl, hb1⟩
        rw [hid.out]
        obtain ⟨c0, c1, c2, c3, c4, c5⟩ := (hW.drewN nq).below hb1
        have hbl : Below w.heap.size w w1 := (below_drewN (below1 w _) nq).trans (hb1.mono (by simp))
        go_wp2
        go_ret
        exact ⟨by rw [hr.out]; rfl, hbl⟩
      · have hz := str_empty' e
        have s0 : decide (40 < d.size) = false := by simp only [decide_eq_true_eq, decide_eq_false_iff_not]; omega
        have t0 : decide (40 < (d.size : Int)) = false := by simp only [decide_eq_true_eq, decide_eq_false_iff_not]; omega
        have s1 : decide (300 < e.size) = false := by simp only [decide_eq_true_eq, decide_eq_false_iff_not]; omega
        have t1 : decide (300 < (e.size : Int)) = false := by simp only [decide_eq_true_eq, decide_eq_false_iff_not]; omega
        have HZ := Lib.hid hz
        clear hz
        by_cases h4 : f < 0
        · skip
          have hr := Lib.hid (show wrightC 4 true d.size e.size f = 2 by unfold wrightC; rw [if_neg (by omega), if_neg (by simp), if_neg (by omega), if_neg (by omega), if_pos (by omega)])
          have q0 : decide (f < 0) = true := by simp only [decide_eq_true_eq, decide_eq_false_iff_not]; omega
          clear h1 h2 h4
          go_enter Tryz.func48, Tryz.ntmps48
          go_wp2_with fail
          go_quiet (fail)
          go_wp2_with fail
          refine (idright_any a b _).mono ?_
          rintro r w1 ⟨rfl, hb1⟩
          rw [hid.out]
          obtain ⟨c0, c1, c2, c3, c4, c5⟩ := (hW.drewN nq).below hb1
          have hbl : Below w.heap.size w w1 := (below_drewN (below1 w _) nq).trans (hb1.mono (by simp))
          go_wp2
          go_ret
          exact ⟨by rw [hr.out]; rfl, hbl⟩
        · by_cases h5 : 1000 < f
          · skip
            have hr := Lib.hid (show wrightC 4 true d.size e.size f = 2 by unfold wrightC; rw [if_neg (by omega), if_neg (by simp), if_neg (by omega), if_neg (by omega), if_pos (by omega)])
            have q0 : decide (f < 0) = false := by simp only [decide_eq_true_eq, decide_eq_false_iff_not]; omega
            have q1 : decide (1000 < f) = true := by simp only [decide_eq_true_eq, decide_eq_false_iff_not]; omega
            clear h1 h2 h4 h5
            go_enter Tryz.func48, Tryz.ntmps48
            go_wp2_with fail
            go_quiet (fail)
            go_wp2_with fail
            refine (idright_any a b _).mono ?_
            rintro r w1 ⟨rfl, hb1⟩
            rw [hid.out]
            obtain ⟨c0, c1, c2, c3, c4, c5⟩ := (hW.drewN nq).below hb1
            have hbl : Below w.heap.size w w1 := (below_drewN (below1 w _) nq).trans (hb1.mono (by simp))
            go_wp2
            go_ret
            exact ⟨by rw [hr.out]; rfl, hbl⟩
          · skip
            have hr := Lib.hid (show wrightC 4 true d.size e.size f = 0 by unfold wrightC; rw [if_neg (by omega), if_neg (by simp), if_neg (by omega), if_neg (by omega), if_neg (by omega)])
            have q0 : decide (f < 0) = false := by simp only [decide_eq_true_eq, decide_eq_false_iff_not]; omega
            have q1 : decide (1000 < f) = false := by simp only [decide_eq_true_eq, decide_eq_false_iff_not]; omega
            clear h1 h2 h4 h5
            go_enter Tryz.func48, Tryz.ntmps48
            go_wp2_with fail
            go_quiet (fail)
            go_wp2_with fail
            refine (idright_any a b _).mono ?_
            rintro r w1 ⟨rfl, hb1⟩
            rw [hid.out]
            obtain ⟨c0, c1, c2, c3, c4, c5⟩ := (hW.drewN nq).below hb1
            have hbl : Below w.heap.size w w1 := (below_drewN (below1 w _) nq).trans (hb1.mono (by simp))
            go_wp2
            go_ret
            exact ⟨by rw [hr.out]; rfl, hbl⟩
set_option maxHeartbeats 2000000 in
set_option maxRecDepth 100000 in
theorem wright0 (a b c f : Int) (d e : ByteArray) (w : World) (hc : c < 1 ∨ 4 < c) : Calls Tryz.prog 48 #[wrV a b (c) d e f] w fun r w' => r = .returned (errV (wright (a, b, c, d, e, f))) ∧ Below w.heap.size w w' := by
  rw [wright_is]
  have hW := WrAt.new w a b (c) d e f
  have hr := Lib.hid (show wrightC c (idRight (a, b)) d.size e.size f = 1 by unfold wrightC; rw [if_pos hc])
  have k1 : (c == 1) = false := by rw [beq_eq_false_iff_ne]; omega
  have k3 : (c == 3) = false := by rw [beq_eq_false_iff_ne]; omega
  have k4 : (c == 4) = false := by rw [beq_eq_false_iff_ne]; omega
  by_cases h : c < 1
  · have q0 : decide (c < 1) = true := by simp only [decide_eq_true_eq, decide_eq_false_iff_not]; omega
    clear h hc
    go_enter Tryz.func48, Tryz.ntmps48
    go_wp2_with fail
    go_quiet (fail)
    go_wp2_with fail
    go_ret
    exact ⟨by rw [hr.out]; rfl, below_drewN (below1 w _) nq⟩
  · have q0 : decide (c < 1) = false := by simp only [decide_eq_true_eq, decide_eq_false_iff_not]; omega
    have q1 : decide (4 < c) = true := by simp only [decide_eq_true_eq]; omega
    clear h hc
    go_enter Tryz.func48, Tryz.ntmps48
    go_wp2_with fail
    go_quiet (fail)
    go_wp2_with fail
    go_ret
    exact ⟨by rw [hr.out]; rfl, below_drewN (below1 w _) nq⟩
theorem wright_any (x : Wr) (w : World) : Calls Tryz.prog 48 #[wrV x.1 x.2.1 x.2.2.1 x.2.2.2.1 x.2.2.2.2.1 x.2.2.2.2.2] w fun r w' => r = .returned (errV (wright x)) ∧ Below w.heap.size w w' := by
  obtain ⟨a, b, c, d, e, f⟩ := x
  by_cases h : c < 1 ∨ 4 < c
  · exact wright0 a b c f d e w h
  · rcases (by omega : c = 1 ∨ c = 2 ∨ c = 3 ∨ c = 4) with rfl | rfl | rfl | rfl
    · exact wright1 a b f d e w
    · exact wright2 a b f d e w
    · exact wright3 a b f d e w
    · exact wright4 a b f d e w
end Go.Proofs.YtnaclpfcldoebaaGreatDoor
end
