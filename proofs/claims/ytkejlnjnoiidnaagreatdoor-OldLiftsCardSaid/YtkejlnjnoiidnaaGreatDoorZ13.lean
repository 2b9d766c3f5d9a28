/- What body.Read throws; a reader's check, number, vector and kind. -/
import Derived.Test.YtkejlnjnoiidnaaGreatDoorZ12
import Derived.Test.YtkejlnjnoiidnaaGreatDoorZ11
import Derived.Test.YtkejlnjnoiidnaaGreatDoorZ4
import Derived.Test.YtkejlnjnoiidnaaGreatDoorZ6
set_option linter.unusedSimpArgs false
set_option linter.unusedVariables false
section
namespace Go.Proofs.YtkejlnjnoiidnaaGreatDoor
open Go.RowKit As
abbrev zmp (e p : Int) : Value := .iface 143 (.agg #[.int .i64 e, .int .i64 p])
abbrev zjb (e p : Int) : List PanicEntry := [{ v := zmp e p, recovered := false }]
theorem check_nil (R : Nat) (w : World) : Calls Tryz.prog 106 #[.pointer (some ⟨R, 0, none⟩), .nilIface] w fun e w' => e = .returned (.tuple #[]) ∧ w = w' := by
 go_enter Tryz.func106, Tryz.ntmps106;go_wp2;go_end0;exact ⟨rfl, rfl⟩
def ckV (R : Nat) (v : Value) (e p : Int) (_ : Unit) : Nat → Value
 | 0 => v
 | 1 => .int .i64 e
 | 2 => .pointer (some ⟨R, 0, none⟩)
 | 3 => .pointer (some ⟨R, 0, none⟩)
 | 4 => .pointer (some ⟨R, 1, none⟩)
 | 5 => .int .i64 p
 | 6 => .agg #[.int .i64 e, .int .i64 p]
 | 7 => .agg #[.int .i64 e, .int .i64 p]
 | 8 => zmp e p
 | _ => undef
set_option maxHeartbeats 1000000 in
set_option maxRecDepth 100000 in
theorem zdi {v : Value} {e q : Int} {s : ByteArray} {R p : Nat} {w : World} (h : zbo w v e q) (he : e ≠ 0) (hg : zbh w) (hs : Sc w R s p) :
  Calls Tryz.prog 106 #[.pointer (some ⟨R, 0, none⟩), v] w fun r w' => r = .panicked (zjb e p) ∧ Below w.heap.size w w' := by
 obtain ⟨t, u, rfl⟩ : ∃ t u, v = .iface t u := by
  cases h with
  | none => exact absurd rfl he
  | bare _ _ => exact ⟨_, _, rfl⟩
  | at_ _ _ _ _ _ _ _ => exact ⟨_, _, rfl⟩
 have HE := Lib.hid he;clear he;go_enter Tryz.func106, Tryz.ntmps106;go_wp2_with fail;obtain ⟨c0, c1, f1⟩ := hs;refine Flow.zhm (by kernel_rfl) (by kernel_rfl) (by kernel_rfl) 15 rfl (by kernel_rfl) (ckV R (.iface t u) e p) (fun _ L wz => Below w.heap.size w wz ∧ L 9 = false) (fun ch wz => ch = zjb e p ∧ Below w.heap.size w wz) () ⟨(Below.refl _ _).drew, rfl⟩ ⟨?_, ?_, ?_, ?_, ?_, ?_, ?_, ?_, ?_, ?_, trivial⟩ ?_ ?_
 ·intro g L wz K ρ hc0 hf0 hF hO hi hd hC hK;have e1 : ρ (.tmp 1) = .iface t u := hO 1 (by kernel_rfl);simp [go_sem, hc0, hf0, e1];exact hK g wz ⟨hC.1, hC.2⟩ (fun _ _ => rfl)
 ·intro g L wz K ρ hc0 hf0 hF hO hi hd hC hK;have d0 : L 0 = true := hd ⟨0, .data⟩ (by simp) rfl;have e6 : ρ (.tmp 6) = .iface t u := hF 6 0 (by kernel_rfl) d0;simp [go_sem, hc0, hf0, e6];refine (zde (h.below hC.1) (hg.below hC.1)).mono ?_;rintro r wn ⟨rfl, hbn⟩;exact .inl ⟨_, rfl, hK g wn ⟨hC.1.trans (hbn.mono hC.1.size), hC.2⟩ (fun _ _ => rfl)⟩
 ·intro g L wz K ρ hc0 hf0 hF hO hi hd hC hK;have e0 : ρ (.tmp 0) = .pointer (some ⟨R, 0, none⟩) := hO 0 (by kernel_rfl);simp [go_sem, hc0, hf0, e0];exact hK g wz ⟨hC.1, hC.2⟩ (fun _ _ => rfl)
 ·intro g L wz K ρ hc0 hf0 hF hO hi hd hC hK;have d2 : L 2 = true := hd ⟨2, .data⟩ (by simp) rfl;have e8 : ρ (.tmp 8) = .pointer (some ⟨R, 0, none⟩) := hF 8 2 (by kernel_rfl) d2;simp [go_sem, hc0, hf0, e8];exact hK g wz ⟨hC.1, hC.2⟩ (fun _ _ => rfl)
 ·intro g L wz K ρ hc0 hf0 hF hO hi hd hC hK;have d3 : L 3 = true := hd ⟨3, .data⟩ (by simp) rfl;have e9 : ρ (.tmp 9) = .pointer (some ⟨R, 0, none⟩) := hF 9 3 (by kernel_rfl) d3;simp [go_sem, hc0, hf0, e9];exact hK g wz ⟨hC.1, hC.2⟩ (fun _ _ => rfl)
 ·intro g L wz K ρ hc0 hf0 hF hO hi hd hC hK;have d4 : L 4 = true := hd ⟨4, .data⟩ (by simp) rfl;have e10 : ρ (.tmp 10) = .pointer (some ⟨R, 1, none⟩) := hF 10 4 (by kernel_rfl) d4;have cc := (hC.1.cell (cell_lt c1)).trans c1;simp [go_sem, hc0, hf0, e10, cc];exact hK g wz ⟨hC.1, hC.2⟩ (fun _ _ => rfl)
 ·intro g L wz K ρ hc0 hf0 hF hO hi hd hC hK;have d1 : L 1 = true := hd ⟨1, .data⟩ (by simp) rfl;have e7 : ρ (.tmp 7) = .int .i64 e := hF 7 1 (by kernel_rfl) d1;have d5 : L 5 = true := hd ⟨5, .data⟩ (by simp) rfl;have e11 : ρ (.tmp 11) = .int .i64 (p : Int) := hF 11 5 (by kernel_rfl) d5;simp [go_sem, hc0, hf0, e7, e11];exact hK g wz ⟨hC.1, hC.2⟩ (fun _ _ => rfl)
 ·intro g L wz K ρ hc0 hf0 hF hO hi hd hC hK;have d6 : L 6 = true := hd ⟨6, .data⟩ (by simp) rfl;have e12 : ρ (.tmp 12) = .agg #[.int .i64 e, .int .i64 (p : Int)] := hF 12 6 (by kernel_rfl) d6;simp [go_sem, hc0, hf0, e12];exact hK g wz ⟨hC.1, hC.2⟩ (fun _ _ => rfl)
 ·intro g L wz K ρ hc0 hf0 hF hO hi hd hC hK;have d7 : L 7 = true := hd ⟨7, .data⟩ (by simp) rfl;have e13 : ρ (.tmp 13) = .agg #[.int .i64 e, .int .i64 (p : Int)] := hF 13 7 (by kernel_rfl) d7;simp [go_sem, hc0, hf0, e13];exact hK g wz ⟨hC.1, hC.2⟩ (fun _ _ => rfl)
 ·intro g L wz K ρ hc0 hf0 hF hO hi hd hC hK;have d8 : L 8 = true := hd ⟨8, .data⟩ (by simp) rfl;have e14 : ρ (.tmp 14) = zmp e (p : Int) := hF 14 8 (by kernel_rfl) d8;simp [go_sem, hc0, hf0, e14];exact hC.1
 ·rintro g L ch wz ⟨rfl, hb⟩;exact ⟨rfl, rfl, hb⟩
 ·intro g L wz hL hC;have := hL 9 (by decide);rw [hC.2] at this;cases this
set_option maxHeartbeats 1000000 in
set_option maxRecDepth 100000 in
theorem zgf (s : ByteArray) (p R : Nat) (most : Int) (w : World) (hs : s.size ≤ 1000000) (hp : p ≤ s.size) (hm : most ≤ 9223372036854775807) (hg : zbh w) (h : Sc w R s p) :
  Calls Tryz.prog 104 #[.pointer (some ⟨R, 0, none⟩), .int .i64 most] w fun r w' => ∃ (q n k : Nat) (e : Int), vat s p most = (n, k, e) ∧
   (e = 0 ∧ (n : Int) ≤ most ∧ 0 < k ∧ k ≤ 10 ∧ p + k ≤ s.size ∧ r = .returned (.int .i64 (n : Int)) ∧ w' = (w.drewN q).setCell ⟨R, 1, none⟩ (.int .i64 ((p + k : Nat) : Int)) ∨
   e ≠ 0 ∧ r = .panicked (zjb e p) ∧ Below w.heap.size w w') := by
 have HS := h;obtain ⟨c0, c1, f1⟩ := h;obtain ⟨n, k, e, ha, hx⟩ := zdz s p most;have hl : (s.extract p s.size).size ≤ maxLen := by rw [ByteArray.size_extract]; unfold maxLen; omega
 have hv := Lib.hid (show vint (s.extract p s.size).data.toList most = (n, k, e) from ha);have HA := Lib.hid ha;have i1 : (0 : Int) ≤ (p : Int) := by omega
 have i2 : (p : Int) ≤ (s.size : Int) := by omega
 clear ha;go_enter Tryz.func104, Tryz.ntmps104;go_wp2_with fail;go_quiet ((go_at_call_of 66 (Value.int IntKind.i64 most); exact Calls.quiet_of_same ((zdn _ most _ hl hm).mono fun _ _ ⟨a, b⟩ => ⟨by rw [a, hv.out], b.symm⟩)))
 simp only;rcases hx with ⟨rfl, x1, x2, x3, x4⟩ | ⟨he, rfl, rfl⟩
 ·have w1 : IntKind.i64.wrap ((p : Int) + (k : Int)) = ((p + k : Nat) : Int) := IntWalk.i64_in _ (by omega);rw [zak];go_wp2_with fail;refine (check_nil R _).mono ?_;rintro r w' ⟨rfl, rfl⟩;go_wp2;go_ret;refine ⟨nq, n, k, 0, HA.out, .inl ⟨rfl, x1, x2, x3, x4, rfl, by rw [show ((p : Int) + (k : Int)) = ((p + k : Nat) : Int) by omega]⟩⟩
 ·have HE := Lib.hid he;have bq := below_drewN (Below.refl w.heap.size w) nq;go_wp2_with fail;refine (zdi (zfz _ e) he (hg.below bq) (HS.drewN nq)).mono ?_;rintro r w' ⟨rfl, hb⟩;go_wp2;exact ⟨rfl, nq, 0, 0, e, HA.out, .inr ⟨HE.out, rfl, bq.trans hb⟩⟩
end Go.Proofs.YtkejlnjnoiidnaaGreatDoor
end

section
namespace Go.Proofs.YtkejlnjnoiidnaaGreatDoor
open Go.RowKit As
def zpx (s : ByteArray) (R p : Nat) (w : World) (r : Ending) (w' : World) : Prop :=
 (s.size ≤ p ∧ r = .panicked (zjb 7 p) ∧ Below w.heap.size w w') ∨
 (p < s.size ∧ (byteOf s p < 1 ∨ 4 < byteOf s p) ∧ r = .panicked (zjb 1 p) ∧ Below w.heap.size w w') ∨
 (p < s.size ∧ ¬ (byteOf s p < 1 ∨ 4 < byteOf s p) ∧ r = .returned (.int .i64 (byteOf s p : Int)) ∧ ∃ q, w' = (w.drewN q).setCell ⟨R, 1, none⟩ (.int .i64 ((p + 1 : Nat) : Int)))
set_option maxHeartbeats 1000000 in
set_option maxRecDepth 100000 in
theorem ygd (s : ByteArray) (p R : Nat) (w : World) (hs : s.size ≤ 1000000) (hp : p ≤ s.size) (hg : zbh w) (h : Sc w R s p) :
  Calls Tryz.prog 107 #[.pointer (some ⟨R, 0, none⟩)] w fun r w' => zpx s R p w r w' := by
 have HS := h;obtain ⟨c0, c1, f1⟩ := h;by_cases hend : s.size ≤ p
 ·have d0 : ((p : Int) == (s.size : Int)) = true := by rw [beq_iff_eq]; omega
  go_enter Tryz.func107, Tryz.ntmps107;go_wp2_with fail;go_quiet (fail)
  have bq := below_drewN (Below.refl w.heap.size w) nq;go_wp2_with fail;refine (zdi (.bare 7 (by omega)) (by omega) (hg.below bq) (HS.drewN nq)).mono ?_;rintro r w' ⟨rfl, hb⟩;go_wp2;exact ⟨rfl, .inl ⟨hend, rfl, bq.trans hb⟩⟩
 ·have hlt : p < s.size := by omega
  have d0 : ((p : Int) == (s.size : Int)) = false := by rw [beq_eq_false_iff_ne]; omega
  have i1 : (p : Int) < (s.size : Int) := by omega
  have i0 : (0 : Int) ≤ (p : Int) := by omega
  have hB := zdv s p hlt;have hB' : ((s[p].toNat : Nat) : Int) = (byteOf s p : Int) := by rw [← hB]
  have hlB := zhn s p;have HK : Hid (zpx s R p = zpx s R p) := Lib.hid rfl;obtain ⟨K, hK⟩ : ∃ K, K = byteOf s p := ⟨_, rfl⟩;have HKB := Lib.hid hK;rw [← hK] at hB hB' hlB;have wK : IntKind.i64.wrap (K : Int) = (K : Int) := IntWalk.i64_in _ (by omega);clear hK;by_cases h1 : K < 1
  ·have t1 : decide ((K : Int) < 1) = true := decide_eq_true (by omega);have t1' : decide (K < 1) = true := decide_eq_true (by omega);have H1 := Lib.hid h1;clear h1;go_enter Tryz.func107, Tryz.ntmps107;go_wp2_with fail;go_quiet (fail)
   have b1 := below_drewN (Below.refl w.heap.size w) nq;have g1 := hg.below b1;have HS1 := HS.drewN nq;obtain ⟨QQ, hQQ⟩ : ∃ x, x = nq := ⟨_, rfl⟩;subst hQQ;obtain ⟨k0, k1, k2⟩ := HS1;go_wp2_with fail;go_quiet (fail)
   have bq := below_drewN (Below.refl w.heap.size w) (QQ + nq);have HSq := HS.drewN (QQ + nq);try rw [hB']
   go_wp2_with fail;refine (zdi (.bare 1 (by omega)) (by omega) (hg.below bq) HSq).mono ?_;rintro r w' ⟨rfl, hb⟩;go_wp2;exact ⟨rfl, .inr (.inl ⟨hlt, .inl (by rw [← HKB.out]; exact H1.out), rfl, bq.trans hb⟩)⟩
  ·have t1 : decide ((K : Int) < 1) = false := decide_eq_false (by omega);have t1' : decide (K < 1) = false := decide_eq_false (by omega);have H0 := Lib.hid h1;by_cases h4 : 4 < K
   ·have t2 : decide ((4 : Int) < (K : Int)) = true := decide_eq_true (by omega);have t2' : decide (4 < K) = true := decide_eq_true (by omega);have H1 := Lib.hid h4;clear h1 h4;go_enter Tryz.func107, Tryz.ntmps107;go_wp2_with fail;go_quiet (fail)
    have b1 := below_drewN (Below.refl w.heap.size w) nq;have g1 := hg.below b1;have HS1 := HS.drewN nq;obtain ⟨QQ, hQQ⟩ : ∃ x, x = nq := ⟨_, rfl⟩;subst hQQ;obtain ⟨k0, k1, k2⟩ := HS1;go_wp2_with fail;go_quiet (fail)
    have bq := below_drewN (Below.refl w.heap.size w) (QQ + nq);have HSq := HS.drewN (QQ + nq);try rw [hB']
    go_wp2_with fail;refine (zdi (.bare 1 (by omega)) (by omega) (hg.below bq) HSq).mono ?_;rintro r w' ⟨rfl, hb⟩;go_wp2;exact ⟨rfl, .inr (.inl ⟨hlt, .inr (by rw [← HKB.out]; exact H1.out), rfl, bq.trans hb⟩)⟩
   ·have t2 : decide ((4 : Int) < (K : Int)) = false := decide_eq_false (by omega);have t2' : decide (4 < K) = false := decide_eq_false (by omega);have H1 := Lib.hid (show ¬ (byteOf s p < 1 ∨ 4 < byteOf s p) by rw [← HKB.out]; omega);have w1 : IntKind.i64.wrap ((p : Int) + 1) = ((p + 1 : Nat) : Int) := IntWalk.i64_in _ (by omega);clear h1 h4;go_enter Tryz.func107, Tryz.ntmps107;go_wp2_with fail;go_quiet (fail)
    have b1 := below_drewN (Below.refl w.heap.size w) nq;have g1 := hg.below b1;have HS1 := HS.drewN nq;obtain ⟨QQ, hQQ⟩ : ∃ x, x = nq := ⟨_, rfl⟩;subst hQQ;obtain ⟨k0, k1, k2⟩ := HS1;go_wp2_with fail;go_quiet (fail)
    have bq := below_drewN (Below.refl w.heap.size w) (QQ + nq);have HSq := HS.drewN (QQ + nq);try rw [hB']
    obtain ⟨l0, l1, l2⟩ := HSq;go_wp2;go_ret;show zpx s R p w (.returned (.int .i64 (K : Int))) _;exact .inr (.inr ⟨hlt, H1.out, by rw [HKB.out], QQ + nq, by first | rfl | (rw [World.drewN_drewN])⟩)
end Go.Proofs.YtkejlnjnoiidnaaGreatDoor
end

section
namespace Go.Proofs.YtkejlnjnoiidnaaGreatDoor.Flow
open Go
section
variable {P : Program} {ops : Array Oper} {Q : Exit → Act → World → Prop} {Z : List PanicEntry → World → Prop}
def lexG (ops : Array Oper) : Bool := (List.range ops.size).all fun i => match ops[i]? with
 | some o => o.guard.isNone && o.after.toList.all fun e => !Region.binds .any e || decide (e.on < i)
 | none => true
theorem zus (h : lexG ops = true) {i : Nat} {o : Oper} (ho : ops[i]? = some o) : o.guard = none ∧ ∀ e ∈ o.after, Region.binds .any e = true → e.on < i := by
 have hi := (Array.getElem?_eq_some_iff.1 ho).1;have := List.all_eq_true.1 h i (List.mem_range.2 hi);rw [ho] at this;simp only [Bool.and_eq_true, Option.isNone_iff_eq_none] at this;refine ⟨this.1, fun e he hb => ?_⟩;have h2 := List.all_eq_true.1 this.2 e (by simpa using he);rw [hb] at h2;simpa using h2
theorem zqp (hlex : lexG ops = true) {L : Array Bool} (hs : L.size = ops.size) (h : Region.ready .any ops L = []) (i : Nat) : i < ops.size → L.getD i false = true := by
 induction i using Nat.strongRecOn with
 | ind i ih =>
  intro hi;rcases hb : L.getD i false with _ | _
  ·exfalso;have hm : i ∈ Region.ready .any ops L := mem_ready.2 ⟨by rw [getD_in (by omega) true false]; exact hb, ops[i], Array.getElem?_eq_getElem hi, fun e he hbe => ih e.on ((zus hlex (Array.getElem?_eq_getElem hi)).2 e he hbe) (by have := (zus hlex (Array.getElem?_eq_getElem hi)).2 e he hbe; omega)⟩;rw [h] at hm;cases hm
  ·rfl
def Closed (ops : Array Oper) (L : Nat → Bool) : Prop := ∀ i o, ops[i]? = some o → L i = true → ∀ e ∈ o.after, Region.binds .any e = true → L e.on = true
def reach (ops : Array Oper) : Nat → Nat → Nat → Bool
 | 0, i, j => i == j
 | f + 1, i, j => i == j || match ops[i]? with
  | some o => o.after.toList.any fun e => Region.binds .any e && reach ops f e.on j
  | none => false
theorem Closed.reach {L : Nat → Bool} (h : Closed ops L) : ∀ (f i j : Nat), reach ops f i j = true → L i = true → L j = true := by
 intro f;induction f with
 | zero => intro i j hr hl; rw [beq_iff_eq.1 hr] at hl; exact hl
 | succ f ih =>
  intro i j hr hl;unfold Flow.reach at hr;rcases Bool.or_eq_true_iff.1 hr with hr | hr
  ·rw [beq_iff_eq.1 hr] at hl; exact hl
  ·cases ho : ops[i]? with
   | none => rw [ho] at hr; cases hr
   | some o =>
    rw [ho] at hr;simp only [List.any_eq_true, Bool.and_eq_true] at hr;obtain ⟨e, he, hb, hr⟩ := hr;exact ih _ _ hr (h i o ho hl e (by simpa using he) hb)
def yof {G : Type} (P : Program) (ops : Array Oper) (a0 : Act) (v : G → Nat → Value) (C : G → (Nat → Bool) → World → Prop) (Z : List PanicEntry → World → Prop) (i : Nat) (o : Oper) : Prop :=
 ∀ (g : G) (L : Nat → Bool) (w : World) (K : Value → World → Prop) (ρ : Operand → Value),
  (∀ x, ρ (.const x) = x) → (∀ f, ρ (.func f) = .func (.func f) #[] #[]) → (∀ t j, who ops t = some j → L j = true → ρ (.tmp t) = v g j) → (∀ t, who ops t = none → ρ (.tmp t) = a0.eval (.tmp t)) →
  (∀ t j, who ops t = some j → L j = false → ρ (.tmp t) = a0.eval (.tmp t)) →
  (∀ i j, reach ops ops.size i j = true → L i = true → L j = true) →
  L i = false → (∀ e ∈ o.after, Region.binds .any e = true → L e.on = true) → C g L w →
  (∀ g' w', C g' (fun j => j == i || L j) w' → (∀ j, L j = true → v g' j = v g j) → K (v g' i) w') → YlP P Z K ((execOp ρ o).run P w)
theorem zan {G : Type} {id : Nat} {l : List Oper} {a0 : Act} {w0 : World} (hm : P.follows .mixedOrders = true) (hlex : lexG l.toArray = true) (hok : okB l.toArray = true) (n : Nat) (hn : a0.tmps.size = n) (hfit : fitB l.toArray n = true)
  (v : G → Nat → Value) (C : G → (Nat → Bool) → World → Prop) (Z : List PanicEntry → World → Prop) (g0 : G) (h0 : C g0 (fun _ => false) w0.drew)
  (hstep : Steps (yof P l.toArray a0 v C Z) 0 l) (hthrow : ∀ g L ch w, Z ch w → Q (.panic ch) (frame l.toArray a0 (v g) L) w)
  (hdone : ∀ g L w, (∀ i, i < l.length → L i = true) → C g L w → Q .normal (zbs (v g) 0 l a0) w) :
  (Code.region id l.toArray true).wp P Q a0 w0 := by
 refine wp_region_any hm ?_;refine zkg (fun L a w => ∃ g, a = frame l.toArray a0 (v g) (fun i => L.getD i false) ∧ Closed l.toArray (fun i => L.getD i false) ∧ C g (fun i => L.getD i false) w) ?_ ?_ _ _ _ _ (by simp) ?_ ?_
 ·rintro L a w i o hs ⟨g, rfl, hcl, hC⟩ ho hi hd;have hst := hstep.at_ (i := i) (o := o) (by simpa using ho);rw [Nat.zero_add] at hst;have hin : i < L.size := by rw [hs]; exact (Array.getElem?_eq_some_iff.1 ho).1
  have hi' : L.getD i false = false := by rw [getD_in hin false true]; exact hi
  have hfun : (fun j => (L.setIfInBounds i true).getD j false) = fun j => j == i || L.getD j false := by
   funext j;by_cases hj : j = i
   ·subst hj;simp [Array.getD, hin]
   ·have hb : (j == i) = false := by simpa using hj
    rw [hb, Bool.false_or];simp only [Array.getD_eq_getD_getElem?, Array.getElem?_setIfInBounds];rw [if_neg (fun e => hj e.symm)]
  unfold wpOp;rw [ho];simp only;rw [if_pos (by simp [Region.wanted, (zus hlex ho).1])];refine .inl (YlP.upon (hst g _ w (fun u w' => ∃ g', u = v g' i ∧ C g' (fun j => j == i || L.getD j false) w' ∧ ∀ j, L.getD j false = true → v g' j = v g j) _ (fun _ => rfl) (fun _ => rfl) (fun t j h1 h2 => zkd h1 (by rw [hn]; exact zxd hfit h1) h2) (fun t h1 => zjs h1) (fun t j h1 h2 => zrq h1 h2) (fun i j => hcl.reach _ i j) hi' hd hC (fun g' w' h1 h2 => ⟨g', rfl, h1, h2⟩)) ?_ (fun ch w' hz => hthrow g _ ch w' hz));rintro u w' ⟨g', rfl, hC', hv⟩;refine ⟨g', ?_, ?_, ?_⟩
  ·rw [hfun]; exact zho hok ho hv
  ·rw [hfun];intro j oj hoj hlj e he hb;simp only [Bool.or_eq_true, beq_iff_eq] at hlj ⊢;rcases hlj with rfl | hlj
   ·rw [ho] at hoj;injection hoj with hoj
    subst hoj;exact .inr (hd e he hb)
   ·exact .inr (hcl j oj hoj hlj e he hb)
  ·rw [hfun]; exact hC'
 ·rintro L a w hs ⟨g, rfl, _, hC⟩ hr;have hall := zqp hlex hs hr;rw [zhl hall, zil hok];exact hdone g _ w (fun i hi => hall i (by simpa using hi)) hC
 ·have hz : (fun i => (Array.replicate l.toArray.size false).getD i false) = fun _ => false := by
   funext i;simp [Array.getD]
  refine ⟨g0, ?_, ?_, ?_⟩
  ·rw [hz, zga]
  ·rw [hz]; intro i o _ h; cases h
  ·rw [hz]; exact h0
 ·unfold left;simp only [Array.toList_replicate];exact Nat.le_trans List.countP_le_length (by simp)
end
end Go.Proofs.YtkejlnjnoiidnaaGreatDoor.Flow
end

section
namespace Go.Proofs.YtkejlnjnoiidnaaGreatDoor
open Go.RowKit As
def rvV (R : Nat) (s : ByteArray) (p n : Nat) (e : Int) (g : Value) : Nat → Value
 | 0 => .pointer (some ⟨R, 0, none⟩)
 | 1 => .pointer (some ⟨R, 0, none⟩)
 | 2 => .pointer (some ⟨R, 0, none⟩)
 | 3 => .string s
 | 4 => .pointer (some ⟨R, 0, none⟩)
 | 5 => .pointer (some ⟨R, 0, none⟩)
 | 6 => .pointer (some ⟨R, 1, none⟩)
 | 7 => .int .i64 (p : Int)
 | 8 => .string (s.extract p s.size)
 | 9 => .tuple #[g, .int .i64 (n : Int), errV e]
 | 10 => .tuple #[g, .int .i64 (n : Int), errV e]
 | 11 => g
 | 12 => .int .i64 (n : Int)
 | 13 => errV e
 | 14 => g
 | 15 => .int .i64 (n : Int)
 | 16 => errV e
 | _ => undef
def ydo (s : ByteArray) (R p : Nat) (w : World) (r : Ending) (w' : World) : Prop :=
  ∃ (l : List Ent) (n : Nat) (e : Int), zbj (s.extract p s.size) = (l, n, e) ∧
    (e = 0 ∧ p + n ≤ s.size ∧ (∃ v w1, r = .returned v ∧ w1.ownsRow w.heap.size 79 2 v l.length (entV l) ∧ Below w.heap.size w w1 ∧ w' = w1.setCell ⟨R, 1, none⟩ (.int .i64 ((p + n : Nat) : Int))) ∨
     e ≠ 0 ∧ r = .panicked (zjb e p) ∧ Below w.heap.size w w')
set_option maxHeartbeats 1000000 in
set_option maxRecDepth 100000 in
theorem zpi (s : ByteArray) (p R : Nat) (w : World) (hs : s.size ≤ 1000000) (hp : p ≤ s.size) (hg : zbh w) (h : Sc w R s p) :
  Calls Tryz.prog 103 #[.pointer (some ⟨R, 0, none⟩)] w fun r w' => ydo s R p w r w' := by
 have HS := h;obtain ⟨c0, c1, f1⟩ := h;obtain ⟨⟨l, n, e⟩, hv⟩ : ∃ x, zbj (s.extract p s.size) = x := ⟨_, rfl⟩;have hl : (s.extract p s.size).size ≤ 1000000 := by rw [ByteArray.size_extract]; omega
 have hn : p + n ≤ s.size := by
  have h2 := zmb (s.extract p s.size);rw [hv, ByteArray.size_extract] at h2;simp only at h2;omega
 have HV := Lib.hid hv;have i1 : (0 : Int) ≤ (p : Int) := by omega
 have i2 : (p : Int) ≤ (s.size : Int) := by omega
 clear hv;go_enter Tryz.func103, Tryz.ntmps103;go_wp2_with fail;refine Flow.zan (by kernel_rfl) (by kernel_rfl) (by kernel_rfl) 32 rfl (by kernel_rfl) (rvV R s p n e) (fun g L wz => Below w.heap.size w wz ∧ (L 9 = true → wz.ownsRow w.heap.size 79 2 g l.length (entV l))) (fun _ _ => False) (undef) (⟨(Below.refl _ _).drew, fun h => by cases h⟩) ⟨?_, ?_, ?_, ?_, ?_, ?_, ?_, ?_, ?_, ?_, ?_, ?_, ?_, ?_, ?_, ?_, ?_, trivial⟩ ?_ ?_
 ·intro g L wz K ρ hc0 hf0 hF hO hU hcl hi hd hC hK;have e0 : ρ (.tmp 0) = .pointer (some ⟨R, 0, none⟩) := hO 0 (by kernel_rfl);simp [go_sem, hc0, hf0, e0];exact hK g wz hC (fun _ _ => rfl)
 ·intro g L wz K ρ hc0 hf0 hF hO hU hcl hi hd hC hK;have d0 : L 0 = true := hd ⟨0, .data⟩ (by simp) rfl;have e7 : ρ (.tmp 7) = .pointer (some ⟨R, 0, none⟩) := hF 7 0 (by kernel_rfl) d0;simp [go_sem, hc0, hf0, e7];exact hK g wz hC (fun _ _ => rfl)
 ·intro g L wz K ρ hc0 hf0 hF hO hU hcl hi hd hC hK;have d1 : L 1 = true := hd ⟨1, .data⟩ (by simp) rfl;have e8 : ρ (.tmp 8) = .pointer (some ⟨R, 0, none⟩) := hF 8 1 (by kernel_rfl) d1;simp [go_sem, hc0, hf0, e8];exact hK g wz hC (fun _ _ => rfl)
 ·intro g L wz K ρ hc0 hf0 hF hO hU hcl hi hd hC hK;have d2 : L 2 = true := hd ⟨2, .data⟩ (by simp) rfl;have e9 : ρ (.tmp 9) = .pointer (some ⟨R, 0, none⟩) := hF 9 2 (by kernel_rfl) d2;have cc := (hC.1.cell (cell_lt c0)).trans c0;simp [go_sem, hc0, hf0, e9, cc];exact hK g wz hC (fun _ _ => rfl)
 ·intro g L wz K ρ hc0 hf0 hF hO hU hcl hi hd hC hK;have e0 : ρ (.tmp 0) = .pointer (some ⟨R, 0, none⟩) := hO 0 (by kernel_rfl);simp [go_sem, hc0, hf0, e0];exact hK g wz hC (fun _ _ => rfl)
 ·intro g L wz K ρ hc0 hf0 hF hO hU hcl hi hd hC hK;have d4 : L 4 = true := hd ⟨4, .data⟩ (by simp) rfl;have e11 : ρ (.tmp 11) = .pointer (some ⟨R, 0, none⟩) := hF 11 4 (by kernel_rfl) d4;simp [go_sem, hc0, hf0, e11];exact hK g wz hC (fun _ _ => rfl)
 ·intro g L wz K ρ hc0 hf0 hF hO hU hcl hi hd hC hK;have d5 : L 5 = true := hd ⟨5, .data⟩ (by simp) rfl;have e12 : ρ (.tmp 12) = .pointer (some ⟨R, 0, none⟩) := hF 12 5 (by kernel_rfl) d5;simp [go_sem, hc0, hf0, e12];exact hK g wz hC (fun _ _ => rfl)
 ·intro g L wz K ρ hc0 hf0 hF hO hU hcl hi hd hC hK;have d6 : L 6 = true := hd ⟨6, .data⟩ (by simp) rfl;have e13 : ρ (.tmp 13) = .pointer (some ⟨R, 1, none⟩) := hF 13 6 (by kernel_rfl) d6;have cc := (hC.1.cell (cell_lt c1)).trans c1;simp [go_sem, hc0, hf0, e13, cc];exact hK g wz hC (fun _ _ => rfl)
 ·intro g L wz K ρ hc0 hf0 hF hO hU hcl hi hd hC hK;have d3 : L 3 = true := hd ⟨3, .data⟩ (by simp) rfl;have e10 : ρ (.tmp 10) = .string s := hF 10 3 (by kernel_rfl) d3;have d7 : L 7 = true := hd ⟨7, .data⟩ (by simp) rfl;have e14 : ρ (.tmp 14) = .int .i64 (p : Int) := hF 14 7 (by kernel_rfl) d7;simp [go_sem, hc0, hf0, e10, e14, i1, i2];exact hK g wz hC (fun _ _ => rfl)
 ·intro g L wz K ρ hc0 hf0 hF hO hU hcl hi hd hC hK;have d8 : L 8 = true := hd ⟨8, .data⟩ (by simp) rfl;have e15 : ρ (.tmp 15) = .string (s.extract p s.size) := hF 15 8 (by kernel_rfl) d8;simp [go_sem, hc0, hf0, e15];refine (zvn (s.extract p s.size) wz hl (hg.below hC.1)).mono ?_;rintro r wn ⟨v1, rfl, hT, hbn⟩;rw [HV.out] at hT ⊢;exact ⟨_, rfl, hK v1 wn ⟨hC.1.trans (hbn.mono hC.1.size), fun _ => zei hT hC.1.size⟩ (by intro j hj; unfold rvV; split <;> first | rfl | (rw [hi] at hj; cases hj) | (have hz := hcl _ 9 (by kernel_rfl) hj; rw [hi] at hz; cases hz))⟩
 ·intro g L wz K ρ hc0 hf0 hF hO hU hcl hi hd hC hK;have d9 : L 9 = true := hd ⟨9, .data⟩ (by simp) rfl;have e16 : ρ (.tmp 16) = .tuple #[g, .int .i64 (n : Int), errV e] := hF 16 9 (by kernel_rfl) d9;simp [go_sem, hc0, hf0, e16];exact hK g wz hC (fun _ _ => rfl)
 ·intro g L wz K ρ hc0 hf0 hF hO hU hcl hi hd hC hK;have d10 : L 10 = true := hd ⟨10, .data⟩ (by simp) rfl;have e6 : ρ (.tmp 6) = .tuple #[g, .int .i64 (n : Int), errV e] := hF 6 10 (by kernel_rfl) d10;simp [go_sem, hc0, hf0, e6];exact hK g wz hC (fun _ _ => rfl)
 ·intro g L wz K ρ hc0 hf0 hF hO hU hcl hi hd hC hK;have d10 : L 10 = true := hd ⟨10, .data⟩ (by simp) rfl;have e6 : ρ (.tmp 6) = .tuple #[g, .int .i64 (n : Int), errV e] := hF 6 10 (by kernel_rfl) d10;simp [go_sem, hc0, hf0, e6];exact hK g wz hC (fun _ _ => rfl)
 ·intro g L wz K ρ hc0 hf0 hF hO hU hcl hi hd hC hK;have d10 : L 10 = true := hd ⟨10, .data⟩ (by simp) rfl;have e6 : ρ (.tmp 6) = .tuple #[g, .int .i64 (n : Int), errV e] := hF 6 10 (by kernel_rfl) d10;simp [go_sem, hc0, hf0, e6];exact hK g wz hC (fun _ _ => rfl)
 ·intro g L wz K ρ hc0 hf0 hF hO hU hcl hi hd hC hK;have d11 : L 11 = true := hd ⟨11, .data⟩ (by simp) rfl;have e17 : ρ (.tmp 17) = g := hF 17 11 (by kernel_rfl) d11;simp [go_sem, hc0, hf0, e17];exact hK g wz hC (fun _ _ => rfl)
 ·intro g L wz K ρ hc0 hf0 hF hO hU hcl hi hd hC hK;have d12 : L 12 = true := hd ⟨12, .data⟩ (by simp) rfl;have e18 : ρ (.tmp 18) = .int .i64 (n : Int) := hF 18 12 (by kernel_rfl) d12;simp [go_sem, hc0, hf0, e18];exact hK g wz hC (fun _ _ => rfl)
 ·intro g L wz K ρ hc0 hf0 hF hO hU hcl hi hd hC hK;have d13 : L 13 = true := hd ⟨13, .data⟩ (by simp) rfl;have e19 : ρ (.tmp 19) = errV e := hF 19 13 (by kernel_rfl) d13;simp [go_sem, hc0, hf0, e19];exact hK g wz hC (fun _ _ => rfl)
 ·intro g L ch wz h; exact h.elim
 ·intro g L wz hL hC;have hb := hC.1;have hT := hC.2 (hL 9 (by decide));clear hL hC;simp only [Flow.zbs, rvV];have HSz := HS.below hb;have gz := hg.below hb;by_cases he : e = 0
  ·subst he;have w1 : IntKind.i64.wrap ((p : Int) + (n : Int)) = ((p + n : Nat) : Int) := IntWalk.i64_in _ (by omega);have HSk := HSz;obtain ⟨k0, k1, k2⟩ := HSz;rw [zak];go_wp2_with fail;refine (check_nil R _).mono ?_;rintro r w' ⟨rfl, rfl⟩;go_wp2;go_ret;exact ⟨l, n, 0, HV.out, .inl ⟨rfl, hn, g, wz, rfl, hT, hb, by rw [show ((p : Int) + (n : Int)) = ((p + n : Nat) : Int) by omega]⟩⟩
  ·have HE := Lib.hid he;go_wp2_with fail;refine (zdi (zfz _ e) he gz HSz).mono ?_;rintro r w' ⟨rfl, hb2⟩;go_wp2;exact ⟨rfl, l, n, e, HV.out, .inr ⟨HE.out, rfl, hb.trans (hb2.mono hb.size)⟩⟩
end Go.Proofs.YtkejlnjnoiidnaaGreatDoor
end

section
namespace Go.Proofs.YtkejlnjnoiidnaaGreatDoor
open Go.RowKit As
structure BT (w : World) (O E : Nat) (v0 v1 v2 ve : Value) : Prop where
 c0 : w.cell? ⟨O, 0, none⟩ = some v0
 c1 : w.cell? ⟨O, 1, none⟩ = some v1
 c2 : w.cell? ⟨O, 2, none⟩ = some v2
 ce : w.cell? ⟨E, 0, none⟩ = some ve
 f0 : w.frozen? ⟨O, 0, none⟩ = false
 f1 : w.frozen? ⟨O, 1, none⟩ = false
 f2 : w.frozen? ⟨O, 2, none⟩ = false
 fe : w.frozen? ⟨E, 0, none⟩ = false
section
variable {w w' : World} {O E B : Nat} {v0 v1 v2 ve : Value}
theorem BT.keep (h : BT w O E v0 v1 v2 ve) (hb : Below B w w') (h1 : O < B) (h2 : E < B) : BT w' O E v0 v1 v2 ve :=
  ⟨(hb.cell (p := ⟨O, 0, none⟩) h1).trans h.c0, (hb.cell (p := ⟨O, 1, none⟩) h1).trans h.c1, (hb.cell (p := ⟨O, 2, none⟩) h1).trans h.c2, (hb.cell (p := ⟨E, 0, none⟩) h2).trans h.ce,
   (hb.frozen (p := ⟨O, 0, none⟩) h1).trans h.f0, (hb.frozen (p := ⟨O, 1, none⟩) h1).trans h.f1, (hb.frozen (p := ⟨O, 2, none⟩) h1).trans h.f2, (hb.frozen (p := ⟨E, 0, none⟩) h2).trans h.fe⟩
theorem BT.below (h : BT w O E v0 v1 v2 ve) (hb : Below w.heap.size w w') : BT w' O E v0 v1 v2 ve := h.keep hb (cell_lt h.c0) (cell_lt h.ce)
theorem BT.drewN (h : BT w O E v0 v1 v2 ve) (q : Nat) : BT (w.drewN q) O E v0 v1 v2 ve := ⟨h.c0, h.c1, h.c2, h.ce, h.f0, h.f1, h.f2, h.fe⟩
theorem BT.drew (h : BT w O E v0 v1 v2 ve) : BT w.drew O E v0 v1 v2 ve := ⟨h.c0, h.c1, h.c2, h.ce, h.f0, h.f1, h.f2, h.fe⟩
theorem BT.set0 (h : BT w O E v0 v1 v2 ve) (hn : O ≠ E) (v : Value) : BT (w.setCell ⟨O, 0, none⟩ v) O E v v1 v2 ve :=
 ⟨World.cell?_setCell_same _ _ _ h.c0, zaw h.c1 (by omega), zaw h.c2 (by omega), zam h.ce hn, by simpa using h.f0, by simpa using h.f1, by simpa using h.f2, by simpa using h.fe⟩
theorem BT.set1 (h : BT w O E v0 v1 v2 ve) (hn : O ≠ E) (v : Value) : BT (w.setCell ⟨O, 1, none⟩ v) O E v0 v v2 ve :=
 ⟨zaw h.c0 (by omega), World.cell?_setCell_same _ _ _ h.c1, zaw h.c2 (by omega), zam h.ce hn, by simpa using h.f0, by simpa using h.f1, by simpa using h.f2, by simpa using h.fe⟩
theorem BT.set2 (h : BT w O E v0 v1 v2 ve) (hn : O ≠ E) (v : Value) : BT (w.setCell ⟨O, 2, none⟩ v) O E v0 v1 v ve :=
 ⟨zaw h.c0 (by omega), zaw h.c1 (by omega), World.cell?_setCell_same _ _ _ h.c2, zam h.ce hn, by simpa using h.f0, by simpa using h.f1, by simpa using h.f2, by simpa using h.fe⟩
theorem BT.setE (h : BT w O E v0 v1 v2 ve) (hn : O ≠ E) (v : Value) : BT (w.setCell ⟨E, 0, none⟩ v) O E v0 v1 v2 v :=
 ⟨zam h.c0 (Ne.symm hn), zam h.c1 (Ne.symm hn), zam h.c2 (Ne.symm hn), World.cell?_setCell_same _ _ _ h.ce, by simpa using h.f0, by simpa using h.f1, by simpa using h.f2, by simpa using h.fe⟩
theorem BT.other (h : BT w O E v0 v1 v2 ve) {C i : Nat} (h1 : C ≠ O) (h2 : C ≠ E) (v : Value) : BT (w.setCell ⟨C, i, none⟩ v) O E v0 v1 v2 ve :=
 ⟨zam h.c0 h1, zam h.c1 h1, zam h.c2 h1, zam h.ce h2, by simpa using h.f0, by simpa using h.f1, by simpa using h.f2, by simpa using h.fe⟩
end
abbrev nilS : Value := .slice none 0 0
def yby (w : World) (O E : Nat) (v : Value) : World := (((w.setCell ⟨O, 0, none⟩ nilS).setCell ⟨O, 1, none⟩ nilS).setCell ⟨O, 2, none⟩ nilS).setCell ⟨E, 0, none⟩ v
theorem BT.over {w : World} {O E : Nat} {v0 v1 v2 ve : Value} (h : BT w O E v0 v1 v2 ve) (hn : O ≠ E) (v : Value) : BT (yby w O E v) O E nilS nilS nilS v := (((h.set0 hn _).set1 hn _).set2 hn _).setE hn _
theorem zzu {B O E : Nat} {a w : World} (h : Below B a w) (h1 : B ≤ O) (h2 : B ≤ E) (v : Value) : Below B a (yby w O E v) :=
 (((h.setCell (p := ⟨O, 0, none⟩) h1 _).setCell (p := ⟨O, 1, none⟩) h1 _).setCell (p := ⟨O, 2, none⟩) h1 _).setCell (p := ⟨E, 0, none⟩) h2 _
theorem yjw (v : Value) (w : World) : (Instr.typeAssert (.iface 143 v) 20 143 true).run Tryz.prog w = .ok (.tuple #[v, .bool true]) w := by kernel_rfl
set_option maxHeartbeats 1000000 in
set_option maxRecDepth 100000 in
theorem ydq (O E : Nat) (v0 v1 v2 ve : Value) (e p : Int) (older : List PanicEntry) (w : World) (h : BT w O E v0 v1 v2 ve) (hn : O ≠ E) :
  CallsD Tryz.prog 102 #[.pointer (some ⟨O, 0, none⟩), .pointer (some ⟨E, 0, none⟩)] (.panicking ({ v := zmp e p, recovered := false } :: older)) w fun r u' w' =>
   r = .returned (.tuple #[]) ∧ u' = .panicking ({ v := zmp e p, recovered := true } :: older) ∧ w' = yby (w.alloc (.cells #[.int .i64 e, .int .i64 p] 143)) O E (.iface 112 (.pointer (some ⟨w.heap.size, 0, none⟩))) := by
 have hta := yjw (.agg #[.int .i64 e, .int .i64 p]);have hb := zaa w (.cells #[.int .i64 e, .int .i64 p] 143);have H1 := h.below hb;have H2 := H1.set0 hn nilS;have H3 := H2.set1 hn nilS;have H4 := H3.set2 hn nilS;refine callsD_of_wpS Tryz.func102 rfl fun c₀ cs hu => ?_
 apply wpS_seq;apply wpS_region;simp [wpOpsS, go_sem, recoverD, hu, Tryz.ntmps102, Exit.thenS];apply wpS_seq;apply wpS_region;simp [wpOpsS, go_sem, Exit.thenS];refine wpS_cond (t := true) (by simp [Act.eval, Array.replicate]) ?_;simp only [if_true];apply wpS_seq;apply wpS_region;simp [wpOpsS, go_sem, Exit.thenS, hta];apply wpS_seq;apply wpS_seq;apply wpS_region;simp [wpOpsS, go_sem, Exit.thenS];refine wpS_cond (t := false) (by simp [Act.eval, Array.replicate]) ?_;simp only [Bool.false_eq_true, if_false];refine wpS_of_wp (wp_skip ?_);simp only [Exit.thenS];apply wpS_region;simp [wpOpsS, go_sem, H1.c0, H1.c1, H1.c2, H1.f0, H1.f1, H1.f2, H1.ce, H1.fe, H2.c1, H3.c2, H4.ce, bodyPostS, results, Tryz.results102];rfl
set_option maxHeartbeats 1000000 in
set_option maxRecDepth 100000 in
theorem yjs (O E : Nat) (w : World) :
  CallsD Tryz.prog 102 #[.pointer (some ⟨O, 0, none⟩), .pointer (some ⟨E, 0, none⟩)] .returning w fun r u' w' => r = .returned (.tuple #[]) ∧ u' = .returning ∧ w' = w := by
 refine callsD_of_wpS Tryz.func102 rfl fun c₀ cs hu => ?_
 apply wpS_seq;apply wpS_region;simp [wpOpsS, go_sem, recoverD, hu, Tryz.ntmps102, Exit.thenS];apply wpS_seq;apply wpS_region;simp [wpOpsS, go_sem, Exit.thenS];refine wpS_cond (t := false) (by simp [Act.eval, Array.replicate]) ?_;simp only [Bool.false_eq_true, if_false];refine wpS_of_wp (wp_skip ?_);cases c₀
 simp_all [bodyPostS, results, Tryz.results102]
def ynr (s : ByteArray) (w : World) (e : Ending) (w' : World) : Prop :=
 ∃ (x : zav) (ve : Value), e = .returned (.tuple #[x.v, ve]) ∧ Bat w' x ∧ (x.f, x.h, x.l) = (zcj s).1 ∧ (x.n ≤ x.c ∧ x.n' ≤ x.c') ∧ zbo w' ve (zcj s).2.1 (zcj s).2.2 ∧ Below w.heap.size w w'
abbrev zis : zav := ⟨none, 0, 0, none, 0, 0, none, 0, 0, [], [], []⟩
theorem zhy (w : World) : Bat w zis := ⟨Sl.nil, Sl.nil, Sl.nil, Nat.zero_le _, Nat.zero_le _, Nat.zero_le _⟩
theorem zcg {s : ByteArray} {w W : World} {O E : Nat} {v0 v1 v2 ve : Value} {e q : Int} {tmps : Array Value} (hv : zcj s = (noB, e, q)) (he : e ≠ 0) (R : BT W O E v0 v1 v2 ve) (hn : O ≠ E) (lO : w.heap.size ≤ O) (lE : w.heap.size ≤ E) (b : Below w.heap.size w W)
  (t2 : tmps[2]? = some (.pointer (some ⟨O, 0, none⟩))) (t3 : tmps[3]? = some (.pointer (some ⟨E, 0, none⟩))) :
  Leaves Tryz.prog Tryz.f57 tmps (ynr s w) [{ target := .fn (.func 102) #[.pointer (some ⟨O, 0, none⟩), .pointer (some ⟨E, 0, none⟩)], args := #[] }] (.panicking (zjb e q)) W := by
 refine leaves_cons (f := 102) (args := #[.pointer (some ⟨O, 0, none⟩), .pointer (some ⟨E, 0, none⟩)]) (by simp) (by simp [go_sem]) ?_;refine (ydq O E v0 v1 v2 ve e q [] _ R hn).mono ?_;rintro e' u' w' ⟨rfl, rfl, rfl⟩;show Leaves _ _ _ _ [] .returning _;have bA := zaa W (.cells #[.int .i64 e, .int .i64 q] 143);have hT := Two.new W e q 143;have hZ := (R.below bA).over hn (.iface 112 (.pointer (some ⟨W.heap.size, 0, none⟩)));have bZ := zzu (b.trans (bA.mono b.size)) lO lE (.iface 112 (.pointer (some ⟨W.heap.size, 0, none⟩)));have lO' := cell_lt R.c0;have lE' := cell_lt R.ce;simp only at lO' lE';have k0 : (yby (W.alloc (.cells #[.int .i64 e, .int .i64 q] 143)) O E (.iface 112 (.pointer (some ⟨W.heap.size, 0, none⟩)))).cell? ⟨W.heap.size, 0, none⟩ = some (.int .i64 e) := zam (zam (zam (zam hT.c0 (by omega)) (by omega)) (by omega)) (by omega);have k1 : (yby (W.alloc (.cells #[.int .i64 e, .int .i64 q] 143)) O E (.iface 112 (.pointer (some ⟨W.heap.size, 0, none⟩)))).cell? ⟨W.heap.size, 1, none⟩ = some (.int .i64 q) := zam (zam (zam (zam hT.c1 (by omega)) (by omega)) (by omega)) (by omega);obtain ⟨z0, z1, z2, z3, _, _, _, _⟩ := hZ;refine ⟨.tuple #[zis.v, .iface 112 (.pointer (some ⟨W.heap.size, 0, none⟩))], by simp [results, Tryz.results57, go_sem, t2, t3, z0, z1, z2, z3, zav.v], zis, _, rfl, zhy _, by rw [hv], ⟨Nat.le_refl _, Nat.le_refl _⟩, ?_, bZ⟩;rw [hv];exact .at_ _ _ _ _ he k0 k1
end Go.Proofs.YtkejlnjnoiidnaaGreatDoor
end
