/- A region that draws its order, its calls may throw: by an invariant, each operation looked at once; what has come up is closed under what it waits for. Any program.

The program's disk: Write. Printed by gen_disk.py.

The program's disk: Crash, Sync. -/
import Derived.Test.YtfefpcdgflgaeaaGreatDoorZ3
import Derived.Test.YtfefpcdgflgaeaaGreatDoorZ1
import Derived.Deep.OwnRows
import Derived.Laws.BitsAllLaws
section
namespace Go.Proofs.YtfefpcdgflgaeaaGreatDoor.Flow
open Go
section
variable {P : Program} {ops : Array Oper} {Q : Exit → Act → World → Prop} {Z : List PanicEntry → World → Prop}
/-- Each operation waits for earlier ones alone. -/
def lexG (ops : Array Oper) : Bool := (List.range ops.size).all fun i => match ops[i]? with
 | some o => o.guard.isNone && o.after.toList.all fun e => !Region.binds .any e || decide (e.on < i)
 | none => true
theorem lexG_of (h : lexG ops = true) {i : Nat} {o : Oper} (ho : ops[i]? = some o) : o.guard = none ∧ ∀ e ∈ o.after, Region.binds .any e = true → e.on < i := by
 have hi := (Array.getElem?_eq_some_iff.1 ho).1
 have := List.all_eq_true.1 h i (List.mem_range.2 hi)
 rw [ho] at this
 simp only [Bool.and_eq_true, Option.isNone_iff_eq_none] at this
 refine ⟨this.1, fun e he hb => ?_⟩
 have h2 := List.all_eq_true.1 this.2 e (by simpa using he)
 rw [hb] at h2
 simpa using h2
theorem allG_of_ready (hlex : lexG ops = true) {L : Array Bool} (hs : L.size = ops.size) (h : Region.ready .any ops L = []) (i : Nat) : i < ops.size → L.getD i false = true := by
 induction i using Nat.strongRecOn with
 | ind i ih =>
  intro hi
  rcases hb : L.getD i false with _ | _
  ·exfalso
   have hm : i ∈ Region.ready .any ops L := mem_ready.2 ⟨by rw [getD_in (by omega) true false]; exact hb, ops[i], Array.getElem?_eq_getElem hi, fun e he hbe => ih e.on ((lexG_of hlex (Array.getElem?_eq_getElem hi)).2 e he hbe) (by have := (lexG_of hlex (Array.getElem?_eq_getElem hi)).2 e he hbe; omega)⟩
   rw [h] at hm
   cases hm
  ·rfl
/-- What has come up is closed under what it waits for. -/
def Closed (ops : Array Oper) (L : Nat → Bool) : Prop := ∀ i o, ops[i]? = some o → L i = true → ∀ e ∈ o.after, Region.binds .any e = true → L e.on = true
/-- Operation i waits for j, at last. -/
def reach (ops : Array Oper) : Nat → Nat → Nat → Bool
 | 0, i, j => i == j
 | f + 1, i, j => i == j || match ops[i]? with
  | some o => o.after.toList.any fun e => Region.binds .any e && reach ops f e.on j
  | none => false
theorem Closed.reach {L : Nat → Bool} (h : Closed ops L) : ∀ (f i j : Nat), reach ops f i j = true → L i = true → L j = true := by
 intro f
 induction f with
 | zero => intro i j hr hl; rw [beq_iff_eq.1 hr] at hl; exact hl
 | succ f ih =>
  intro i j hr hl
  unfold Flow.reach at hr
  rcases Bool.or_eq_true_iff.1 hr with hr | hr
  ·rw [beq_iff_eq.1 hr] at hl; exact hl
  ·cases ho : ops[i]? with
   | none => rw [ho] at hr; cases hr
   | some o =>
    rw [ho] at hr
    simp only [List.any_eq_true, Bool.and_eq_true] at hr
    obtain ⟨e, he, hb, hr⟩ := hr
    exact ih _ _ hr (h i o ho hl e (by simpa using he) hb)
def Step4 {G : Type} (P : Program) (ops : Array Oper) (a0 : Act) (v : G → Nat → Value) (C : G → (Nat → Bool) → World → Prop) (Z : List PanicEntry → World → Prop) (i : Nat) (o : Oper) : Prop :=
 ∀ (g : G) (L : Nat → Bool) (w : World) (K : Value → World → Prop) (ρ : Operand → Value),
  (∀ x, ρ (.const x) = x) → (∀ f, ρ (.func f) = .func (.func f) #[] #[]) → (∀ t j, who ops t = some j → L j = true → ρ (.tmp t) = v g j) → (∀ t, who ops t = none → ρ (.tmp t) = a0.eval (.tmp t)) →
  (∀ t j, who ops t = some j → L j = false → ρ (.tmp t) = a0.eval (.tmp t)) →
  (∀ i j, reach ops ops.size i j = true → L i = true → L j = true) →
  L i = false → (∀ e ∈ o.after, Region.binds .any e = true → L e.on = true) → C g L w →
  (∀ g' w', C g' (fun j => j == i || L j) w' → (∀ j, L j = true → v g' j = v g j) → K (v g' i) w') → YlP P Z K ((execOp ρ o).run P w)
theorem wp_region_go {G : Type} {id : Nat} {l : List Oper} {a0 : Act} {w0 : World} (hm : P.follows .mixedOrders = true) (hlex : lexG l.toArray = true) (hok : okB l.toArray = true) (n : Nat) (hn : a0.tmps.size = n) (hfit : fitB l.toArray n = true)
  (v : G → Nat → Value) (C : G → (Nat → Bool) → World → Prop) (Z : List PanicEntry → World → Prop) (g0 : G) (h0 : C g0 (fun _ => false) w0.drew)
  (hstep : Steps (Step4 P l.toArray a0 v C Z) 0 l) (hthrow : ∀ g L ch w, Z ch w → Q (.panic ch) (frame l.toArray a0 (v g) L) w)
  (hdone : ∀ g L w, (∀ i, i < l.length → L i = true) → C g L w → Q .normal (putAll (v g) 0 l a0) w) :
  (Code.region id l.toArray true).wp P Q a0 w0 := by
 refine wp_region_any hm ?_
 refine wpAny_inv (fun L a w => ∃ g, a = frame l.toArray a0 (v g) (fun i => L.getD i false) ∧ Closed l.toArray (fun i => L.getD i false) ∧ C g (fun i => L.getD i false) w) ?_ ?_ _ _ _ _ (by simp) ?_ ?_
 ·rintro L a w i o hs ⟨g, rfl, hcl, hC⟩ ho hi hd
  have hst := hstep.at_ (i := i) (o := o) (by simpa using ho)
  rw [Nat.zero_add] at hst
  have hin : i < L.size := by rw [hs]; exact (Array.getElem?_eq_some_iff.1 ho).1
  have hi' : L.getD i false = false := by rw [getD_in hin false true]; exact hi
  have hfun : (fun j => (L.setIfInBounds i true).getD j false) = fun j => j == i || L.getD j false := by
   funext j
   by_cases hj : j = i
   ·subst hj
    simp [Array.getD, hin]
   ·have hb : (j == i) = false := by simpa using hj
    rw [hb, Bool.false_or]
    simp only [Array.getD_eq_getD_getElem?, Array.getElem?_setIfInBounds]
    rw [if_neg (fun e => hj e.symm)]
  unfold wpOp
  rw [ho]
  simp only
  rw [if_pos (by simp [Region.wanted, (lexG_of hlex ho).1])]
  refine .inl (YlP.upon (hst g _ w (fun u w' => ∃ g', u = v g' i ∧ C g' (fun j => j == i || L.getD j false) w' ∧ ∀ j, L.getD j false = true → v g' j = v g j) _ (fun _ => rfl) (fun _ => rfl) (fun t j h1 h2 => frame_dst h1 (by rw [hn]; exact fit_of hfit h1) h2) (fun t h1 => frame_old h1) (fun t j h1 h2 => frame_not h1 h2) (fun i j => hcl.reach _ i j) hi' hd hC (fun g' w' h1 h2 => ⟨g', rfl, h1, h2⟩)) ?_ (fun ch w' hz => hthrow g _ ch w' hz))
  rintro u w' ⟨g', rfl, hC', hv⟩
  refine ⟨g', ?_, ?_, ?_⟩
  ·rw [hfun]; exact frame_put hok ho hv
  ·rw [hfun]
   intro j oj hoj hlj e he hb
   simp only [Bool.or_eq_true, beq_iff_eq] at hlj ⊢
   rcases hlj with rfl | hlj
   ·rw [ho] at hoj
    injection hoj with hoj
    subst hoj
    exact .inr (hd e he hb)
   ·exact .inr (hcl j oj hoj hlj e he hb)
  ·rw [hfun]; exact hC'
 ·rintro L a w hs ⟨g, rfl, _, hC⟩ hr
  have hall := allG_of_ready hlex hs hr
  rw [frame_all hall, putAll_all hok]
  exact hdone g _ w (fun i hi => hall i (by simpa using hi)) hC
 ·have hz : (fun i => (Array.replicate l.toArray.size false).getD i false) = fun _ => false := by
   funext i
   simp [Array.getD]
  refine ⟨g0, ?_, ?_, ?_⟩
  ·rw [hz, frame_none]
  ·rw [hz]; intro i o _ h; cases h
  ·rw [hz]; exact h0
 ·unfold left
  simp only [Array.toList_replicate]
  exact Nat.le_trans List.countP_le_length (by simp)
end
end Go.Proofs.YtfefpcdgflgaeaaGreatDoor.Flow
end

section
namespace Go.Proofs.YtfefpcdgflgaeaaGreatDoor
set_option linter.unusedSimpArgs false
set_option linter.unusedVariables false
open Go.RowKit As Go.Maps
def dwV (s : ByteArray) (d M k z : Nat) (g : Nat) : Nat → Value
 | 0 => .pointer (some ⟨d, 0, none⟩)
 | 1 => .pointer (some ⟨d, 0, none⟩)
 | 2 => .pointer (some ⟨d, 1, none⟩)
 | 3 => .map (some M)
 | 4 => .int .i64 (k : Int)
 | 5 => .string s
 | 6 => .string s
 | 7 => .int .i64 (s.size : Int)
 | 8 => .int .i64 (z : Int)
 | 9 => .slice (some ⟨g, 0, none⟩) z z
 | 10 => .string (zeros z)
 | 11 => .string (s ++ zeros z)
 | _ => undef
theorem dwInfo : (Tryz.prog.info? 5).map (fun i => (i.zero, i.size, i.bytes)) = some (some (.int .u8 0), 1, 1) := by kernel_rfl
theorem bytes_made (w : World) (z : Nat) : BytesAt (w.alloc (.cells (madeCells #[.int .u8 0] z) 5)) w.heap.size (List.replicate z 0) := by
 intro i hi
 rw [List.length_replicate] at hi
 refine ⟨?_, by simp⟩
 rw [World.cell?_alloc_new]
 simp [madeCells, hi, Nat.mod_one]
theorem PD.wrote {w w' : World} {d R M N c n k : Nat} {S X : DF} {s : ByteArray} (h : PD w d R M N c n S X) (hg : w.grownBy w' (some M)) (hi : IM w' M (n + 1) (upd X k (padz s))) (hk : k < N) (hs : s.size ≤ 32) : PD w' d R M N c (n + 1) S (upd X k (padz s)) :=
 have ht : Turned (fun i => i = M) w w' := .of_grown hg rfl
 ⟨ht.cell h.c0 h.dM, ht.cell h.c1 h.dM, ht.own h.row (fun q e => by injection e with e; subst e; exact h.RM), hi, h.fit.write hk hs, h.dR, h.dM, h.RM⟩
def dwErr (N : Nat) (at_ : Int) (s : ByteArray) : Int := if at_ < 0 ∨ (N : Int) ≤ at_ then 2 else if 32 < s.size then 4 else 0
def dwX (N : Nat) (X : DF) (at_ : Int) (s : ByteArray) : DF := if dwErr N at_ s = 0 then upd X at_.toNat (padz s) else X
set_option maxHeartbeats 1000000 in
set_option maxRecDepth 100000 in
theorem dwrite_any {w : World} {d R M N c n : Nat} {S X : DF} (h : PD w d R M N c n S X) (at_ : Int) (s : ByteArray) (hs : s.size ≤ 1000000) (hn9 : n < maxLen) :
  Calls Tryz.prog 36 #[.pointer (some ⟨d, 0, none⟩), .int .i64 at_, .string s] w fun e w' => e = .returned (errV (dwErr N at_ s)) ∧ PD w' d R M N c (n + 1) S (dwX N X at_ s) ∧ Turned (PFoot R M) w w' := by
 have c0 := h.c0
 have h140 := h.fit.n
 have hno : dwErr N at_ s ≠ 0 → PD w d R M N c (n + 1) S (dwX N X at_ s) := fun he => by
  unfold dwX
  rw [if_neg he]
  exact ⟨h.c0, h.c1, h.row, h.im.mono (Nat.le_succ n), h.fit, h.dR, h.dM, h.RM⟩
 by_cases hr : at_ < 0 ∨ (N : Int) ≤ at_
 ·have e1 := Lib.hid (show dwErr N at_ s = 2 by unfold dwErr; rw [if_pos hr])
  have e2 := Lib.hid (hno (by rw [e1.out]; decide))
  clear hno
  by_cases h0 : at_ < 0
  ·have d0 : decide (at_ < 0) = true := decide_eq_true h0
   clear hr
   go_enter Tryz.func36, Tryz.ntmps36
   go_wp2
   go_ret
   rw [e1.out]
   exact ⟨rfl, e2.out, .refl _ _⟩
  ·have d0 : decide (at_ < 0) = false := decide_eq_false h0
   have d1 : decide ((N : Int) ≤ at_) = true := decide_eq_true (by omega)
   clear hr
   go_enter Tryz.func36, Tryz.ntmps36
   go_wp2
   go_ret
   rw [e1.out]
   exact ⟨rfl, e2.out, .refl _ _⟩
 ·obtain ⟨k, rfl⟩ := Int.eq_ofNat_of_zero_le (show 0 ≤ at_ by omega)
  have d0 : decide ((k : Int) < 0) = false := decide_eq_false (by omega)
  have d1 : decide ((N : Int) ≤ (k : Int)) = false := decide_eq_false (by omega)
  have hkN : k < N := by omega
  by_cases h32 : 32 < s.size
  ·have d2 : decide ((32 : Int) < (s.size : Int)) = true := decide_eq_true (by omega)
   have e1 := Lib.hid (show dwErr N k s = 4 by unfold dwErr; rw [if_neg hr, if_pos h32])
   have e2 := Lib.hid (hno (by rw [e1.out]; decide))
   clear hno hr
   go_enter Tryz.func36, Tryz.ntmps36
   go_wp2
   go_ret
   rw [e1.out]
   exact ⟨rfl, e2.out, .refl _ _⟩
  ·have d2 : decide ((32 : Int) < (s.size : Int)) = false := decide_eq_false (by omega)
   have e1 := Lib.hid (show dwErr N k s = 0 by unfold dwErr; rw [if_neg hr, if_neg h32])
   have e2 := Lib.hid (show dwX N X k s = upd X k (padz s) by unfold dwX; rw [if_pos e1.out]; rfl)
   have hs32 : s.size ≤ 32 := by omega
   have hk6 : k ≤ 1000000 := by omega
   obtain ⟨z, hz⟩ : ∃ z, z = 32 - s.size := ⟨_, rfl⟩
   have wz1 : IntKind.i64.wrap (32 - (s.size : Int)) = (z : Int) := by rw [show 32 - (s.size : Int) = (z : Int) by omega]; exact IntWalk.i64_in _ (by omega)
   have wz2 : wrap64 (32 - (s.size : Int)) = (z : Int) := by rw [show 32 - (s.size : Int) = (z : Int) by omega]; exact IntWalk.wrap64_in _ (by omega)
   have hz32 : z ≤ 32 := by omega
   have hpad : s ++ zeros z = padz s := by rw [hz]; rfl
   have hcat : ¬ 9223372036854775807 < s.size + (zeros z).size := by rw [zeros_size]; omega
   clear hno hr h32
   go_enter Tryz.func36, Tryz.ntmps36
   go_wp2
   refine Flow.wp_region_go (by kernel_rfl) (by kernel_rfl) (by kernel_rfl) 37 rfl (by kernel_rfl) (dwV s d M k z) (fun g L wz => PD wz d R M N c (cond (L 12) (n + 1) n) S (cond (L 12) (upd X k (padz s)) X) ∧ (L 9 = true → L 12 = false → (g ≠ M ∧ BytesAt wz g (List.replicate z 0))) ∧ Turned (PFoot R M) w wz) (fun _ _ => False) (0) (⟨h.below (Below.refl _ _).drew, (fun h => by cases h), .of_below (Below.refl _ _).drew⟩) ⟨?_, ?_, ?_, ?_, ?_, ?_, ?_, ?_, ?_, ?_, ?_, ?_, ?_, trivial⟩ ?_ ?_
   ·intro g L wz K ρ hc0 hf0 hF hO hU hcl hi hd hC hK
    have e0 : ρ (.tmp 0) = .pointer (some ⟨d, 0, none⟩) := hO 0 (by kernel_rfl)
    simp [go_sem, Flow.ylP_value, Flow.ylP_skip, Flow.ylP_enter, Flow.ylP_panic, hc0, hf0, e0]
    exact hK g wz hC (fun _ _ => rfl)
   ·intro g L wz K ρ hc0 hf0 hF hO hU hcl hi hd hC hK
    have d0 : L 0 = true := hd ⟨0, .data⟩ (by simp) rfl
    have e25 : ρ (.tmp 25) = .pointer (some ⟨d, 0, none⟩) := hF 25 0 (by kernel_rfl) d0
    simp [go_sem, Flow.ylP_value, Flow.ylP_skip, Flow.ylP_enter, Flow.ylP_panic, hc0, hf0, e25]
    exact hK g wz hC (fun _ _ => rfl)
   ·intro g L wz K ρ hc0 hf0 hF hO hU hcl hi hd hC hK
    have d1 : L 1 = true := hd ⟨1, .data⟩ (by simp) rfl
    have e26 : ρ (.tmp 26) = .pointer (some ⟨d, 0, none⟩) := hF 26 1 (by kernel_rfl) d1
    simp [go_sem, Flow.ylP_value, Flow.ylP_skip, Flow.ylP_enter, Flow.ylP_panic, hc0, hf0, e26]
    exact hK g wz hC (fun _ _ => rfl)
   ·intro g L wz K ρ hc0 hf0 hF hO hU hcl hi hd hC hK
    have d2 : L 2 = true := hd ⟨2, .data⟩ (by simp) rfl
    have e27 : ρ (.tmp 27) = .pointer (some ⟨d, 1, none⟩) := hF 27 2 (by kernel_rfl) d2
    have cc := hC.1.c1
    simp [go_sem, Flow.ylP_value, Flow.ylP_skip, Flow.ylP_enter, Flow.ylP_panic, hc0, hf0, e27, cc]
    exact hK g wz hC (fun _ _ => rfl)
   ·intro g L wz K ρ hc0 hf0 hF hO hU hcl hi hd hC hK
    have e1 : ρ (.tmp 1) = .int .i64 (k : Int) := hO 1 (by kernel_rfl)
    simp [go_sem, Flow.ylP_value, Flow.ylP_skip, Flow.ylP_enter, Flow.ylP_panic, hc0, hf0, e1]
    exact hK g wz hC (fun _ _ => rfl)
   ·intro g L wz K ρ hc0 hf0 hF hO hU hcl hi hd hC hK
    have e2 : ρ (.tmp 2) = .string s := hO 2 (by kernel_rfl)
    simp [go_sem, Flow.ylP_value, Flow.ylP_skip, Flow.ylP_enter, Flow.ylP_panic, hc0, hf0, e2]
    exact hK g wz hC (fun _ _ => rfl)
   ·intro g L wz K ρ hc0 hf0 hF hO hU hcl hi hd hC hK
    have e2 : ρ (.tmp 2) = .string s := hO 2 (by kernel_rfl)
    simp [go_sem, Flow.ylP_value, Flow.ylP_skip, Flow.ylP_enter, Flow.ylP_panic, hc0, hf0, e2]
    exact hK g wz hC (fun _ _ => rfl)
   ·intro g L wz K ρ hc0 hf0 hF hO hU hcl hi hd hC hK
    have d6 : L 6 = true := hd ⟨6, .data⟩ (by simp) rfl
    have e31 : ρ (.tmp 31) = .string s := hF 31 6 (by kernel_rfl) d6
    simp [go_sem, Flow.ylP_value, Flow.ylP_skip, Flow.ylP_enter, Flow.ylP_panic, hc0, hf0, e31]
    exact hK g wz hC (fun _ _ => rfl)
   ·intro g L wz K ρ hc0 hf0 hF hO hU hcl hi hd hC hK
    have d7 : L 7 = true := hd ⟨7, .data⟩ (by simp) rfl
    have e32 : ρ (.tmp 32) = .int .i64 (s.size : Int) := hF 32 7 (by kernel_rfl) d7
    simp [go_sem, Flow.ylP_value, Flow.ylP_skip, Flow.ylP_enter, Flow.ylP_panic, hc0, hf0, e32, wz1, wz2]
    exact hK g wz hC (fun _ _ => rfl)
   ·intro g L wz K ρ hc0 hf0 hF hO hU hcl hi hd hC hK
    have d8 : L 8 = true := hd ⟨8, .data⟩ (by simp) rfl
    have e33 : ρ (.tmp 33) = .int .i64 (z : Int) := hF 33 8 (by kernel_rfl) d8
    have h12 : L 12 = false := by cases h : L 12 with | false => rfl | true => (have := hcl 12 9 (by kernel_rfl) h; rw [hi] at this; cases this)
    rw [hi, h12] at hC
    have hmk := run_make_row' (P := Tryz.prog) 69 5 (.int .u8 0) 1 Tryz.underlying69 dwInfo rfl .i64 .i64 z (by omega) (by omega) wz
    unfold execOp
    simp only [resolve, Sem.run_bind, Sem.run_pure, Result.andThen_ok, e33, hmk]
    refine hK wz.heap.size _ ?_ (by intro j hj; unfold dwV; split <;> first | rfl | (rw [hi] at hj; cases hj) | (have hz := hcl _ 9 (by kernel_rfl) hj; rw [hi] at hz; cases hz))
    show PD _ d R M N c (cond (L 12) (n + 1) n) S (cond (L 12) (upd X k (padz s)) X) ∧ (true = true → L 12 = false → (wz.heap.size ≠ M ∧ BytesAt _ wz.heap.size (List.replicate z 0))) ∧ Turned (PFoot R M) w _
    rw [h12]
    exact ⟨hC.1.below (below1 _ _), fun _ _ => ⟨Nat.ne_of_gt hC.1.im.lt, bytes_made wz z⟩, hC.2.2.trans (.of_below (below1 _ _))⟩
   ·intro g L wz K ρ hc0 hf0 hF hO hU hcl hi hd hC hK
    have d9 : L 9 = true := hd ⟨9, .data⟩ (by simp) rfl
    have e34 : ρ (.tmp 34) = .slice (some ⟨g, 0, none⟩) z z := hF 34 9 (by kernel_rfl) d9
    have h12 : L 12 = false := by cases h : L 12 with | false => rfl | true => (have := hcl 12 10 (by kernel_rfl) h; rw [hi] at this; cases this)
    have hb := (hC.2.1 d9 h12).2
    have hcv := string_of (P := Tryz.prog) wz 69 5 9 g z (List.replicate z 0) Tryz.underlying69 Tryz.underlying5 Tryz.underlying9 hb
    rw [List.length_replicate] at hcv
    unfold execOp
    simp only [resolve, Sem.run_bind, Sem.run_pure, Result.andThen_ok, e34, hcv]
    exact hK g wz hC (fun _ _ => rfl)
   ·intro g L wz K ρ hc0 hf0 hF hO hU hcl hi hd hC hK
    have d5 : L 5 = true := hd ⟨5, .data⟩ (by simp) rfl
    have e30 : ρ (.tmp 30) = .string s := hF 30 5 (by kernel_rfl) d5
    have d10 : L 10 = true := hd ⟨10, .data⟩ (by simp) rfl
    have e35 : ρ (.tmp 35) = .string (zeros z) := hF 35 10 (by kernel_rfl) d10
    simp [go_sem, Flow.ylP_value, Flow.ylP_skip, Flow.ylP_enter, Flow.ylP_panic, hc0, hf0, e30, e35, hcat]
    exact hK g wz hC (fun _ _ => rfl)
   ·intro g L wz K ρ hc0 hf0 hF hO hU hcl hi hd hC hK
    have d3 : L 3 = true := hd ⟨3, .data⟩ (by simp) rfl
    have e28 : ρ (.tmp 28) = .map (some M) := hF 28 3 (by kernel_rfl) d3
    have d4 : L 4 = true := hd ⟨4, .data⟩ (by simp) rfl
    have e29 : ρ (.tmp 29) = .int .i64 (k : Int) := hF 29 4 (by kernel_rfl) d4
    have d11 : L 11 = true := hd ⟨11, .data⟩ (by simp) rfl
    have e36 : ρ (.tmp 36) = .string (s ++ zeros z) := hF 36 11 (by kernel_rfl) d11
    rw [hi] at hC
    obtain ⟨w9, hrun, him, hg9⟩ := hC.1.im.put k hk6 hn9 (s := padz s) (by rw [padz_size hs32]; unfold maxLen; omega)
    have e36' : ρ (.tmp 36) = .string (padz s) := by rw [← hpad]; exact e36
    unfold execOp
    simp only [resolve, Sem.run_bind, Sem.run_pure, Result.andThen_ok, e28, e29, e36', hrun]
    refine hK g w9 ?_ (fun _ _ => rfl)
    exact ⟨hC.1.wrote hg9 him hkN hs32, (fun _ h => by cases h), hC.2.2.trans (.of_grown hg9 (.inr rfl))⟩
   ·intro g L ch wz h; exact h.elim
   ·intro g L wz hL hC
    rw [hL 12 (by decide)] at hC
    simp only [Flow.putAll, dwV]
    go_wp2
    go_ret
    rw [e1.out, e2.out]
    exact ⟨rfl, hC.1, hC.2.2⟩
end Go.Proofs.YtfefpcdgflgaeaaGreatDoor
end

section
namespace Go.Proofs.YtfefpcdgflgaeaaGreatDoor
set_option linter.unusedSimpArgs false
set_option linter.unusedVariables false
open Go.RowKit As Go.Maps
theorem wpList_clear_im {w : World} {ops : Array Oper} {rest : List Oper} {o : Oper} {a : Act} {Q : Exit → Act → World → Prop} (hg : o.guard = none) (m : Operand)
  (hop : o.op = .call { callee := .builtin .clear, args := #[m], argTypes := #[107] }) (b n : Nat) (f : DF) (hm : a.eval m = .map (some b)) (h : IM w b n f)
  (hK : ∀ w', IM w' b n (fun _ => none) → w.grownBy w' (some b) → wpList Tryz.prog ops Q rest (a.put o.dst (.tuple #[])) w') : wpList Tryz.prog ops Q (o :: rest) a w := by
 refine wpList_plain hg fun K hK' => ?_
 obtain ⟨w', hr, h2, h3⟩ := h.clear o.type
 unfold Oper.wp execOp
 simp only [hop, resolve, invoke, builtin, Sem.run_bind, Sem.run_pure, Result.andThen_ok, List.map_toArray, List.map_cons, List.map_nil, hm, hr]
 exact hK' _ _ (hK w' h2 h3)
theorem PD.stored {w : World} {d R M N c n i : Nat} {S X : DF} {t : ByteArray} (h : PD w d R M N c n S X) (hi : i < N) (ht : t.size = 32) : PD (w.setCell ⟨R, i, none⟩ (.string t)) d R M N c n (upd S i t) X := by
 obtain ⟨h1, h2⟩ := h.row.stored i (.string t)
 have e : (secs N S).set i (.string t) = secs N (upd S i t) := by
  apply List.ext_getElem?
  intro j
  by_cases hj : j < N
  ·rw [secs_at _ hj, List.getElem?_set]
   by_cases e : i = j
   ·subst e
    rw [if_pos rfl, if_pos (by rw [secs_len]; exact hj), safe_upd, if_pos rfl]
   ·rw [if_neg e, secs_at _ hj, safe_upd, if_neg (Ne.symm e)]
  ·rw [List.getElem?_eq_none (by rw [List.length_set, secs_len]; omega), List.getElem?_eq_none (by rw [secs_len]; omega)]
 rw [e] at h1
 have hT : Turned (fun i => i = R) w (w.setCell ⟨R, i, none⟩ (.string t)) := .set w i _ rfl
 refine ⟨hT.cell h.c0 h.dR, hT.cell h.c1 h.dR, h1, hT.im h.im (Ne.symm h.RM), ⟨h.fit.n, fun j s hj => ?_, h.fit.x⟩, h.dR, h.dM, h.RM⟩
 by_cases e : j = i
 ·subst e
  rw [upd_same] at hj
  injection hj with hj
  subst hj
  exact ⟨ht, hi⟩
 ·rw [upd_other S t e] at hj
  exact h.fit.s j s hj
def dcV (d R M N c i : Nat) (t : ByteArray) (g : Unit) : Nat → Value
 | 0 => .pointer (some ⟨d, 0, none⟩)
 | 1 => .pointer (some ⟨d, 0, none⟩)
 | 2 => .pointer (some ⟨d, 0, none⟩)
 | 3 => .slice (some ⟨R, 0, none⟩) N c
 | 4 => .int .i64 (i : Int)
 | 5 => .pointer (some ⟨d, 0, none⟩)
 | 6 => .pointer (some ⟨d, 0, none⟩)
 | 7 => .pointer (some ⟨d, 1, none⟩)
 | 8 => .map (some M)
 | 9 => .int .i64 (i : Int)
 | 10 => .string t
 | 11 => .pointer (some ⟨R, i, none⟩)
 | _ => undef
theorem mtest {mask k m : Nat} (hm : mask < 18446744073709551616) (h : m = min k 63) : (bits BinOp.and IntKind.u64 ((mask : Int) / 2 ^ m) 1 == 1) = mbit mask k := by
 have e : (mask : Int) / 2 ^ m = ((mask / 2 ^ m : Nat) : Int) := by simp
 have e1 : bits BinOp.and IntKind.u64 ((mask : Int) / 2 ^ m) 1 = ((mask / 2 ^ m % 2 : Nat) : Int) := by
  rw [e]
  have := u64_and_nat (mask / 2 ^ m) 1 (Nat.lt_of_le_of_lt (Nat.div_le_self _ _) hm) (by omega)
  rw [Nat.and_one_is_mod] at this
  exact this
 rw [e1]
 unfold mbit
 rw [← h]
 rcases Nat.mod_two_eq_zero_or_one (mask / 2 ^ m) with q | q <;> rw [q] <;> rfl
theorem PD.cleared {w w' : World} {d R M N c n : Nat} {S X : DF} (h : PD w d R M N c n S X) (hg : w.grownBy w' (some M)) (hi : IM w' M n (fun _ => none)) : PD w' d R M N c n S (fun _ => none) :=
 have ht : Turned (fun i => i = M) w w' := .of_grown hg rfl
 ⟨ht.cell h.c0 h.dM, ht.cell h.c1 h.dM, ht.own h.row (fun q e => by injection e with e; subst e; exact h.RM), hi, ⟨h.fit.n, h.fit.s, fun _ _ h => (by cases h)⟩, h.dR, h.dM, h.RM⟩
theorem row_lt {w : World} {R N c : Nat} {e : TypeId} {xs : List Value} (h : w.ownsRow R e 1 (.slice (some ⟨R, 0, none⟩) N c) N xs) : R < w.heap.size := by
 rcases h.2 with ⟨hv, _⟩ | ⟨g, cap, cur, hv, hb, hh, _⟩
 ·cases hv
 ·injection hv with h1
  injection h1 with h1
  injection h1 with h1
  subst h1
  exact (Array.getElem?_eq_some_iff.1 hh).1
theorem down_some {w : World} {B : Nat} {e : TypeId} {size : Nat} {v : Value} {n : Nat} {xs : List Value} (h : w.ownsRow B e size v n xs) (hn : 0 < n) : ∃ g c, v = .slice (some ⟨g, 0, none⟩) n c ∧ B ≤ g ∧ g < w.heap.size := by
 rcases h.2 with ⟨_, h0⟩ | ⟨g, cap, cur, hv, hb, hh, _⟩
 ·omega
 ·exact ⟨g, cap, hv, hb, (Array.getElem?_eq_some_iff.1 hh).1⟩
set_option maxHeartbeats 1000000 in
set_option maxRecDepth 100000 in
theorem dcrash_any {w : World} {d R M N c n mask : Nat} {S X : DF} (h : PD w d R M N c n S X) (hm : mask < 18446744073709551616) :
  Calls Tryz.prog 46 #[.pointer (some ⟨d, 0, none⟩), .int .u64 (mask : Int)] w fun e w' => e = .returned (.tuple #[]) ∧ PD w' d R M N c n (crashed N mask S X) (fun _ => none) ∧ Turned (PFoot R M) w w' := by
 have H140 := Lib.hid h.fit.n
 go_enter Tryz.func46, Tryz.ntmps46
 go_wp2_with fail
 refine (ddirty_any h).mono ?_
 rintro e w1 ⟨v, rfl, ho, hb1⟩
 have hP := h.below hb1
 have hT : Turned (PFoot R M) w w1 := .of_below hb1
 have hle := dirty_le N X
 have lRw := Lib.hid (row_lt h.row)
 obtain ⟨A, c9, rfl⟩ := own_form ho
 go_wp2
 go_loopw [4, 5, 9] (fun _ _ iv wr => ∃ k : Nat, k ≤ (dirty N X).length ∧ iv = .int .i64 (k : Int) ∧ PD wr d R M N c n (lasts mask X (dirty N X) S k) X ∧ wr.ownsRow w.heap.size 3 1 (.slice A (dirty N X).length c9) (dirty N X).length (natV (dirty N X)) ∧ Turned (PFoot R M) w wr) (fun _ _ iv _ => (dirty N X).length - (intOf iv).toNat)
 case atStart => exact ⟨0, Nat.zero_le _, rfl, hP, ho, hT⟩
 case round =>
  clear hP ho hT hb1
  obtain ⟨k, hk, rfl, hP, ho, hT⟩ := hrel
  by_cases hlt : k < (dirty N X).length
  ·have t0 : decide ((k : Int) < ((dirty N X).length : Int)) = true := decide_eq_true (by omega)
   obtain ⟨q1, q2, t, q3⟩ := dirty_at hlt
   obtain ⟨i, hi⟩ : ∃ i, i = (dirty N X).getD k 0 := ⟨_, rfl⟩
   rw [← hi] at q1 q2 q3
   obtain ⟨g, c8, hA, hg1, hg2⟩ := down_some ho (by omega)
   obtain rfl : A = some ⟨g, 0, none⟩ := by injection hA
   have cK : wr.cell? ⟨g, k, none⟩ = some (.int .i64 (i : Int)) := by rw [ho.cellAt k (by omega)]; unfold natV; rw [List.getElem?_map, q1]; rfl
   have k0 : (0 : Int) ≤ (k : Int) := by omega
   have k1 : (k : Int) < ((dirty N X).length : Int) := by omega
   have hmn : (if 63 < (k : Int) then (63 : Int) else (k : Int)) = ((min k 63 : Nat) : Int) := by split <;> omega
   obtain ⟨m, hm63⟩ : ∃ m, m = min k 63 := ⟨_, rfl⟩
   rw [← hm63] at hmn
   have hi6 : i ≤ 1000000 := by have := H140.out; omega
   have wk : IntKind.i64.wrap ((k : Int) + 1) = ((k + 1 : Nat) : Int) := IntWalk.i64_in _ (by have := H140.out; omega)
   have HI := Lib.hid hi
   have HQ1 := Lib.hid q1
   clear hi q1
   cases hb : mbit mask k with
   | true =>
    have HLS := Lib.hid (show lasts mask X (dirty N X) S (k + 1) = upd (lasts mask X (dirty N X) S k) i t by rw [lasts, if_pos hb, ← HI.out, q3]; rfl)
    have tt := mtest (k := k) hm hm63
    rw [hb] at tt
    have i0 : (0 : Int) ≤ (i : Int) := by omega
    have i1 : (i : Int) < (N : Int) := by omega
    have i1' : i < N := q2
    have ht32 := (hP.fit.x i t q3).1
    have hRw := Lib.hid (lRw.out)
    clear hb hm63
    go_wp2
    refine Flow.wp_region_go (by kernel_rfl) (by kernel_rfl) (by kernel_rfl) 37 rfl (by kernel_rfl) (dcV d R M N c i t) (fun _ L wz => PD wz d R M N c n (cond (L 12) (upd (lasts mask X (dirty N X) S k) i t) (lasts mask X (dirty N X) S k)) X ∧ wz.ownsRow w.heap.size 3 1 (.slice (some ⟨g, 0, none⟩) (dirty N X).length c9) (dirty N X).length (natV (dirty N X)) ∧ Turned (PFoot R M) w wz) (fun _ _ => False) (()) (⟨hP.below (Below.refl _ _).drew, (Turned.of_below (S := fun _ => False) (Below.refl _ _).drew).own ho (fun _ _ => id), hT.trans (.of_below (Below.refl _ _).drew)⟩) ⟨?_, ?_, ?_, ?_, ?_, ?_, ?_, ?_, ?_, ?_, ?_, ?_, ?_, trivial⟩ ?_ ?_
    ·intro gz L wz K ρ hc0 hf0 hF hO hU hcl hi hd hC hK
     have e0 : ρ (.tmp 0) = .pointer (some ⟨d, 0, none⟩) := hO 0 (by kernel_rfl)
     simp [go_sem, Flow.ylP_value, Flow.ylP_skip, Flow.ylP_enter, Flow.ylP_panic, hc0, hf0, e0]
     exact hK gz wz hC (fun _ _ => rfl)
    ·intro gz L wz K ρ hc0 hf0 hF hO hU hcl hi hd hC hK
     have d0 : L 0 = true := hd ⟨0, .data⟩ (by simp) rfl
     have e20 : ρ (.tmp 20) = .pointer (some ⟨d, 0, none⟩) := hF 20 0 (by kernel_rfl) d0
     simp [go_sem, Flow.ylP_value, Flow.ylP_skip, Flow.ylP_enter, Flow.ylP_panic, hc0, hf0, e20]
     exact hK gz wz hC (fun _ _ => rfl)
    ·intro gz L wz K ρ hc0 hf0 hF hO hU hcl hi hd hC hK
     have d1 : L 1 = true := hd ⟨1, .data⟩ (by simp) rfl
     have e21 : ρ (.tmp 21) = .pointer (some ⟨d, 0, none⟩) := hF 21 1 (by kernel_rfl) d1
     simp [go_sem, Flow.ylP_value, Flow.ylP_skip, Flow.ylP_enter, Flow.ylP_panic, hc0, hf0, e21]
     exact hK gz wz hC (fun _ _ => rfl)
    ·intro gz L wz K ρ hc0 hf0 hF hO hU hcl hi hd hC hK
     have d2 : L 2 = true := hd ⟨2, .data⟩ (by simp) rfl
     have e22 : ρ (.tmp 22) = .pointer (some ⟨d, 0, none⟩) := hF 22 2 (by kernel_rfl) d2
     have cc := hC.1.c0
     simp [go_sem, Flow.ylP_value, Flow.ylP_skip, Flow.ylP_enter, Flow.ylP_panic, hc0, hf0, e22, cc]
     exact hK gz wz hC (fun _ _ => rfl)
    ·intro gz L wz K ρ hc0 hf0 hF hO hU hcl hi hd hC hK
     have e5 : ρ (.tmp 5) = .int .i64 (i : Int) := hO 5 (by kernel_rfl)
     simp [go_sem, Flow.ylP_value, Flow.ylP_skip, Flow.ylP_enter, Flow.ylP_panic, hc0, hf0, e5]
     exact hK gz wz hC (fun _ _ => rfl)
    ·intro gz L wz K ρ hc0 hf0 hF hO hU hcl hi hd hC hK
     have e0 : ρ (.tmp 0) = .pointer (some ⟨d, 0, none⟩) := hO 0 (by kernel_rfl)
     simp [go_sem, Flow.ylP_value, Flow.ylP_skip, Flow.ylP_enter, Flow.ylP_panic, hc0, hf0, e0]
     exact hK gz wz hC (fun _ _ => rfl)
    ·intro gz L wz K ρ hc0 hf0 hF hO hU hcl hi hd hC hK
     have d5 : L 5 = true := hd ⟨5, .data⟩ (by simp) rfl
     have e25 : ρ (.tmp 25) = .pointer (some ⟨d, 0, none⟩) := hF 25 5 (by kernel_rfl) d5
     simp [go_sem, Flow.ylP_value, Flow.ylP_skip, Flow.ylP_enter, Flow.ylP_panic, hc0, hf0, e25]
     exact hK gz wz hC (fun _ _ => rfl)
    ·intro gz L wz K ρ hc0 hf0 hF hO hU hcl hi hd hC hK
     have d6 : L 6 = true := hd ⟨6, .data⟩ (by simp) rfl
     have e26 : ρ (.tmp 26) = .pointer (some ⟨d, 0, none⟩) := hF 26 6 (by kernel_rfl) d6
     simp [go_sem, Flow.ylP_value, Flow.ylP_skip, Flow.ylP_enter, Flow.ylP_panic, hc0, hf0, e26]
     exact hK gz wz hC (fun _ _ => rfl)
    ·intro gz L wz K ρ hc0 hf0 hF hO hU hcl hi hd hC hK
     have d7 : L 7 = true := hd ⟨7, .data⟩ (by simp) rfl
     have e27 : ρ (.tmp 27) = .pointer (some ⟨d, 1, none⟩) := hF 27 7 (by kernel_rfl) d7
     have cc := hC.1.c1
     simp [go_sem, Flow.ylP_value, Flow.ylP_skip, Flow.ylP_enter, Flow.ylP_panic, hc0, hf0, e27, cc]
     exact hK gz wz hC (fun _ _ => rfl)
    ·intro gz L wz K ρ hc0 hf0 hF hO hU hcl hi hd hC hK
     have e5 : ρ (.tmp 5) = .int .i64 (i : Int) := hO 5 (by kernel_rfl)
     simp [go_sem, Flow.ylP_value, Flow.ylP_skip, Flow.ylP_enter, Flow.ylP_panic, hc0, hf0, e5]
     exact hK gz wz hC (fun _ _ => rfl)
    ·intro gz L wz K ρ hc0 hf0 hF hO hU hcl hi hd hC hK
     have d8 : L 8 = true := hd ⟨8, .data⟩ (by simp) rfl
     have e28 : ρ (.tmp 28) = .map (some M) := hF 28 8 (by kernel_rfl) d8
     have d9 : L 9 = true := hd ⟨9, .data⟩ (by simp) rfl
     have e29 : ρ (.tmp 29) = .int .i64 (i : Int) := hF 29 9 (by kernel_rfl) d9
     have hl := hC.1.im.look i hi6 q3
     simp [go_sem, Flow.ylP_value, Flow.ylP_skip, Flow.ylP_enter, Flow.ylP_panic, hc0, hf0, e28, e29, hl]
     exact hK () wz hC (fun _ _ => rfl)
    ·intro gz L wz K ρ hc0 hf0 hF hO hU hcl hi hd hC hK
     have d3 : L 3 = true := hd ⟨3, .data⟩ (by simp) rfl
     have e23 : ρ (.tmp 23) = .slice (some ⟨R, 0, none⟩) N c := hF 23 3 (by kernel_rfl) d3
     have d4 : L 4 = true := hd ⟨4, .data⟩ (by simp) rfl
     have e24 : ρ (.tmp 24) = .int .i64 (i : Int) := hF 24 4 (by kernel_rfl) d4
     simp [go_sem, Flow.ylP_value, Flow.ylP_skip, Flow.ylP_enter, Flow.ylP_panic, hc0, hf0, e23, e24, i0, i1, i1']
     exact hK gz wz hC (fun _ _ => rfl)
    ·intro gz L wz K ρ hc0 hf0 hF hO hU hcl hi hd hC hK
     have d11 : L 11 = true := hd ⟨11, .data⟩ (by simp) rfl
     have e31 : ρ (.tmp 31) = .pointer (some ⟨R, i, none⟩) := hF 31 11 (by kernel_rfl) d11
     have d10 : L 10 = true := hd ⟨10, .data⟩ (by simp) rfl
     have e30 : ρ (.tmp 30) = .string t := hF 30 10 (by kernel_rfl) d10
     rw [hi] at hC
     have c1 := (hC.1.row.cellAt i (by rw [Nat.mul_one]; exact q2)).trans (secs_at _ q2)
     have f1 := hC.1.row.frozenAt i
     simp [go_sem, Flow.ylP_value, Flow.ylP_skip, Flow.ylP_enter, Flow.ylP_panic, hc0, hf0, e31, e30, c1, f1]
     exact hK () _ ⟨hC.1.stored q2 ht32, own_set (s := R) (j := i) (.string t) hC.2.1 hRw.out, hC.2.2.trans (.set _ i _ (.inl rfl))⟩ (fun _ _ => rfl)
    ·intro gz L ch wz h; exact h.elim
    ·intro gz L wz hL hC
     rw [hL 12 (by decide)] at hC
     simp only [Flow.putAll, dcV]
     go_wp2
     go_roundw
     case rel => exact ⟨k + 1, hlt, by go_num, by rw [HLS.out]; exact hC.1, hC.2.1, hC.2.2⟩
     case measure => simp [intOf]; omega
   | false =>
    have HLS := Lib.hid (show lasts mask X (dirty N X) S (k + 1) = lasts mask X (dirty N X) S k by rw [lasts, hb]; rfl)
    have tt := mtest (k := k) hm hm63
    rw [hb] at tt
    clear hb hm63
    go_wp2
    go_roundw
    case rel => exact ⟨k + 1, hlt, by go_num, by rw [HLS.out]; exact hP, ho, hT⟩
    case measure => simp [intOf]; omega
  ·obtain rfl : k = (dirty N X).length := by omega
   have t0 : decide (((dirty N X).length : Int) < ((dirty N X).length : Int)) = false := decide_eq_false (by omega)
   have c1 := hP.c1
   clear hlt
   go_wp2_with (first
    | (refine wpList_clear_im rfl _ rfl M n X rfl hP.im ?_; intro w9 him hg9))
   go_end0
   exact ⟨rfl, hP.cleared hg9 him, hT.trans (.of_grown hg9 (.inr rfl))⟩
set_option maxHeartbeats 1000000 in
theorem dsync_any {w : World} {d R M N c n : Nat} {S X : DF} (h : PD w d R M N c n S X) :
  Calls Tryz.prog 39 #[.pointer (some ⟨d, 0, none⟩)] w fun e w' => e = .returned (.tuple #[]) ∧ PD w' d R M N c n (crashed N 18446744073709551615 S X) (fun _ => none) ∧ Turned (PFoot R M) w w' := by
 go_enter Tryz.func39, Tryz.ntmps39
 go_wp2_with fail
 refine (dcrash_any (mask := 18446744073709551615) h (by decide)).mono ?_
 rintro e w1 ⟨rfl, hP, hT⟩
 go_wp2
 go_end0
 exact ⟨rfl, hP, hT⟩
end Go.Proofs.YtfefpcdgflgaeaaGreatDoor
end
