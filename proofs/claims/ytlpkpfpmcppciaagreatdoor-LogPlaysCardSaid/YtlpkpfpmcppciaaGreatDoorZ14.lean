/- A log's New, Have, Writes, Cells; copies of vectors and of writes.

A region that draws its order and some of whose operations are guarded, all guards being met: by an invariant, each operation looked at once (as FlowGo). Any program.

slices.BinarySearchFunc at writes, by their ids. Printed by gen_logb.py out of logb.src. -/
import Derived.Test.YtlpkpfpmcppciaaGreatDoorZ6
import Derived.Test.YtlpkpfpmcppciaaGreatDoorZ10
import Derived.Test.YtlpkpfpmcppciaaGreatDoorZ13
import Derived.Test.YtlpkpfpmcppciaaGreatDoorZ5
import Derived.Test.YtlpkpfpmcppciaaGreatDoorZ7
import Derived.Test.YtlpkpfpmcppciaaGreatDoorZ1
import Derived.Deep.QuietTactic
import Derived.BigQuiet
section
namespace Go.Proofs.YtlpkpfpmcppciaaGreatDoor
set_option linter.unusedSimpArgs false
set_option linter.unusedVariables false
open Go.RowKit As
theorem ent_one' {l : List Ent} : ∀ u ∈ entV l, u.oneCell' = true := by
 intro u hu
 obtain ⟨x, _, hx⟩ := List.mem_flatMap.1 hu
 simp only [entCells, List.mem_cons, List.not_mem_nil, or_false] at hx
 rcases hx with rfl | rfl <;> rfl
theorem new_empty (w : World) (B : Nat) (e : TypeId) (k : Nat) (hB : B ≤ w.heap.size) : (w.alloc (.cells #[] e)).ownsRow B e k (.slice (some ⟨w.heap.size, 0, none⟩) 0 0) 0 [] :=
 ⟨by simp, .inr ⟨w.heap.size, 0, #[], rfl, hB, heap_alloc_new w _, Nat.le_refl _, by unfold maxLen; omega, by simp, by simp⟩⟩
set_option maxHeartbeats 1000000 in
set_option maxRecDepth 100000 in
theorem clonew_any {w : World} {B : Nat} {v : Value} {L : List Wr} (h : w.ownsRow B 32 6 v L.length (L.flatMap wrCells)) (hn : L.length ≤ 1000000) :
  Calls Tryz.prog 55 #[v] w fun e w' => ∃ v', e = .returned v' ∧ w'.ownsRow w.heap.size 32 6 v' L.length (L.flatMap wrCells) ∧ Below w.heap.size w w' := by
 have hb0 := below1 w (.cells #[] 32)
 have hrow := (Turned.of_below (S := fun _ => False) hb0).own h (fun _ _ q => q)
 obtain ⟨i0, hi, hz0, hz1, hz2⟩ := info_parts wlInfo
 rcases h.2 with ⟨rfl, h0⟩ | ⟨g, cap, cur, rfl, _, hg, _⟩
 ·have hL : L = [] := List.eq_nil_of_length_eq_zero h0
  subst hL
  clear h hrow hb0
  have e0 : ∀ W : World, (binOp .eql 22 (.slice none 0 0) (.slice none 0 0)).run Tryz.prog W = .ok (.bool true) W := fun _ => by kernel_rfl
  go_enter Tryz.func55, Tryz.ntmps55
  go_wp2
  go_ret
  exact ⟨_, rfl, World.ownsRow_nil _ _ _ _, .refl _ _⟩
 ·obtain ⟨v', w', h1', h2, h3⟩ := app_wrs (new_empty w w.heap.size 32 6 (Nat.le_refl _)) hrow (by omega) hb0.size 22
  rw [Nat.zero_add, List.nil_append] at h2
  have hbf : Below w.heap.size w w' := grown_own hb0 h3 hb0.size (new_empty w w.heap.size 32 6 (Nat.le_refl _))
  have HH := Lib.hid (And.intro h2 hbf)
  clear h hrow hb0 hg h2 h3 hbf
  have e0 : ∀ W : World, (binOp .eql 22 (.slice (some ⟨g, 0, none⟩) L.length cap) (.slice none 0 0)).run Tryz.prog W = .ok (.bool false) W := fun _ => by kernel_rfl
  go_enter Tryz.func55, Tryz.ntmps55
  go_wp2_with (at_builtin; refine Lib.wpList_append_run _ rfl _ _ _ _ rfl _ _ rfl rfl _ _ h1' ?_)
  go_ret
  exact ⟨_, rfl, HH.out.1, HH.out.2⟩
theorem app_ents {w : World} {H n : Nat} {v : Value} {xs : List Value} (ho : w.ownsRow H 73 2 v n xs) {B : Nat} {u : Value} {l : List Ent} (hu : w.ownsRow B 73 2 u l.length (entV l)) (hb : (n + l.length) * 16 ≤ 140737488355328) (hH : H ≤ w.heap.size) (ty : TypeId) :
  ∃ v' w', (Builtin.append_ #[24, 24] ty #[v, u]).run Tryz.prog w = .ok v' w' ∧ w'.ownsRow H 73 2 v' (n + l.length) (xs ++ entV l) ∧ w.grownBy w' v.ownBlock := by
 obtain ⟨i0, hi, hz0, hz1, hz2⟩ := info_parts entInfo
 rcases hu.2 with ⟨rfl, h0⟩ | ⟨g, cap, cur, rfl, _, hg, _⟩
 ·have hl : l = [] := List.eq_nil_of_length_eq_zero h0
  subst hl
  refine ⟨v, w, run_append_owned_none (P := Tryz.prog) w H 24 ty 73 i0 2 Tryz.underlying24 hi v n xs ho, by simpa using ho, .refl _ _⟩
 ·obtain ⟨v', w', h1', h2, h3, _⟩ := run_append_own (P := Tryz.prog) w H 24 ty 73 i0 (.agg #[.int .i64 0, .int .i64 0]) 2 16 Tryz.underlying24 hi hz0 hz1 hz2 rfl (by decide) v n xs ho ⟨g, 0, none⟩ l.length cap (entV l) (flat_len entCells 2 (fun _ => rfl) l)
   (fun j x hj => by
    have hjl : j < l.length * 2 := by have := (List.getElem?_eq_some_iff.1 hj).1; rwa [flat_len entCells 2 (fun _ => rfl)] at this
    have e : (⟨g, 0, none⟩ : Addr).add j = ⟨g, j, none⟩ := by unfold Addr.add; split <;> simp_all
    rw [e, hu.cellAt j hjl]
    exact hj) ent_one' (by unfold maxLen; omega) hb hH
  exact ⟨v', w', h1', h2, h3⟩
set_option maxHeartbeats 1000000 in
set_option maxRecDepth 100000 in
theorem clonee_any {w : World} {B : Nat} {v : Value} {V : List Ent} (h : w.ownsRow B 73 2 v V.length (entV V)) (hn : V.length ≤ 1000000) :
  Calls Tryz.prog 63 #[v] w fun e w' => ∃ v', e = .returned v' ∧ w'.ownsRow w.heap.size 73 2 v' V.length (entV V) ∧ Below w.heap.size w w' := by
 have hb0 := below1 w (.cells #[] 73)
 have hrow := (Turned.of_below (S := fun _ => False) hb0).own h (fun _ _ q => q)
 obtain ⟨i0, hi, hz0, hz1, hz2⟩ := info_parts entInfo
 rcases h.2 with ⟨rfl, h0⟩ | ⟨g, cap, cur, rfl, _, hg, _⟩
 ·have hL : V = [] := List.eq_nil_of_length_eq_zero h0
  subst hL
  clear h hrow hb0
  have e0 : ∀ W : World, (binOp .eql 24 (.slice none 0 0) (.slice none 0 0)).run Tryz.prog W = .ok (.bool true) W := fun _ => by kernel_rfl
  go_enter Tryz.func63, Tryz.ntmps63
  go_wp2
  go_ret
  exact ⟨_, rfl, World.ownsRow_nil _ _ _ _, .refl _ _⟩
 ·obtain ⟨v', w', h1', h2, h3⟩ := app_ents (new_empty w w.heap.size 73 2 (Nat.le_refl _)) hrow (by omega) hb0.size 24
  rw [Nat.zero_add, List.nil_append] at h2
  have hbf : Below w.heap.size w w' := grown_own hb0 h3 hb0.size (new_empty w w.heap.size 73 2 (Nat.le_refl _))
  have HH := Lib.hid (And.intro h2 hbf)
  clear h hrow hb0 hg h2 h3 hbf
  have e0 : ∀ W : World, (binOp .eql 24 (.slice (some ⟨g, 0, none⟩) V.length cap) (.slice none 0 0)).run Tryz.prog W = .ok (.bool false) W := fun _ => by kernel_rfl
  go_enter Tryz.func63, Tryz.ntmps63
  go_wp2_with (at_builtin; refine Lib.wpList_append_run _ rfl _ _ _ _ rfl _ _ rfl rfl _ _ h1' ?_)
  go_ret
  exact ⟨_, rfl, HH.out.1, HH.out.2⟩
/-- The same of a vector that is an argument. -/
theorem phave_any {w : World} {B : Nat} {c : LgC} {rep : Int} {V : List Ent} {L : List Wr} (h : LogAt w B c rep V L) (hV : V.length ≤ 1000000) :
  Calls Tryz.prog 24 #[.pointer (some ⟨c.p, 0, none⟩)] w fun e w' => ∃ v', e = .returned v' ∧ w'.ownsRow w.heap.size 73 2 v' V.length (entV V) ∧ Below w.heap.size w w' := by
 obtain ⟨p, hv, lv⟩ := c
 have hc := clonee_any h.h hV
 have k1 := (h.rc 1 _ rfl).1
 simp only at k1 hc ⊢
 obtain ⟨A, cc, rfl⟩ := own_form h.h
 clear h
 go_enter Tryz.func24, Tryz.ntmps24
 go_wp2_with (first | (go_at_call 63; refine hc.mono ?_; rintro e w1 ⟨v', rfl, ho, hb⟩; have HO := Lib.hid (And.intro ho hb); obtain ⟨A', c', rfl⟩ := own_form ho; clear ho hb))
 go_ret
 exact ⟨_, rfl, HO.out.1, HO.out.2⟩
theorem pwrites_any {w : World} {B : Nat} {c : LgC} {rep : Int} {V : List Ent} {L : List Wr} (h : LogAt w B c rep V L) (hL : L.length ≤ 1000000) :
  Calls Tryz.prog 26 #[.pointer (some ⟨c.p, 0, none⟩)] w fun e w' => ∃ v', e = .returned v' ∧ w'.ownsRow w.heap.size 32 6 v' L.length (L.flatMap wrCells) ∧ Below w.heap.size w w' := by
 obtain ⟨p, hv, lv⟩ := c
 have hc := clonew_any h.l hL
 have k1 := (h.rc 2 _ rfl).1
 simp only at k1 hc ⊢
 obtain ⟨A, cc, rfl⟩ := own_form h.l
 clear h
 go_enter Tryz.func26, Tryz.ntmps26
 go_wp2_with (first | (go_at_call 55; refine hc.mono ?_; rintro e w1 ⟨v', rfl, ho, hb⟩; have HO := Lib.hid (And.intro ho hb); obtain ⟨A', c', rfl⟩ := own_form ho; clear ho hb))
 go_ret
 exact ⟨_, rfl, HO.out.1, HO.out.2⟩
theorem wr_fits {x : Wr} (h : wright x = 0) : wrFits x := by
 obtain ⟨a, b, c, d, e, f⟩ := x
 have h2 := id_parts h
 unfold wright at h
 simp only at h h2
 unfold wrFits i64Fits maxLen
 simp only
 repeat' (split at h)
 all_goals (first | (exfalso; revert h; decide) | omega)
theorem pcells_any {w : World} {B : Nat} {c : LgC} {rep : Int} {V : List Ent} {L : List Wr} (h : LogAt w B c rep V L) (hL : L.length ≤ 1000000) (hr : ∀ x ∈ L, wright x = 0) (hg : Handle w) :
  Calls Tryz.prog 28 #[.pointer (some ⟨c.p, 0, none⟩)] w fun e w' => ∃ v' o, e = .returned v' ∧ OutR w' w.heap.size v' o ∧ IsOut L o ∧ Below w.heap.size w w' := by
 obtain ⟨p, hv, lv⟩ := c
 have k1 := (h.rc 2 _ rfl).1
 have hl := h.l
 simp only at k1 hl ⊢
 obtain ⟨A, cc, rfl⟩ := own_form hl
 have hc := sof_any (w := w) A L.length cc L (Sl.of_own hl) (fun x hx => wr_fits (hr x hx)) (by omega) hg
 have HR := Lib.hid hr
 clear h hl hr
 go_enter Tryz.func28, Tryz.ntmps28
 go_wp2_with (first | (go_at_call 10; refine hc.mono ?_; rintro e w1 ⟨v, u, rfl, hO, hb⟩; obtain ⟨_, rfl, o, hv1, hv2⟩ : (∀ y ∈ L, wright y = 0) ∧ u = .nilIface ∧ ∃ o, OutR w1 w.heap.size v o ∧ OutOf (stoOf L) o := hO.ex.resolve_left (fun ⟨k, x, hx, hr, _⟩ => hr (HR.out x (List.mem_of_getElem? hx))); have HO := Lib.hid (And.intro hv1 (And.intro hv2.isOut hb)); obtain ⟨LX, q1, q2, q3⟩ := hv1; obtain ⟨A', c', rfl⟩ := own_form q2; clear q1 q2 q3 hO hb hv2))
 go_ret
 exact ⟨_, o, rfl, HO.out.1, HO.out.2.1, HO.out.2.2⟩
theorem pnewl_no (rep : Int) (w : World) (h : ¬ (0 ≤ rep ∧ rep ≤ 200)) : Calls Tryz.prog 15 #[.int .i64 rep] w fun e w' => e = .returned (.tuple #[.pointer none, .iface 33 (.int .i64 2)]) ∧ w = w' := by
 by_cases h1 : rep < 0
 ·have d1 : decide (rep < 0) = true := decide_eq_true h1
  clear h h1
  go_enter Tryz.func15, Tryz.ntmps15
  go_wp2
  go_ret2
  exact ⟨rfl, rfl⟩
 ·have d1 : decide (rep < 0) = false := decide_eq_false h1
  have d2 : decide (200 < rep) = true := decide_eq_true (by omega)
  clear h h1
  go_enter Tryz.func15, Tryz.ntmps15
  go_wp2
  go_ret2
  exact ⟨rfl, rfl⟩
theorem pnewl_any (rep : Int) (w : World) (h : 0 ≤ rep ∧ rep ≤ 200) : Calls Tryz.prog 15 #[.int .i64 rep] w fun e w' => ∃ c : LgC, e = .returned (.tuple #[.pointer (some ⟨c.p, 0, none⟩), .nilIface]) ∧ LogAt w' w.heap.size c rep [] [] ∧ Below w.heap.size w w' := by
 have d1 : decide (rep < 0) = false := decide_eq_false (by omega)
 have d2 : decide (200 < rep) = false := decide_eq_false (by omega)
 have hrc := RC.new w [.int .i64 rep, .slice none 0 0, .slice none 0 0] 108
 have hb := below1 w (.cells #[.int .i64 rep, .slice none 0 0, .slice none 0 0] 108)
 have HX := Lib.hid (And.intro hrc hb)
 clear h hrc hb
 go_enter Tryz.func15, Tryz.ntmps15
 go_wp2
 go_ret2
 exact ⟨⟨w.heap.size, .slice none 0 0, .slice none 0 0⟩, rfl, ⟨HX.out.1, Nat.le_refl _, World.ownsRow_nil _ _ _ _, World.ownsRow_nil _ _ _ _, (fun e => by cases e), (fun e => by cases e)⟩, HX.out.2⟩
end Go.Proofs.YtlpkpfpmcppciaaGreatDoor
end

section
namespace Go.Proofs.YtlpkpfpmcppciaaGreatDoor.Flow
open Go
section
variable {P : Program} {ops : Array Oper} {Q : Exit → Act → World → Prop} {Z : List PanicEntry → World → Prop}
/-- Each operation waits for earlier ones alone; what guards it is among these, and is listed in ps. -/
def lexH (ops : Array Oper) (ps : List (Nat × Bool)) : Bool := (List.range ops.size).all fun i => match ops[i]? with
 | some o => (match o.guard with
  | none => true
  | some g => ps.contains g && (o.after.toList.any fun e => Region.binds .any e && e.on == g.1) && ((ops[g.1]?).bind (·.dst)).isSome) && o.after.toList.all fun e => !Region.binds .any e || decide (e.on < i)
 | none => true
theorem lexH_of {ps : List (Nat × Bool)} (h : lexH ops ps = true) {i : Nat} {o : Oper} (ho : ops[i]? = some o) :
  (∀ g, o.guard = some g → g ∈ ps ∧ (∃ e ∈ o.after, Region.binds .any e = true ∧ e.on = g.1) ∧ ((ops[g.1]?).bind (·.dst)).isSome = true) ∧ ∀ e ∈ o.after, Region.binds .any e = true → e.on < i := by
 have hi := (Array.getElem?_eq_some_iff.1 ho).1
 have := List.all_eq_true.1 h i (List.mem_range.2 hi)
 rw [ho] at this
 simp only [Bool.and_eq_true] at this
 refine ⟨fun g hg => ?_, fun e he hb => ?_⟩
 ·have h1 := this.1
  rw [hg] at h1
  simp only [Bool.and_eq_true, List.any_eq_true, beq_iff_eq] at h1
  obtain ⟨⟨h2, e, he, h3⟩, h4⟩ := h1
  exact ⟨by simpa using h2, ⟨e, by simpa using he, h3⟩, h4⟩
 ·have h2 := List.all_eq_true.1 this.2 e (by simpa using he)
  rw [hb] at h2
  simpa using h2
theorem allH_of_ready {ps : List (Nat × Bool)} (hlex : lexH ops ps = true) {L : Array Bool} (hs : L.size = ops.size) (h : Region.ready .any ops L = []) (i : Nat) : i < ops.size → L.getD i false = true := by
 induction i using Nat.strongRecOn with
 | ind i ih =>
  intro hi
  rcases hb : L.getD i false with _ | _
  ·exfalso
   have hm : i ∈ Region.ready .any ops L := mem_ready.2 ⟨by rw [getD_in (by omega) true false]; exact hb, ops[i], Array.getElem?_eq_getElem hi, fun e he hbe => ih e.on ((lexH_of hlex (Array.getElem?_eq_getElem hi)).2 e he hbe) (by have := (lexH_of hlex (Array.getElem?_eq_getElem hi)).2 e he hbe; omega)⟩
   rw [h] at hm
   cases hm
  ·rfl
theorem wanted_of {ps : List (Nat × Bool)} (hlex : lexH ops ps = true) (hok : okB ops = true) {a0 : Act} {n : Nat} (hn : a0.tmps.size = n) (hfit : fitB ops n = true) {v : Nat → Value} (hv : ∀ p ∈ ps, v p.1 = .bool p.2) {L : Nat → Bool} {i : Nat} {o : Oper} (ho : ops[i]? = some o)
  (hd : ∀ e ∈ o.after, Region.binds .any e = true → L e.on = true) : Region.wanted o (yielded ops (frame ops a0 v L).tmps) = true := by
 unfold Region.wanted
 cases hg : o.guard with
 | none => rfl
 | some g =>
  obtain ⟨h1, ⟨e, he, hb, heq⟩, h3⟩ := (lexH_of hlex ho).1 g hg
  obtain ⟨j, b⟩ := g
  simp only at heq h3 ⊢
  have hL : L j = true := by rw [← heq]; exact hd e he hb
  obtain ⟨t, ht⟩ := Option.isSome_iff_exists.1 h3
  obtain ⟨oj, hoj, hdj⟩ := Option.bind_eq_some_iff.1 ht
  have hw := ok_of hok hoj hdj
  have htn := fit_of hfit hw
  have hfr : (frame ops a0 v L).tmps[t]? = some (v j) := by
   rw [frame_at, Array.getElem?_eq_getElem (by omega)]
   simp [slot, hw, hL]
  have hy : yielded ops (frame ops a0 v L).tmps j = some b := by
   unfold yielded
   rw [ht]
   simp only [Option.bind_some, hfr]
   have := hv (j, b) h1
   simp only at this
   rw [this]
  rw [hy]
  simp
theorem wp_region_guard {G : Type} {id : Nat} {l : List Oper} {a0 : Act} {w0 : World} (ps : List (Nat × Bool)) (hm : P.follows .mixedOrders = true) (hlex : lexH l.toArray ps = true) (hok : okB l.toArray = true) (n : Nat) (hn : a0.tmps.size = n) (hfit : fitB l.toArray n = true)
  (v : G → Nat → Value) (hps : ∀ g, ∀ p ∈ ps, v g p.1 = .bool p.2) (C : G → (Nat → Bool) → World → Prop) (Z : List PanicEntry → World → Prop) (g0 : G) (h0 : C g0 (fun _ => false) w0.drew)
  (hstep : Steps (Step4 P l.toArray a0 v C Z) 0 l) (hthrow : ∀ g L ch w, Z ch w → Q (.panic ch) (frame l.toArray a0 (v g) L) w)
  (hdone : ∀ g L w, (∀ i, i < l.length → L i = true) → C g L w → Q .normal (putAll (v g) 0 l a0) w) :
  (Code.region id l.toArray true).wp P Q a0 w0 := by
 refine wp_region_any hm ?_
 refine wpAny_inv (fun L a w => ∃ g, a = frame l.toArray a0 (v g) (fun i => L.getD i false) ∧ Closed l.toArray (fun i => L.getD i false) ∧ C g (fun i => L.getD i false) w) ?_ ?_ _ _ _ _ (by simp) ?_ ?_
 ·rintro L a w i o hs ⟨g, rfl, hcl, hC⟩ ho hi hd
  have hst := hstep.at_ (i := i) (o := o) (by simpa using ho)
  rw [Nat.zero_add] at hst
  have hin : i < L.size := by rw [hs]; exact (Array.getElem?_eq_some_iff.1 ho).1
  have hi' : L.getD i false = false := by rw [getD_in hin false true]; exact hi
  have hfun : (fun j => (L.setIfInBounds i true).getD j false) = fun j => j == i || L.getD j false := by
   funext j
   by_cases hj : j = i
   ·subst hj
    simp [Array.getD, hin]
   ·have hb : (j == i) = false := by simpa using hj
    rw [hb, Bool.false_or]
    simp only [Array.getD_eq_getD_getElem?, Array.getElem?_setIfInBounds]
    rw [if_neg (fun e => hj e.symm)]
  unfold wpOp
  rw [ho]
  simp only
  rw [if_pos (wanted_of hlex hok hn hfit (hps g) ho hd)]
  refine .inl (YlP.upon (hst g _ w (fun u w' => ∃ g', u = v g' i ∧ C g' (fun j => j == i || L.getD j false) w' ∧ ∀ j, L.getD j false = true → v g' j = v g j) _ (fun _ => rfl) (fun _ => rfl) (fun t j h1 h2 => frame_dst h1 (by rw [hn]; exact fit_of hfit h1) h2) (fun t h1 => frame_old h1) (fun t j h1 h2 => frame_not h1 h2) (fun i j => hcl.reach _ i j) hi' hd hC (fun g' w' h1 h2 => ⟨g', rfl, h1, h2⟩)) ?_ (fun ch w' hz => hthrow g _ ch w' hz))
  rintro u w' ⟨g', rfl, hC', hv⟩
  refine ⟨g', ?_, ?_, ?_⟩
  ·rw [hfun]; exact frame_put hok ho hv
  ·rw [hfun]
   intro j oj hoj hlj e he hb
   simp only [Bool.or_eq_true, beq_iff_eq] at hlj ⊢
   rcases hlj with rfl | hlj
   ·rw [ho] at hoj
    injection hoj with hoj
    subst hoj
    exact .inr (hd e he hb)
   ·exact .inr (hcl j oj hoj hlj e he hb)
  ·rw [hfun]; exact hC'
 ·rintro L a w hs ⟨g, rfl, _, hC⟩ hr
  have hall := allH_of_ready hlex hs hr
  rw [frame_all hall, putAll_all hok]
  exact hdone g _ w (fun i hi => hall i (by simpa using hi)) hC
 ·have hz : (fun i => (Array.replicate l.toArray.size false).getD i false) = fun _ => false := by
   funext i
   simp [Array.getD]
  refine ⟨g0, ?_, ?_, ?_⟩
  ·rw [hz, frame_none]
  ·rw [hz]; intro i o _ h; cases h
  ·rw [hz]; exact h0
 ·unfold left
  simp only [Array.toList_replicate]
  exact Nat.le_trans List.countP_le_length (by simp)
end
end Go.Proofs.YtlpkpfpmcppciaaGreatDoor.Flow
end

section
namespace Go.Proofs.YtlpkpfpmcppciaaGreatDoor
set_option linter.unusedSimpArgs false
set_option linter.unusedVariables false
open Go.RowKit
set_option maxHeartbeats 1000000 in
set_option maxRecDepth 100000 in
theorem acmp_any (x y : Wr) (w : World) : Calls Tryz.prog 57 #[wrV x.1 x.2.1 x.2.2.1 x.2.2.2.1 x.2.2.2.2.1 x.2.2.2.2.2, wrV y.1 y.2.1 y.2.2.1 y.2.2.2.1 y.2.2.2.2.1 y.2.2.2.2.2] w fun e w' => e = .returned (.int .i64 (idCmp (x.1, x.2.1) (y.1, y.2.1))) ∧ Below w.heap.size w w' := by
 obtain ⟨x1, x2, x3, x4, x5, x6⟩ := x
 obtain ⟨y1, y2, y3, y4, y5, y6⟩ := y
 have hb0 := below2 w (wrO x1 x2 x3 x4 x5 x6) (wrO y1 y2 y3 y4 y5 y6)
 unfold wrO at hb0
 simp only
 unfold wrV
 go_enter Tryz.func57, Tryz.ntmps57
 go_wp2_with (first | (go_at_call 58; refine (compare_any x1 x2 y1 y2 _).mono ?_; rintro e w1 ⟨rfl, hb⟩))
 go_ret
 exact ⟨rfl, hb0.trans (hb.mono hb0.size)⟩
/-- A write's cells in a block. -/
theorem wr_cells_own {w : World} {B b n c : Nat} {N : List Wr} (ho : w.ownsRow B 32 6 (.slice (some ⟨b, 0, none⟩) n c) n (N.flatMap wrCells)) (hN : N.length = n) {h : Nat} {x : Wr} (hx : N[h]? = some x) : ∀ q u, (wrCells x)[q]? = some u → w.cell? ⟨b, h * 6 + q, none⟩ = some u := fun q u hu => by
 have hq : q < 6 := (List.getElem?_eq_some_iff.1 hu).1
 have hh : h < n := by have := (List.getElem?_eq_some_iff.1 hx).1; omega
 rw [ho.cellAt _ (by omega), flat_get wrCells 6 (fun _ => rfl) N h q x hx hq]
 exact hu
theorem own_some_of {w : World} {B n c : Nat} {e : TypeId} {k : Nat} {A : Option Addr} {xs : List Value} (ho : w.ownsRow B e k (.slice A n c) n xs) (hn : 0 < n) : ∃ b, A = some ⟨b, 0, none⟩ := by
 rcases ho.2 with ⟨_, h0⟩ | ⟨g, cap, cur, e, _⟩
 ·omega
 ·injection e with e1
  exact ⟨g, e1⟩
/-- As the search stands. -/
structure Srch (N : List Wr) (y : Wr) (n i j : Nat) : Prop where
 ij : i ≤ j
 jn : j ≤ n
 lo : ∀ (k : Nat) (x : Wr), k < i → N[k]? = some x → wlt x y = true
 hi : ∀ (k : Nat) (x : Wr), j ≤ k → N[k]? = some x → wlt x y = false
theorem Srch.up {N : List Wr} {y x : Wr} {n i j h : Nat} (s : Srch N y n i j) (hr : Rise N) (h1 : h < j) (hx : N[h]? = some x) (hw : wlt x y = true) : Srch N y n (h + 1) j := ⟨by omega, s.jn, fun k z hk hz => by
 rcases Nat.lt_or_ge k h with q | q
 ·obtain ⟨k1, k2⟩ := List.getElem?_eq_some_iff.1 hz
  obtain ⟨h1', h2⟩ := List.getElem?_eq_some_iff.1 hx
  have := (List.pairwise_iff_getElem.1 hr) k h k1 h1' q
  rw [k2, h2] at this
  have h3 := wlt_iff.1 this
  have h4 := wlt_iff.1 hw
  exact wlt_iff.2 (by omega)
 ·obtain rfl : k = h := by omega
  rw [hx] at hz
  injection hz with hz
  rw [← hz]
  exact hw, s.hi⟩
theorem Srch.down {N : List Wr} {y x : Wr} {n i j h : Nat} (s : Srch N y n i j) (hr : Rise N) (h0 : i ≤ h) (h1 : h < j) (hx : N[h]? = some x) (hw : wlt x y = false) : Srch N y n i h := ⟨h0, by have := s.jn; omega, s.lo, fun k z hk hz => by
 rcases Nat.lt_or_ge h k with q | q
 ·obtain ⟨k1, k2⟩ := List.getElem?_eq_some_iff.1 hz
  obtain ⟨h1', h2⟩ := List.getElem?_eq_some_iff.1 hx
  have := (List.pairwise_iff_getElem.1 hr) h k h1' k1 q
  rw [k2, h2] at this
  have h3 := wlt_iff.1 this
  have h4 := wlt_false.1 hw
  exact wlt_false.2 (by omega)
 ·obtain rfl : k = h := by omega
  rw [hx] at hz
  injection hz with hz
  rw [← hz]
  exact hw⟩
def sameId (x y : Wr) : Bool := decide (wid x = wid y)
theorem foundAt_some {N : List Wr} {x y : Wr} {p : Nat} (hx : N[p]? = some x) : foundAt N y p = sameId x y := by unfold foundAt; rw [hx]; rfl
theorem foundAt_none {N : List Wr} {y : Wr} {p : Nat} (hp : N.length ≤ p) : foundAt N y p = false := by unfold foundAt; rw [List.getElem?_eq_none hp]
theorem cmp_zero (x y : Wr) : (idCmp (x.1, x.2.1) (y.1, y.2.1) == 0) = sameId x y := by
 unfold sameId idCmp wid
 by_cases h : (x.1, x.2.1).1 < (y.1, y.2.1).1 ∨ ((x.1, x.2.1).1 = (y.1, y.2.1).1 ∧ (x.1, x.2.1).2 < (y.1, y.2.1).2)
 ·rw [if_pos h]
  have hn : ¬ ((x.1, x.2.1) = (y.1, y.2.1)) := fun e => by rw [e] at h; omega
  rw [decide_eq_false hn]
  rfl
 ·rw [if_neg h]
  by_cases e : (x.1, x.2.1) = (y.1, y.2.1)
  ·rw [if_pos e, decide_eq_true e]; rfl
  ·rw [if_neg e, decide_eq_false e]; rfl
def bsV (h gt b n c : Nat) (x y : Wr) (g : Unit) : Nat → Value
 | 0 => .func (.func 57) #[] #[]
 | 1 => .slice (some ⟨b, 0, none⟩) n c
 | 2 => .int .i64 (h : Int)
 | 3 => .pointer (some ⟨b, h * 6, none⟩)
 | 4 => .agg #[.int .i64 x.1, .int .i64 x.2.1, .int .i64 x.2.2.1, .string x.2.2.2.1, .string x.2.2.2.2.1, .int .i64 x.2.2.2.2.2]
 | 5 => .agg #[.int .i64 y.1, .int .i64 y.2.1, .int .i64 y.2.2.1, .string y.2.2.2.1, .string y.2.2.2.2.1, .int .i64 y.2.2.2.2.2]
 | 6 => .int .i64 (idCmp (x.1, x.2.1) (y.1, y.2.1))
 | 7 => .bool (wlt x y)
 | _ => undef
def bsW (h gt b n c : Nat) (x y : Wr) (g : Unit) : Nat → Value
 | 0 => .int .i64 (h : Int)
 | 1 => .int .i64 (h : Int)
 | 2 => .int .i64 (n : Int)
 | 3 => .bool true
 | 4 => .bool true
 | 5 => .func (.func 57) #[] #[]
 | 6 => .slice (some ⟨b, 0, none⟩) n c
 | 7 => .int .i64 (h : Int)
 | 8 => .pointer (some ⟨b, h * 6, none⟩)
 | 9 => .agg #[.int .i64 x.1, .int .i64 x.2.1, .int .i64 x.2.2.1, .string x.2.2.2.1, .string x.2.2.2.2.1, .int .i64 x.2.2.2.2.2]
 | 10 => .agg #[.int .i64 y.1, .int .i64 y.2.1, .int .i64 y.2.2.1, .string y.2.2.2.1, .string y.2.2.2.2.1, .int .i64 y.2.2.2.2.2]
 | 11 => .int .i64 (idCmp (x.1, x.2.1) (y.1, y.2.1))
 | 12 => .bool (sameId x y)
 | 13 => .bool (sameId x y)
 | 14 => .int .i64 (h : Int)
 | 15 => .bool (sameId x y)
 | _ => undef
set_option maxHeartbeats 4000000 in
set_option maxRecDepth 100000 in
theorem bsearch_any {w : World} {B n c : Nat} {A : Option Addr} {N : List Wr} (ho : w.ownsRow B 32 6 (.slice A n c) n (N.flatMap wrCells)) (hN : N.length = n) (hr : Rise N) (hn : n ≤ 1000000) (y : Wr) :
  Calls Tryz.prog 56 #[.slice A n c, wrV y.1 y.2.1 y.2.2.1 y.2.2.2.1 y.2.2.2.2.1 y.2.2.2.2.2, .func (.func 57) #[] #[]] w fun e w' => ∃ p : Nat, PosOf N y p ∧ e = .returned (.tuple #[.int .i64 (p : Int), .bool (foundAt N y p)]) ∧ Below w.heap.size w w' := by
 have b0 := below1 w (wrO y.1 y.2.1 y.2.2.1 y.2.2.2.1 y.2.2.2.2.1 y.2.2.2.2.2)
 have hc := WrAt.new w y.1 y.2.1 y.2.2.1 y.2.2.2.1 y.2.2.2.2.1 y.2.2.2.2.2
 have ho1 := (Turned.of_below (S := fun _ => False) b0).own ho (fun _ _ q => q)
 obtain ⟨gt, hgt⟩ : ∃ g, g = w.heap.size := ⟨_, rfl⟩
 have HO := Lib.hid ho1
 have HN := Lib.hid (And.intro hN (And.intro hr hn))
 have HS0 : Hid (Srch N y n 0 n) := Lib.hid ⟨Nat.zero_le _, Nat.le_refl _, fun k x hk => by omega, fun k x hk hx => by have := (List.getElem?_eq_some_iff.1 hx).1; omega⟩
 unfold wrO at b0 hc HO
 unfold wrV
 clear ho ho1 hN hr hn
 go_enter Tryz.func56, Tryz.ntmps56
 go_upto_region 1 with fail
 rw [← hgt] at hc ⊢
 clear hgt
 generalize w.alloc (.cells #[.int .i64 y.1, .int .i64 y.2.1, .int .i64 y.2.2.1, .string y.2.2.2.1, .string y.2.2.2.2.1, .int .i64 y.2.2.2.2.2] 32) = W at *
 go_wp2
 go_loopw [9, 10, 11] (fun vi vj _ wr => ∃ (i j : Nat), vi = .int .i64 (i : Int) ∧ vj = .int .i64 (j : Int) ∧ Hid (Srch N y n i j) ∧ Below W.heap.size W wr) (fun vi vj _ _ => (intOf vj).toNat - (intOf vi).toNat)
 case atStart => exact ⟨0, n, rfl, rfl, HS0, Below.refl _ _⟩
 case round =>
  obtain ⟨i, j, rfl, rfl, HS, hb⟩ := hrel
  clear HS0
  have y0 := hc.c0
  have y1 := hc.c1
  have y2 := hc.c2
  have y3 := hc.c3
  have y4 := hc.c4
  have y5 := hc.c5
  have HB := Lib.hid hb
  clear hb
  by_cases hlt : i < j
  ·obtain ⟨s, hs⟩ : ∃ s, s = i + j := ⟨_, rfl⟩
   obtain ⟨h, hh⟩ : ∃ h, h = s / 2 := ⟨_, rfl⟩
   have HF : Half i j s h := ⟨hs, hh, by have := HS.out.jn; have := HN.out.2.2; omega⟩
   have HH : Hid (i ≤ h ∧ h < j) := Lib.hid (by omega)
   have hin : h < n := by have := HS.out.jn; omega
   obtain ⟨x, hx⟩ : ∃ x, N[h]? = some x := ⟨_, List.getElem?_eq_getElem (by rw [HN.out.1]; exact hin)⟩
   obtain ⟨b, rfl⟩ := own_some_of HO.out (by omega)
   have cx := wr_cells_own HO.out HN.out.1 hx
   have x0 : W.cell? ⟨b, h * 6, none⟩ = some (.int .i64 x.1) := cx 0 _ rfl
   have x1 : W.cell? ⟨b, h * 6 + 1, none⟩ = some (.int .i64 x.2.1) := cx 1 _ rfl
   have x2 : W.cell? ⟨b, h * 6 + 2, none⟩ = some (.int .i64 x.2.2.1) := cx 2 _ rfl
   have x3 : W.cell? ⟨b, h * 6 + 3, none⟩ = some (.string x.2.2.2.1) := cx 3 _ rfl
   have x4 : W.cell? ⟨b, h * 6 + 4, none⟩ = some (.string x.2.2.2.2.1) := cx 4 _ rfl
   have x5 : W.cell? ⟨b, h * 6 + 5, none⟩ = some (.int .i64 x.2.2.2.2.2) := cx 5 _ rfl
   have HX := Lib.hid hx
   have WF := Lib.hid (half_facts HF)
   have W1 := Lib.hid (w_one (a := h) (by have := HN.out.2.2; omega))
   have HI1 : Hid ((0 : Int) ≤ (h : Int) ∧ (h : Int) < (n : Int)) := Lib.hid (by omega)
   have HI2 : Hid ((h : Int).toNat = h) := Lib.hid (by omega)
   have HI3 : Hid (h < n) := Lib.hid hin
   have d1 : decide (i < j) = true := decide_eq_true hlt
   have HM1 : Hid (j - (h + 1) < j - i) := Lib.hid (by have := HH.out; omega)
   have HM2 : Hid (h - i < j - i) := Lib.hid (by have := HH.out; omega)
   obtain ⟨⟨f1, f2⟩, f3, f4, f5, f6, f7⟩ := WF.out
   clear cx hx hin hlt hs hh HF hc
   go_upto_region 5 with fail
   have hi1 := HI1.out
   have hi2 := HI2.out
   have hi3 := HI3.out
   have hw : decide (idCmp (x.1, x.2.1) (y.1, y.2.1) < 0) = wlt x y := rfl
   clear f1 f2 f3 f4 f5 f6 f7 d1
   refine Flow.wp_region_go (by kernel_rfl) (by kernel_rfl) (by kernel_rfl) 49 rfl (by kernel_rfl) (bsV h gt b n c x y) (fun _ _ wz => Below W.heap.size W wz) (fun _ _ => False) (()) (HB.out.trans (Below.refl _ _).drew) ⟨?_, ?_, ?_, ?_, ?_, ?_, ?_, ?_, trivial⟩ ?_ ?_
   ·intro gz L wz K ρ hc0 hf0 hF hO hU hcl hi hd hC hK
    have e2 : ρ (.tmp 2) = .func (.func 57) #[] #[] := hO 2 (by kernel_rfl)
    simp [go_sem, Flow.ylP_value, Flow.ylP_skip, Flow.ylP_enter, Flow.ylP_panic, hc0, hf0, e2]
    exact hK gz wz hC (fun _ _ => rfl)
   ·intro gz L wz K ρ hc0 hf0 hF hO hU hcl hi hd hC hK
    have e0 : ρ (.tmp 0) = .slice (some ⟨b, 0, none⟩) n c := hO 0 (by kernel_rfl)
    simp [go_sem, Flow.ylP_value, Flow.ylP_skip, Flow.ylP_enter, Flow.ylP_panic, hc0, hf0, e0]
    exact hK gz wz hC (fun _ _ => rfl)
   ·intro gz L wz K ρ hc0 hf0 hF hO hU hcl hi hd hC hK
    have e11 : ρ (.tmp 11) = .int .i64 (h : Int) := hO 11 (by kernel_rfl)
    simp [go_sem, Flow.ylP_value, Flow.ylP_skip, Flow.ylP_enter, Flow.ylP_panic, hc0, hf0, e11]
    exact hK gz wz hC (fun _ _ => rfl)
   ·intro gz L wz K ρ hc0 hf0 hF hO hU hcl hi hd hC hK
    have d1 : L 1 = true := hd ⟨1, .data⟩ (by simp) rfl
    have e25 : ρ (.tmp 25) = .slice (some ⟨b, 0, none⟩) n c := hF 25 1 (by kernel_rfl) d1
    have d2 : L 2 = true := hd ⟨2, .data⟩ (by simp) rfl
    have e26 : ρ (.tmp 26) = .int .i64 (h : Int) := hF 26 2 (by kernel_rfl) d2
    simp [go_sem, Flow.ylP_value, Flow.ylP_skip, Flow.ylP_enter, Flow.ylP_panic, hc0, hf0, e25, e26, hi1, hi2, hi3]
    exact hK gz wz hC (fun _ _ => rfl)
   ·intro gz L wz K ρ hc0 hf0 hF hO hU hcl hi hd hC hK
    have d3 : L 3 = true := hd ⟨3, .data⟩ (by simp) rfl
    have e27 : ρ (.tmp 27) = .pointer (some ⟨b, h * 6, none⟩) := hF 27 3 (by kernel_rfl) d3
    have cc0 := (hC.cell (p := ⟨b, h * 6, none⟩) (cell_lt x0)).trans x0
    have cc1 := (hC.cell (p := ⟨b, h * 6 + 1, none⟩) (cell_lt x1)).trans x1
    have cc2 := (hC.cell (p := ⟨b, h * 6 + 2, none⟩) (cell_lt x2)).trans x2
    have cc3 := (hC.cell (p := ⟨b, h * 6 + 3, none⟩) (cell_lt x3)).trans x3
    have cc4 := (hC.cell (p := ⟨b, h * 6 + 4, none⟩) (cell_lt x4)).trans x4
    have cc5 := (hC.cell (p := ⟨b, h * 6 + 5, none⟩) (cell_lt x5)).trans x5
    simp [go_sem, Flow.ylP_value, Flow.ylP_skip, Flow.ylP_enter, Flow.ylP_panic, hc0, hf0, e27, cc0, cc1, cc2, cc3, cc4, cc5]
    exact hK gz wz hC (fun _ _ => rfl)
   ·intro gz L wz K ρ hc0 hf0 hF hO hU hcl hi hd hC hK
    have e4 : ρ (.tmp 4) = .pointer (some ⟨gt, 0, none⟩) := hO 4 (by kernel_rfl)
    have cc0 := (hC.cell (p := ⟨gt, 0, none⟩) (cell_lt y0)).trans y0
    have cc1 := (hC.cell (p := ⟨gt, 1, none⟩) (cell_lt y1)).trans y1
    have cc2 := (hC.cell (p := ⟨gt, 2, none⟩) (cell_lt y2)).trans y2
    have cc3 := (hC.cell (p := ⟨gt, 3, none⟩) (cell_lt y3)).trans y3
    have cc4 := (hC.cell (p := ⟨gt, 4, none⟩) (cell_lt y4)).trans y4
    have cc5 := (hC.cell (p := ⟨gt, 5, none⟩) (cell_lt y5)).trans y5
    simp [go_sem, Flow.ylP_value, Flow.ylP_skip, Flow.ylP_enter, Flow.ylP_panic, hc0, hf0, e4, cc0, cc1, cc2, cc3, cc4, cc5]
    exact hK gz wz hC (fun _ _ => rfl)
   ·intro gz L wz K ρ hc0 hf0 hF hO hU hcl hi hd hC hK
    have d0 : L 0 = true := hd ⟨0, .data⟩ (by simp) rfl
    have e24 : ρ (.tmp 24) = .func (.func 57) #[] #[] := hF 24 0 (by kernel_rfl) d0
    have d4 : L 4 = true := hd ⟨4, .data⟩ (by simp) rfl
    have e28 : ρ (.tmp 28) = .agg #[.int .i64 x.1, .int .i64 x.2.1, .int .i64 x.2.2.1, .string x.2.2.2.1, .string x.2.2.2.2.1, .int .i64 x.2.2.2.2.2] := hF 28 4 (by kernel_rfl) d4
    have d5 : L 5 = true := hd ⟨5, .data⟩ (by simp) rfl
    have e29 : ρ (.tmp 29) = .agg #[.int .i64 y.1, .int .i64 y.2.1, .int .i64 y.2.2.1, .string y.2.2.2.1, .string y.2.2.2.2.1, .int .i64 y.2.2.2.2.2] := hF 29 5 (by kernel_rfl) d5
    simp [go_sem, Flow.ylP_value, Flow.ylP_skip, Flow.ylP_enter, Flow.ylP_panic, hc0, hf0, e24, e28, e29]
    refine (acmp_any x y _).mono ?_
    rintro r wn ⟨rfl, hbn⟩
    exact ⟨_, rfl, hK gz wn (hC.trans (hbn.mono hC.size)) (by intro j hj; unfold bsV; split <;> first | rfl | (rw [hi] at hj; cases hj) | (have hz := hcl _ 6 (by kernel_rfl) hj; rw [hi] at hz; cases hz))⟩
   ·intro gz L wz K ρ hc0 hf0 hF hO hU hcl hi hd hC hK
    have d6 : L 6 = true := hd ⟨6, .data⟩ (by simp) rfl
    have e30 : ρ (.tmp 30) = .int .i64 (idCmp (x.1, x.2.1) (y.1, y.2.1)) := hF 30 6 (by kernel_rfl) d6
    simp [go_sem, Flow.ylP_value, Flow.ylP_skip, Flow.ylP_enter, Flow.ylP_panic, hc0, hf0, e30, hw]
    exact hK gz wz hC (fun _ _ => rfl)
   ·intro gz L ch wz h; exact h.elim
   ·intro gz L wz hL hC
    have HB1 := Lib.hid hC
    clear hC
    simp only [Flow.putAll, bsV]
    cases hxy : wlt x y with
    | true =>
     simp [Act.put]
     obtain ⟨g1, g2⟩ := W1.out
     have HS2 : Hid (Srch N y n (h + 1) j) := Lib.hid (HS.out.up HN.out.2.1 HH.out.2 HX.out hxy)
     go_wp2
     go_roundw
     case rel => exact ⟨h + 1, j, by go_num, rfl, HS2, HB1.out⟩
     case measure => simpa [intOf] using HM1.out
    | false =>
     simp [Act.put]
     have HS2 : Hid (Srch N y n i h) := Lib.hid (HS.out.down HN.out.2.1 HH.out.1 HH.out.2 HX.out hxy)
     go_wp2
     go_roundw
     case rel => exact ⟨i, h, rfl, rfl, HS2, HB1.out⟩
     case measure => simpa [intOf] using HM2.out
  ·have hij : i = j := by have := HS.out.ij; omega
   subst hij
   have d1 : decide (i < i) = false := decide_eq_false hlt
   have HP : Hid (PosOf N y i) := Lib.hid ⟨by rw [HN.out.1]; exact HS.out.jn, HS.out.lo, HS.out.hi⟩
   have HBW := Lib.hid b0
   by_cases hin : i < n
   ·obtain ⟨x, hx⟩ : ∃ x, N[i]? = some x := ⟨_, List.getElem?_eq_getElem (by rw [HN.out.1]; exact hin)⟩
    obtain ⟨b, rfl⟩ := own_some_of HO.out (by omega)
    have cx := wr_cells_own HO.out HN.out.1 hx
    have x0 : W.cell? ⟨b, i * 6, none⟩ = some (.int .i64 x.1) := cx 0 _ rfl
    have x1 : W.cell? ⟨b, i * 6 + 1, none⟩ = some (.int .i64 x.2.1) := cx 1 _ rfl
    have x2 : W.cell? ⟨b, i * 6 + 2, none⟩ = some (.int .i64 x.2.2.1) := cx 2 _ rfl
    have x3 : W.cell? ⟨b, i * 6 + 3, none⟩ = some (.string x.2.2.2.1) := cx 3 _ rfl
    have x4 : W.cell? ⟨b, i * 6 + 4, none⟩ = some (.string x.2.2.2.2.1) := cx 4 _ rfl
    have x5 : W.cell? ⟨b, i * 6 + 5, none⟩ = some (.int .i64 x.2.2.2.2.2) := cx 5 _ rfl
    have hfd := foundAt_some (y := y) hx
    have HFD := Lib.hid hfd
    have HI1 : Hid ((0 : Int) ≤ (i : Int) ∧ (i : Int) < (n : Int)) := Lib.hid (by omega)
    have HI2 : Hid ((i : Int).toNat = i) := Lib.hid (by omega)
    have HI3 : Hid (i < n) := Lib.hid hin
    clear cx hx hin hc hfd b0
    go_upto_region 8 with fail
    have hi1 := HI1.out
    have hi2 := HI2.out
    have hi3 := HI3.out
    have hw := cmp_zero x y
    clear d1
    obtain ⟨h, hh⟩ : ∃ h, h = i := ⟨_, rfl⟩
    have hres : ∀ W2, Below W.heap.size W W2 → (∃ p : Nat, PosOf N y p ∧ Ending.returned (.tuple #[.int .i64 (h : Int), .bool (sameId x y)]) = Ending.returned (.tuple #[.int .i64 (p : Int), .bool (foundAt N y p)]) ∧ Below w.heap.size w W2) := fun W2 hb2 => ⟨h, hh ▸ HP.out, by rw [hh, HFD.out], HBW.out.trans (hb2.mono HBW.out.size)⟩
    subst hh
    refine Flow.wp_region_guard [(4, true)] (by kernel_rfl) (by kernel_rfl) (by kernel_rfl) 49 rfl (by kernel_rfl) (bsW h gt b n c x y) (by intro g p hp; simp only [List.mem_cons, List.not_mem_nil, or_false] at hp; rcases hp with rfl <;> rfl) (fun _ _ wz => Below W.heap.size W wz) (fun _ _ => False) (()) (HB.out.trans (Below.refl _ _).drew) ⟨?_, ?_, ?_, ?_, ?_, ?_, ?_, ?_, ?_, ?_, ?_, ?_, ?_, ?_, ?_, ?_, trivial⟩ ?_ ?_
    ·intro gz L wz K ρ hc0 hf0 hF hO hU hcl hi hd hC hK
     have e9 : ρ (.tmp 9) = .int .i64 (h : Int) := hO 9 (by kernel_rfl)
     simp [go_sem, Flow.ylP_value, Flow.ylP_skip, Flow.ylP_enter, Flow.ylP_panic, hc0, hf0, e9]
     exact hK gz wz hC (fun _ _ => rfl)
    ·intro gz L wz K ρ hc0 hf0 hF hO hU hcl hi hd hC hK
     have e9 : ρ (.tmp 9) = .int .i64 (h : Int) := hO 9 (by kernel_rfl)
     simp [go_sem, Flow.ylP_value, Flow.ylP_skip, Flow.ylP_enter, Flow.ylP_panic, hc0, hf0, e9]
     exact hK gz wz hC (fun _ _ => rfl)
    ·intro gz L wz K ρ hc0 hf0 hF hO hU hcl hi hd hC hK
     have e8 : ρ (.tmp 8) = .int .i64 (n : Int) := hO 8 (by kernel_rfl)
     simp [go_sem, Flow.ylP_value, Flow.ylP_skip, Flow.ylP_enter, Flow.ylP_panic, hc0, hf0, e8]
     exact hK gz wz hC (fun _ _ => rfl)
    ·intro gz L wz K ρ hc0 hf0 hF hO hU hcl hi hd hC hK
     have d1 : L 1 = true := hd ⟨1, .data⟩ (by simp) rfl
     have e36 : ρ (.tmp 36) = .int .i64 (h : Int) := hF 36 1 (by kernel_rfl) d1
     have d2 : L 2 = true := hd ⟨2, .data⟩ (by simp) rfl
     have e37 : ρ (.tmp 37) = .int .i64 (n : Int) := hF 37 2 (by kernel_rfl) d2
     simp [go_sem, Flow.ylP_value, Flow.ylP_skip, Flow.ylP_enter, Flow.ylP_panic, hc0, hf0, e36, e37, hi3]
     exact hK gz wz hC (fun _ _ => rfl)
    ·intro gz L wz K ρ hc0 hf0 hF hO hU hcl hi hd hC hK
     have d3 : L 3 = true := hd ⟨3, .data⟩ (by simp) rfl
     have e38 : ρ (.tmp 38) = .bool true := hF 38 3 (by kernel_rfl) d3
     simp [go_sem, Flow.ylP_value, Flow.ylP_skip, Flow.ylP_enter, Flow.ylP_panic, hc0, hf0, e38]
     exact hK gz wz hC (fun _ _ => rfl)
    ·intro gz L wz K ρ hc0 hf0 hF hO hU hcl hi hd hC hK
     have e2 : ρ (.tmp 2) = .func (.func 57) #[] #[] := hO 2 (by kernel_rfl)
     simp [go_sem, Flow.ylP_value, Flow.ylP_skip, Flow.ylP_enter, Flow.ylP_panic, hc0, hf0, e2]
     exact hK gz wz hC (fun _ _ => rfl)
    ·intro gz L wz K ρ hc0 hf0 hF hO hU hcl hi hd hC hK
     have e0 : ρ (.tmp 0) = .slice (some ⟨b, 0, none⟩) n c := hO 0 (by kernel_rfl)
     simp [go_sem, Flow.ylP_value, Flow.ylP_skip, Flow.ylP_enter, Flow.ylP_panic, hc0, hf0, e0]
     exact hK gz wz hC (fun _ _ => rfl)
    ·intro gz L wz K ρ hc0 hf0 hF hO hU hcl hi hd hC hK
     have e9 : ρ (.tmp 9) = .int .i64 (h : Int) := hO 9 (by kernel_rfl)
     simp [go_sem, Flow.ylP_value, Flow.ylP_skip, Flow.ylP_enter, Flow.ylP_panic, hc0, hf0, e9]
     exact hK gz wz hC (fun _ _ => rfl)
    ·intro gz L wz K ρ hc0 hf0 hF hO hU hcl hi hd hC hK
     have d6 : L 6 = true := hd ⟨6, .data⟩ (by simp) rfl
     have e41 : ρ (.tmp 41) = .slice (some ⟨b, 0, none⟩) n c := hF 41 6 (by kernel_rfl) d6
     have d7 : L 7 = true := hd ⟨7, .data⟩ (by simp) rfl
     have e42 : ρ (.tmp 42) = .int .i64 (h : Int) := hF 42 7 (by kernel_rfl) d7
     simp [go_sem, Flow.ylP_value, Flow.ylP_skip, Flow.ylP_enter, Flow.ylP_panic, hc0, hf0, e41, e42, hi1, hi2, hi3]
     exact hK gz wz hC (fun _ _ => rfl)
    ·intro gz L wz K ρ hc0 hf0 hF hO hU hcl hi hd hC hK
     have d8 : L 8 = true := hd ⟨8, .data⟩ (by simp) rfl
     have e43 : ρ (.tmp 43) = .pointer (some ⟨b, h * 6, none⟩) := hF 43 8 (by kernel_rfl) d8
     have cc0 := (hC.cell (p := ⟨b, h * 6, none⟩) (cell_lt x0)).trans x0
     have cc1 := (hC.cell (p := ⟨b, h * 6 + 1, none⟩) (cell_lt x1)).trans x1
     have cc2 := (hC.cell (p := ⟨b, h * 6 + 2, none⟩) (cell_lt x2)).trans x2
     have cc3 := (hC.cell (p := ⟨b, h * 6 + 3, none⟩) (cell_lt x3)).trans x3
     have cc4 := (hC.cell (p := ⟨b, h * 6 + 4, none⟩) (cell_lt x4)).trans x4
     have cc5 := (hC.cell (p := ⟨b, h * 6 + 5, none⟩) (cell_lt x5)).trans x5
     simp [go_sem, Flow.ylP_value, Flow.ylP_skip, Flow.ylP_enter, Flow.ylP_panic, hc0, hf0, e43, cc0, cc1, cc2, cc3, cc4, cc5]
     exact hK gz wz hC (fun _ _ => rfl)
    ·intro gz L wz K ρ hc0 hf0 hF hO hU hcl hi hd hC hK
     have e4 : ρ (.tmp 4) = .pointer (some ⟨gt, 0, none⟩) := hO 4 (by kernel_rfl)
     have cc0 := (hC.cell (p := ⟨gt, 0, none⟩) (cell_lt y0)).trans y0
     have cc1 := (hC.cell (p := ⟨gt, 1, none⟩) (cell_lt y1)).trans y1
     have cc2 := (hC.cell (p := ⟨gt, 2, none⟩) (cell_lt y2)).trans y2
     have cc3 := (hC.cell (p := ⟨gt, 3, none⟩) (cell_lt y3)).trans y3
     have cc4 := (hC.cell (p := ⟨gt, 4, none⟩) (cell_lt y4)).trans y4
     have cc5 := (hC.cell (p := ⟨gt, 5, none⟩) (cell_lt y5)).trans y5
     simp [go_sem, Flow.ylP_value, Flow.ylP_skip, Flow.ylP_enter, Flow.ylP_panic, hc0, hf0, e4, cc0, cc1, cc2, cc3, cc4, cc5]
     exact hK gz wz hC (fun _ _ => rfl)
    ·intro gz L wz K ρ hc0 hf0 hF hO hU hcl hi hd hC hK
     have d5 : L 5 = true := hd ⟨5, .data⟩ (by simp) rfl
     have e40 : ρ (.tmp 40) = .func (.func 57) #[] #[] := hF 40 5 (by kernel_rfl) d5
     have d9 : L 9 = true := hd ⟨9, .data⟩ (by simp) rfl
     have e44 : ρ (.tmp 44) = .agg #[.int .i64 x.1, .int .i64 x.2.1, .int .i64 x.2.2.1, .string x.2.2.2.1, .string x.2.2.2.2.1, .int .i64 x.2.2.2.2.2] := hF 44 9 (by kernel_rfl) d9
     have d10 : L 10 = true := hd ⟨10, .data⟩ (by simp) rfl
     have e45 : ρ (.tmp 45) = .agg #[.int .i64 y.1, .int .i64 y.2.1, .int .i64 y.2.2.1, .string y.2.2.2.1, .string y.2.2.2.2.1, .int .i64 y.2.2.2.2.2] := hF 45 10 (by kernel_rfl) d10
     simp [go_sem, Flow.ylP_value, Flow.ylP_skip, Flow.ylP_enter, Flow.ylP_panic, hc0, hf0, e40, e44, e45]
     refine (acmp_any x y _).mono ?_
     rintro r wn ⟨rfl, hbn⟩
     exact ⟨_, rfl, hK gz wn (hC.trans (hbn.mono hC.size)) (by intro j hj; unfold bsW; split <;> first | rfl | (rw [hi] at hj; cases hj) | (have hz := hcl _ 11 (by kernel_rfl) hj; rw [hi] at hz; cases hz))⟩
    ·intro gz L wz K ρ hc0 hf0 hF hO hU hcl hi hd hC hK
     have d11 : L 11 = true := hd ⟨11, .data⟩ (by simp) rfl
     have e46 : ρ (.tmp 46) = .int .i64 (idCmp (x.1, x.2.1) (y.1, y.2.1)) := hF 46 11 (by kernel_rfl) d11
     simp [go_sem, Flow.ylP_value, Flow.ylP_skip, Flow.ylP_enter, Flow.ylP_panic, hc0, hf0, e46, hw]
     exact hK gz wz hC (fun _ _ => rfl)
    ·intro gz L wz K ρ hc0 hf0 hF hO hU hcl hi hd hC hK
     have d4 : L 4 = true := hd ⟨4, .data⟩ (by simp) rfl
     have e39 : ρ (.tmp 39) = .bool true := hF 39 4 (by kernel_rfl) d4
     have d12 : L 12 = true := hd ⟨12, .data⟩ (by simp) rfl
     have e47 : ρ (.tmp 47) = .bool (sameId x y) := hF 47 12 (by kernel_rfl) d12
     simp [go_sem, Flow.ylP_value, Flow.ylP_skip, Flow.ylP_enter, Flow.ylP_panic, hc0, hf0, e39, e47]
     exact hK gz wz hC (fun _ _ => rfl)
    ·intro gz L wz K ρ hc0 hf0 hF hO hU hcl hi hd hC hK
     have d0 : L 0 = true := hd ⟨0, .data⟩ (by simp) rfl
     have e35 : ρ (.tmp 35) = .int .i64 (h : Int) := hF 35 0 (by kernel_rfl) d0
     simp [go_sem, Flow.ylP_value, Flow.ylP_skip, Flow.ylP_enter, Flow.ylP_panic, hc0, hf0, e35]
     exact hK gz wz hC (fun _ _ => rfl)
    ·intro gz L wz K ρ hc0 hf0 hF hO hU hcl hi hd hC hK
     have d13 : L 13 = true := hd ⟨13, .data⟩ (by simp) rfl
     have e48 : ρ (.tmp 48) = .bool (sameId x y) := hF 48 13 (by kernel_rfl) d13
     simp [go_sem, Flow.ylP_value, Flow.ylP_skip, Flow.ylP_enter, Flow.ylP_panic, hc0, hf0, e48]
     exact hK gz wz hC (fun _ _ => rfl)
    ·intro gz L ch wz h; exact h.elim
    ·intro gz L wz hL hC
     have HB1 := Lib.hid hC
     clear hC
     simp only [Flow.putAll, bsW]
     simp [Act.put]
     go_wp2
     go_ret2
     exact hres _ HB1.out
   ·have hfd := foundAt_none (N := N) (y := y) (p := i) (by rw [HN.out.1]; omega)
    have HFD := Lib.hid hfd
    have d2 : decide (i < n) = false := decide_eq_false hin
    clear hc hfd b0 hin y0 y1 y2 y3 y4 y5
    go_upto_region 8 with fail
    refine wp_region_inv (by kernel_rfl) (by kernel_rfl) ?_
    repeat (go_big_quiet_step (fail))
    refine wpQuiet_nil ?_
    intro _ hw'
    obtain ⟨xw, rfl⟩ := hw'
    go_wp2
    go_ret2
    exact ⟨i, HP.out, by rw [HFD.out]; rfl, HBW.out.trans ((HB.out.mono HBW.out.size).trans (xw.below.mono (Nat.le_trans HBW.out.size HB.out.size)))⟩
end Go.Proofs.YtlpkpfpmcppciaaGreatDoor
end
