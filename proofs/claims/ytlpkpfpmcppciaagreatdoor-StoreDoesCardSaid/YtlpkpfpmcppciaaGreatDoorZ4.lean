/- A region that draws its order, by an invariant: each operation is looked at once, whatever came up ahead of it. Any program.

A region that draws its order and one of whose calls may throw: by an invariant, each operation looked at once. Any program.

A region that draws its order, its calls may throw: by an invariant, each operation looked at once; what has come up is closed under what it waits for. Any program.

How the arguments of a law are opened: slices of structs, strings and numbers, and structs by value, as lists and tuples of mine. Any program.

Entries and ids as arguments.

Batches in memory. Any program.

Batches and writes as arguments. -/
import Derived.Orders
import Derived.Deep.RegionHeld
import Derived.KernelRfl
import Derived.Test.YtlpkpfpmcppciaaGreatDoorZ1
import Derived.ProofKit
import Derived.OpenShut
import Derived.Deep.Slices
import Derived.Deep.Fields
import Derived.Test.YtlpkpfpmcppciaaGreatDoorZ2
import Derived.Test.YtlpkpfpmcppciaaGreatDoorRows
section
namespace Go.Proofs.YtlpkpfpmcppciaaGreatDoor.Flow
open Go
section
variable {P : Program} {ops : Array Oper} {Q : Exit → Act → World → Prop} {md : Region.Mode}
theorem getD_in {L : Array Bool} {i : Nat} (h : i < L.size) (d d' : Bool) : L.getD i d = L.getD i d' := by simp [Array.getD, h]
/-- How many have not come up. -/
def left (L : Array Bool) : Nat := L.toList.countP (! ·)
theorem left_set {L : Array Bool} {i : Nat} (h : L.getD i true = false) : left (L.setIfInBounds i true) + 1 = left L := by
 obtain ⟨l⟩ := L
 unfold left
 simp only [List.setIfInBounds_toArray]
 have h' : l[i]? = some false := by
  rcases Nat.lt_or_ge i l.length with hi | hi
  ·simp [Array.getD, hi] at h
   rw [List.getElem?_eq_getElem hi, h]
  ·simp [Array.getD, Nat.not_lt.2 hi] at h
 clear h
 induction l generalizing i with
 | nil => simp at h'
 | cons x l ih =>
  cases i with
  | zero => simp at h'; subst h'; simp
  | succ i =>
   simp at h'
   have := ih h'
   simp only [List.set_cons_succ, List.countP_cons]
   omega
theorem left_zero {L : Array Bool} (h : left L = 0) (i : Nat) : L.getD i true = true := by
 obtain ⟨l⟩ := L
 unfold left at h
 simp only at h
 rcases hl : l[i]? with _ | b
 ·simp [Array.getD]; intro hi; rw [List.getElem?_eq_getElem hi] at hl; cases hl
 ·have hm := List.mem_of_getElem? hl
  have := List.countP_eq_zero.1 h b hm
  obtain ⟨hi, e⟩ := List.getElem?_eq_some_iff.1 hl
  simp [Array.getD, hi, e]
  simpa using this
theorem wpAny_inv (I : Array Bool → Act → World → Prop)
  (hstep : ∀ L a w i o, L.size = ops.size → I L a w → ops[i]? = some o → L.getD i true = false → (∀ e ∈ o.after, Region.binds md e = true → L.getD e.on false = true) → wpOp P ops Q i (fun a' w' => I (L.setIfInBounds i true) a' w') a w)
  (hdone : ∀ L a w, L.size = ops.size → I L a w → Region.ready md ops L = [] → Q .normal a w) :
  ∀ (fuel : Nat) L a w, L.size = ops.size → I L a w → left L ≤ fuel → wpAny P md ops Q fuel L a w := by
 intro fuel
 induction fuel with
 | zero =>
  intro L a w hs hI hf
  have hr : Region.ready md ops L = [] := by
   rw [List.eq_nil_iff_forall_not_mem]
   intro i hi
   have h1 := (mem_ready.1 hi).1
   rw [left_zero (by omega) i] at h1
   cases h1
  exact ⟨hr, hdone L a w hs hI hr⟩
 | succ fuel ih =>
  intro L a w hs hI hf
  refine ⟨fun hr => hdone L a w hs hI hr, fun i hi => ?_⟩
  obtain ⟨h1, o, ho, h2⟩ := mem_ready.1 hi
  refine wpOp_mono (fun a' w' h => ih _ a' w' (by simpa using hs) h (by have := left_set h1; omega)) (hstep L a w i o hs hI ho h1 h2)
def fill (f : Nat → Value → Value) : Nat → List Value → List Value
 | _, [] => []
 | n, x :: l => f n x :: fill f (n + 1) l
theorem fill_get (f : Nat → Value → Value) (l : List Value) (n t : Nat) : (fill f n l)[t]? = l[t]?.map (f (n + t)) := by
 induction l generalizing n t with
 | nil => simp [fill]
 | cons x l ih =>
  cases t with
  | zero => simp [fill]
  | succ t => simp only [fill, List.getElem?_cons_succ, ih]; rw [show n + 1 + t = n + (t + 1) by omega]
/-- Which operation writes a slot. -/
def who (ops : Array Oper) (t : Nat) : Option Nat := ops.toList.findIdx? fun o => o.dst == some t
def slot (ops : Array Oper) (v : Nat → Value) (L : Nat → Bool) (t : Nat) (x : Value) : Value :=
 match who ops t with
 | some i => if L i then v i else x
 | none => x
/-- The frame once the operations of L have come up. -/
def frame (ops : Array Oper) (a0 : Act) (v : Nat → Value) (L : Nat → Bool) : Act := { a0 with tmps := (fill (slot ops v L) 0 a0.tmps.toList).toArray }
theorem who_some {t i : Nat} (h : who ops t = some i) : ∃ o, ops[i]? = some o ∧ o.dst = some t := by
 unfold who at h
 obtain ⟨hi, h1, _⟩ := List.findIdx?_eq_some_iff_getElem.1 h
 exact ⟨ops[i]'(by simpa using hi), Array.getElem?_eq_getElem (by simpa using hi), by simpa using h1⟩
theorem frame_at (a0 : Act) (v : Nat → Value) (L : Nat → Bool) (t : Nat) : (frame ops a0 v L).tmps[t]? = a0.tmps[t]?.map (slot ops v L t) := by
 unfold frame
 simp only [List.getElem?_toArray, fill_get, Nat.zero_add]
 simp
theorem frame_dst {a0 : Act} {v : Nat → Value} {L : Nat → Bool} {t i : Nat} (hw : who ops t = some i) (ht : t < a0.tmps.size) (hL : L i = true) : (frame ops a0 v L).eval (.tmp t) = v i := by
 show (frame ops a0 v L).tmps.getD t undef = v i
 rw [Array.getD_eq_getD_getElem?, frame_at, Array.getElem?_eq_getElem ht]
 simp [slot, hw, hL]
theorem frame_not {a0 : Act} {v : Nat → Value} {L : Nat → Bool} {t i : Nat} (hw : who ops t = some i) (hL : L i = false) : (frame ops a0 v L).eval (.tmp t) = a0.eval (.tmp t) := by
 show (frame ops a0 v L).tmps.getD t undef = a0.tmps.getD t undef
 rw [Array.getD_eq_getD_getElem?, Array.getD_eq_getD_getElem?, frame_at]
 cases a0.tmps[t]? <;> simp [slot, hw, hL]
theorem frame_old {a0 : Act} {v : Nat → Value} {L : Nat → Bool} {t : Nat} (hw : who ops t = none) : (frame ops a0 v L).eval (.tmp t) = a0.eval (.tmp t) := by
 show (frame ops a0 v L).tmps.getD t undef = a0.tmps.getD t undef
 rw [Array.getD_eq_getD_getElem?, Array.getD_eq_getD_getElem?, frame_at]
 cases a0.tmps[t]? <;> simp [slot, hw]
/-- Each slot is written by one operation. -/
def okB (ops : Array Oper) : Bool := (List.range ops.size).all fun i => match ops[i]? with
 | some o => (match o.dst with
  | some t => who ops t == some i
  | none => true)
 | none => true
theorem ok_of (h : okB ops = true) {i t : Nat} {o : Oper} (ho : ops[i]? = some o) (ht : o.dst = some t) : who ops t = some i := by
 have hi := (Array.getElem?_eq_some_iff.1 ho).1
 have := List.all_eq_true.1 h i (List.mem_range.2 hi)
 rw [ho] at this
 simp only [ht] at this
 simpa using this
theorem frame_put (hok : okB ops = true) {a0 : Act} {v v' : Nat → Value} {L : Nat → Bool} {i : Nat} {o : Oper} (ho : ops[i]? = some o) (hv : ∀ j, L j = true → v' j = v j) :
  (frame ops a0 v L).put o.dst (v' i) = frame ops a0 v' (fun j => j == i || L j) := by
 have key : ∀ t x, o.dst ≠ some t → slot ops v L t x = slot ops v' (fun j => j == i || L j) t x := by
  intro t x hne
  unfold slot
  rcases hw : who ops t with _ | j
  ·rfl
  ·simp only
   have hji : j ≠ i := by
    rintro rfl
    obtain ⟨o', ho', hd⟩ := who_some hw
    rw [ho] at ho'
    injection ho' with ho'
    subst ho'
    exact hne hd
   have hb : (j == i) = false := by simpa using hji
   simp only [hb, Bool.false_or]
   cases hL : L j with
   | false => simp
   | true => simp [hv j hL]
 rcases hd : o.dst with _ | d
 ·unfold Act.put
  simp only
  unfold frame
  congr 1
  apply Array.ext_getElem?
  intro t
  have h1 := frame_at (ops := ops) a0 v L t
  have h2 := frame_at (ops := ops) a0 v' (fun j => j == i || L j) t
  unfold frame at h1 h2
  rw [h1, h2]
  cases a0.tmps[t]? with
  | none => rfl
  | some x => simp only [Option.map_some]; rw [key t x (by rw [hd]; simp)]
 ·have hw := ok_of hok ho hd
  have e : (frame ops a0 v L).tmps.setIfInBounds d (v' i) = (frame ops a0 v' (fun j => j == i || L j)).tmps := by
   apply Array.ext_getElem?
   intro t
   rw [Array.getElem?_setIfInBounds, frame_at]
   have hsz : (frame ops a0 v L).tmps.size = a0.tmps.size := by
    apply Nat.le_antisymm
    ·rcases Nat.lt_or_ge a0.tmps.size (frame ops a0 v L).tmps.size with h | h
     ·have := frame_at (ops := ops) a0 v L a0.tmps.size
      rw [Array.getElem?_eq_getElem h, Array.getElem?_eq_none (Nat.le_refl _)] at this
      cases this
     ·exact h
    ·rcases Nat.lt_or_ge (frame ops a0 v L).tmps.size a0.tmps.size with h | h
     ·have := frame_at (ops := ops) a0 v L (frame ops a0 v L).tmps.size
      rw [Array.getElem?_eq_none (Nat.le_refl _), Array.getElem?_eq_getElem h] at this
      cases this
     ·exact h
   rw [frame_at, hsz]
   by_cases ht : d = t
   ·subst ht
    rw [if_pos rfl]
    by_cases hlt : d < a0.tmps.size
    ·rw [if_pos hlt, Array.getElem?_eq_getElem hlt]
     simp [slot, hw]
    ·rw [if_neg hlt, Array.getElem?_eq_none (Nat.not_lt.1 hlt)]; rfl
   ·rw [if_neg ht]
    cases a0.tmps[t]? with
    | none => rfl
    | some x => simp only [Option.map_some]; rw [key t x (by rw [hd]; intro h; injection h with h; exact ht h)]
  show ({ frame ops a0 v L with tmps := (frame ops a0 v L).tmps.setIfInBounds d (v' i) } : Act) = _
  rw [e]
  rfl
theorem frame_all {a0 : Act} {v : Nat → Value} {L : Nat → Bool} (h : ∀ i, i < ops.size → L i = true) : frame ops a0 v L = frame ops a0 v (fun _ => true) := by
 unfold frame
 congr 1
 apply Array.ext_getElem?
 intro t
 have h1 := frame_at (ops := ops) a0 v L t
 have h2 := frame_at (ops := ops) a0 v (fun _ => true) t
 unfold frame at h1 h2
 rw [h1, h2]
 cases a0.tmps[t]? with
 | none => rfl
 | some x =>
  simp only [Option.map_some]
  congr 1
  unfold slot
  rcases hw : who ops t with _ | j
  ·rfl
  ·simp only
   obtain ⟨o, ho, _⟩ := who_some hw
   rw [h j (Array.getElem?_eq_some_iff.1 ho).1]
   simp
theorem frame_none {a0 : Act} {v : Nat → Value} : frame ops a0 v (fun _ => false) = a0 := by
 obtain ⟨t0, d0⟩ := a0
 unfold frame
 congr 1
 apply Array.ext_getElem?
 intro t
 have h1 := frame_at (ops := ops) ⟨t0, d0⟩ v (fun _ => false) t
 unfold frame at h1
 rw [h1]
 cases t0[t]? with
 | none => rfl
 | some x =>
  simp only [Option.map_some]
  congr 1
  unfold slot
  split <;> simp
/-- The frame behind all operations, put by put. -/
def putAll (v : Nat → Value) : Nat → List Oper → Act → Act
 | _, [], a => a
 | i, o :: l, a => putAll v (i + 1) l (a.put o.dst (v i))
theorem putAll_from (hok : okB ops = true) {a0 : Act} {v : Nat → Value} (l pre : List Oper) (h : ops.toList = pre ++ l) : putAll v pre.length l (frame ops a0 v (fun j => decide (j < pre.length))) = frame ops a0 v (fun j => decide (j < ops.size)) := by
 induction l generalizing pre with
 | nil =>
  have : ops.size = pre.length := by rw [← Array.length_toList, h, List.append_nil]
  rw [this]
  rfl
 | cons o l ih =>
  have ho : ops[pre.length]? = some o := by rw [← Array.getElem?_toList, h, List.getElem?_append_right (Nat.le_refl _), Nat.sub_self]; rfl
  have e : (fun j => j == pre.length || decide (j < pre.length)) = fun j => decide (j < (pre ++ [o]).length) := by
   funext j
   rw [List.length_append, List.length_singleton]
   by_cases h1 : j = pre.length
   ·subst h1; simp
   ·have hb : (j == pre.length) = false := by simpa using h1
    rw [hb, Bool.false_or, decide_eq_decide]; omega
  have hp := frame_put hok (a0 := a0) (v := v) (v' := v) (L := fun j => decide (j < pre.length)) ho (fun _ _ => rfl)
  rw [e] at hp
  show putAll v (pre.length + 1) l ((frame ops a0 v (fun j => decide (j < pre.length))).put o.dst (v pre.length)) = _
  rw [hp]
  have := ih (pre ++ [o]) (by rw [h, List.append_assoc]; rfl)
  rw [List.length_append, List.length_singleton] at this ⊢
  exact this
theorem putAll_all (hok : okB ops = true) {a0 : Act} {v : Nat → Value} : frame ops a0 v (fun _ => true) = putAll v 0 ops.toList a0 := by
 have h := putAll_from hok (a0 := a0) (v := v) ops.toList [] rfl
 have e : (fun j : Nat => decide (j < ([] : List Oper).length)) = fun _ => false := by funext j; simp
 rw [e, frame_none] at h
 rw [show ([] : List Oper).length = 0 from rfl] at h
 rw [h]
 exact (frame_all (L := fun j => decide (j < ops.size)) (fun i hi => by simpa using hi)).symm
/-- What is asked of each operation. -/
def Steps (X : Nat → Oper → Prop) : Nat → List Oper → Prop
 | _, [] => True
 | i, o :: l => X i o ∧ Steps X (i + 1) l
theorem Steps.at_ {X : Nat → Oper → Prop} {l : List Oper} {n : Nat} (h : Steps X n l) {i : Nat} {o : Oper} (ho : l[i]? = some o) : X (n + i) o := by
 induction l generalizing n i with
 | nil => simp at ho
 | cons x l ih =>
  cases i with
  | zero => simp at ho; subst ho; exact h.1
  | succ i =>
   have := ih h.2 (i := i) (by simpa using ho)
   rw [show n + 1 + i = n + (i + 1) by omega] at this
   exact this
/-- All slots that are written are there. -/
def fitB (ops : Array Oper) (n : Nat) : Bool := ops.toList.all fun o => match o.dst with
 | some t => decide (t < n)
 | none => true
theorem fit_of {n t j : Nat} (h : fitB ops n = true) (hw : who ops t = some j) : t < n := by
 obtain ⟨o, ho, hd⟩ := who_some hw
 have := List.all_eq_true.1 h o (by rw [← Array.getElem?_toList] at ho; exact List.mem_of_getElem? ho)
 simp only [hd] at this
 exact of_decide_eq_true this
/-- What is asked of an operation's outcome. -/
def Yl (P : Program) (K : Value → World → Prop) : Result Next → Prop
 | .ok (.value v) w => K v w
 | .ok .skip w => K undef w
 | .ok (.enter f args) w => Calls P f args w fun e w' => ∃ v, e = .returned v ∧ K v w'
 | _ => False
theorem Yl.upon {K : Value → World → Prop} {r : Result Next} (h : Yl P K r) {o : Oper} {a : Act} {K' : Act → World → Prop} (hK : ∀ v w, K v w → K' (a.put o.dst v) w) : o.upon P a K' Q r := by
 cases r with
 | ok n w =>
  cases n with
  | value v => exact hK _ _ h
  | skip => exact hK _ _ h
  | enter f args => exact Calls.mono h fun e w' he => by obtain ⟨v, rfl, h⟩ := he; exact hK _ _ h
  | _ => exact absurd h (fun h => h)
 | halt x w => exact absurd h (fun h => h)
/-- What is asked of operation i: from any state that fits, it yields its value and leaves a state that fits. -/
def Step {G : Type} (P : Program) (ops : Array Oper) (a0 : Act) (v : G → Nat → Value) (C : G → (Nat → Bool) → World → Prop) (i : Nat) (o : Oper) : Prop :=
 ∀ (g : G) (L : Nat → Bool) (w : World) (K : Value → World → Prop) (ρ : Operand → Value),
  (∀ x, ρ (.const x) = x) → (∀ f, ρ (.func f) = .func (.func f) #[] #[]) → (∀ t j, who ops t = some j → L j = true → ρ (.tmp t) = v g j) → (∀ t, who ops t = none → ρ (.tmp t) = a0.eval (.tmp t)) →
  L i = false → (∀ e ∈ o.after, Region.binds .any e = true → L e.on = true) → C g L w →
  (∀ g' w', C g' (fun j => j == i || L j) w' → (∀ j, L j = true → v g' j = v g j) → K (v g' i) w') → Yl P K ((execOp ρ o).run P w)
end
end Go.Proofs.YtlpkpfpmcppciaaGreatDoor.Flow
end

section
namespace Go.Proofs.YtlpkpfpmcppciaaGreatDoor.Flow
open Go
section
variable {P : Program} {ops : Array Oper} {Q : Exit → Act → World → Prop} {md : Region.Mode}
/-- What is asked of an operation's outcome, a call's panic let through. -/
def YlP (P : Program) (Z : List PanicEntry → World → Prop) (K : Value → World → Prop) : Result Next → Prop
 | .ok (.value v) w => K v w
 | .ok .skip w => K undef w
 | .ok (.enter f args) w => Calls P f args w fun e w' => (∃ v, e = .returned v ∧ K v w') ∨ ∃ ch, e = .panicked ch ∧ Z ch w'
 | .halt (.panic v) w => Z [{ v, recovered := false }] w
 | _ => False
variable {Z : List PanicEntry → World → Prop}
theorem ylP_value {K : Value → World → Prop} {v : Value} {w : World} : YlP P Z K (.ok (.value v) w) = K v w := rfl
theorem ylP_skip {K : Value → World → Prop} {w : World} : YlP P Z K (.ok .skip w) = K undef w := rfl
theorem ylP_enter {K : Value → World → Prop} {f : FuncId} {args : Array Value} {w : World} : YlP P Z K (.ok (.enter f args) w) = Calls P f args w fun e w' => (∃ v, e = .returned v ∧ K v w') ∨ ∃ ch, e = .panicked ch ∧ Z ch w' := rfl
theorem ylP_panic {K : Value → World → Prop} {v : Value} {w : World} : YlP P Z K (.halt (.panic v) w) = Z [{ v, recovered := false }] w := rfl
theorem YlP.upon {K : Value → World → Prop} {r : Result Next} (h : YlP P Z K r) {o : Oper} {a : Act} {K' : Act → World → Prop} (hK : ∀ v w, K v w → K' (a.put o.dst v) w) (hZ : ∀ ch w, Z ch w → Q (.panic ch) a w) : o.upon P a K' Q r := by
 cases r with
 | ok n w =>
  cases n with
  | value v => exact hK _ _ h
  | skip => exact hK _ _ h
  | enter f args =>
   refine Calls.mono h fun e w' he => ?_
   rcases he with ⟨v, rfl, h⟩ | ⟨ch, rfl, h⟩
   ·exact hK _ _ h
   ·exact hZ _ _ h
  | _ => exact absurd h (fun h => h)
 | halt x w =>
  cases x with
  | panic v => exact hZ _ _ h
  | _ => exact absurd h (fun h => h)
end
end Go.Proofs.YtlpkpfpmcppciaaGreatDoor.Flow
end

section
namespace Go.Proofs.YtlpkpfpmcppciaaGreatDoor.Flow
open Go
section
variable {P : Program} {ops : Array Oper} {Q : Exit → Act → World → Prop} {Z : List PanicEntry → World → Prop}
/-- Each operation waits for earlier ones alone. -/
def lexG (ops : Array Oper) : Bool := (List.range ops.size).all fun i => match ops[i]? with
 | some o => o.guard.isNone && o.after.toList.all fun e => !Region.binds .any e || decide (e.on < i)
 | none => true
theorem lexG_of (h : lexG ops = true) {i : Nat} {o : Oper} (ho : ops[i]? = some o) : o.guard = none ∧ ∀ e ∈ o.after, Region.binds .any e = true → e.on < i := by
 have hi := (Array.getElem?_eq_some_iff.1 ho).1
 have := List.all_eq_true.1 h i (List.mem_range.2 hi)
 rw [ho] at this
 simp only [Bool.and_eq_true, Option.isNone_iff_eq_none] at this
 refine ⟨this.1, fun e he hb => ?_⟩
 have h2 := List.all_eq_true.1 this.2 e (by simpa using he)
 rw [hb] at h2
 simpa using h2
theorem allG_of_ready (hlex : lexG ops = true) {L : Array Bool} (hs : L.size = ops.size) (h : Region.ready .any ops L = []) (i : Nat) : i < ops.size → L.getD i false = true := by
 induction i using Nat.strongRecOn with
 | ind i ih =>
  intro hi
  rcases hb : L.getD i false with _ | _
  ·exfalso
   have hm : i ∈ Region.ready .any ops L := mem_ready.2 ⟨by rw [getD_in (by omega) true false]; exact hb, ops[i], Array.getElem?_eq_getElem hi, fun e he hbe => ih e.on ((lexG_of hlex (Array.getElem?_eq_getElem hi)).2 e he hbe) (by have := (lexG_of hlex (Array.getElem?_eq_getElem hi)).2 e he hbe; omega)⟩
   rw [h] at hm
   cases hm
  ·rfl
/-- What has come up is closed under what it waits for. -/
def Closed (ops : Array Oper) (L : Nat → Bool) : Prop := ∀ i o, ops[i]? = some o → L i = true → ∀ e ∈ o.after, Region.binds .any e = true → L e.on = true
/-- Operation i waits for j, at last. -/
def reach (ops : Array Oper) : Nat → Nat → Nat → Bool
 | 0, i, j => i == j
 | f + 1, i, j => i == j || match ops[i]? with
  | some o => o.after.toList.any fun e => Region.binds .any e && reach ops f e.on j
  | none => false
theorem Closed.reach {L : Nat → Bool} (h : Closed ops L) : ∀ (f i j : Nat), reach ops f i j = true → L i = true → L j = true := by
 intro f
 induction f with
 | zero => intro i j hr hl; rw [beq_iff_eq.1 hr] at hl; exact hl
 | succ f ih =>
  intro i j hr hl
  unfold Flow.reach at hr
  rcases Bool.or_eq_true_iff.1 hr with hr | hr
  ·rw [beq_iff_eq.1 hr] at hl; exact hl
  ·cases ho : ops[i]? with
   | none => rw [ho] at hr; cases hr
   | some o =>
    rw [ho] at hr
    simp only [List.any_eq_true, Bool.and_eq_true] at hr
    obtain ⟨e, he, hb, hr⟩ := hr
    exact ih _ _ hr (h i o ho hl e (by simpa using he) hb)
def Step4 {G : Type} (P : Program) (ops : Array Oper) (a0 : Act) (v : G → Nat → Value) (C : G → (Nat → Bool) → World → Prop) (Z : List PanicEntry → World → Prop) (i : Nat) (o : Oper) : Prop :=
 ∀ (g : G) (L : Nat → Bool) (w : World) (K : Value → World → Prop) (ρ : Operand → Value),
  (∀ x, ρ (.const x) = x) → (∀ f, ρ (.func f) = .func (.func f) #[] #[]) → (∀ t j, who ops t = some j → L j = true → ρ (.tmp t) = v g j) → (∀ t, who ops t = none → ρ (.tmp t) = a0.eval (.tmp t)) →
  (∀ t j, who ops t = some j → L j = false → ρ (.tmp t) = a0.eval (.tmp t)) →
  (∀ i j, reach ops ops.size i j = true → L i = true → L j = true) →
  L i = false → (∀ e ∈ o.after, Region.binds .any e = true → L e.on = true) → C g L w →
  (∀ g' w', C g' (fun j => j == i || L j) w' → (∀ j, L j = true → v g' j = v g j) → K (v g' i) w') → YlP P Z K ((execOp ρ o).run P w)
theorem wp_region_go {G : Type} {id : Nat} {l : List Oper} {a0 : Act} {w0 : World} (hm : P.follows .mixedOrders = true) (hlex : lexG l.toArray = true) (hok : okB l.toArray = true) (n : Nat) (hn : a0.tmps.size = n) (hfit : fitB l.toArray n = true)
  (v : G → Nat → Value) (C : G → (Nat → Bool) → World → Prop) (Z : List PanicEntry → World → Prop) (g0 : G) (h0 : C g0 (fun _ => false) w0.drew)
  (hstep : Steps (Step4 P l.toArray a0 v C Z) 0 l) (hthrow : ∀ g L ch w, Z ch w → Q (.panic ch) (frame l.toArray a0 (v g) L) w)
  (hdone : ∀ g L w, (∀ i, i < l.length → L i = true) → C g L w → Q .normal (putAll (v g) 0 l a0) w) :
  (Code.region id l.toArray true).wp P Q a0 w0 := by
 refine wp_region_any hm ?_
 refine wpAny_inv (fun L a w => ∃ g, a = frame l.toArray a0 (v g) (fun i => L.getD i false) ∧ Closed l.toArray (fun i => L.getD i false) ∧ C g (fun i => L.getD i false) w) ?_ ?_ _ _ _ _ (by simp) ?_ ?_
 ·rintro L a w i o hs ⟨g, rfl, hcl, hC⟩ ho hi hd
  have hst := hstep.at_ (i := i) (o := o) (by simpa using ho)
  rw [Nat.zero_add] at hst
  have hin : i < L.size := by rw [hs]; exact (Array.getElem?_eq_some_iff.1 ho).1
  have hi' : L.getD i false = false := by rw [getD_in hin false true]; exact hi
  have hfun : (fun j => (L.setIfInBounds i true).getD j false) = fun j => j == i || L.getD j false := by
   funext j
   by_cases hj : j = i
   ·subst hj
    simp [Array.getD, hin]
   ·have hb : (j == i) = false := by simpa using hj
    rw [hb, Bool.false_or]
    simp only [Array.getD_eq_getD_getElem?, Array.getElem?_setIfInBounds]
    rw [if_neg (fun e => hj e.symm)]
  unfold wpOp
  rw [ho]
  simp only
  rw [if_pos (by simp [Region.wanted, (lexG_of hlex ho).1])]
  refine .inl (YlP.upon (hst g _ w (fun u w' => ∃ g', u = v g' i ∧ C g' (fun j => j == i || L.getD j false) w' ∧ ∀ j, L.getD j false = true → v g' j = v g j) _ (fun _ => rfl) (fun _ => rfl) (fun t j h1 h2 => frame_dst h1 (by rw [hn]; exact fit_of hfit h1) h2) (fun t h1 => frame_old h1) (fun t j h1 h2 => frame_not h1 h2) (fun i j => hcl.reach _ i j) hi' hd hC (fun g' w' h1 h2 => ⟨g', rfl, h1, h2⟩)) ?_ (fun ch w' hz => hthrow g _ ch w' hz))
  rintro u w' ⟨g', rfl, hC', hv⟩
  refine ⟨g', ?_, ?_, ?_⟩
  ·rw [hfun]; exact frame_put hok ho hv
  ·rw [hfun]
   intro j oj hoj hlj e he hb
   simp only [Bool.or_eq_true, beq_iff_eq] at hlj ⊢
   rcases hlj with rfl | hlj
   ·rw [ho] at hoj
    injection hoj with hoj
    subst hoj
    exact .inr (hd e he hb)
   ·exact .inr (hcl j oj hoj hlj e he hb)
  ·rw [hfun]; exact hC'
 ·rintro L a w hs ⟨g, rfl, _, hC⟩ hr
  have hall := allG_of_ready hlex hs hr
  rw [frame_all hall, putAll_all hok]
  exact hdone g _ w (fun i hi => hall i (by simpa using hi)) hC
 ·have hz : (fun i => (Array.replicate l.toArray.size false).getD i false) = fun _ => false := by
   funext i
   simp [Array.getD]
  refine ⟨g0, ?_, ?_, ?_⟩
  ·rw [hz, frame_none]
  ·rw [hz]; intro i o _ h; cases h
  ·rw [hz]; exact h0
 ·unfold left
  simp only [Array.toList_replicate]
  exact Nat.le_trans List.countP_le_length (by simp)
end
end Go.Proofs.YtlpkpfpmcppciaaGreatDoor.Flow
end

section
namespace Go.Proofs.YtlpkpfpmcppciaaGreatDoor
open Go.ChangeShapes Go.WideShapes Go.ChangeAt Go.RowKit
open Go.ChangeMaps (open_string)
section
variable {H : Type} {enc : TypeId × Value → H} {P : Program} {w : World} {base : Nat} {spare : Nat → Bool} {held : Bool}

/-- A struct's field of one cell. -/
theorem field1 {fs : Array Field} {cs : List Value} {xs : List (DataW H × List MemPlace)} {m : Nat} (hlen : xs.length = fs.size)
  (hg : ∀ (i : Nat) (f : Field), fs[i]? = some f → DataW.trod enc P w base spare held m f.type ((cs.drop f.offset).take (P.cellsOf f.type)) = xs[i]?) (i : Nat) (f : Field) (hf : fs[i]? = some f) :
  ∃ y, DataW.trod enc P w base spare held m f.type ((cs.drop f.offset).take (P.cellsOf f.type)) = some y := by
 have hi : i < xs.length := by rw [hlen]; exact (Array.getElem?_eq_some_iff.1 hf).1
 exact ⟨xs[i], by rw [hg i f hf, List.getElem?_eq_getElem hi]⟩
theorem take1 {cs : List Value} {o : Nat} {v : Value} (h : (cs.drop o).take 1 = [v]) : cs[o]? = some v := by
 have e : ((cs.drop o).take 1)[0]? = some v := by rw [h]; rfl
 rw [List.getElem?_take_of_lt (by omega), List.getElem?_drop] at e
 simpa using e
/-- What a struct's reading says of all its fields. -/
def Fielded (P : Program) (w : World) (base : Nat) (spare : Nat → Bool) (held : Bool) (enc : TypeId × Value → H) (fs : Array Field) (cs : List Value) : Prop :=
 ∃ m, ∀ (i : Nat) (f : Field), fs[i]? = some f → ∃ y, DataW.trod enc P w base spare held m f.type ((cs.drop f.offset).take (P.cellsOf f.type)) = some y
theorem fielded {t : TypeId} {fs : Array Field} {m : Nat} {cs : List Value} {x : DataW H × List MemPlace} (ht : P.underlying t = some (.struct fs)) (h : DataW.trod enc P w base spare held m t cs = some x) :
  cs.length = P.cellsOf t ∧ Fielded P w base spare held enc fs cs := by
 obtain ⟨xs, n, _, _, hcl, hlen, hg⟩ := DataW.trod_struct ht h
 exact ⟨hcl, n, fun i f hf => field1 hlen hg i f hf⟩
theorem field_sub {fs : Array Field} {cs : List Value} (h : Fielded P w base spare held enc fs cs) (i o T k : Nat) {f : Field} (hf : fs[i]? = some f) (hT : f.type = T) (ho : f.offset = o) (hc : P.cellsOf T = k) :
  ∃ m y, DataW.trod enc P w base spare held m T ((cs.drop o).take k) = some y := by
 obtain ⟨m, hg⟩ := h
 obtain ⟨y, hy⟩ := hg i f hf
 subst hT ho hc
 exact ⟨m, y, hy⟩
theorem field_int {fs : Array Field} {cs : List Value} (h : Fielded P w base spare held enc fs cs) (i o T : Nat) {f : Field} {k : IntKind} (hf : fs[i]? = some f) (hT : f.type = T) (ho : f.offset = o) (hu : P.underlying T = some (.int k)) (hc : P.cellsOf T = 1) :
  ∃ n, cs[o]? = some (.int k n) ∧ (Lit.int k n).wf = true := by
 obtain ⟨m, y, hy⟩ := field_sub h i o T 1 hf hT ho hc
 obtain ⟨n, e, _, wn⟩ := DataW.trod_int hu hy
 exact ⟨n, take1 e, wn⟩
theorem field_string {fs : Array Field} {cs : List Value} (h : Fielded P w base spare held enc fs cs) (i o T : Nat) {f : Field} (hf : fs[i]? = some f) (hT : f.type = T) (ho : f.offset = o) (hu : P.underlying T = some .string) (hc : P.cellsOf T = 1) :
  ∃ s : ByteArray, cs[o]? = some (.string s) ∧ s.size ≤ maxLen := by
 obtain ⟨m, y, hy⟩ := field_sub h i o T 1 hf hT ho hc
 obtain ⟨n, e, _, wn⟩ := DataW.trod_string hu hy
 exact ⟨n, take1 e, wn⟩
end
end Go.Proofs.YtlpkpfpmcppciaaGreatDoor
end

section
namespace Go.Proofs.YtlpkpfpmcppciaaGreatDoor
set_option maxRecDepth 100000
open Go.ChangeShapes Go.WideShapes Go.ChangeAt Go.RowKit
section
variable {H : Type} {enc : TypeId × Value → H} {w : World} {base : Nat} {spare : Nat → Bool} {held : Bool}
theorem cellsInt : Tryz.prog.cellsOf 3 = 1 := by kernel_rfl
end
end Go.Proofs.YtlpkpfpmcppciaaGreatDoor
end

section
namespace Go.Proofs.YtlpkpfpmcppciaaGreatDoor
open Go.RowKit
/-- A batch in an argument: three slices. -/
structure BatArg where
 A : Option Addr
 n : Nat
 c : Nat
 A' : Option Addr
 n' : Nat
 c' : Nat
 A'' : Option Addr
 n'' : Nat
 c'' : Nat
 f : List Ent
 h : List Ent
 l : List Wr
def BatArg.v (b : BatArg) : Value := .agg #[.slice b.A b.n b.c, .slice b.A' b.n' b.c', .slice b.A'' b.n'' b.c'']
structure Bat (w : World) (b : BatArg) : Prop where
 f : Sl w w.heap.size 2 b.A b.n (b.f.flatMap entCells)
 h : Sl w w.heap.size 2 b.A' b.n' (b.h.flatMap entCells)
 l : Sl w w.heap.size 6 b.A'' b.n'' (b.l.flatMap wrCells)
 nf : b.n ≤ maxLen
 nh : b.n' ≤ maxLen
 nl : b.n'' ≤ maxLen
theorem Bat.grow {w w' : World} {b : BatArg} (h : Bat w b) (hb : Below w.heap.size w w') : Bat w' b := ⟨h.f.grow hb, h.h.grow hb, h.l.grow hb, h.nf, h.nh, h.nl⟩
end Go.Proofs.YtlpkpfpmcppciaaGreatDoor
end

section
namespace Go.Proofs.YtlpkpfpmcppciaaGreatDoor
set_option maxRecDepth 100000
open Go.ChangeShapes Go.WideShapes Go.ChangeAt Go.RowKit
section
variable {H : Type} {enc : TypeId × Value → H} {w : World} {base : Nat} {spare : Nat → Bool} {held : Bool}
theorem cellsWr : Tryz.prog.cellsOf 32 = 6 := by kernel_rfl
theorem cellsIdT : Tryz.prog.cellsOf 30 = 2 := by kernel_rfl
theorem cellsStrT : Tryz.prog.cellsOf 9 = 1 := by kernel_rfl
def i64Fits (n : Int) : Prop := -9223372036854775808 ≤ n ∧ n ≤ 9223372036854775807
def wrFits (x : Wr) : Prop := i64Fits x.1 ∧ i64Fits x.2.1 ∧ i64Fits x.2.2.1 ∧ x.2.2.2.1.size ≤ maxLen ∧ x.2.2.2.2.1.size ≤ maxLen ∧ i64Fits x.2.2.2.2.2
theorem six {cs : List Value} (h : cs.length = 6) {a b c d e f : Value} (h0 : cs[0]? = some a) (h1 : cs[1]? = some b) (h2 : cs[2]? = some c) (h3 : cs[3]? = some d) (h4 : cs[4]? = some e) (h5 : cs[5]? = some f) : cs = [a, b, c, d, e, f] := by
 match cs, h with
 | [_, _, _, _, _, _], _ =>
  simp at h0 h1 h2 h3 h4 h5
  subst h0 h1 h2 h3 h4 h5
  rfl
theorem open_wr (cs : List Value) (m : Nat) (y : DataW H × List MemPlace) (h : DataW.trod enc Tryz.prog w base spare held m 32 cs = some y) : ∃ x : Wr, cs = wrCells x ∧ wrFits x := by
 obtain ⟨hcl, hg⟩ := fielded Tryz.underlying32 h
 rw [cellsWr] at hcl
 obtain ⟨m', y', hid⟩ := field_sub hg 0 0 30 2 rfl rfl rfl cellsIdT
 obtain ⟨_, hgi⟩ := fielded Tryz.underlying30 hid
 obtain ⟨a, g0, w0⟩ := field_int hgi 0 0 3 rfl rfl rfl Tryz.underlying3 cellsInt
 obtain ⟨b, g1, w1⟩ := field_int hgi 1 1 3 rfl rfl rfl Tryz.underlying3 cellsInt
 obtain ⟨c, g2, w2⟩ := field_int hg 1 2 3 rfl rfl rfl Tryz.underlying3 cellsInt
 obtain ⟨d, g3, w3⟩ := field_string hg 2 3 9 rfl rfl rfl Tryz.underlying9 cellsStrT
 obtain ⟨e, g4, w4⟩ := field_string hg 3 4 9 rfl rfl rfl Tryz.underlying9 cellsStrT
 obtain ⟨f, g5, w5⟩ := field_int hg 4 5 3 rfl rfl rfl Tryz.underlying3 cellsInt
 rw [List.getElem?_take_of_lt (by omega), List.drop_zero] at g0 g1
 exact ⟨(a, b, c, d, e, f), six hcl g0 g1 g2 g3 g4 g5, bounds_i64 w0, bounds_i64 w1, bounds_i64 w2, w3, w4, bounds_i64 w5⟩
end
end Go.Proofs.YtlpkpfpmcppciaaGreatDoor
end
