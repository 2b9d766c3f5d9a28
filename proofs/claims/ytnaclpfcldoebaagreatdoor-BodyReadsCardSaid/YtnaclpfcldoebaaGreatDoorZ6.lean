/- A region that draws its order, by an invariant: each operation is looked at once, whatever came up ahead of it. Any program.

A region that draws its order and one of whose calls may throw: by an invariant, each operation looked at once. Any program.

The keys that a table and numbers tell, in plain Lean. No program in sight.

What is wrong with a write, its tail as bytes, and a write out of bytes, in plain Lean. No program in sight.

What is wrong with a batch, in plain Lean. No program in sight.

The batch that bytes are, in plain Lean. No program in sight. -/
import Derived.Orders
import Derived.Deep.RegionHeld
import Derived.KernelRfl
import Derived.Test.YtnaclpfcldoebaaGreatDoorZ2
import Derived.Test.YtnaclpfcldoebaaGreatDoorZ4
section
namespace Go.Proofs.YtnaclpfcldoebaaGreatDoor.Flow
open Go
section
variable {P : Program} {ops : Array Oper} {Q : Exit → Act → World → Prop} {md : Region.Mode}
/-- Each operation waits for earlier ones alone. -/
def lexB (ops : Array Oper) : Bool := (List.range ops.size).all fun i => match ops[i]? with
  | some o => o.guard.isNone && o.after.all fun e => decide (e.on < i)
  | none => true
theorem lex_of (h : lexB ops = true) {i : Nat} {o : Oper} (ho : ops[i]? = some o) : o.guard = none ∧ ∀ e ∈ o.after, e.on < i := by
  have hi := (Array.getElem?_eq_some_iff.1 ho).1
  have := List.all_eq_true.1 h i (List.mem_range.2 hi)
  rw [ho] at this
  simp only [Bool.and_eq_true, Option.isNone_iff_eq_none, Array.all_eq_true_iff_forall_mem, decide_eq_true_eq] at this
  exact this
theorem getD_in {L : Array Bool} {i : Nat} (h : i < L.size) (d d' : Bool) : L.getD i d = L.getD i d' := by simp [Array.getD, h]
theorem all_of_ready (hlex : lexB ops = true) {L : Array Bool} (hs : L.size = ops.size) (h : Region.ready md ops L = []) (i : Nat) : i < ops.size → L.getD i false = true := by
  induction i using Nat.strongRecOn with
  | ind i ih =>
    intro hi
    rcases hb : L.getD i false with _ | _
    · exfalso
      have hm : i ∈ Region.ready md ops L := mem_ready.2 ⟨by rw [getD_in (by omega) true false]; exact hb, ops[i], Array.getElem?_eq_getElem hi, fun e he _ => ih e.on ((lex_of hlex (Array.getElem?_eq_getElem hi)).2 e he) (by have := (lex_of hlex (Array.getElem?_eq_getElem hi)).2 e he; omega)⟩
      rw [h] at hm
      cases hm
    · rfl
/-- How many have not come up. -/
def left (L : Array Bool) : Nat := L.toList.countP (! ·)
theorem left_set {L : Array Bool} {i : Nat} (h : L.getD i true = false) : left (L.setIfInBounds i true) + 1 = left L := by
  obtain ⟨l⟩ := L
  unfold left
  simp only [List.setIfInBounds_toArray]
  have h' : l[i]? = some false := by
    rcases Nat.lt_or_ge i l.length with hi | hi
    · simp [Array.getD, hi] at h
      rw [List.getElem?_eq_getElem hi, h]
    · simp [Array.getD, Nat.not_lt.2 hi] at h
  clear h
  induction l generalizing i with
  | nil => simp at h'
  | cons x l ih =>
    cases i with
    | zero => simp at h'; subst h'; simp
    | succ i =>
      simp at h'
      have := ih h'
      simp only [List.set_cons_succ, List.countP_cons]
      omega
theorem left_zero {L : Array Bool} (h : left L = 0) (i : Nat) : L.getD i true = true := by
  obtain ⟨l⟩ := L
  unfold left at h
  simp only at h
  rcases hl : l[i]? with _ | b
  · simp [Array.getD]; intro hi; rw [List.getElem?_eq_getElem hi] at hl; cases hl
  · have hm := List.mem_of_getElem? hl
    have := List.countP_eq_zero.1 h b hm
    obtain ⟨hi, e⟩ := List.getElem?_eq_some_iff.1 hl
    simp [Array.getD, hi, e]
    simpa using this
theorem wpAny_inv (I : Array Bool → Act → World → Prop)
    (hstep : ∀ L a w i o, L.size = ops.size → I L a w → ops[i]? = some o → L.getD i true = false → (∀ e ∈ o.after, Region.binds md e = true → L.getD e.on false = true) → wpOp P ops Q i (fun a' w' => I (L.setIfInBounds i true) a' w') a w)
    (hdone : ∀ L a w, L.size = ops.size → I L a w → Region.ready md ops L = [] → Q .normal a w) :
    ∀ (fuel : Nat) L a w, L.size = ops.size → I L a w → left L ≤ fuel → wpAny P md ops Q fuel L a w := by
  intro fuel
  induction fuel with
  | zero =>
    intro L a w hs hI hf
    have hr : Region.ready md ops L = [] := by
      rw [List.eq_nil_iff_forall_not_mem]
      intro i hi
      have h1 := (mem_ready.1 hi).1
      rw [left_zero (by omega) i] at h1
      cases h1
    exact ⟨hr, hdone L a w hs hI hr⟩
  | succ fuel ih =>
    intro L a w hs hI hf
    refine ⟨fun hr => hdone L a w hs hI hr, fun i hi => ?_⟩
    obtain ⟨h1, o, ho, h2⟩ := mem_ready.1 hi
    refine wpOp_mono (fun a' w' h => ih _ a' w' (by simpa using hs) h (by have := left_set h1; omega)) (hstep L a w i o hs hI ho h1 h2)
def fill (f : Nat → Value → Value) : Nat → List Value → List Value
  | _, [] => []
  | n, x :: l => f n x :: fill f (n + 1) l
theorem fill_get (f : Nat → Value → Value) (l : List Value) (n t : Nat) : (fill f n l)[t]? = l[t]?.map (f (n + t)) := by
  induction l generalizing n t with
  | nil => simp [fill]
  | cons x l ih =>
    cases t with
    | zero => simp [fill]
    | succ t => simp only [fill, List.getElem?_cons_succ, ih]; rw [show n + 1 + t = n + (t + 1) by omega]
/-- Which operation writes a slot. -/
def who (ops : Array Oper) (t : Nat) : Option Nat := ops.toList.findIdx? fun o => o.dst == some t
def slot (ops : Array Oper) (v : Nat → Value) (L : Nat → Bool) (t : Nat) (x : Value) : Value :=
  match who ops t with
  | some i => if L i then v i else x
  | none => x
/-- The frame once the operations of L have come up. -/
def frame (ops : Array Oper) (a0 : Act) (v : Nat → Value) (L : Nat → Bool) : Act := { a0 with tmps := (fill (slot ops v L) 0 a0.tmps.toList).toArray }
theorem who_some {t i : Nat} (h : who ops t = some i) : ∃ o, ops[i]? = some o ∧ o.dst = some t := by
  unfold who at h
  obtain ⟨hi, h1, _⟩ := List.findIdx?_eq_some_iff_getElem.1 h
  exact ⟨ops[i]'(by simpa using hi), Array.getElem?_eq_getElem (by simpa using hi), by simpa using h1⟩
theorem frame_at (a0 : Act) (v : Nat → Value) (L : Nat → Bool) (t : Nat) : (frame ops a0 v L).tmps[t]? = a0.tmps[t]?.map (slot ops v L t) := by
  unfold frame
  simp only [List.getElem?_toArray, fill_get, Nat.zero_add]
  simp
theorem frame_dst {a0 : Act} {v : Nat → Value} {L : Nat → Bool} {t i : Nat} (hw : who ops t = some i) (ht : t < a0.tmps.size) (hL : L i = true) : (frame ops a0 v L).eval (.tmp t) = v i := by
  show (frame ops a0 v L).tmps.getD t undef = v i
  rw [Array.getD_eq_getD_getElem?, frame_at, Array.getElem?_eq_getElem ht]
  simp [slot, hw, hL]
theorem frame_not {a0 : Act} {v : Nat → Value} {L : Nat → Bool} {t i : Nat} (hw : who ops t = some i) (hL : L i = false) : (frame ops a0 v L).eval (.tmp t) = a0.eval (.tmp t) := by
  show (frame ops a0 v L).tmps.getD t undef = a0.tmps.getD t undef
  rw [Array.getD_eq_getD_getElem?, Array.getD_eq_getD_getElem?, frame_at]
  cases a0.tmps[t]? <;> simp [slot, hw, hL]
theorem frame_old {a0 : Act} {v : Nat → Value} {L : Nat → Bool} {t : Nat} (hw : who ops t = none) : (frame ops a0 v L).eval (.tmp t) = a0.eval (.tmp t) := by
  show (frame ops a0 v L).tmps.getD t undef = a0.tmps.getD t undef
  rw [Array.getD_eq_getD_getElem?, Array.getD_eq_getD_getElem?, frame_at]
  cases a0.tmps[t]? <;> simp [slot, hw]
/-- Each slot is written by one operation. -/
def okB (ops : Array Oper) : Bool := (List.range ops.size).all fun i => match ops[i]? with
  | some o => (match o.dst with
    | some t => who ops t == some i
    | none => true)
  | none => true
theorem ok_of (h : okB ops = true) {i t : Nat} {o : Oper} (ho : ops[i]? = some o) (ht : o.dst = some t) : who ops t = some i := by
  have hi := (Array.getElem?_eq_some_iff.1 ho).1
  have := List.all_eq_true.1 h i (List.mem_range.2 hi)
  rw [ho] at this
  simp only [ht] at this
  simpa using this
theorem frame_put (hok : okB ops = true) {a0 : Act} {v v' : Nat → Value} {L : Nat → Bool} {i : Nat} {o : Oper} (ho : ops[i]? = some o) (hv : ∀ j, L j = true → v' j = v j) :
    (frame ops a0 v L).put o.dst (v' i) = frame ops a0 v' (fun j => j == i || L j) := by
  have key : ∀ t x, o.dst ≠ some t → slot ops v L t x = slot ops v' (fun j => j == i || L j) t x := by
    intro t x hne
    unfold slot
    rcases hw : who ops t with _ | j
    · rfl
    · simp only
      have hji : j ≠ i := by
        rintro rfl
        obtain ⟨o', ho', hd⟩ := who_some hw
        rw [ho] at ho'
        injection ho' with ho'
        subst ho'
        exact hne hd
      have hb : (j == i) = false := by simpa using hji
      simp only [hb, Bool.false_or]
      cases hL : L j with
      | false => simp
      | true => simp [hv j hL]
  rcases hd : o.dst with _ | d
  · unfold Act.put
    simp only
    unfold frame
    congr 1
    apply Array.ext_getElem?
    intro t
    have h1 := frame_at (ops := ops) a0 v L t
    have h2 := frame_at (ops := ops) a0 v' (fun j => j == i || L j) t
    unfold frame at h1 h2
    rw [h1, h2]
    cases a0.tmps[t]? with
    | none => rfl
    | some x => simp only [Option.map_some]; rw [key t x (by rw [hd]; simp)]
  · have hw := ok_of hok ho hd
    have e : (frame ops a0 v L).tmps.setIfInBounds d (v' i) = (frame ops a0 v' (fun j => j == i || L j)).tmps := by
      apply Array.ext_getElem?
      intro t
      rw [Array.getElem?_setIfInBounds, frame_at]
      have hsz : (frame ops a0 v L).tmps.size = a0.tmps.size := by
        apply Nat.le_antisymm
        · rcases Nat.lt_or_ge a0.tmps.size (frame ops a0 v L).tmps.size with h | h
          · have := frame_at (ops := ops) a0 v L a0.tmps.size
            rw [Array.getElem?_eq_getElem h, Array.getElem?_eq_none (Nat.le_refl _)] at this
            cases this
          · exact h
        · rcases Nat.lt_or_ge (frame ops a0 v L).tmps.size a0.tmps.size with h | h
          · have := frame_at (ops := ops) a0 v L (frame ops a0 v L).tmps.size
            rw [Array.getElem?_eq_none (Nat.le_refl _), Array.getElem?_eq_getElem h] at this
            cases this
          · exact h
      rw [frame_at, hsz]
      by_cases ht : d = t
      · subst ht
        rw [if_pos rfl]
        by_cases hlt : d < a0.tmps.size
        · rw [if_pos hlt, Array.getElem?_eq_getElem hlt]
          simp [slot, hw]
        · rw [if_neg hlt, Array.getElem?_eq_none (Nat.not_lt.1 hlt)]; rfl
      · rw [if_neg ht]
        cases a0.tmps[t]? with
        | none => rfl
        | some x => simp only [Option.map_some]; rw [key t x (by rw [hd]; intro h; injection h with h; exact ht h)]
    show ({ frame ops a0 v L with tmps := (frame ops a0 v L).tmps.setIfInBounds d (v' i) } : Act) = _
    rw [e]
    rfl
theorem frame_all {a0 : Act} {v : Nat → Value} {L : Nat → Bool} (h : ∀ i, i < ops.size → L i = true) : frame ops a0 v L = frame ops a0 v (fun _ => true) := by
  unfold frame
  congr 1
  apply Array.ext_getElem?
  intro t
  have h1 := frame_at (ops := ops) a0 v L t
  have h2 := frame_at (ops := ops) a0 v (fun _ => true) t
  unfold frame at h1 h2
  rw [h1, h2]
  cases a0.tmps[t]? with
  | none => rfl
  | some x =>
    simp only [Option.map_some]
    congr 1
    unfold slot
    rcases hw : who ops t with _ | j
    · rfl
    · simp only
      obtain ⟨o, ho, _⟩ := who_some hw
      rw [h j (Array.getElem?_eq_some_iff.1 ho).1]
      simp
theorem frame_none {a0 : Act} {v : Nat → Value} : frame ops a0 v (fun _ => false) = a0 := by
  obtain ⟨t0, d0⟩ := a0
  unfold frame
  congr 1
  apply Array.ext_getElem?
  intro t
  have h1 := frame_at (ops := ops) ⟨t0, d0⟩ v (fun _ => false) t
  unfold frame at h1
  rw [h1]
  cases t0[t]? with
  | none => rfl
  | some x =>
    simp only [Option.map_some]
    congr 1
    unfold slot
    split <;> simp
/-- The frame behind all operations, put by put. -/
def putAll (v : Nat → Value) : Nat → List Oper → Act → Act
  | _, [], a => a
  | i, o :: l, a => putAll v (i + 1) l (a.put o.dst (v i))
theorem putAll_from (hok : okB ops = true) {a0 : Act} {v : Nat → Value} (l pre : List Oper) (h : ops.toList = pre ++ l) : putAll v pre.length l (frame ops a0 v (fun j => decide (j < pre.length))) = frame ops a0 v (fun j => decide (j < ops.size)) := by
  induction l generalizing pre with
  | nil =>
    have : ops.size = pre.length := by rw [← Array.length_toList, h, List.append_nil]
    rw [this]
    rfl
  | cons o l ih =>
    have ho : ops[pre.length]? = some o := by rw [← Array.getElem?_toList, h, List.getElem?_append_right (Nat.le_refl _), Nat.sub_self]; rfl
    have e : (fun j => j == pre.length || decide (j < pre.length)) = fun j => decide (j < (pre ++ [o]).length) := by
      funext j
      rw [List.length_append, List.length_singleton]
      by_cases h1 : j = pre.length
      · subst h1; simp
      · have hb : (j == pre.length) = false := by simpa using h1
        rw [hb, Bool.false_or, decide_eq_decide]; omega
    have hp := frame_put hok (a0 := a0) (v := v) (v' := v) (L := fun j => decide (j < pre.length)) ho (fun _ _ => rfl)
    rw [e] at hp
    show putAll v (pre.length + 1) l ((frame ops a0 v (fun j => decide (j < pre.length))).put o.dst (v pre.length)) = _
    rw [hp]
    have := ih (pre ++ [o]) (by rw [h, List.append_assoc]; rfl)
    rw [List.length_append, List.length_singleton] at this ⊢
    exact this
theorem putAll_all (hok : okB ops = true) {a0 : Act} {v : Nat → Value} : frame ops a0 v (fun _ => true) = putAll v 0 ops.toList a0 := by
  have h := putAll_from hok (a0 := a0) (v := v) ops.toList [] rfl
  have e : (fun j : Nat => decide (j < ([] : List Oper).length)) = fun _ => false := by funext j; simp
  rw [e, frame_none] at h
  rw [show ([] : List Oper).length = 0 from rfl] at h
  rw [h]
  exact (frame_all (L := fun j => decide (j < ops.size)) (fun i hi => by simpa using hi)).symm
/-- What is asked of each operation. -/
def Steps (X : Nat → Oper → Prop) : Nat → List Oper → Prop
  | _, [] => True
  | i, o :: l => X i o ∧ Steps X (i + 1) l
theorem Steps.at_ {X : Nat → Oper → Prop} {l : List Oper} {n : Nat} (h : Steps X n l) {i : Nat} {o : Oper} (ho : l[i]? = some o) : X (n + i) o := by
  induction l generalizing n i with
  | nil => simp at ho
  | cons x l ih =>
    cases i with
    | zero => simp at ho; subst ho; exact h.1
    | succ i =>
      have := ih h.2 (i := i) (by simpa using ho)
      rw [show n + 1 + i = n + (i + 1) by omega] at this
      exact this
/-- All slots that are written are there. -/
def fitB (ops : Array Oper) (n : Nat) : Bool := ops.toList.all fun o => match o.dst with
  | some t => decide (t < n)
  | none => true
theorem fit_of {n t j : Nat} (h : fitB ops n = true) (hw : who ops t = some j) : t < n := by
  obtain ⟨o, ho, hd⟩ := who_some hw
  have := List.all_eq_true.1 h o (by rw [← Array.getElem?_toList] at ho; exact List.mem_of_getElem? ho)
  simp only [hd] at this
  exact of_decide_eq_true this
/-- What is asked of an operation's outcome. -/
def Yl (P : Program) (K : Value → World → Prop) : Result Next → Prop
  | .ok (.value v) w => K v w
  | .ok .skip w => K undef w
  | .ok (.enter f args) w => Calls P f args w fun e w' => ∃ v, e = .returned v ∧ K v w'
  | _ => False
theorem yl_value {K : Value → World → Prop} {v : Value} {w : World} : Yl P K (.ok (.value v) w) = K v w := rfl
theorem yl_skip {K : Value → World → Prop} {w : World} : Yl P K (.ok .skip w) = K undef w := rfl
theorem yl_enter {K : Value → World → Prop} {f : FuncId} {args : Array Value} {w : World} : Yl P K (.ok (.enter f args) w) = Calls P f args w fun e w' => ∃ v, e = .returned v ∧ K v w' := rfl
theorem Yl.upon {K : Value → World → Prop} {r : Result Next} (h : Yl P K r) {o : Oper} {a : Act} {K' : Act → World → Prop} (hK : ∀ v w, K v w → K' (a.put o.dst v) w) : o.upon P a K' Q r := by
  cases r with
  | ok n w =>
    cases n with
    | value v => exact hK _ _ h
    | skip => exact hK _ _ h
    | enter f args => exact Calls.mono h fun e w' he => by obtain ⟨v, rfl, h⟩ := he; exact hK _ _ h
    | _ => exact absurd h (fun h => h)
  | halt x w => exact absurd h (fun h => h)
/-- What is asked of operation i: from any state that fits, it yields its value and leaves a state that fits. -/
def Step {G : Type} (P : Program) (ops : Array Oper) (a0 : Act) (v : G → Nat → Value) (C : G → (Nat → Bool) → World → Prop) (i : Nat) (o : Oper) : Prop :=
  ∀ (g : G) (L : Nat → Bool) (w : World) (K : Value → World → Prop) (ρ : Operand → Value),
    (∀ x, ρ (.const x) = x) → (∀ f, ρ (.func f) = .func (.func f) #[] #[]) → (∀ t j, who ops t = some j → L j = true → ρ (.tmp t) = v g j) → (∀ t, who ops t = none → ρ (.tmp t) = a0.eval (.tmp t)) →
    L i = false → (∀ e ∈ o.after, Region.binds .any e = true → L e.on = true) → C g L w →
    (∀ g' w', C g' (fun j => j == i || L j) w' → (∀ j, L j = true → v g' j = v g j) → K (v g' i) w') → Yl P K ((execOp ρ o).run P w)
/-- The same, a slot that the region writes being read ahead of that, too. -/
def Step2 {G : Type} (P : Program) (ops : Array Oper) (a0 : Act) (v : G → Nat → Value) (C : G → (Nat → Bool) → World → Prop) (i : Nat) (o : Oper) : Prop :=
  ∀ (g : G) (L : Nat → Bool) (w : World) (K : Value → World → Prop) (ρ : Operand → Value),
    (∀ x, ρ (.const x) = x) → (∀ f, ρ (.func f) = .func (.func f) #[] #[]) → (∀ t j, who ops t = some j → L j = true → ρ (.tmp t) = v g j) → (∀ t, who ops t = none → ρ (.tmp t) = a0.eval (.tmp t)) →
    (∀ t j, who ops t = some j → L j = false → ρ (.tmp t) = a0.eval (.tmp t)) →
    L i = false → (∀ e ∈ o.after, Region.binds .any e = true → L e.on = true) → C g L w →
    (∀ g' w', C g' (fun j => j == i || L j) w' → (∀ j, L j = true → v g' j = v g j) → K (v g' i) w') → Yl P K ((execOp ρ o).run P w)
theorem done_as {Q : Exit → Act → World → Prop} {A B : Act} {w : World} (h : Q .normal B w) (e : A = B) : Q .normal A w := by rw [e]; exact h
theorem wp_region_flow {G : Type} {id : Nat} {l : List Oper} {a0 : Act} {w0 : World} (hm : P.follows .mixedOrders = true) (hlex : lexB l.toArray = true) (hok : okB l.toArray = true) (n : Nat) (hn : a0.tmps.size = n) (hfit : fitB l.toArray n = true)
    (v : G → Nat → Value) (C : G → (Nat → Bool) → World → Prop) (g0 : G) (h0 : C g0 (fun _ => false) w0.drew)
    (hstep : Steps (Step P l.toArray a0 v C) 0 l) (hdone : ∀ g L w, (∀ i, i < l.toArray.size → L i = true) → C g L w → Q .normal (frame l.toArray a0 (v g) (fun _ => true)) w) :
    (Code.region id l.toArray true).wp P Q a0 w0 := by
  refine wp_region_any hm ?_
  refine wpAny_inv (fun L a w => ∃ g, a = frame l.toArray a0 (v g) (fun i => L.getD i false) ∧ C g (fun i => L.getD i false) w) ?_ ?_ _ _ _ _ (by simp) ?_ ?_
  · rintro L a w i o hs ⟨g, rfl, hC⟩ ho hi hd
    have hst := hstep.at_ (i := i) (o := o) (by simpa using ho)
    rw [Nat.zero_add] at hst
    have hin : i < L.size := by rw [hs]; exact (Array.getElem?_eq_some_iff.1 ho).1
    have hi' : L.getD i false = false := by rw [getD_in hin false true]; exact hi
    have hfun : (fun j => (L.setIfInBounds i true).getD j false) = fun j => j == i || L.getD j false := by
      funext j
      by_cases hj : j = i
      · subst hj
        simp [Array.getD, hin]
      · have hb : (j == i) = false := by simpa using hj
        rw [hb, Bool.false_or]
        simp only [Array.getD_eq_getD_getElem?, Array.getElem?_setIfInBounds]
        rw [if_neg (fun e => hj e.symm)]
    unfold wpOp
    rw [ho]
    simp only
    rw [if_pos (by simp [Region.wanted, (lex_of hlex ho).1])]
    refine .inl (Yl.upon (hst g _ w (fun u w' => ∃ g', u = v g' i ∧ C g' (fun j => j == i || L.getD j false) w' ∧ ∀ j, L.getD j false = true → v g' j = v g j) _ (fun _ => rfl) (fun _ => rfl) (fun t j h1 h2 => frame_dst h1 (by rw [hn]; exact fit_of hfit h1) h2) (fun t h1 => frame_old h1) hi' hd hC (fun g' w' h1 h2 => ⟨g', rfl, h1, h2⟩)) ?_)
    rintro u w' ⟨g', rfl, hC', hv⟩
    refine ⟨g', ?_, ?_⟩
    · rw [hfun]; exact frame_put hok ho hv
    · rw [hfun]; exact hC'
  · rintro L a w hs ⟨g, rfl, hC⟩ hr
    have hall := all_of_ready hlex hs hr
    rw [frame_all hall]
    exact hdone g _ w hall hC
  · refine ⟨g0, ?_, ?_⟩
    · have : (fun i => (Array.replicate l.toArray.size false).getD i false) = fun _ => false := by
        funext i
        simp [Array.getD]
      rw [this, frame_none]
    · have : (fun i => (Array.replicate l.toArray.size false).getD i false) = fun _ => false := by
        funext i
        simp [Array.getD]
      rw [this]
      exact h0
  · unfold left
    simp only [Array.toList_replicate]
    exact Nat.le_trans List.countP_le_length (by simp)
/-- The same, the frame behind it put by put. -/
theorem wp_region_flow' {G : Type} {id : Nat} {l : List Oper} {a0 : Act} {w0 : World} (hm : P.follows .mixedOrders = true) (hlex : lexB l.toArray = true) (hok : okB l.toArray = true) (n : Nat) (hn : a0.tmps.size = n) (hfit : fitB l.toArray n = true)
    (v : G → Nat → Value) (C : G → (Nat → Bool) → World → Prop) (g0 : G) (h0 : C g0 (fun _ => false) w0.drew)
    (hstep : Steps (Step P l.toArray a0 v C) 0 l) (hdone : ∀ g L w, (∀ i, i < l.length → L i = true) → C g L w → Q .normal (putAll (v g) 0 l a0) w) :
    (Code.region id l.toArray true).wp P Q a0 w0 :=
  wp_region_flow hm hlex hok n hn hfit v C g0 h0 hstep fun g L w hL hC => by
    rw [putAll_all hok]
    exact hdone g L w (fun i hi => hL i (by simpa using hi)) hC
theorem wp_region_flow2 {G : Type} {id : Nat} {l : List Oper} {a0 : Act} {w0 : World} (hm : P.follows .mixedOrders = true) (hlex : lexB l.toArray = true) (hok : okB l.toArray = true) (n : Nat) (hn : a0.tmps.size = n) (hfit : fitB l.toArray n = true)
    (v : G → Nat → Value) (C : G → (Nat → Bool) → World → Prop) (g0 : G) (h0 : C g0 (fun _ => false) w0.drew)
    (hstep : Steps (Step2 P l.toArray a0 v C) 0 l) (hdone : ∀ g L w, (∀ i, i < l.toArray.size → L i = true) → C g L w → Q .normal (frame l.toArray a0 (v g) (fun _ => true)) w) :
    (Code.region id l.toArray true).wp P Q a0 w0 := by
  refine wp_region_any hm ?_
  refine wpAny_inv (fun L a w => ∃ g, a = frame l.toArray a0 (v g) (fun i => L.getD i false) ∧ C g (fun i => L.getD i false) w) ?_ ?_ _ _ _ _ (by simp) ?_ ?_
  · rintro L a w i o hs ⟨g, rfl, hC⟩ ho hi hd
    have hst := hstep.at_ (i := i) (o := o) (by simpa using ho)
    rw [Nat.zero_add] at hst
    have hin : i < L.size := by rw [hs]; exact (Array.getElem?_eq_some_iff.1 ho).1
    have hi' : L.getD i false = false := by rw [getD_in hin false true]; exact hi
    have hfun : (fun j => (L.setIfInBounds i true).getD j false) = fun j => j == i || L.getD j false := by
      funext j
      by_cases hj : j = i
      · subst hj
        simp [Array.getD, hin]
      · have hb : (j == i) = false := by simpa using hj
        rw [hb, Bool.false_or]
        simp only [Array.getD_eq_getD_getElem?, Array.getElem?_setIfInBounds]
        rw [if_neg (fun e => hj e.symm)]
    unfold wpOp
    rw [ho]
    simp only
    rw [if_pos (by simp [Region.wanted, (lex_of hlex ho).1])]
    refine .inl (Yl.upon (hst g _ w (fun u w' => ∃ g', u = v g' i ∧ C g' (fun j => j == i || L.getD j false) w' ∧ ∀ j, L.getD j false = true → v g' j = v g j) _ (fun _ => rfl) (fun _ => rfl) (fun t j h1 h2 => frame_dst h1 (by rw [hn]; exact fit_of hfit h1) h2) (fun t h1 => frame_old h1) (fun t j h1 h2 => frame_not h1 h2) hi' hd hC (fun g' w' h1 h2 => ⟨g', rfl, h1, h2⟩)) ?_)
    rintro u w' ⟨g', rfl, hC', hv⟩
    refine ⟨g', ?_, ?_⟩
    · rw [hfun]; exact frame_put hok ho hv
    · rw [hfun]; exact hC'
  · rintro L a w hs ⟨g, rfl, hC⟩ hr
    have hall := all_of_ready hlex hs hr
    rw [frame_all hall]
    exact hdone g _ w hall hC
  · refine ⟨g0, ?_, ?_⟩
    · have : (fun i => (Array.replicate l.toArray.size false).getD i false) = fun _ => false := by
        funext i
        simp [Array.getD]
      rw [this, frame_none]
    · have : (fun i => (Array.replicate l.toArray.size false).getD i false) = fun _ => false := by
        funext i
        simp [Array.getD]
      rw [this]
      exact h0
  · unfold left
    simp only [Array.toList_replicate]
    exact Nat.le_trans List.countP_le_length (by simp)
theorem wp_region_flow2' {G : Type} {id : Nat} {l : List Oper} {a0 : Act} {w0 : World} (hm : P.follows .mixedOrders = true) (hlex : lexB l.toArray = true) (hok : okB l.toArray = true) (n : Nat) (hn : a0.tmps.size = n) (hfit : fitB l.toArray n = true)
    (v : G → Nat → Value) (C : G → (Nat → Bool) → World → Prop) (g0 : G) (h0 : C g0 (fun _ => false) w0.drew)
    (hstep : Steps (Step2 P l.toArray a0 v C) 0 l) (hdone : ∀ g L w, (∀ i, i < l.length → L i = true) → C g L w → Q .normal (putAll (v g) 0 l a0) w) :
    (Code.region id l.toArray true).wp P Q a0 w0 :=
  wp_region_flow2 hm hlex hok n hn hfit v C g0 h0 hstep fun g L w hL hC => by
    rw [putAll_all hok]
    exact hdone g L w (fun i hi => hL i (by simpa using hi)) hC
end
end Go.Proofs.YtnaclpfcldoebaaGreatDoor.Flow
end

section
namespace Go.Proofs.YtnaclpfcldoebaaGreatDoor.Flow
open Go
section
variable {P : Program} {ops : Array Oper} {Q : Exit → Act → World → Prop} {md : Region.Mode}
/-- What is asked of an operation's outcome, a call's panic let through. -/
def YlP (P : Program) (Z : List PanicEntry → World → Prop) (K : Value → World → Prop) : Result Next → Prop
  | .ok (.value v) w => K v w
  | .ok .skip w => K undef w
  | .ok (.enter f args) w => Calls P f args w fun e w' => (∃ v, e = .returned v ∧ K v w') ∨ ∃ ch, e = .panicked ch ∧ Z ch w'
  | .halt (.panic v) w => Z [{ v, recovered := false }] w
  | _ => False
variable {Z : List PanicEntry → World → Prop}
theorem ylP_value {K : Value → World → Prop} {v : Value} {w : World} : YlP P Z K (.ok (.value v) w) = K v w := rfl
theorem ylP_skip {K : Value → World → Prop} {w : World} : YlP P Z K (.ok .skip w) = K undef w := rfl
theorem ylP_enter {K : Value → World → Prop} {f : FuncId} {args : Array Value} {w : World} : YlP P Z K (.ok (.enter f args) w) = Calls P f args w fun e w' => (∃ v, e = .returned v ∧ K v w') ∨ ∃ ch, e = .panicked ch ∧ Z ch w' := rfl
theorem ylP_panic {K : Value → World → Prop} {v : Value} {w : World} : YlP P Z K (.halt (.panic v) w) = Z [{ v, recovered := false }] w := rfl
theorem YlP.upon {K : Value → World → Prop} {r : Result Next} (h : YlP P Z K r) {o : Oper} {a : Act} {K' : Act → World → Prop} (hK : ∀ v w, K v w → K' (a.put o.dst v) w) (hZ : ∀ ch w, Z ch w → Q (.panic ch) a w) : o.upon P a K' Q r := by
  cases r with
  | ok n w =>
    cases n with
    | value v => exact hK _ _ h
    | skip => exact hK _ _ h
    | enter f args =>
      refine Calls.mono h fun e w' he => ?_
      rcases he with ⟨v, rfl, h⟩ | ⟨ch, rfl, h⟩
      · exact hK _ _ h
      · exact hZ _ _ h
    | _ => exact absurd h (fun h => h)
  | halt x w =>
    cases x with
    | panic v => exact hZ _ _ h
    | _ => exact absurd h (fun h => h)
def Step3 {G : Type} (P : Program) (ops : Array Oper) (a0 : Act) (v : G → Nat → Value) (C : G → (Nat → Bool) → World → Prop) (Z : List PanicEntry → World → Prop) (i : Nat) (o : Oper) : Prop :=
  ∀ (g : G) (L : Nat → Bool) (w : World) (K : Value → World → Prop) (ρ : Operand → Value),
    (∀ x, ρ (.const x) = x) → (∀ f, ρ (.func f) = .func (.func f) #[] #[]) → (∀ t j, who ops t = some j → L j = true → ρ (.tmp t) = v g j) → (∀ t, who ops t = none → ρ (.tmp t) = a0.eval (.tmp t)) →
    L i = false → (∀ e ∈ o.after, Region.binds .any e = true → L e.on = true) → C g L w →
    (∀ g' w', C g' (fun j => j == i || L j) w' → (∀ j, L j = true → v g' j = v g j) → K (v g' i) w') → YlP P Z K ((execOp ρ o).run P w)
theorem wp_region_throw {G : Type} {id : Nat} {l : List Oper} {a0 : Act} {w0 : World} (hm : P.follows .mixedOrders = true) (hlex : lexB l.toArray = true) (hok : okB l.toArray = true) (n : Nat) (hn : a0.tmps.size = n) (hfit : fitB l.toArray n = true)
    (v : G → Nat → Value) (C : G → (Nat → Bool) → World → Prop) (Z : List PanicEntry → World → Prop) (g0 : G) (h0 : C g0 (fun _ => false) w0.drew)
    (hstep : Steps (Step3 P l.toArray a0 v C Z) 0 l) (hthrow : ∀ g L ch w, Z ch w → Q (.panic ch) (frame l.toArray a0 (v g) L) w)
    (hdone : ∀ g L w, (∀ i, i < l.length → L i = true) → C g L w → Q .normal (putAll (v g) 0 l a0) w) :
    (Code.region id l.toArray true).wp P Q a0 w0 := by
  refine wp_region_any hm ?_
  refine wpAny_inv (fun L a w => ∃ g, a = frame l.toArray a0 (v g) (fun i => L.getD i false) ∧ C g (fun i => L.getD i false) w) ?_ ?_ _ _ _ _ (by simp) ?_ ?_
  · rintro L a w i o hs ⟨g, rfl, hC⟩ ho hi hd
    have hst := hstep.at_ (i := i) (o := o) (by simpa using ho)
    rw [Nat.zero_add] at hst
    have hin : i < L.size := by rw [hs]; exact (Array.getElem?_eq_some_iff.1 ho).1
    have hi' : L.getD i false = false := by rw [getD_in hin false true]; exact hi
    have hfun : (fun j => (L.setIfInBounds i true).getD j false) = fun j => j == i || L.getD j false := by
      funext j
      by_cases hj : j = i
      · subst hj
        simp [Array.getD, hin]
      · have hb : (j == i) = false := by simpa using hj
        rw [hb, Bool.false_or]
        simp only [Array.getD_eq_getD_getElem?, Array.getElem?_setIfInBounds]
        rw [if_neg (fun e => hj e.symm)]
    unfold wpOp
    rw [ho]
    simp only
    rw [if_pos (by simp [Region.wanted, (lex_of hlex ho).1])]
    refine .inl (YlP.upon (hst g _ w (fun u w' => ∃ g', u = v g' i ∧ C g' (fun j => j == i || L.getD j false) w' ∧ ∀ j, L.getD j false = true → v g' j = v g j) _ (fun _ => rfl) (fun _ => rfl) (fun t j h1 h2 => frame_dst h1 (by rw [hn]; exact fit_of hfit h1) h2) (fun t h1 => frame_old h1) hi' hd hC (fun g' w' h1 h2 => ⟨g', rfl, h1, h2⟩)) ?_ (fun ch w' hz => hthrow g _ ch w' hz))
    rintro u w' ⟨g', rfl, hC', hv⟩
    refine ⟨g', ?_, ?_⟩
    · rw [hfun]; exact frame_put hok ho hv
    · rw [hfun]; exact hC'
  · rintro L a w hs ⟨g, rfl, hC⟩ hr
    have hall := all_of_ready hlex hs hr
    rw [frame_all hall, putAll_all hok]
    exact hdone g _ w (fun i hi => hall i (by simpa using hi)) hC
  · refine ⟨g0, ?_, ?_⟩
    · have : (fun i => (Array.replicate l.toArray.size false).getD i false) = fun _ => false := by
        funext i
        simp [Array.getD]
      rw [this, frame_none]
    · have : (fun i => (Array.replicate l.toArray.size false).getD i false) = fun _ => false := by
        funext i
        simp [Array.getD]
      rw [this]
      exact h0
  · unfold left
    simp only [Array.toList_replicate]
    exact Nat.le_trans List.countP_le_length (by simp)
end
end Go.Proofs.YtnaclpfcldoebaaGreatDoor.Flow
end

section
namespace Go.Proofs.YtnaclpfcldoebaaGreatDoor
/-- The first key of a table that stands there twice, from k on. -/
def twiceGo (t : List ByteArray) : List ByteArray → Nat → Int
  | [], _ => -1
  | s :: l, k => if s ∈ t.take k then k else twiceGo t l (k + 1)
def twice (t : List ByteArray) : Int := twiceGo t t 0
/-- Numbers from i on, so many keys being told. -/
def klgo (t : List ByteArray) : List Int → Nat → Nat → List ByteArray → List ByteArray × Int × Int
  | [], _, next, out => if next < t.length then ([], 8, -1) else (out, 0, -1)
  | n :: l, i, next, out => if n < 0 ∨ (t.length : Int) ≤ n then ([], 2, i) else if (next : Int) < n then ([], 13, i) else klgo t l (i + 1) (if n = (next : Int) then next + 1 else next) (out ++ [t.getD n.toNat (strOf [])])
def klist (t : List ByteArray) (a : List Int) : List ByteArray × Int × Int := if 0 ≤ twice t then ([], 9, twice t) else klgo t a 0 0 []
/-- None twice ahead of k. -/
def KT (t : List ByteArray) (k : Nat) : Prop := twice t = twiceGo t (t.drop k) k
theorem KT.zero (t : List ByteArray) : KT t 0 := rfl
theorem kdrop {α : Type} {l : List α} {k : Nat} {x : α} (h : l[k]? = some x) : l.drop k = x :: l.drop (k + 1) := by
  obtain ⟨hk, e⟩ := List.getElem?_eq_some_iff.1 h
  rw [List.drop_eq_getElem_cons hk, e]
theorem KT.hit {t : List ByteArray} {k : Nat} {s : ByteArray} (h : KT t k) (hx : t[k]? = some s) (hs : s ∈ t.take k) : twice t = (k : Int) := by
  unfold KT at h; rw [h, kdrop hx]; simp only [twiceGo]; rw [if_pos hs]
theorem KT.succ {t : List ByteArray} {k : Nat} {s : ByteArray} (h : KT t k) (hx : t[k]? = some s) (hs : ¬ s ∈ t.take k) : KT t (k + 1) := by
  unfold KT at *; rw [h, kdrop hx]; simp only [twiceGo]; rw [if_neg hs]
theorem KT.all {t : List ByteArray} {k : Nat} (h : KT t k) (hk : t.length ≤ k) : twice t = -1 := by
  unfold KT at h; rw [h, List.drop_eq_nil_of_le hk]; rfl
theorem klist_twice {t : List ByteArray} {a : List Int} {k : Nat} (h : twice t = (k : Int)) : klist t a = ([], 9, (k : Int)) := by
  unfold klist; rw [h, if_pos (by omega)]
theorem klist_once {t : List ByteArray} {a : List Int} (h : twice t = -1) : klist t a = klgo t a 0 0 [] := by
  unfold klist; rw [h, if_neg (by omega)]
/-- As it stands ahead of number i. -/
structure KA (t : List ByteArray) (a : List Int) (i next : Nat) (out : List ByteArray) : Prop where
  eq : klgo t a 0 0 [] = klgo t (a.drop i) i next out
  len : out.length = i
  le : next ≤ t.length
  le' : next ≤ i
theorem KA.zero (t : List ByteArray) (a : List Int) : KA t a 0 0 [] := ⟨rfl, rfl, Nat.zero_le _, Nat.zero_le _⟩
section
variable {t : List ByteArray} {a : List Int} {i next : Nat} {out : List ByteArray} {n : Int}
theorem KA.range (h : KA t a i next out) (hx : a[i]? = some n) (h1 : n < 0 ∨ (t.length : Int) ≤ n) : klgo t a 0 0 [] = ([], 2, (i : Int)) := by
  rw [h.eq, kdrop hx]; simp only [klgo]; rw [if_pos h1]
theorem KA.false (h : KA t a i next out) (hx : a[i]? = some n) (h1 : ¬ (n < 0 ∨ (t.length : Int) ≤ n)) (h2 : (next : Int) < n) : klgo t a 0 0 [] = ([], 13, (i : Int)) := by
  rw [h.eq, kdrop hx]; simp only [klgo]; rw [if_neg h1, if_pos h2]
theorem KA.new (h : KA t a i next out) (hx : a[i]? = some n) (h1 : ¬ (n < 0 ∨ (t.length : Int) ≤ n)) (h2 : n = (next : Int)) : KA t a (i + 1) (next + 1) (out ++ [t.getD n.toNat (strOf [])]) := by
  refine ⟨?_, by simp [h.len], by omega, by have := h.le'; omega⟩
  rw [h.eq, kdrop hx]; simp only [klgo]; rw [if_neg h1, if_neg (by omega), if_pos h2]
theorem KA.old (h : KA t a i next out) (hx : a[i]? = some n) (h1 : ¬ (n < 0 ∨ (t.length : Int) ≤ n)) (h2 : n < (next : Int)) : KA t a (i + 1) next (out ++ [t.getD n.toNat (strOf [])]) := by
  refine ⟨?_, by simp [h.len], h.le, by have := h.le'; omega⟩
  rw [h.eq, kdrop hx]; simp only [klgo]; rw [if_neg h1, if_neg (by omega), if_neg (by omega)]
theorem KA.less (h : KA t a i next out) (hi : a.length ≤ i) (h1 : next < t.length) : klgo t a 0 0 [] = ([], 8, -1) := by
  rw [h.eq, List.drop_eq_nil_of_le hi]; simp only [klgo]; rw [if_pos h1]
theorem KA.done (h : KA t a i next out) (hi : a.length ≤ i) (h1 : ¬ next < t.length) : klgo t a 0 0 [] = (out, 0, -1) := by
  rw [h.eq, List.drop_eq_nil_of_le hi]; simp only [klgo]; rw [if_neg h1]
end
theorem klgo_len (t : List ByteArray) : ∀ (a : List Int) (i next : Nat) (out : List ByteArray), (klgo t a i next out).1.length ≤ out.length + a.length := by
  intro a
  induction a with
  | nil => intro i next out; simp only [klgo]; split <;> simp
  | cons n a ih =>
    intro i next out
    simp only [klgo]
    split
    · simp
    · split
      · simp
      · refine Nat.le_trans (ih _ _ _) ?_
        simp only [List.length_append, List.length_cons, List.length_nil]; omega
theorem klist_len (t : List ByteArray) (a : List Int) : (klist t a).1.length ≤ a.length := by
  unfold klist
  split
  · simp
  · have := klgo_len t a 0 0 []; simpa using this
end Go.Proofs.YtnaclpfcldoebaaGreatDoor
end

section
namespace Go.Proofs.YtnaclpfcldoebaaGreatDoor
/-- What is wrong with a write: time, replica, kind, key, value, number. -/
def wright (w : Wr) : Int :=
  if w.2.2.1 < 1 ∨ 4 < w.2.2.1 then 1
  else if idRight (w.1, w.2.1) = false then 2
  else if 40 < w.2.2.2.1.size ∨ 300 < w.2.2.2.2.1.size then 4
  else if (w.2.2.1 ≠ 1 ∧ w.2.2.1 ≠ 4 ∧ w.2.2.2.2.1.size ≠ 0) ∨ (w.2.2.1 ≠ 3 ∧ w.2.2.1 ≠ 4 ∧ w.2.2.2.2.2 ≠ 0) then 3
  else if w.2.2.1 = 3 ∧ (w.2.2.2.2.2 < -1125899906842624 ∨ 1125899906842624 < w.2.2.2.2.2) ∨ w.2.2.1 = 4 ∧ (w.2.2.2.2.2 < 0 ∨ 1000 < w.2.2.2.2.2) then 2 else 0
def zigN (n : Int) : Nat := (if n < 0 then 2 * -(n + 1) + 1 else 2 * n).toNat
def zagN (n : Nat) : Int := if n % 2 = 1 then -((n / 2 : Nat) : Int) - 1 else ((n / 2 : Nat) : Int)
/-- A write's tail, if it is right. -/
def wtailOf (w : Wr) : ByteArray :=
  if w.2.2.1 = 1 then strOf (vput w.2.2.2.2.1.size) ++ w.2.2.2.2.1
  else if w.2.2.1 = 3 then strOf (vput (zigN w.2.2.2.2.2))
  else if w.2.2.1 = 4 then strOf (vput w.2.2.2.2.2.toNat) ++ (strOf (vput w.2.2.2.2.1.size) ++ w.2.2.2.2.1)
  else strOf []
def wtail (w : Wr) : ByteArray × Int := if wright w ≠ 0 then (strOf [], wright w) else (wtailOf w, 0)
def noWr : Wr := (0, 0, 0, strOf [], strOf [], 0)
def wend (w : Wr) (k : Nat) : Wr × Nat × Int := if wright w ≠ 0 then (noWr, 0, wright w) else (w, k, 0)
/-- A write with what bytes begin with. -/
def wfill (w : Wr) (s : ByteArray) : Wr × Nat × Int :=
  if w.2.2.1 = 1 then
    if (unspan s).2.2 ≠ 0 then (noWr, 0, (unspan s).2.2) else wend (w.1, w.2.1, w.2.2.1, w.2.2.2.1, (unspan s).1, 0) (unspan s).2.1
  else if w.2.2.1 = 3 then
    if (vget s.data.toList).2.2 ≠ 0 then (noWr, 0, (vget s.data.toList).2.2) else wend (w.1, w.2.1, w.2.2.1, w.2.2.2.1, strOf [], zagN (vget s.data.toList).1) (vget s.data.toList).2.1
  else if w.2.2.1 = 4 then
    if (vint s.data.toList 1000).2.2 ≠ 0 then (noWr, 0, (vint s.data.toList 1000).2.2)
    else if (unspan (s.extract (vint s.data.toList 1000).2.1 s.size)).2.2 ≠ 0 then (noWr, 0, (unspan (s.extract (vint s.data.toList 1000).2.1 s.size)).2.2)
    else wend (w.1, w.2.1, w.2.2.1, w.2.2.2.1, (unspan (s.extract (vint s.data.toList 1000).2.1 s.size)).1, ((vint s.data.toList 1000).1 : Int)) ((vint s.data.toList 1000).2.1 + (unspan (s.extract (vint s.data.toList 1000).2.1 s.size)).2.1)
  else wend (w.1, w.2.1, w.2.2.1, w.2.2.2.1, strOf [], 0) 0
end Go.Proofs.YtnaclpfcldoebaaGreatDoor
end

section
namespace Go.Proofs.YtnaclpfcldoebaaGreatDoor
abbrev wid (w : Wr) : Id := (w.1, w.2.1)
/-- What is wrong from write i on, the id ahead being last. -/
def bgo (f h : List Ent) : List Wr → Id → Nat → Int × Int
  | [], _, _ => (0, -1)
  | w :: l, last, i => if wright w ≠ 0 then (wright w, i) else if 0 < i ∧ 0 ≤ idCmp last (wid w) then (10, i) else if idWithin (wid w) f h = false then (6, i) else bgo f h l (wid w) (i + 1)
def bright (f h : List Ent) (l : List Wr) : Int × Int :=
  if (vright f).1 ≠ 0 then ((vright f).1, -1) else if (vright h).1 ≠ 0 then ((vright h).1, -1) else if vcovers h f = false then (13, -1) else if 60 < l.length then (4, -1) else bgo f h l (0, 0) 0
/-- The id ahead of write k. -/
def lastId (l : List Wr) (k : Nat) : Id := if k = 0 then (0, 0) else wid (l.getD (k - 1) noWr)
theorem lastId_succ {l : List Wr} {k : Nat} {w : Wr} (h : l[k]? = some w) : lastId l (k + 1) = wid w := by
  unfold lastId; rw [if_neg (by omega)]; simp [List.getD, h]
/-- As it stands ahead of write k. -/
def BAt (f h : List Ent) (l : List Wr) (k : Nat) : Prop := bgo f h l (0, 0) 0 = bgo f h (l.drop k) (lastId l k) k
section
variable {f h : List Ent} {l : List Wr} {k : Nat} {w : Wr}
theorem BAt.zero : BAt f h l 0 := rfl
theorem BAt.bad (b : BAt f h l k) (hx : l[k]? = some w) (h1 : wright w ≠ 0) : bgo f h l (0, 0) 0 = (wright w, (k : Int)) := by
  unfold BAt at b; rw [b, drop_at hx]; simp only [bgo]; rw [if_pos h1]
theorem BAt.order (b : BAt f h l k) (hx : l[k]? = some w) (h1 : wright w = 0) (h2 : 0 < k) (h3 : 0 ≤ idCmp (lastId l k) (wid w)) : bgo f h l (0, 0) 0 = (10, (k : Int)) := by
  unfold BAt at b; rw [b, drop_at hx]; simp only [bgo]; rw [if_neg (by omega), if_pos ⟨h2, h3⟩]
theorem BAt.state (b : BAt f h l k) (hx : l[k]? = some w) (h1 : wright w = 0) (h2 : ¬ (0 < k ∧ 0 ≤ idCmp (lastId l k) (wid w))) (h3 : idWithin (wid w) f h = false) : bgo f h l (0, 0) 0 = (6, (k : Int)) := by
  unfold BAt at b; rw [b, drop_at hx]; simp only [bgo]; rw [if_neg (by omega), if_neg h2, if_pos h3]
theorem BAt.succ (b : BAt f h l k) (hx : l[k]? = some w) (h1 : wright w = 0) (h2 : ¬ (0 < k ∧ 0 ≤ idCmp (lastId l k) (wid w))) (h3 : idWithin (wid w) f h = true) : BAt f h l (k + 1) := by
  unfold BAt at *; rw [b, drop_at hx, lastId_succ hx]; simp only [bgo]; rw [if_neg (by omega), if_neg h2, if_neg (by simp [h3])]
theorem BAt.all (b : BAt f h l k) (hk : l.length ≤ k) : bgo f h l (0, 0) 0 = (0, -1) := by
  unfold BAt at b; rw [b, List.drop_eq_nil_of_le hk]; rfl
end
/-- A right batch. -/
theorem bgo_ok (f h : List Ent) (l : List Wr) : ∀ (last : Id) (i : Nat), (bgo f h l last i).1 = 0 → bgo f h l last i = (0, -1) ∧ ∀ w ∈ l, wright w = 0 ∧ idWithin (wid w) f h = true := by
  induction l with
  | nil => intro _ _ _; simp [bgo]
  | cons w l ih =>
    intro last i
    simp only [bgo]
    split
    · rename_i h1; intro h2; exact absurd h2 h1
    · rename_i h1
      split
      · intro h; simp at h
      · split
        · intro h; simp at h
        · rename_i h3
          intro h4
          obtain ⟨e, a⟩ := ih _ _ h4
          refine ⟨e, fun x hx => ?_⟩
          rcases List.mem_cons.1 hx with rfl | hx
          · exact ⟨by omega, by simpa using h3⟩
          · exact a x hx
theorem bright_ok {f h : List Ent} {l : List Wr} (e : (bright f h l).1 = 0) : bright f h l = (0, -1) ∧ (vright f).1 = 0 ∧ (vright h).1 = 0 ∧ l.length ≤ 60 ∧ ∀ w ∈ l, wright w = 0 ∧ idWithin (wid w) f h = true := by
  unfold bright at *
  split at e
  · rename_i h1; exact absurd e h1
  · rename_i h1
    split at e
    · rename_i h2; exact absurd e h2
    · rename_i h2
      split at e
      · simp at e
      · split at e
        · simp at e
        · rename_i h3 h4
          obtain ⟨a, b⟩ := bgo_ok f h l _ _ e
          rw [if_neg h1, if_neg h2, if_neg h3, if_neg h4]
          exact ⟨a, by omega, by omega, by omega, b⟩
end Go.Proofs.YtnaclpfcldoebaaGreatDoor
end

section
namespace Go.Proofs.YtnaclpfcldoebaaGreatDoor
set_option linter.unusedVariables false
/-- Byte k. -/
def byteOf (t : ByteArray) (k : Nat) : Nat := (t.data.toList.getD k 0).toNat
theorem byteOf_eq (t : ByteArray) (k : Nat) (h : k < t.size) : byteOf t k = (t[k]).toNat := by
  unfold byteOf
  have hl : k < t.data.toList.length := by simpa using h
  simp [List.getD, List.getElem?_eq_getElem hl]
  rfl
theorem byteOf_lt (t : ByteArray) (k : Nat) : byteOf t k < 256 := UInt8.toNat_lt _
abbrev BR := (List Ent × List Ent × List Wr) × Int × Int
abbrev noB : List Ent × List Ent × List Wr := ([], [], [])
/-- At the end. -/
def bend (s : ByteArray) (f h : List Ent) (T : List ByteArray) (at_ : List Int) (ws : List Wr) (p : Nat) : BR :=
  if p < s.size then (noB, 3, (p : Int))
  else if (klist T at_).2.1 ≠ 0 then (noB, (klist T at_).2.1, (s.size : Int))
  else if (bright f h ws).1 ≠ 0 then (noB, (bright f h ws).1, (s.size : Int))
  else ((f, h, ws), 0, -1)
/-- One write: what is wrong, where (or how far it goes), it, its key's number, its time. -/
abbrev WO := Int × Nat × Wr × Nat × Nat
def bad1 (e : Int) (p : Nat) : WO := (e, p, noWr, 0, 0)
abbrev raw (h : List Ent) (T : List ByteArray) (tm i x kd : Nat) : Wr := ((tm : Int), (h.getD i (0, 0)).1, (kd : Int), T.getD x (strOf []), strOf [], 0)
def wfin (s : ByteArray) (h : List Ent) (T : List ByteArray) (p tm i x kd : Nat) : WO :=
  if (wfill (raw h T tm i x kd) (s.extract p s.size)).2.2 ≠ 0 then bad1 (wfill (raw h T tm i x kd) (s.extract p s.size)).2.2 p
  else (0, p + (wfill (raw h T tm i x kd) (s.extract p s.size)).2.1, (wfill (raw h T tm i x kd) (s.extract p s.size)).1, x, tm)
def wkey (s : ByteArray) (h : List Ent) (T : List ByteArray) (p tm i kd : Nat) : WO :=
  if (vat s p ((T.length : Int) - 1)).2.2 ≠ 0 then bad1 (vat s p ((T.length : Int) - 1)).2.2 p
  else wfin s h T (p + (vat s p ((T.length : Int) - 1)).2.1) tm i (vat s p ((T.length : Int) - 1)).1 kd
def wrep (s : ByteArray) (h : List Ent) (T : List ByteArray) (p tm kd : Nat) : WO :=
  if (vat s p ((h.length : Int) - 1)).2.2 ≠ 0 then bad1 (vat s p ((h.length : Int) - 1)).2.2 p
  else wkey s h T (p + (vat s p ((h.length : Int) - 1)).2.1) tm (vat s p ((h.length : Int) - 1)).1 kd
def wtime (s : ByteArray) (h : List Ent) (T : List ByteArray) (p tm kd : Nat) : WO :=
  if (vat s p 1099511627776).2.2 ≠ 0 then bad1 (vat s p 1099511627776).2.2 p
  else if 1099511627776 < tm + (vat s p 1099511627776).1 then bad1 2 p
  else wrep s h T (p + (vat s p 1099511627776).2.1) (tm + (vat s p 1099511627776).1) kd
def wone (s : ByteArray) (h : List Ent) (T : List ByteArray) (p tm : Nat) : WO :=
  if s.size ≤ p then bad1 7 p
  else if byteOf s p < 1 ∨ 4 < byteOf s p then bad1 1 p
  else wtime s h T (p + 1) tm (byteOf s p)
def bws (s : ByteArray) (f h : List Ent) (T : List ByteArray) : Nat → Nat → Nat → List Int → List Wr → BR
  | 0, p, _, at_, ws => bend s f h T at_ ws p
  | c + 1, p, tm, at_, ws =>
    if (wone s h T p tm).1 ≠ 0 then (noB, (wone s h T p tm).1, ((wone s h T p tm).2.1 : Int))
    else bws s f h T c (wone s h T p tm).2.1 (wone s h T p tm).2.2.2.2 (at_ ++ [((wone s h T p tm).2.2.2.1 : Int)]) (ws ++ [(wone s h T p tm).2.2.1])
def bkeys (s : ByteArray) (f h : List Ent) : Nat → Nat → List ByteArray → BR
  | 0, p, T => if (vat s p 60).2.2 ≠ 0 then (noB, (vat s p 60).2.2, (p : Int)) else bws s f h T (vat s p 60).1 (p + (vat s p 60).2.1) 0 [] []
  | c + 1, p, T => if (unspan (s.extract p s.size)).2.2 ≠ 0 then (noB, (unspan (s.extract p s.size)).2.2, (p : Int)) else bkeys s f h c (p + (unspan (s.extract p s.size)).2.1) (T ++ [(unspan (s.extract p s.size)).1])
def btab (s : ByteArray) (f h : List Ent) (p : Nat) : BR := if (vat s p 60).2.2 ≠ 0 then (noB, (vat s p 60).2.2, (p : Int)) else bkeys s f h (vat s p 60).1 (p + (vat s p 60).2.1) []
def bhave (s : ByteArray) (f : List Ent) (p : Nat) : BR := if (vread (s.extract p s.size)).2.2 ≠ 0 then (noB, (vread (s.extract p s.size)).2.2, (p : Int)) else btab s f (vread (s.extract p s.size)).1 (p + (vread (s.extract p s.size)).2.1)
def bread (s : ByteArray) : BR :=
  if 20000 < s.size then (noB, 4, -1)
  else if (vread s).2.2 ≠ 0 then (noB, (vread s).2.2, 0)
  else bhave s (vread s).1 (vread s).2.1
section
variable {s : ByteArray} {f h : List Ent} {T : List ByteArray} {at_ : List Int} {ws : List Wr} {X : BR} {p tm n k i j x m kd c : Nat} {e : Int} {l : List Ent} {w : Wr} {b : ByteArray}
theorem bread_big (a : 20000 < s.size) : bread s = (noB, 4, -1) := by unfold bread; rw [if_pos a]
theorem bread_from (a : ¬ 20000 < s.size) (hv : vread s = (l, n, e)) (he : e ≠ 0) : bread s = (noB, e, 0) := by unfold bread; rw [if_neg a, hv, if_pos he]
theorem bread_go (a : ¬ 20000 < s.size) (hv : vread s = (l, n, 0)) : bread s = bhave s l n := by unfold bread; rw [if_neg a, hv, if_neg (by simp)]
theorem bhave_bad (hX : X = bhave s f p) (hv : vread (s.extract p s.size) = (l, n, e)) (he : e ≠ 0) : X = (noB, e, (p : Int)) := by rw [hX]; unfold bhave; rw [hv, if_pos he]
theorem bhave_go (hX : X = bhave s f p) (hv : vread (s.extract p s.size) = (l, n, 0)) : X = btab s f l (p + n) := by rw [hX]; unfold bhave; rw [hv, if_neg (by simp)]
theorem btab_bad (hX : X = btab s f h p) (hv : vat s p 60 = (n, k, e)) (he : e ≠ 0) : X = (noB, e, (p : Int)) := by rw [hX]; unfold btab; rw [hv, if_pos he]
theorem btab_go (hX : X = btab s f h p) (hv : vat s p 60 = (n, k, 0)) : X = bkeys s f h n (p + k) [] := by rw [hX]; unfold btab; rw [hv, if_neg (by simp)]
theorem bkeys_bad (hX : X = bkeys s f h (c + 1) p T) (hv : unspan (s.extract p s.size) = (b, n, e)) (he : e ≠ 0) : X = (noB, e, (p : Int)) := by rw [hX]; unfold bkeys; rw [hv, if_pos he]
theorem bkeys_go (hX : X = bkeys s f h (c + 1) p T) (hv : unspan (s.extract p s.size) = (b, n, 0)) : X = bkeys s f h c (p + n) (T ++ [b]) := by rw [hX]; rw [bkeys, hv, if_neg (by simp)]
theorem bkeys_num (hX : X = bkeys s f h 0 p T) (hv : vat s p 60 = (n, k, e)) (he : e ≠ 0) : X = (noB, e, (p : Int)) := by rw [hX]; unfold bkeys; rw [hv, if_pos he]
theorem bkeys_end (hX : X = bkeys s f h 0 p T) (hv : vat s p 60 = (n, k, 0)) : X = bws s f h T n (p + k) 0 [] [] := by rw [hX]; unfold bkeys; rw [hv, if_neg (by simp)]
theorem bws_one {o : WO} (hX : X = bws s f h T (c + 1) p tm at_ ws) (ho : o = wone s h T p tm) (he : o.1 ≠ 0) : X = (noB, o.1, (o.2.1 : Int)) := by rw [hX, ho]; rw [bws, if_pos (by rw [← ho]; exact he)]
theorem bws_bad (hX : X = bws s f h T (c + 1) p tm at_ ws) (ho : wone s h T p tm = bad1 e j) (he : e ≠ 0) : X = (noB, e, (j : Int)) := by rw [hX, bws, ho, if_pos (by exact he)]; rfl
theorem bws_go (hX : X = bws s f h T (c + 1) p tm at_ ws) (ho : wone s h T p tm = (0, n, w, x, m)) : X = bws s f h T c n m (at_ ++ [(x : Int)]) (ws ++ [w]) := by rw [hX, bws, ho, if_neg (by simp)]
theorem bws_end (hX : X = bws s f h T 0 p tm at_ ws) : X = bend s f h T at_ ws p := hX
theorem bend_more (hX : X = bend s f h T at_ ws p) (a : p < s.size) : X = (noB, 3, (p : Int)) := by rw [hX]; unfold bend; rw [if_pos a]
theorem bend_list (hX : X = bend s f h T at_ ws p) (a : ¬ p < s.size) (he : (klist T at_).2.1 ≠ 0) : X = (noB, (klist T at_).2.1, (s.size : Int)) := by rw [hX]; unfold bend; rw [if_neg a, if_pos he]
theorem bend_bad (hX : X = bend s f h T at_ ws p) (a : ¬ p < s.size) (he : (klist T at_).2.1 = 0) (h2 : (bright f h ws).1 ≠ 0) : X = (noB, (bright f h ws).1, (s.size : Int)) := by rw [hX]; unfold bend; rw [if_neg a, if_neg (by simp [he]), if_pos h2]
theorem bend_ok (hX : X = bend s f h T at_ ws p) (a : ¬ p < s.size) (he : (klist T at_).2.1 = 0) (h2 : (bright f h ws).1 = 0) : X = ((f, h, ws), 0, -1) := by rw [hX]; unfold bend; rw [if_neg a, if_neg (by simp [he]), if_neg (by simp [h2])]
theorem wone_end (a : s.size ≤ p) : wone s h T p tm = bad1 7 p := by unfold wone; rw [if_pos a]
theorem wone_kind (a : ¬ s.size ≤ p) (b : byteOf s p < 1 ∨ 4 < byteOf s p) : wone s h T p tm = bad1 1 p := by unfold wone; rw [if_neg a, if_pos b]
theorem wone_go (a : ¬ s.size ≤ p) (b : ¬ (byteOf s p < 1 ∨ 4 < byteOf s p)) : wone s h T p tm = wtime s h T (p + 1) tm (byteOf s p) := by unfold wone; rw [if_neg a, if_neg b]
theorem wtime_bad (hv : vat s p 1099511627776 = (n, k, e)) (he : e ≠ 0) : wtime s h T p tm kd = bad1 e p := by unfold wtime; rw [hv, if_pos he]
theorem wtime_over (hv : vat s p 1099511627776 = (n, k, 0)) (a : 1099511627776 < tm + n) : wtime s h T p tm kd = bad1 2 p := by unfold wtime; rw [hv, if_neg (by simp), if_pos a]
theorem wtime_go (hv : vat s p 1099511627776 = (n, k, 0)) (a : ¬ 1099511627776 < tm + n) : wtime s h T p tm kd = wrep s h T (p + k) (tm + n) kd := by unfold wtime; rw [hv, if_neg (by simp), if_neg a]
theorem wrep_bad (hv : vat s p ((h.length : Int) - 1) = (n, k, e)) (he : e ≠ 0) : wrep s h T p tm kd = bad1 e p := by unfold wrep; rw [hv, if_pos he]
theorem wrep_go (hv : vat s p ((h.length : Int) - 1) = (n, k, 0)) : wrep s h T p tm kd = wkey s h T (p + k) tm n kd := by unfold wrep; rw [hv, if_neg (by simp)]
theorem wkey_bad (hv : vat s p ((T.length : Int) - 1) = (n, k, e)) (he : e ≠ 0) : wkey s h T p tm i kd = bad1 e p := by unfold wkey; rw [hv, if_pos he]
theorem wkey_go (hv : vat s p ((T.length : Int) - 1) = (n, k, 0)) : wkey s h T p tm i kd = wfin s h T (p + k) tm i n kd := by unfold wkey; rw [hv, if_neg (by simp)]
theorem wfin_bad (hv : wfill (raw h T tm i x kd) (s.extract p s.size) = (w, n, e)) (he : e ≠ 0) : wfin s h T p tm i x kd = bad1 e p := by unfold wfin; rw [hv, if_pos he]
theorem wfin_go (hv : wfill (raw h T tm i x kd) (s.extract p s.size) = (w, n, 0)) : wfin s h T p tm i x kd = (0, p + n, w, x, tm) := by unfold wfin; rw [hv, if_neg (by simp)]
end
/-- How far a vector goes. -/
theorem vtimes_far {s : ByteArray} : ∀ (c : Nat) (r : Int) (p : Nat) (acc : List Ent), p ≤ s.size → (vtimes s c r p acc).2.1 ≤ s.size := by
  intro c
  induction c with
  | zero => intro r p acc h; exact h
  | succ c ih =>
    intro r p acc h
    simp only [vtimes]
    obtain ⟨n, k, e, ha, hx⟩ := vat_of s p 1099511627776
    rw [ha]
    split
    · exact Nat.zero_le _
    · rename_i he
      rcases hx with ⟨_, _, _, _, h4⟩ | ⟨h1, _⟩
      · exact ih _ _ _ h4
      · exact absurd h1 he
theorem vruns_far {s : ByteArray} : ∀ (c : Nat) (b : Bool) (r : Int) (p : Nat) (acc : List Ent), p ≤ s.size → (vruns s c b r p acc).2.1 ≤ s.size := by
  intro c
  induction c with
  | zero => intro b r p acc h; exact h
  | succ c ih =>
    intro b r p acc h
    simp only [vruns]
    obtain ⟨n, k, e, ha, hx⟩ := vat_of s p 200
    rw [ha]
    split
    · exact Nat.zero_le _
    · rename_i he
      rcases hx with ⟨_, _, _, _, h4⟩ | ⟨h1, _⟩
      · simp only
        obtain ⟨n', k', e', ha', hx'⟩ := vat_of s (p + k) 16
        rw [ha']
        split
        · exact Nat.zero_le _
        · rename_i he'
          rcases hx' with ⟨_, _, _, _, h4'⟩ | ⟨h1, _⟩
          · generalize (r + (n : Int) + (if b = true then (0 : Int) else 1)) = Z
            split
            · exact Nat.zero_le _
            · exact ih _ _ _ _ (vtimes_far _ _ _ _ h4')
          · exact absurd h1 he'
      · exact absurd h1 he
theorem vread_far (s : ByteArray) : (vread s).2.1 ≤ s.size := by
  unfold vread
  split
  · exact Nat.zero_le _
  · split
    · exact Nat.zero_le _
    · unfold vrall
      obtain ⟨n, k, e, ha, hx⟩ := vat_of s 0 16
      rw [ha]
      split
      · exact Nat.zero_le _
      · rename_i he
        rcases hx with ⟨_, _, _, _, h4⟩ | ⟨h1, _⟩
        · exact vruns_far _ _ _ _ _ (by simpa using h4)
        · exact absurd h1 he
theorem vread_right {s : ByteArray} : (vright (vread s).1).1 = 0 := by
  unfold vread
  split
  · rfl
  · split
    · rfl
    · rename_i h; simpa using h
theorem wend_far {w : Wr} {k m : Nat} (h : k ≤ m) : (wend w k).2.1 ≤ m := by
  unfold wend
  split
  · exact Nat.zero_le _
  · exact h
theorem wfill_far (x : Wr) (s : ByteArray) : (wfill x s).2.1 ≤ s.size := by
  have hu : ∀ t : ByteArray, (unspan t).2.1 ≤ t.size := fun t => by
    rcases unspan_says t with h | ⟨e, h, _⟩
    · exact h.2.2.1
    · rw [h]; exact Nat.zero_le _
  have hv : (vget s.data.toList).2.1 ≤ s.size := by
    have hl : s.data.toList.length = s.size := by simp
    rcases vget_says s.data.toList with h | h | h | h
    · omega
    all_goals rw [h]; exact Nat.zero_le _
  have hi : (vint s.data.toList 1000).2.1 ≤ s.size := by
    have ha : vat s 0 1000 = vint s.data.toList 1000 := by unfold vat; rw [show s.extract 0 s.size = s from ByteArray.extract_zero_size]
    obtain ⟨n, k, e, h, hx⟩ := vat_of s 0 1000
    rw [← ha, h]
    rcases hx with ⟨_, _, _, _, h4⟩ | ⟨_, _, h4⟩
    · simpa using h4
    · rw [h4]; exact Nat.zero_le _
  unfold wfill
  split
  · split
    · exact Nat.zero_le _
    · exact wend_far (hu s)
  · split
    · split
      · exact Nat.zero_le _
      · exact wend_far hv
    · split
      · split
        · exact Nat.zero_le _
        · split
          · exact Nat.zero_le _
          · refine wend_far ?_
            have := hu (s.extract (vint s.data.toList 1000).2.1 s.size)
            rw [ByteArray.size_extract] at this
            omega
      · exact wend_far (Nat.zero_le _)
end Go.Proofs.YtnaclpfcldoebaaGreatDoor
end
