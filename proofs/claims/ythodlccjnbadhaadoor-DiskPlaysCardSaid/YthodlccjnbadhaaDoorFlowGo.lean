/- A region that draws its order, its calls may throw: by an invariant, each operation looked at once; what has come up is closed under what it waits for. Any program. -/
import Derived.Test.YthodlccjnbadhaaDoorFlowThrow
namespace Go.Proofs.YthodlccjnbadhaaDoor.Flow
open Go
section
variable {P : Program} {ops : Array Oper} {Q : Exit → Act → World → Prop} {Z : List PanicEntry → World → Prop}
/-- Each operation waits for earlier ones alone. -/
def lexG (ops : Array Oper) : Bool := (List.range ops.size).all fun i => match ops[i]? with
  | some o => o.guard.isNone && o.after.toList.all fun e => !Region.binds .any e || decide (e.on < i)
  | none => true
theorem lexG_of (h : lexG ops = true) {i : Nat} {o : Oper} (ho : ops[i]? = some o) : o.guard = none ∧ ∀ e ∈ o.after, Region.binds .any e = true → e.on < i := by
  have hi := (Array.getElem?_eq_some_iff.1 ho).1
  have := List.all_eq_true.1 h i (List.mem_range.2 hi)
  rw [ho] at this
  simp only [Bool.and_eq_true, Option.isNone_iff_eq_none] at this
  refine ⟨this.1, fun e he hb => ?_⟩
  have h2 := List.all_eq_true.1 this.2 e (by simpa using he)
  rw [hb] at h2
  simpa using h2
theorem allG_of_ready (hlex : lexG ops = true) {L : Array Bool} (hs : L.size = ops.size) (h : Region.ready .any ops L = []) (i : Nat) : i < ops.size → L.getD i false = true := by
  induction i using Nat.strongRecOn with
  | ind i ih =>
    intro hi
    rcases hb : L.getD i false with _ | _
    · exfalso
      have hm : i ∈ Region.ready .any ops L := mem_ready.2 ⟨by rw [getD_in (by omega) true false]; exact hb, ops[i], Array.getElem?_eq_getElem hi, fun e he hbe => ih e.on ((lexG_of hlex (Array.getElem?_eq_getElem hi)).2 e he hbe) (by have := (lexG_of hlex (Array.getElem?_eq_getElem hi)).2 e he hbe; omega)⟩
      rw [h] at hm
      cases hm
    · rfl
/-- What has come up is closed under what it waits for. -/
def Closed (ops : Array Oper) (L : Nat → Bool) : Prop := ∀ i o, ops[i]? = some o → L i = true → ∀ e ∈ o.after, Region.binds .any e = true → L e.on = true
/-- Operation i waits for j, at last. -/
def reach (ops : Array Oper) : Nat → Nat → Nat → Bool
  | 0, i, j => i == j
  | f + 1, i, j => i == j || match ops[i]? with
    | some o => o.after.toList.any fun e => Region.binds .any e && reach ops f e.on j
    | none => false
theorem Closed.reach {L : Nat → Bool} (h : Closed ops L) : ∀ (f i j : Nat), reach ops f i j = true → L i = true → L j = true := by
  intro f
  induction f with
  | zero => intro i j hr hl; rw [beq_iff_eq.1 hr] at hl; exact hl
  | succ f ih =>
    intro i j hr hl
    unfold Flow.reach at hr
    rcases Bool.or_eq_true_iff.1 hr with hr | hr
    · rw [beq_iff_eq.1 hr] at hl; exact hl
    · cases ho : ops[i]? with
      | none => rw [ho] at hr; cases hr
      | some o =>
        rw [ho] at hr
        simp only [List.any_eq_true, Bool.and_eq_true] at hr
        obtain ⟨e, he, hb, hr⟩ := hr
        exact ih _ _ hr (h i o ho hl e (by simpa using he) hb)
def Step4 {G : Type} (P : Program) (ops : Array Oper) (a0 : Act) (v : G → Nat → Value) (C : G → (Nat → Bool) → World → Prop) (Z : List PanicEntry → World → Prop) (i : Nat) (o : Oper) : Prop :=
  ∀ (g : G) (L : Nat → Bool) (w : World) (K : Value → World → Prop) (ρ : Operand → Value),
    (∀ x, ρ (.const x) = x) → (∀ f, ρ (.func f) = .func (.func f) #[] #[]) → (∀ t j, who ops t = some j → L j = true → ρ (.tmp t) = v g j) → (∀ t, who ops t = none → ρ (.tmp t) = a0.eval (.tmp t)) →
    (∀ t j, who ops t = some j → L j = false → ρ (.tmp t) = a0.eval (.tmp t)) →
    (∀ i j, reach ops ops.size i j = true → L i = true → L j = true) →
    L i = false → (∀ e ∈ o.after, Region.binds .any e = true → L e.on = true) → C g L w →
    (∀ g' w', C g' (fun j => j == i || L j) w' → (∀ j, L j = true → v g' j = v g j) → K (v g' i) w') → YlP P Z K ((execOp ρ o).run P w)
theorem wp_region_go {G : Type} {id : Nat} {l : List Oper} {a0 : Act} {w0 : World} (hm : P.follows .mixedOrders = true) (hlex : lexG l.toArray = true) (hok : okB l.toArray = true) (n : Nat) (hn : a0.tmps.size = n) (hfit : fitB l.toArray n = true)
    (v : G → Nat → Value) (C : G → (Nat → Bool) → World → Prop) (Z : List PanicEntry → World → Prop) (g0 : G) (h0 : C g0 (fun _ => false) w0.drew)
    (hstep : Steps (Step4 P l.toArray a0 v C Z) 0 l) (hthrow : ∀ g L ch w, Z ch w → Q (.panic ch) (frame l.toArray a0 (v g) L) w)
    (hdone : ∀ g L w, (∀ i, i < l.length → L i = true) → C g L w → Q .normal (putAll (v g) 0 l a0) w) :
    (Code.region id l.toArray true).wp P Q a0 w0 := by
  refine wp_region_any hm ?_
  refine wpAny_inv (fun L a w => ∃ g, a = frame l.toArray a0 (v g) (fun i => L.getD i false) ∧ Closed l.toArray (fun i => L.getD i false) ∧ C g (fun i => L.getD i false) w) ?_ ?_ _ _ _ _ (by simp) ?_ ?_
  · rintro L a w i o hs ⟨g, rfl, hcl, hC⟩ ho hi hd
    have hst := hstep.at_ (i := i) (o := o) (by simpa using ho)
    rw [Nat.zero_add] at hst
    have hin : i < L.size := by rw [hs]; exact (Array.getElem?_eq_some_iff.1 ho).1
    have hi' : L.getD i false = false := by rw [getD_in hin false true]; exact hi
    have hfun : (fun j => (L.setIfInBounds i true).getD j false) = fun j => j == i || L.getD j false := by
      funext j
      by_cases hj : j = i
      · subst hj
        simp [Array.getD, hin]
      · have hb : (j == i) = false := by simpa using hj
        rw [hb, Bool.false_or]
        simp only [Array.getD_eq_getD_getElem?, Array.getElem?_setIfInBounds]
        rw [if_neg (fun e => hj e.symm)]
    unfold wpOp
    rw [ho]
    simp only
    rw [if_pos (by simp [Region.wanted, (lexG_of hlex ho).1])]
    refine .inl (YlP.upon (hst g _ w (fun u w' => ∃ g', u = v g' i ∧ C g' (fun j => j == i || L.getD j false) w' ∧ ∀ j, L.getD j false = true → v g' j = v g j) _ (fun _ => rfl) (fun _ => rfl) (fun t j h1 h2 => frame_dst h1 (by rw [hn]; exact fit_of hfit h1) h2) (fun t h1 => frame_old h1) (fun t j h1 h2 => frame_not h1 h2) (fun i j => hcl.reach _ i j) hi' hd hC (fun g' w' h1 h2 => ⟨g', rfl, h1, h2⟩)) ?_ (fun ch w' hz => hthrow g _ ch w' hz))
    rintro u w' ⟨g', rfl, hC', hv⟩
    refine ⟨g', ?_, ?_, ?_⟩
    · rw [hfun]; exact frame_put hok ho hv
    · rw [hfun]
      intro j oj hoj hlj e he hb
      simp only [Bool.or_eq_true, beq_iff_eq] at hlj ⊢
      rcases hlj with rfl | hlj
      · rw [ho] at hoj
        injection hoj with hoj
        subst hoj
        exact .inr (hd e he hb)
      · exact .inr (hcl j oj hoj hlj e he hb)
    · rw [hfun]; exact hC'
  · rintro L a w hs ⟨g, rfl, _, hC⟩ hr
    have hall := allG_of_ready hlex hs hr
    rw [frame_all hall, putAll_all hok]
    exact hdone g _ w (fun i hi => hall i (by simpa using hi)) hC
  · have hz : (fun i => (Array.replicate l.toArray.size false).getD i false) = fun _ => false := by
      funext i
      simp [Array.getD]
    refine ⟨g0, ?_, ?_, ?_⟩
    · rw [hz, frame_none]
    · rw [hz]; intro i o _ h; cases h
    · rw [hz]; exact h0
  · unfold left
    simp only [Array.toList_replicate]
    exact Nat.le_trans List.countP_le_length (by simp)
end
end Go.Proofs.YthodlccjnbadhaaDoor.Flow
