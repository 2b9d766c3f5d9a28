/- A region that draws its order and one of whose calls may throw: by an invariant, each operation looked at once. Any program. -/
import Derived.Test.YthodlccjnbadhaaDoorFlow
namespace Go.Proofs.YthodlccjnbadhaaDoor.Flow
open Go
section
variable {P : Program} {ops : Array Oper} {Q : Exit → Act → World → Prop} {md : Region.Mode}
/-- What is asked of an operation's outcome, a call's panic let through. -/
def YlP (P : Program) (Z : List PanicEntry → World → Prop) (K : Value → World → Prop) : Result Next → Prop
  | .ok (.value v) w => K v w
  | .ok .skip w => K undef w
  | .ok (.enter f args) w => Calls P f args w fun e w' => (∃ v, e = .returned v ∧ K v w') ∨ ∃ ch, e = .panicked ch ∧ Z ch w'
  | .halt (.panic v) w => Z [{ v, recovered := false }] w
  | _ => False
variable {Z : List PanicEntry → World → Prop}
theorem ylP_value {K : Value → World → Prop} {v : Value} {w : World} : YlP P Z K (.ok (.value v) w) = K v w := rfl
theorem ylP_skip {K : Value → World → Prop} {w : World} : YlP P Z K (.ok .skip w) = K undef w := rfl
theorem ylP_enter {K : Value → World → Prop} {f : FuncId} {args : Array Value} {w : World} : YlP P Z K (.ok (.enter f args) w) = Calls P f args w fun e w' => (∃ v, e = .returned v ∧ K v w') ∨ ∃ ch, e = .panicked ch ∧ Z ch w' := rfl
theorem ylP_panic {K : Value → World → Prop} {v : Value} {w : World} : YlP P Z K (.halt (.panic v) w) = Z [{ v, recovered := false }] w := rfl
theorem YlP.upon {K : Value → World → Prop} {r : Result Next} (h : YlP P Z K r) {o : Oper} {a : Act} {K' : Act → World → Prop} (hK : ∀ v w, K v w → K' (a.put o.dst v) w) (hZ : ∀ ch w, Z ch w → Q (.panic ch) a w) : o.upon P a K' Q r := by
  cases r with
  | ok n w =>
    cases n with
    | value v => exact hK _ _ h
    | skip => exact hK _ _ h
    | enter f args =>
      refine Calls.mono h fun e w' he => ?_
      rcases he with ⟨v, rfl, h⟩ | ⟨ch, rfl, h⟩
      · exact hK _ _ h
      · exact hZ _ _ h
    | _ => exact absurd h (fun h => h)
  | halt x w =>
    cases x with
    | panic v => exact hZ _ _ h
    | _ => exact absurd h (fun h => h)
def Step3 {G : Type} (P : Program) (ops : Array Oper) (a0 : Act) (v : G → Nat → Value) (C : G → (Nat → Bool) → World → Prop) (Z : List PanicEntry → World → Prop) (i : Nat) (o : Oper) : Prop :=
  ∀ (g : G) (L : Nat → Bool) (w : World) (K : Value → World → Prop) (ρ : Operand → Value),
    (∀ x, ρ (.const x) = x) → (∀ f, ρ (.func f) = .func (.func f) #[] #[]) → (∀ t j, who ops t = some j → L j = true → ρ (.tmp t) = v g j) → (∀ t, who ops t = none → ρ (.tmp t) = a0.eval (.tmp t)) →
    L i = false → (∀ e ∈ o.after, Region.binds .any e = true → L e.on = true) → C g L w →
    (∀ g' w', C g' (fun j => j == i || L j) w' → (∀ j, L j = true → v g' j = v g j) → K (v g' i) w') → YlP P Z K ((execOp ρ o).run P w)
theorem wp_region_throw {G : Type} {id : Nat} {l : List Oper} {a0 : Act} {w0 : World} (hm : P.follows .mixedOrders = true) (hlex : lexB l.toArray = true) (hok : okB l.toArray = true) (n : Nat) (hn : a0.tmps.size = n) (hfit : fitB l.toArray n = true)
    (v : G → Nat → Value) (C : G → (Nat → Bool) → World → Prop) (Z : List PanicEntry → World → Prop) (g0 : G) (h0 : C g0 (fun _ => false) w0.drew)
    (hstep : Steps (Step3 P l.toArray a0 v C Z) 0 l) (hthrow : ∀ g L ch w, Z ch w → Q (.panic ch) (frame l.toArray a0 (v g) L) w)
    (hdone : ∀ g L w, (∀ i, i < l.length → L i = true) → C g L w → Q .normal (putAll (v g) 0 l a0) w) :
    (Code.region id l.toArray true).wp P Q a0 w0 := by
  refine wp_region_any hm ?_
  refine wpAny_inv (fun L a w => ∃ g, a = frame l.toArray a0 (v g) (fun i => L.getD i false) ∧ C g (fun i => L.getD i false) w) ?_ ?_ _ _ _ _ (by simp) ?_ ?_
  · rintro L a w i o hs ⟨g, rfl, hC⟩ ho hi hd
    have hst := hstep.at_ (i := i) (o := o) (by simpa using ho)
    rw [Nat.zero_add] at hst
    have hin : i < L.size := by rw [hs]; exact (Array.getElem?_eq_some_iff.1 ho).1
    have hi' : L.getD i false = false := by rw [getD_in hin false true]; exact hi
    have hfun : (fun j => (L.setIfInBounds i true).getD j false) = fun j => j == i || L.getD j false := by
      funext j
      by_cases hj : j = i
      · subst hj
        simp [Array.getD, hin]
      · have hb : (j == i) = false := by simpa using hj
        rw [hb, Bool.false_or]
        simp only [Array.getD_eq_getD_getElem?, Array.getElem?_setIfInBounds]
        rw [if_neg (fun e => hj e.symm)]
    unfold wpOp
    rw [ho]
    simp only
    rw [if_pos (by simp [Region.wanted, (lex_of hlex ho).1])]
    refine .inl (YlP.upon (hst g _ w (fun u w' => ∃ g', u = v g' i ∧ C g' (fun j => j == i || L.getD j false) w' ∧ ∀ j, L.getD j false = true → v g' j = v g j) _ (fun _ => rfl) (fun _ => rfl) (fun t j h1 h2 => frame_dst h1 (by rw [hn]; exact fit_of hfit h1) h2) (fun t h1 => frame_old h1) hi' hd hC (fun g' w' h1 h2 => ⟨g', rfl, h1, h2⟩)) ?_ (fun ch w' hz => hthrow g _ ch w' hz))
    rintro u w' ⟨g', rfl, hC', hv⟩
    refine ⟨g', ?_, ?_⟩
    · rw [hfun]; exact frame_put hok ho hv
    · rw [hfun]; exact hC'
  · rintro L a w hs ⟨g, rfl, hC⟩ hr
    have hall := all_of_ready hlex hs hr
    rw [frame_all hall, putAll_all hok]
    exact hdone g _ w (fun i hi => hall i (by simpa using hi)) hC
  · refine ⟨g0, ?_, ?_⟩
    · have : (fun i => (Array.replicate l.toArray.size false).getD i false) = fun _ => false := by
        funext i
        simp [Array.getD]
      rw [this, frame_none]
    · have : (fun i => (Array.replicate l.toArray.size false).getD i false) = fun _ => false := by
        funext i
        simp [Array.getD]
      rw [this]
      exact h0
  · unfold left
    simp only [Array.toList_replicate]
    exact Nat.le_trans List.countP_le_length (by simp)
end
end Go.Proofs.YthodlccjnbadhaaDoor.Flow
