/- A batch in a frame, in plain Lean. No program in sight.

A batch in a frame of the versions ahead, in plain Lean. No program in sight.

A region that draws its order and one of whose calls may throw: by an invariant, each operation looked at once. Any program.

A region that draws its order, its calls may throw: by an invariant, each operation looked at once; what has come up is closed under what it waits for. Any program.

old.plain and the reference's say what pbytes says. Printed by gen_old.py.

The Go functions one, More, Sum of package crc and carry, More, Sum of the reference compute what the plain functions of CrcLaw say. No condition but that the numbers fit. -/
import Derived.Test.YtkejlnjnoiidnaaGreatDoorZ6
import Derived.Test.YtkejlnjnoiidnaaGreatDoorZ3
import Derived.Test.YtkejlnjnoiidnaaGreatDoorZ12
import Derived.Test.YtkejlnjnoiidnaaGreatDoorZ11
import Derived.Test.YtkejlnjnoiidnaaGreatDoorZ4
import Derived.Test.YtkejlnjnoiidnaaGreatDoorProg
import Derived.WalkKit
import Derived.WalkLawsBesides
import Derived.WalkSpells
import Derived.Outline
import Derived.Lib.Hide
import Derived.Laws.BitsAllLaws
section
namespace Go.Proofs.YtkejlnjnoiidnaaGreatDoor
open Tokens
theorem squeeze_right {s : ByteArray} (h : s.size ≤ 20000) : (squeezeOf s).2 = (0, -1) := by
  rw [squeeze_ok (by omega)]
  unfold twrite
  rw [if_neg (by rw [tokens_right h]; simp)]
/-- A body's text in a frame, ahead of its seal. -/
def frText (s : ByteArray) : ByteArray :=
  if (squeezeOf s).1.size < s.size then ((⟨#[80, 84, 3]⟩ ++ ⟨#[1]⟩) ++ ⟨(vput s.size).toArray⟩) ++ (squeezeOf s).1 else ((⟨#[80, 84, 3]⟩ ++ ⟨#[0]⟩) ++ ⟨(vput s.size).toArray⟩) ++ s
def frameOf (b : ByteArray × Int × Int) : ByteArray × Int × Int := if b.2.1 ≠ 0 then (⟨#[]⟩, b.2) else (sealOf (frText b.1), b.2)
theorem frame_bad {t : ByteArray} {e p : Int} (h : e ≠ 0) : frameOf (t, e, p) = (⟨#[]⟩, e, p) := by unfold frameOf; rw [if_pos h]
theorem frame_good {t : ByteArray} {p : Int} : frameOf (t, 0, p) = (sealOf (frText t), 0, p) := by unfold frameOf; rw [if_neg (by simp)]
theorem frText_less {s : ByteArray} (h : (squeezeOf s).1.size < s.size) : frText s = ((⟨#[80, 84, 3]⟩ ++ ⟨#[1]⟩) ++ ⟨(vput s.size).toArray⟩) ++ (squeezeOf s).1 := by unfold frText; rw [if_pos h]
theorem frText_more {s : ByteArray} (h : ¬ (squeezeOf s).1.size < s.size) : frText s = ((⟨#[80, 84, 3]⟩ ++ ⟨#[0]⟩) ++ ⟨(vput s.size).toArray⟩) ++ s := by unfold frText; rw [if_neg h]
theorem bwrite_size {f h : List Ent} {l : List Wr} {t : ByteArray} {e p : Int} (hb : bwrite f h l = (t, e, p)) : t.size ≤ 20000 ∧ (e = 0 → p = -1) := by
  unfold bwrite at hb
  split at hb
  · injection hb with h1 h2
    rename_i hne
    exact ⟨by rw [← h1]; exact Nat.zero_le _, fun h0 => absurd (by rw [h2]; exact h0) hne⟩
  · split at hb
    · injection hb with h1 h2
      injection h2 with h2 h3
      exact ⟨by rw [← h1]; exact Nat.zero_le _, fun h0 => by omega⟩
    · rename_i hn
      injection hb with h1 h2
      injection h2 with h2 h3
      exact ⟨by rw [← h1, strOf_size]; omega, fun _ => h3.symm⟩
theorem fr_size {n : Nat} (h : n ≤ 20000) : (⟨(vput n).toArray⟩ : ByteArray).size ≤ 10 := by
  show (vput n).toArray.size ≤ 10
  have := vput_len10 (n := n) (by omega)
  simpa using this
end Go.Proofs.YtkejlnjnoiidnaaGreatDoor
end

section
namespace Go.Proofs.YtkejlnjnoiidnaaGreatDoor
set_option linter.unusedVariables false
/-- An entry as version 1 has it; a vector; a write. -/
def pstep (x : Ent) : List UInt8 := vput x.1.toNat ++ vput x.2.toNat
def pbytes (l : List Ent) : List UInt8 := vput l.length ++ l.flatMap pstep
def wfirst (x : Wr) : List UInt8 := UInt8.ofNat x.2.2.1.toNat :: (vput x.1.toNat ++ vput x.2.1.toNat ++ (vput x.2.2.2.1.size ++ x.2.2.2.1.data.toList) ++ (wtailOf x).data.toList)
def fstart (f h : List Ent) (n : Nat) : List UInt8 := [80, 84, 1] ++ pbytes f ++ pbytes h ++ vput n
def fbytes (f h : List Ent) (l : List Wr) : List UInt8 := fstart f h l.length ++ l.flatMap wfirst
def firstOf (f h : List Ent) (l : List Wr) : ByteArray × Int × Int := if (bright f h l).1 ≠ 0 then (⟨#[]⟩, bright f h l) else (sealOf (strOf (fbytes f h l)), 0, -1)
def secondOf (b : ByteArray × Int × Int) : ByteArray × Int × Int := if b.2.1 ≠ 0 then (⟨#[]⟩, b.2) else (sealOf (⟨#[80, 84, 2]⟩ ++ b.1), b.2)
theorem second_bad {t : ByteArray} {e p : Int} (h : e ≠ 0) : secondOf (t, e, p) = (⟨#[]⟩, e, p) := by unfold secondOf; rw [if_pos h]
theorem second_good {t : ByteArray} {p : Int} : secondOf (t, 0, p) = (sealOf (⟨#[80, 84, 2]⟩ ++ t), 0, p) := by unfold secondOf; rw [if_neg (by simp)]
theorem first_bad {f h : List Ent} {l : List Wr} (e : (bright f h l).1 ≠ 0) : firstOf f h l = (⟨#[]⟩, bright f h l) := by unfold firstOf; rw [if_pos e]
theorem first_good {f h : List Ent} {l : List Wr} (e : (bright f h l).1 = 0) : firstOf f h l = (sealOf (strOf (fbytes f h l)), 0, -1) := by unfold firstOf; rw [if_neg (by omega)]
theorem pstep_len {x : Ent} (h : ¬ entBad x) : (pstep x).length ≤ 20 := by
  unfold entBad at h
  unfold pstep
  have h1 := vput_len10 (n := x.1.toNat) (by omega)
  have h2 := vput_len10 (n := x.2.toNat) (by omega)
  rw [List.length_append]; omega
theorem flat_le {α : Type} {f : α → List UInt8} {m : Nat} : ∀ (l : List α), (∀ x ∈ l, (f x).length ≤ m) → (l.flatMap f).length ≤ m * l.length := by
  intro l
  induction l with
  | nil => intro _; simp
  | cons x l ih =>
    intro h
    have h1 := ih fun y hy => h y (by simp [hy])
    have h2 := h x (by simp)
    simp only [List.flatMap_cons, List.length_append, List.length_cons]
    rw [Nat.mul_succ]; omega
theorem flat_take {α : Type} {f : α → List UInt8} {l : List α} {k : Nat} {x : α} (h : l[k]? = some x) : (l.take (k + 1)).flatMap f = (l.take k).flatMap f ++ f x := by
  obtain ⟨hk, e⟩ := List.getElem?_eq_some_iff.1 h
  rw [List.take_succ_eq_append_getElem hk, e]
  simp
theorem pbytes_len {l : List Ent} (h : (vright l).1 = 0) : (pbytes l).length ≤ 330 := by
  have h16 := vright_ok_len h
  have h1 := flat_le (f := pstep) (m := 20) l fun x hx => pstep_len ((vright_ok h).1 x hx)
  have h2 := vput_len10 (n := l.length) (by omega)
  unfold pbytes
  rw [List.length_append]; omega
theorem wfirst_len {x : Wr} (h : wright x = 0) : (wfirst x).length ≤ 400 := by
  have hid := wright_id h
  have ht := tail_len h
  have h1 := vput_len10 (n := x.1.toNat) (by omega)
  have h2 := vput_len10 (n := x.2.1.toNat) (by omega)
  have h3 := vput_len10 (n := x.2.2.2.1.size) (by omega)
  have e1 : x.2.2.2.1.data.toList.length = x.2.2.2.1.size := by simp
  have e2 : (wtailOf x).data.toList.length = (wtailOf x).size := by simp
  unfold wfirst
  simp only [List.length_cons, List.length_append]
  omega
/-- An entry's two numbers. -/
theorem ent_nat {x : Ent} (h : ¬ entBad x) : ∃ R T : Nat, x = ((R : Int), (T : Int)) ∧ R ≤ 200 ∧ T ≤ 1099511627776 := by
  unfold entBad at h
  obtain ⟨r, t⟩ := x
  simp only at h
  exact ⟨r.toNat, t.toNat, by rw [Int.toNat_of_nonneg (by omega), Int.toNat_of_nonneg (by omega)], by omega, by omega⟩
theorem pl_facts {l : List Ent} {k R T : Nat} (hr : (vright l).1 = 0) (hx : l[k]? = some ((R : Int), (T : Int))) (hk : k ≤ 16) :
    R ≤ 200 ∧ T ≤ 1099511627776 ∧ ¬ 9223372036854775807 < (strOf (vput R)).size + (strOf (vput T)).size ∧ ¬ 9223372036854775807 < (strOf (vput l.length ++ (l.take k).flatMap pstep)).size + ((strOf (vput R)).size + (strOf (vput T)).size) ∧
      strOf (vput l.length ++ (l.take k).flatMap pstep) ++ (strOf (vput R) ++ strOf (vput T)) = strOf (vput l.length ++ (l.take (k + 1)).flatMap pstep) := by
  have hb := (vright_ok hr).1 _ (List.mem_of_getElem? hx)
  unfold entBad at hb
  simp only at hb
  have h16 := vright_ok_len hr
  have h1 := flat_le (f := pstep) (m := 20) (l.take k) fun x hx => pstep_len ((vright_ok hr).1 x (List.mem_of_mem_take hx))
  have h2 := vput_len10 (n := l.length) (by omega)
  have h3 := vput_len10 (n := R) (by omega)
  have h4 := vput_len10 (n := T) (by omega)
  have h5 : (l.take k).length ≤ 16 := by rw [List.length_take]; omega
  refine ⟨by omega, by omega, by rw [strOf_size, strOf_size]; omega, by rw [strOf_size, strOf_size, strOf_size, List.length_append]; omega, ?_⟩
  rw [flat_take hx, strOf_app, strOf_app, List.append_assoc]
  rfl
theorem st_facts {f h : List Ent} {n : Nat} (hf : (vright f).1 = 0) (hh : (vright h).1 = 0) (hn : n ≤ 60) :
    ¬ 9223372036854775807 < 3 + (strOf (pbytes f)).size ∧ ¬ 9223372036854775807 < 3 + (strOf (pbytes f)).size + (strOf (pbytes h)).size ∧ ¬ 9223372036854775807 < 3 + (strOf (pbytes f)).size + (strOf (pbytes h)).size + (strOf (vput n)).size ∧
      (⟨#[80, 84, 1]⟩ : ByteArray) ++ strOf (pbytes f) ++ strOf (pbytes h) ++ strOf (vput n) = strOf (fstart f h n) ∧ (fstart f h n).length ≤ 700 := by
  have h1 := pbytes_len hf
  have h2 := pbytes_len hh
  have h3 := vput_len10 (n := n) (by omega)
  refine ⟨by rw [strOf_size]; omega, by rw [strOf_size, strOf_size]; omega, by rw [strOf_size, strOf_size, strOf_size]; omega, ?_, ?_⟩
  · rw [show (⟨#[80, 84, 1]⟩ : ByteArray) = strOf [80, 84, 1] from rfl, strOf_app, strOf_app, strOf_app]
    rfl
  · unfold fstart
    simp only [List.length_append, List.length_cons, List.length_nil]
    omega
/-- A write's six parts as version 1 has them, one behind the other. -/
theorem wf_facts {y2 y5 : Int} {y3 y4 : ByteArray} {Y0 Y1 : Nat} {F : List UInt8} {l : List Wr} {k : Nat} (hw : ∀ x ∈ l, wright x = 0) (hx : l[k]? = some ((Y0 : Int), (Y1 : Int), y2, y3, y4, y5)) (hF : F.length ≤ 700) (hk : k ≤ 60)
    {OUT S5 ST SR KEY TL : ByteArray} (hO : OUT = strOf (F ++ (l.take k).flatMap wfirst)) (h5 : S5 = strOf [UInt8.ofNat y2.toNat]) (hT : ST = strOf (vput Y0)) (hR : SR = strOf (vput Y1)) (hK : KEY = (spanOf y3).1) (hL : TL = (wtail ((Y0 : Int), (Y1 : Int), y2, y3, y4, y5)).1) :
    ¬ 9223372036854775807 < S5.size + ST.size ∧ ¬ 9223372036854775807 < S5.size + ST.size + SR.size ∧ ¬ 9223372036854775807 < S5.size + ST.size + SR.size + KEY.size ∧ ¬ 9223372036854775807 < S5.size + ST.size + SR.size + KEY.size + TL.size ∧
      ¬ 9223372036854775807 < OUT.size + (S5.size + ST.size + SR.size + KEY.size + TL.size) ∧ OUT ++ (S5 ++ ST ++ SR ++ KEY ++ TL) = strOf (F ++ (l.take (k + 1)).flatMap wfirst) := by
  have hwt := hw _ (List.mem_of_getElem? hx)
  have hid := wright_id hwt
  have ht := tail_len hwt
  simp only at hid
  have l1 := vput_len10 (n := Y0) (by omega)
  have l2 := vput_len10 (n := Y1) (by omega)
  have l3 := vput_len10 (n := y3.size) (by omega)
  have hl := flat_le (f := wfirst) (m := 400) (l.take k) fun x hx => wfirst_len (hw x (List.mem_of_mem_take hx))
  have h60 : (l.take k).length ≤ 60 := by rw [List.length_take]; omega
  have hw0 := wfirst_len hwt
  rw [wtail_good hwt] at hL
  rw [span_small (by omega), span_str] at hK
  simp only at hK hL
  have e0 : ∀ T : ByteArray, T = strOf T.data.toList := fun T => by apply ByteArray.ext; simp
  have e3 : y3.data.toList.length = y3.size := by simp
  have s1 : S5.size = 1 := by rw [h5, strOf_size]; rfl
  have s2 : ST.size = (vput Y0).length := by rw [hT]; exact strOf_size _
  have s3 : SR.size = (vput Y1).length := by rw [hR]; exact strOf_size _
  have s4 : KEY.size ≤ 50 := by rw [hK, strOf_size, List.length_append]; omega
  have s5 : TL.size ≤ 320 := by rw [hL]; exact ht
  have s6 : OUT.size ≤ 24700 := by rw [hO, strOf_size, List.length_append]; omega
  refine ⟨by omega, by omega, by omega, by omega, by omega, ?_⟩
  rw [hO, h5, hT, hR, hK, hL, flat_take hx, e0 (wtailOf _), strOf_app, strOf_app, strOf_app, strOf_app, strOf_app, List.append_assoc F]
  congr 3
theorem fb_size {f h : List Ent} {l : List Wr} (e : (bright f h l).1 = 0) : (strOf (fbytes f h l)).size ≤ 1000000 := by
  obtain ⟨_, hf, hh, h60, hw⟩ := bright_ok e
  have h1 := (st_facts hf hh h60).2.2.2.2
  have h2 := flat_le (f := wfirst) (m := 400) l fun x hx => wfirst_len (hw x hx).1
  unfold fbytes
  rw [strOf_size, List.length_append]; omega
theorem wr_nat {x : Wr} (h : wright x = 0) : ∃ (Y0 Y1 : Nat) (y2 : Int) (y3 y4 : ByteArray) (y5 : Int), x = ((Y0 : Int), (Y1 : Int), y2, y3, y4, y5) ∧ Y0 ≤ 1099511627776 ∧ Y1 ≤ 1099511627776 ∧ 0 ≤ y2 ∧ y2 < 256 ∧ IntKind.u8.wrap y2 = y2 ∧ y3.size ≤ maxLen := by
  have hid := wright_id h
  obtain ⟨y0, y1, y2, y3, y4, y5⟩ := x
  simp only at hid
  refine ⟨y0.toNat, y1.toNat, y2, y3, y4, y5, by rw [Int.toNat_of_nonneg (by omega), Int.toNat_of_nonneg (by omega)], by omega, by omega, by omega, by omega, ?_, by unfold maxLen; omega⟩
  simp [IntKind.wrap, IntKind.bits, IntKind.signed]
  omega
end Go.Proofs.YtkejlnjnoiidnaaGreatDoor
end

section
namespace Go.Proofs.YtkejlnjnoiidnaaGreatDoor.Flow
open Go
section
variable {P : Program} {ops : Array Oper} {Q : Exit → Act → World → Prop} {md : Region.Mode}
/-- What is asked of an operation's outcome, a call's panic let through. -/
def YlP (P : Program) (Z : List PanicEntry → World → Prop) (K : Value → World → Prop) : Result Next → Prop
  | .ok (.value v) w => K v w
  | .ok .skip w => K undef w
  | .ok (.enter f args) w => Calls P f args w fun e w' => (∃ v, e = .returned v ∧ K v w') ∨ ∃ ch, e = .panicked ch ∧ Z ch w'
  | .halt (.panic v) w => Z [{ v, recovered := false }] w
  | _ => False
variable {Z : List PanicEntry → World → Prop}
theorem ylP_value {K : Value → World → Prop} {v : Value} {w : World} : YlP P Z K (.ok (.value v) w) = K v w := rfl
theorem ylP_skip {K : Value → World → Prop} {w : World} : YlP P Z K (.ok .skip w) = K undef w := rfl
theorem ylP_enter {K : Value → World → Prop} {f : FuncId} {args : Array Value} {w : World} : YlP P Z K (.ok (.enter f args) w) = Calls P f args w fun e w' => (∃ v, e = .returned v ∧ K v w') ∨ ∃ ch, e = .panicked ch ∧ Z ch w' := rfl
theorem ylP_panic {K : Value → World → Prop} {v : Value} {w : World} : YlP P Z K (.halt (.panic v) w) = Z [{ v, recovered := false }] w := rfl
theorem YlP.upon {K : Value → World → Prop} {r : Result Next} (h : YlP P Z K r) {o : Oper} {a : Act} {K' : Act → World → Prop} (hK : ∀ v w, K v w → K' (a.put o.dst v) w) (hZ : ∀ ch w, Z ch w → Q (.panic ch) a w) : o.upon P a K' Q r := by
  cases r with
  | ok n w =>
    cases n with
    | value v => exact hK _ _ h
    | skip => exact hK _ _ h
    | enter f args =>
      refine Calls.mono h fun e w' he => ?_
      rcases he with ⟨v, rfl, h⟩ | ⟨ch, rfl, h⟩
      · exact hK _ _ h
      · exact hZ _ _ h
    | _ => exact absurd h (fun h => h)
  | halt x w =>
    cases x with
    | panic v => exact hZ _ _ h
    | _ => exact absurd h (fun h => h)
def Step3 {G : Type} (P : Program) (ops : Array Oper) (a0 : Act) (v : G → Nat → Value) (C : G → (Nat → Bool) → World → Prop) (Z : List PanicEntry → World → Prop) (i : Nat) (o : Oper) : Prop :=
  ∀ (g : G) (L : Nat → Bool) (w : World) (K : Value → World → Prop) (ρ : Operand → Value),
    (∀ x, ρ (.const x) = x) → (∀ f, ρ (.func f) = .func (.func f) #[] #[]) → (∀ t j, who ops t = some j → L j = true → ρ (.tmp t) = v g j) → (∀ t, who ops t = none → ρ (.tmp t) = a0.eval (.tmp t)) →
    L i = false → (∀ e ∈ o.after, Region.binds .any e = true → L e.on = true) → C g L w →
    (∀ g' w', C g' (fun j => j == i || L j) w' → (∀ j, L j = true → v g' j = v g j) → K (v g' i) w') → YlP P Z K ((execOp ρ o).run P w)
theorem wp_region_throw {G : Type} {id : Nat} {l : List Oper} {a0 : Act} {w0 : World} (hm : P.follows .mixedOrders = true) (hlex : lexB l.toArray = true) (hok : okB l.toArray = true) (n : Nat) (hn : a0.tmps.size = n) (hfit : fitB l.toArray n = true)
    (v : G → Nat → Value) (C : G → (Nat → Bool) → World → Prop) (Z : List PanicEntry → World → Prop) (g0 : G) (h0 : C g0 (fun _ => false) w0.drew)
    (hstep : Steps (Step3 P l.toArray a0 v C Z) 0 l) (hthrow : ∀ g L ch w, Z ch w → Q (.panic ch) (frame l.toArray a0 (v g) L) w)
    (hdone : ∀ g L w, (∀ i, i < l.length → L i = true) → C g L w → Q .normal (putAll (v g) 0 l a0) w) :
    (Code.region id l.toArray true).wp P Q a0 w0 := by
  refine wp_region_any hm ?_
  refine wpAny_inv (fun L a w => ∃ g, a = frame l.toArray a0 (v g) (fun i => L.getD i false) ∧ C g (fun i => L.getD i false) w) ?_ ?_ _ _ _ _ (by simp) ?_ ?_
  · rintro L a w i o hs ⟨g, rfl, hC⟩ ho hi hd
    have hst := hstep.at_ (i := i) (o := o) (by simpa using ho)
    rw [Nat.zero_add] at hst
    have hin : i < L.size := by rw [hs]; exact (Array.getElem?_eq_some_iff.1 ho).1
    have hi' : L.getD i false = false := by rw [getD_in hin false true]; exact hi
    have hfun : (fun j => (L.setIfInBounds i true).getD j false) = fun j => j == i || L.getD j false := by
      funext j
      by_cases hj : j = i
      · subst hj
        simp [Array.getD, hin]
      · have hb : (j == i) = false := by simpa using hj
        rw [hb, Bool.false_or]
        simp only [Array.getD_eq_getD_getElem?, Array.getElem?_setIfInBounds]
        rw [if_neg (fun e => hj e.symm)]
    unfold wpOp
    rw [ho]
    simp only
    rw [if_pos (by simp [Region.wanted, (lex_of hlex ho).1])]
    refine .inl (YlP.upon (hst g _ w (fun u w' => ∃ g', u = v g' i ∧ C g' (fun j => j == i || L.getD j false) w' ∧ ∀ j, L.getD j false = true → v g' j = v g j) _ (fun _ => rfl) (fun _ => rfl) (fun t j h1 h2 => frame_dst h1 (by rw [hn]; exact fit_of hfit h1) h2) (fun t h1 => frame_old h1) hi' hd hC (fun g' w' h1 h2 => ⟨g', rfl, h1, h2⟩)) ?_ (fun ch w' hz => hthrow g _ ch w' hz))
    rintro u w' ⟨g', rfl, hC', hv⟩
    refine ⟨g', ?_, ?_⟩
    · rw [hfun]; exact frame_put hok ho hv
    · rw [hfun]; exact hC'
  · rintro L a w hs ⟨g, rfl, hC⟩ hr
    have hall := all_of_ready hlex hs hr
    rw [frame_all hall, putAll_all hok]
    exact hdone g _ w (fun i hi => hall i (by simpa using hi)) hC
  · refine ⟨g0, ?_, ?_⟩
    · have : (fun i => (Array.replicate l.toArray.size false).getD i false) = fun _ => false := by
        funext i
        simp [Array.getD]
      rw [this, frame_none]
    · have : (fun i => (Array.replicate l.toArray.size false).getD i false) = fun _ => false := by
        funext i
        simp [Array.getD]
      rw [this]
      exact h0
  · unfold left
    simp only [Array.toList_replicate]
    exact Nat.le_trans List.countP_le_length (by simp)
end
end Go.Proofs.YtkejlnjnoiidnaaGreatDoor.Flow
end

section
namespace Go.Proofs.YtkejlnjnoiidnaaGreatDoor.Flow
open Go
section
variable {P : Program} {ops : Array Oper} {Q : Exit → Act → World → Prop} {Z : List PanicEntry → World → Prop}
/-- Each operation waits for earlier ones alone. -/
def lexG (ops : Array Oper) : Bool := (List.range ops.size).all fun i => match ops[i]? with
  | some o => o.guard.isNone && o.after.toList.all fun e => !Region.binds .any e || decide (e.on < i)
  | none => true
theorem lexG_of (h : lexG ops = true) {i : Nat} {o : Oper} (ho : ops[i]? = some o) : o.guard = none ∧ ∀ e ∈ o.after, Region.binds .any e = true → e.on < i := by
  have hi := (Array.getElem?_eq_some_iff.1 ho).1
  have := List.all_eq_true.1 h i (List.mem_range.2 hi)
  rw [ho] at this
  simp only [Bool.and_eq_true, Option.isNone_iff_eq_none] at this
  refine ⟨this.1, fun e he hb => ?_⟩
  have h2 := List.all_eq_true.1 this.2 e (by simpa using he)
  rw [hb] at h2
  simpa using h2
theorem allG_of_ready (hlex : lexG ops = true) {L : Array Bool} (hs : L.size = ops.size) (h : Region.ready .any ops L = []) (i : Nat) : i < ops.size → L.getD i false = true := by
  induction i using Nat.strongRecOn with
  | ind i ih =>
    intro hi
    rcases hb : L.getD i false with _ | _
    · exfalso
      have hm : i ∈ Region.ready .any ops L := mem_ready.2 ⟨by rw [getD_in (by omega) true false]; exact hb, ops[i], Array.getElem?_eq_getElem hi, fun e he hbe => ih e.on ((lexG_of hlex (Array.getElem?_eq_getElem hi)).2 e he hbe) (by have := (lexG_of hlex (Array.getElem?_eq_getElem hi)).2 e he hbe; omega)⟩
      rw [h] at hm
      cases hm
    · rfl
/-- What has come up is closed under what it waits for. -/
def Closed (ops : Array Oper) (L : Nat → Bool) : Prop := ∀ i o, ops[i]? = some o → L i = true → ∀ e ∈ o.after, Region.binds .any e = true → L e.on = true
/-- Operation i waits for j, at last. -/
def reach (ops : Array Oper) : Nat → Nat → Nat → Bool
  | 0, i, j => i == j
  | f + 1, i, j => i == j || match ops[i]? with
    | some o => o.after.toList.any fun e => Region.binds .any e && reach ops f e.on j
    | none => false
theorem Closed.reach {L : Nat → Bool} (h : Closed ops L) : ∀ (f i j : Nat), reach ops f i j = true → L i = true → L j = true := by
  intro f
  induction f with
  | zero => intro i j hr hl; rw [beq_iff_eq.1 hr] at hl; exact hl
  | succ f ih =>
    intro i j hr hl
    unfold Flow.reach at hr
    rcases Bool.or_eq_true_iff.1 hr with hr | hr
    · rw [beq_iff_eq.1 hr] at hl; exact hl
    · cases ho : ops[i]? with
      | none => rw [ho] at hr; cases hr
      | some o =>
        rw [ho] at hr
        simp only [List.any_eq_true, Bool.and_eq_true] at hr
        obtain ⟨e, he, hb, hr⟩ := hr
        exact ih _ _ hr (h i o ho hl e (by simpa using he) hb)
def Step4 {G : Type} (P : Program) (ops : Array Oper) (a0 : Act) (v : G → Nat → Value) (C : G → (Nat → Bool) → World → Prop) (Z : List PanicEntry → World → Prop) (i : Nat) (o : Oper) : Prop :=
  ∀ (g : G) (L : Nat → Bool) (w : World) (K : Value → World → Prop) (ρ : Operand → Value),
    (∀ x, ρ (.const x) = x) → (∀ f, ρ (.func f) = .func (.func f) #[] #[]) → (∀ t j, who ops t = some j → L j = true → ρ (.tmp t) = v g j) → (∀ t, who ops t = none → ρ (.tmp t) = a0.eval (.tmp t)) →
    (∀ t j, who ops t = some j → L j = false → ρ (.tmp t) = a0.eval (.tmp t)) →
    (∀ i j, reach ops ops.size i j = true → L i = true → L j = true) →
    L i = false → (∀ e ∈ o.after, Region.binds .any e = true → L e.on = true) → C g L w →
    (∀ g' w', C g' (fun j => j == i || L j) w' → (∀ j, L j = true → v g' j = v g j) → K (v g' i) w') → YlP P Z K ((execOp ρ o).run P w)
theorem wp_region_go {G : Type} {id : Nat} {l : List Oper} {a0 : Act} {w0 : World} (hm : P.follows .mixedOrders = true) (hlex : lexG l.toArray = true) (hok : okB l.toArray = true) (n : Nat) (hn : a0.tmps.size = n) (hfit : fitB l.toArray n = true)
    (v : G → Nat → Value) (C : G → (Nat → Bool) → World → Prop) (Z : List PanicEntry → World → Prop) (g0 : G) (h0 : C g0 (fun _ => false) w0.drew)
    (hstep : Steps (Step4 P l.toArray a0 v C Z) 0 l) (hthrow : ∀ g L ch w, Z ch w → Q (.panic ch) (frame l.toArray a0 (v g) L) w)
    (hdone : ∀ g L w, (∀ i, i < l.length → L i = true) → C g L w → Q .normal (putAll (v g) 0 l a0) w) :
    (Code.region id l.toArray true).wp P Q a0 w0 := by
  refine wp_region_any hm ?_
  refine wpAny_inv (fun L a w => ∃ g, a = frame l.toArray a0 (v g) (fun i => L.getD i false) ∧ Closed l.toArray (fun i => L.getD i false) ∧ C g (fun i => L.getD i false) w) ?_ ?_ _ _ _ _ (by simp) ?_ ?_
  · rintro L a w i o hs ⟨g, rfl, hcl, hC⟩ ho hi hd
    have hst := hstep.at_ (i := i) (o := o) (by simpa using ho)
    rw [Nat.zero_add] at hst
    have hin : i < L.size := by rw [hs]; exact (Array.getElem?_eq_some_iff.1 ho).1
    have hi' : L.getD i false = false := by rw [getD_in hin false true]; exact hi
    have hfun : (fun j => (L.setIfInBounds i true).getD j false) = fun j => j == i || L.getD j false := by
      funext j
      by_cases hj : j = i
      · subst hj
        simp [Array.getD, hin]
      · have hb : (j == i) = false := by simpa using hj
        rw [hb, Bool.false_or]
        simp only [Array.getD_eq_getD_getElem?, Array.getElem?_setIfInBounds]
        rw [if_neg (fun e => hj e.symm)]
    unfold wpOp
    rw [ho]
    simp only
    rw [if_pos (by simp [Region.wanted, (lexG_of hlex ho).1])]
    refine .inl (YlP.upon (hst g _ w (fun u w' => ∃ g', u = v g' i ∧ C g' (fun j => j == i || L.getD j false) w' ∧ ∀ j, L.getD j false = true → v g' j = v g j) _ (fun _ => rfl) (fun _ => rfl) (fun t j h1 h2 => frame_dst h1 (by rw [hn]; exact fit_of hfit h1) h2) (fun t h1 => frame_old h1) (fun t j h1 h2 => frame_not h1 h2) (fun i j => hcl.reach _ i j) hi' hd hC (fun g' w' h1 h2 => ⟨g', rfl, h1, h2⟩)) ?_ (fun ch w' hz => hthrow g _ ch w' hz))
    rintro u w' ⟨g', rfl, hC', hv⟩
    refine ⟨g', ?_, ?_, ?_⟩
    · rw [hfun]; exact frame_put hok ho hv
    · rw [hfun]
      intro j oj hoj hlj e he hb
      simp only [Bool.or_eq_true, beq_iff_eq] at hlj ⊢
      rcases hlj with rfl | hlj
      · rw [ho] at hoj
        injection hoj with hoj
        subst hoj
        exact .inr (hd e he hb)
      · exact .inr (hcl j oj hoj hlj e he hb)
    · rw [hfun]; exact hC'
  · rintro L a w hs ⟨g, rfl, _, hC⟩ hr
    have hall := allG_of_ready hlex hs hr
    rw [frame_all hall, putAll_all hok]
    exact hdone g _ w (fun i hi => hall i (by simpa using hi)) hC
  · have hz : (fun i => (Array.replicate l.toArray.size false).getD i false) = fun _ => false := by
      funext i
      simp [Array.getD]
    refine ⟨g0, ?_, ?_, ?_⟩
    · rw [hz, frame_none]
    · rw [hz]; intro i o _ h; cases h
    · rw [hz]; exact h0
  · unfold left
    simp only [Array.toList_replicate]
    exact Nat.le_trans List.countP_le_length (by simp)
end
end Go.Proofs.YtkejlnjnoiidnaaGreatDoor.Flow
end

section
namespace Go.Proofs.YtkejlnjnoiidnaaGreatDoor
set_option linter.unusedSimpArgs false
set_option linter.unusedVariables false
open Go.RowKit As
def opV (OUT SA SB : ByteArray) (R T xb : Nat) (g : Unit) : Nat → Value
  | 0 => .string OUT
  | 1 => .pointer (some ⟨xb, 0, none⟩)
  | 2 => .int .i64 (R : Int)
  | 3 => .int .u64 (R : Int)
  | 4 => .string SA
  | 5 => .pointer (some ⟨xb, 1, none⟩)
  | 6 => .int .i64 (T : Int)
  | 7 => .int .u64 (T : Int)
  | 8 => .string SB
  | 9 => .string (SA ++ SB)
  | 10 => .string (OUT ++ (SA ++ SB))
  | 11 => .string (OUT ++ (SA ++ SB))
  | _ => undef
set_option maxHeartbeats 4000000 in
set_option maxRecDepth 100000 in
theorem oplain_any (w : World) (n c : Nat) (A : Option Addr) (l : List Ent) (hl : Ents w w.heap.size A n l) (hr : (vright l).1 = 0) :
    Calls Tryz.prog 37 #[.slice A n c] w fun e w' => e = .returned (.string (strOf (pbytes l))) ∧ Below w.heap.size w w' := by
  have hlen := hl.len
  have h16 : n ≤ 16 := by rw [← hlen]; exact vright_ok_len hr
  have U0 := u64_in (G := n) (by omega)
  have HR := Lib.hid hr
  clear hr
  go_enter Tryz.func37, Tryz.ntmps37
  go_wp2_with fail
  refine (vput_any n _ (by omega)).mono ?_
  rintro y w1 ⟨rfl, hb1⟩
  rw [show (⟨(vput n).toArray⟩ : ByteArray) = strOf (vput n) from rfl]
  have hl1 := hl.grow hb1
  clear hl U0
  go_wp2
  go_loopw [3, 5, 12] (fun ov _ kv wr => ∃ k : Nat, k ≤ n ∧ kv = .int .i64 k ∧ ov = .string (strOf (vput n ++ (l.take k).flatMap pstep)) ∧ Below w1.heap.size w1 wr) (fun _ _ kv _ => n - (intOf kv).toNat)
  case atStart => exact ⟨0, Nat.zero_le _, rfl, by simp, Below.refl _ _⟩
  case round =>
    obtain ⟨k, hk, rfl, rfl, hbel⟩ := hrel
    have hB := hbel.size
    by_cases hlt : k < n
    · obtain ⟨b, o, r, t, rfl, hb, hx, hf, hc0, hc1⟩ := hl1.at_ hlt
      obtain ⟨R, T, e, _, _⟩ := ent_nat ((vright_ok HR.out).1 _ (List.mem_of_getElem? hx))
      injection e with e1 e2
      subst e1 e2
      obtain ⟨lR, lT, z1, z2, z3⟩ := pl_facts HR.out hx (by omega)
      rw [hlen] at z2 z3
      have c0 := (hbel.cell (p := ⟨b, o + k * 2, none⟩) hb).trans hc0
      have c1 := (hbel.cell (p := ⟨b, o + k * 2 + 1, none⟩) hb).trans hc1
      obtain ⟨k0, k1, _, _⟩ := Two.new wr (R : Int) (T : Int) 79
      have bA := below1 wr (.cells #[.int .i64 (R : Int), .int .i64 (T : Int)] 79)
      have UR := u64_in (G := R) (by omega)
      have UT := u64_in (G := T) (by omega)
      obtain ⟨OUT, hOUT⟩ : ∃ S, S = strOf (vput n ++ (l.take k).flatMap pstep) := ⟨_, rfl⟩
      obtain ⟨SA, hSA⟩ : ∃ S, S = strOf (vput R) := ⟨_, rfl⟩
      obtain ⟨SB, hSB⟩ : ∃ S, S = strOf (vput T) := ⟨_, rfl⟩
      rw [← hSA, ← hSB] at z1 z2 z3
      rw [← hOUT] at z2 z3 ⊢
      clear hx hf hc0 hc1 hOUT
      go_wp2_with fail
      refine Flow.wp_region_go (by kernel_rfl) (by kernel_rfl) (by kernel_rfl) 29 rfl (by kernel_rfl) (opV OUT SA SB R T wr.heap.size) (fun _ _ wz => Below (wr.alloc (.cells #[.int .i64 (R : Int), .int .i64 (T : Int)] 79)).heap.size (wr.alloc (.cells #[.int .i64 (R : Int), .int .i64 (T : Int)] 79)) wz) (fun _ _ => False) (()) ((Below.refl _ _).drew) ⟨?_, ?_, ?_, ?_, ?_, ?_, ?_, ?_, ?_, ?_, ?_, ?_, trivial⟩ ?_ ?_
      · intro g L wz K ρ hc0 hf0 hF hO hU hcl hi hd hC hK
        have e3 : ρ (.tmp 3) = .string OUT := hU 3 11 (by kernel_rfl) (by cases h : L 11 with | false => rfl | true => (have := hcl 11 0 (by kernel_rfl) h; rw [hi] at this; cases this))
        simp [go_sem, Flow.ylP_value, Flow.ylP_skip, Flow.ylP_enter, Flow.ylP_panic, hc0, hf0, e3]
        exact hK g wz hC (fun _ _ => rfl)
      · intro g L wz K ρ hc0 hf0 hF hO hU hcl hi hd hC hK
        have e5 : ρ (.tmp 5) = .pointer (some ⟨wr.heap.size, 0, none⟩) := hO 5 (by kernel_rfl)
        simp [go_sem, Flow.ylP_value, Flow.ylP_skip, Flow.ylP_enter, Flow.ylP_panic, hc0, hf0, e5]
        exact hK g wz hC (fun _ _ => rfl)
      · intro g L wz K ρ hc0 hf0 hF hO hU hcl hi hd hC hK
        have d1 : L 1 = true := hd ⟨1, .data⟩ (by simp) rfl
        have e17 : ρ (.tmp 17) = .pointer (some ⟨wr.heap.size, 0, none⟩) := hF 17 1 (by kernel_rfl) d1
        have cc := (hC.cell (cell_lt k0)).trans k0
        simp [go_sem, Flow.ylP_value, Flow.ylP_skip, Flow.ylP_enter, Flow.ylP_panic, hc0, hf0, e17, cc]
        exact hK g wz hC (fun _ _ => rfl)
      · intro g L wz K ρ hc0 hf0 hF hO hU hcl hi hd hC hK
        have d2 : L 2 = true := hd ⟨2, .data⟩ (by simp) rfl
        have e18 : ρ (.tmp 18) = .int .i64 (R : Int) := hF 18 2 (by kernel_rfl) d2
        simp [go_sem, Flow.ylP_value, Flow.ylP_skip, Flow.ylP_enter, Flow.ylP_panic, hc0, hf0, e18, UR]
        exact hK g wz hC (fun _ _ => rfl)
      · intro g L wz K ρ hc0 hf0 hF hO hU hcl hi hd hC hK
        have d3 : L 3 = true := hd ⟨3, .data⟩ (by simp) rfl
        have e19 : ρ (.tmp 19) = .int .u64 (R : Int) := hF 19 3 (by kernel_rfl) d3
        simp [go_sem, Flow.ylP_value, Flow.ylP_skip, Flow.ylP_enter, Flow.ylP_panic, hc0, hf0, e19]
        refine (vput_any R wz (by omega)).mono ?_
        rintro r wn ⟨rfl, hbn⟩
        rw [show (⟨(vput R).toArray⟩ : ByteArray) = strOf (vput R) from rfl, ← hSA]
        exact ⟨_, rfl, hK () wn (hC.trans (hbn.mono hC.size)) (by intro j hj; unfold opV; split <;> first | rfl | (rw [hi] at hj; cases hj) | (have hz := hcl _ 4 (by kernel_rfl) hj; rw [hi] at hz; cases hz))⟩
      · intro g L wz K ρ hc0 hf0 hF hO hU hcl hi hd hC hK
        have e5 : ρ (.tmp 5) = .pointer (some ⟨wr.heap.size, 0, none⟩) := hO 5 (by kernel_rfl)
        simp [go_sem, Flow.ylP_value, Flow.ylP_skip, Flow.ylP_enter, Flow.ylP_panic, hc0, hf0, e5]
        exact hK g wz hC (fun _ _ => rfl)
      · intro g L wz K ρ hc0 hf0 hF hO hU hcl hi hd hC hK
        have d5 : L 5 = true := hd ⟨5, .data⟩ (by simp) rfl
        have e21 : ρ (.tmp 21) = .pointer (some ⟨wr.heap.size, 1, none⟩) := hF 21 5 (by kernel_rfl) d5
        have cc := (hC.cell (cell_lt k1)).trans k1
        simp [go_sem, Flow.ylP_value, Flow.ylP_skip, Flow.ylP_enter, Flow.ylP_panic, hc0, hf0, e21, cc]
        exact hK g wz hC (fun _ _ => rfl)
      · intro g L wz K ρ hc0 hf0 hF hO hU hcl hi hd hC hK
        have d6 : L 6 = true := hd ⟨6, .data⟩ (by simp) rfl
        have e22 : ρ (.tmp 22) = .int .i64 (T : Int) := hF 22 6 (by kernel_rfl) d6
        simp [go_sem, Flow.ylP_value, Flow.ylP_skip, Flow.ylP_enter, Flow.ylP_panic, hc0, hf0, e22, UT]
        exact hK g wz hC (fun _ _ => rfl)
      · intro g L wz K ρ hc0 hf0 hF hO hU hcl hi hd hC hK
        have d7 : L 7 = true := hd ⟨7, .data⟩ (by simp) rfl
        have e23 : ρ (.tmp 23) = .int .u64 (T : Int) := hF 23 7 (by kernel_rfl) d7
        simp [go_sem, Flow.ylP_value, Flow.ylP_skip, Flow.ylP_enter, Flow.ylP_panic, hc0, hf0, e23]
        refine (vput_any T wz (by omega)).mono ?_
        rintro r wn ⟨rfl, hbn⟩
        rw [show (⟨(vput T).toArray⟩ : ByteArray) = strOf (vput T) from rfl, ← hSB]
        exact ⟨_, rfl, hK () wn (hC.trans (hbn.mono hC.size)) (by intro j hj; unfold opV; split <;> first | rfl | (rw [hi] at hj; cases hj) | (have hz := hcl _ 8 (by kernel_rfl) hj; rw [hi] at hz; cases hz))⟩
      · intro g L wz K ρ hc0 hf0 hF hO hU hcl hi hd hC hK
        have d4 : L 4 = true := hd ⟨4, .data⟩ (by simp) rfl
        have e20 : ρ (.tmp 20) = .string SA := hF 20 4 (by kernel_rfl) d4
        have d8 : L 8 = true := hd ⟨8, .data⟩ (by simp) rfl
        have e24 : ρ (.tmp 24) = .string SB := hF 24 8 (by kernel_rfl) d8
        simp [go_sem, Flow.ylP_value, Flow.ylP_skip, Flow.ylP_enter, Flow.ylP_panic, hc0, hf0, e20, e24, z1]
        exact hK g wz hC (fun _ _ => rfl)
      · intro g L wz K ρ hc0 hf0 hF hO hU hcl hi hd hC hK
        have d0 : L 0 = true := hd ⟨0, .data⟩ (by simp) rfl
        have e16 : ρ (.tmp 16) = .string OUT := hF 16 0 (by kernel_rfl) d0
        have d9 : L 9 = true := hd ⟨9, .data⟩ (by simp) rfl
        have e25 : ρ (.tmp 25) = .string (SA ++ SB) := hF 25 9 (by kernel_rfl) d9
        simp [go_sem, Flow.ylP_value, Flow.ylP_skip, Flow.ylP_enter, Flow.ylP_panic, hc0, hf0, e16, e25, z2]
        exact hK g wz hC (fun _ _ => rfl)
      · intro g L wz K ρ hc0 hf0 hF hO hU hcl hi hd hC hK
        have d10 : L 10 = true := hd ⟨10, .data⟩ (by simp) rfl
        have e26 : ρ (.tmp 26) = .string (OUT ++ (SA ++ SB)) := hF 26 10 (by kernel_rfl) d10
        simp [go_sem, Flow.ylP_value, Flow.ylP_skip, Flow.ylP_enter, Flow.ylP_panic, hc0, hf0, e26]
        exact hK g wz hC (fun _ _ => rfl)
      · intro g L ch wz h; exact h.elim
      · intro g L wz hL hC
        simp only [Flow.putAll, opV]
        go_wp2
        go_roundw
        case rel => exact ⟨k + 1, hlt, by go_num, by rw [hSA, hSB] at z3; exact congrArg Value.string z3, hbel.trans ((bA.trans (hC.mono bA.size)).mono hB)⟩
        case measure => exact meas_next hlt
    · obtain rfl : k = n := Nat.le_antisymm hk (Nat.not_lt.1 hlt)
      have hlk : l.take k = l := List.take_of_length_le (by rw [hlen]; exact Nat.le_refl _)
      rw [hlk]
      go_wp2
      go_ret
      exact ⟨by unfold pbytes; rw [hlen]; rfl, hb1.trans (hbel.mono hb1.size)⟩

set_option maxHeartbeats 4000000 in
set_option maxRecDepth 100000 in
theorem roplain_any (w : World) (n c : Nat) (A : Option Addr) (l : List Ent) (hl : Ents w w.heap.size A n l) (hr : (vright l).1 = 0) :
    Calls Tryz.prog 30 #[.slice A n c] w fun e w' => e = .returned (.string (strOf (pbytes l))) ∧ Below w.heap.size w w' := by
  have hlen := hl.len
  have h16 : n ≤ 16 := by rw [← hlen]; exact vright_ok_len hr
  have U0 := u64_in (G := n) (by omega)
  have HR := Lib.hid hr
  clear hr
  go_enter Tryz.func30, Tryz.ntmps30
  go_wp2_with fail
  refine (rvary_any n _ (by omega)).mono ?_
  rintro y w1 ⟨rfl, hb1⟩
  rw [show (⟨(vput n).toArray⟩ : ByteArray) = strOf (vput n) from rfl]
  have hl1 := hl.grow hb1
  clear hl U0
  go_wp2
  go_loopw [3, 5, 12] (fun ov _ kv wr => ∃ k : Nat, k ≤ n ∧ kv = .int .i64 k ∧ ov = .string (strOf (vput n ++ (l.take k).flatMap pstep)) ∧ Below w1.heap.size w1 wr) (fun _ _ kv _ => n - (intOf kv).toNat)
  case atStart => exact ⟨0, Nat.zero_le _, rfl, by simp, Below.refl _ _⟩
  case round =>
    obtain ⟨k, hk, rfl, rfl, hbel⟩ := hrel
    have hB := hbel.size
    by_cases hlt : k < n
    · obtain ⟨b, o, r, t, rfl, hb, hx, hf, hc0, hc1⟩ := hl1.at_ hlt
      obtain ⟨R, T, e, _, _⟩ := ent_nat ((vright_ok HR.out).1 _ (List.mem_of_getElem? hx))
      injection e with e1 e2
      subst e1 e2
      obtain ⟨lR, lT, z1, z2, z3⟩ := pl_facts HR.out hx (by omega)
      rw [hlen] at z2 z3
      have c0 := (hbel.cell (p := ⟨b, o + k * 2, none⟩) hb).trans hc0
      have c1 := (hbel.cell (p := ⟨b, o + k * 2 + 1, none⟩) hb).trans hc1
      obtain ⟨k0, k1, _, _⟩ := Two.new wr (R : Int) (T : Int) 79
      have bA := below1 wr (.cells #[.int .i64 (R : Int), .int .i64 (T : Int)] 79)
      have UR := u64_in (G := R) (by omega)
      have UT := u64_in (G := T) (by omega)
      obtain ⟨OUT, hOUT⟩ : ∃ S, S = strOf (vput n ++ (l.take k).flatMap pstep) := ⟨_, rfl⟩
      obtain ⟨SA, hSA⟩ : ∃ S, S = strOf (vput R) := ⟨_, rfl⟩
      obtain ⟨SB, hSB⟩ : ∃ S, S = strOf (vput T) := ⟨_, rfl⟩
      rw [← hSA, ← hSB] at z1 z2 z3
      rw [← hOUT] at z2 z3 ⊢
      clear hx hf hc0 hc1 hOUT
      go_wp2_with fail
      refine Flow.wp_region_go (by kernel_rfl) (by kernel_rfl) (by kernel_rfl) 29 rfl (by kernel_rfl) (opV OUT SA SB R T wr.heap.size) (fun _ _ wz => Below (wr.alloc (.cells #[.int .i64 (R : Int), .int .i64 (T : Int)] 79)).heap.size (wr.alloc (.cells #[.int .i64 (R : Int), .int .i64 (T : Int)] 79)) wz) (fun _ _ => False) (()) ((Below.refl _ _).drew) ⟨?_, ?_, ?_, ?_, ?_, ?_, ?_, ?_, ?_, ?_, ?_, ?_, trivial⟩ ?_ ?_
      · intro g L wz K ρ hc0 hf0 hF hO hU hcl hi hd hC hK
        have e3 : ρ (.tmp 3) = .string OUT := hU 3 11 (by kernel_rfl) (by cases h : L 11 with | false => rfl | true => (have := hcl 11 0 (by kernel_rfl) h; rw [hi] at this; cases this))
        simp [go_sem, Flow.ylP_value, Flow.ylP_skip, Flow.ylP_enter, Flow.ylP_panic, hc0, hf0, e3]
        exact hK g wz hC (fun _ _ => rfl)
      · intro g L wz K ρ hc0 hf0 hF hO hU hcl hi hd hC hK
        have e5 : ρ (.tmp 5) = .pointer (some ⟨wr.heap.size, 0, none⟩) := hO 5 (by kernel_rfl)
        simp [go_sem, Flow.ylP_value, Flow.ylP_skip, Flow.ylP_enter, Flow.ylP_panic, hc0, hf0, e5]
        exact hK g wz hC (fun _ _ => rfl)
      · intro g L wz K ρ hc0 hf0 hF hO hU hcl hi hd hC hK
        have d1 : L 1 = true := hd ⟨1, .data⟩ (by simp) rfl
        have e17 : ρ (.tmp 17) = .pointer (some ⟨wr.heap.size, 0, none⟩) := hF 17 1 (by kernel_rfl) d1
        have cc := (hC.cell (cell_lt k0)).trans k0
        simp [go_sem, Flow.ylP_value, Flow.ylP_skip, Flow.ylP_enter, Flow.ylP_panic, hc0, hf0, e17, cc]
        exact hK g wz hC (fun _ _ => rfl)
      · intro g L wz K ρ hc0 hf0 hF hO hU hcl hi hd hC hK
        have d2 : L 2 = true := hd ⟨2, .data⟩ (by simp) rfl
        have e18 : ρ (.tmp 18) = .int .i64 (R : Int) := hF 18 2 (by kernel_rfl) d2
        simp [go_sem, Flow.ylP_value, Flow.ylP_skip, Flow.ylP_enter, Flow.ylP_panic, hc0, hf0, e18, UR]
        exact hK g wz hC (fun _ _ => rfl)
      · intro g L wz K ρ hc0 hf0 hF hO hU hcl hi hd hC hK
        have d3 : L 3 = true := hd ⟨3, .data⟩ (by simp) rfl
        have e19 : ρ (.tmp 19) = .int .u64 (R : Int) := hF 19 3 (by kernel_rfl) d3
        simp [go_sem, Flow.ylP_value, Flow.ylP_skip, Flow.ylP_enter, Flow.ylP_panic, hc0, hf0, e19]
        refine (rvary_any R wz (by omega)).mono ?_
        rintro r wn ⟨rfl, hbn⟩
        rw [show (⟨(vput R).toArray⟩ : ByteArray) = strOf (vput R) from rfl, ← hSA]
        exact ⟨_, rfl, hK () wn (hC.trans (hbn.mono hC.size)) (by intro j hj; unfold opV; split <;> first | rfl | (rw [hi] at hj; cases hj) | (have hz := hcl _ 4 (by kernel_rfl) hj; rw [hi] at hz; cases hz))⟩
      · intro g L wz K ρ hc0 hf0 hF hO hU hcl hi hd hC hK
        have e5 : ρ (.tmp 5) = .pointer (some ⟨wr.heap.size, 0, none⟩) := hO 5 (by kernel_rfl)
        simp [go_sem, Flow.ylP_value, Flow.ylP_skip, Flow.ylP_enter, Flow.ylP_panic, hc0, hf0, e5]
        exact hK g wz hC (fun _ _ => rfl)
      · intro g L wz K ρ hc0 hf0 hF hO hU hcl hi hd hC hK
        have d5 : L 5 = true := hd ⟨5, .data⟩ (by simp) rfl
        have e21 : ρ (.tmp 21) = .pointer (some ⟨wr.heap.size, 1, none⟩) := hF 21 5 (by kernel_rfl) d5
        have cc := (hC.cell (cell_lt k1)).trans k1
        simp [go_sem, Flow.ylP_value, Flow.ylP_skip, Flow.ylP_enter, Flow.ylP_panic, hc0, hf0, e21, cc]
        exact hK g wz hC (fun _ _ => rfl)
      · intro g L wz K ρ hc0 hf0 hF hO hU hcl hi hd hC hK
        have d6 : L 6 = true := hd ⟨6, .data⟩ (by simp) rfl
        have e22 : ρ (.tmp 22) = .int .i64 (T : Int) := hF 22 6 (by kernel_rfl) d6
        simp [go_sem, Flow.ylP_value, Flow.ylP_skip, Flow.ylP_enter, Flow.ylP_panic, hc0, hf0, e22, UT]
        exact hK g wz hC (fun _ _ => rfl)
      · intro g L wz K ρ hc0 hf0 hF hO hU hcl hi hd hC hK
        have d7 : L 7 = true := hd ⟨7, .data⟩ (by simp) rfl
        have e23 : ρ (.tmp 23) = .int .u64 (T : Int) := hF 23 7 (by kernel_rfl) d7
        simp [go_sem, Flow.ylP_value, Flow.ylP_skip, Flow.ylP_enter, Flow.ylP_panic, hc0, hf0, e23]
        refine (rvary_any T wz (by omega)).mono ?_
        rintro r wn ⟨rfl, hbn⟩
        rw [show (⟨(vput T).toArray⟩ : ByteArray) = strOf (vput T) from rfl, ← hSB]
        exact ⟨_, rfl, hK () wn (hC.trans (hbn.mono hC.size)) (by intro j hj; unfold opV; split <;> first | rfl | (rw [hi] at hj; cases hj) | (have hz := hcl _ 8 (by kernel_rfl) hj; rw [hi] at hz; cases hz))⟩
      · intro g L wz K ρ hc0 hf0 hF hO hU hcl hi hd hC hK
        have d4 : L 4 = true := hd ⟨4, .data⟩ (by simp) rfl
        have e20 : ρ (.tmp 20) = .string SA := hF 20 4 (by kernel_rfl) d4
        have d8 : L 8 = true := hd ⟨8, .data⟩ (by simp) rfl
        have e24 : ρ (.tmp 24) = .string SB := hF 24 8 (by kernel_rfl) d8
        simp [go_sem, Flow.ylP_value, Flow.ylP_skip, Flow.ylP_enter, Flow.ylP_panic, hc0, hf0, e20, e24, z1]
        exact hK g wz hC (fun _ _ => rfl)
      · intro g L wz K ρ hc0 hf0 hF hO hU hcl hi hd hC hK
        have d0 : L 0 = true := hd ⟨0, .data⟩ (by simp) rfl
        have e16 : ρ (.tmp 16) = .string OUT := hF 16 0 (by kernel_rfl) d0
        have d9 : L 9 = true := hd ⟨9, .data⟩ (by simp) rfl
        have e25 : ρ (.tmp 25) = .string (SA ++ SB) := hF 25 9 (by kernel_rfl) d9
        simp [go_sem, Flow.ylP_value, Flow.ylP_skip, Flow.ylP_enter, Flow.ylP_panic, hc0, hf0, e16, e25, z2]
        exact hK g wz hC (fun _ _ => rfl)
      · intro g L wz K ρ hc0 hf0 hF hO hU hcl hi hd hC hK
        have d10 : L 10 = true := hd ⟨10, .data⟩ (by simp) rfl
        have e26 : ρ (.tmp 26) = .string (OUT ++ (SA ++ SB)) := hF 26 10 (by kernel_rfl) d10
        simp [go_sem, Flow.ylP_value, Flow.ylP_skip, Flow.ylP_enter, Flow.ylP_panic, hc0, hf0, e26]
        exact hK g wz hC (fun _ _ => rfl)
      · intro g L ch wz h; exact h.elim
      · intro g L wz hL hC
        simp only [Flow.putAll, opV]
        go_wp2
        go_roundw
        case rel => exact ⟨k + 1, hlt, by go_num, by rw [hSA, hSB] at z3; exact congrArg Value.string z3, hbel.trans ((bA.trans (hC.mono bA.size)).mono hB)⟩
        case measure => exact meas_next hlt
    · obtain rfl : k = n := Nat.le_antisymm hk (Nat.not_lt.1 hlt)
      have hlk : l.take k = l := List.take_of_length_le (by rw [hlen]; exact Nat.le_refl _)
      rw [hlk]
      go_wp2
      go_ret
      exact ⟨by unfold pbytes; rw [hlen]; rfl, hb1.trans (hbel.mono hb1.size)⟩
end Go.Proofs.YtkejlnjnoiidnaaGreatDoor
end

section
namespace Go.Proofs.YtkejlnjnoiidnaaGreatDoor.Crc
open Go.RowKit
theorem retI {k : IntKind} {a b : Int} (h : a = b) : Ending.returned (.int k a) = .returned (.int k b) := by rw [h]
theorem valI {k : IntKind} {a b : Int} (h : a = b) : Value.int k a = .int k b := by rw [h]

theorem and_one (m : Nat) (h : m < 4294967296) : bits BinOp.and IntKind.u32 (m : Int) 1 = ((m % 2 : Nat) : Int) := by
  have e := u32_and_nat m 1 h (by omega)
  rw [nat_mask1] at e
  exact e
theorem xor_poly (m : Nat) (h : m < 4294967296) : bits BinOp.xor IntKind.u32 ((m : Int) / 2) 2197175160 = ((m / 2 ^^^ poly : Nat) : Int) := by
  have e := u32_xor_nat (m / 2) poly (by omega) poly_lt
  have e1 : ((m / 2 : Nat) : Int) = (m : Int) / 2 := by omega
  rw [e1] at e
  exact e
theorem stp_odd (m : Nat) (h : m < 4294967296) (t : (bits BinOp.and IntKind.u32 (m : Int) 1 == 1) = true) :
    bits BinOp.xor IntKind.u32 ((m : Int) / 2) 2197175160 = (stp m : Int) := by
  rw [and_one m h] at t
  have t' : m % 2 = 1 := by
    have := beq_iff_eq.1 t
    omega
  rw [xor_poly m h]
  unfold stp
  rw [if_pos t']
theorem stp_even (m : Nat) (h : m < 4294967296) (t : (bits BinOp.and IntKind.u32 (m : Int) 1 == 1) = false) :
    (m : Int) / 2 = (stp m : Int) := by
  rw [and_one m h] at t
  have t' : m % 2 ≠ 1 := by
    have := beq_eq_false_iff_ne.1 t
    omega
  unfold stp
  rw [if_neg t']
  omega

theorem one_any (n : Nat) (w : World) (h : n < 4294967296) :
    Calls Tryz.prog 145 #[.int .u32 (n : Int)] w fun e w' => e = .returned (.int .u32 (one n : Int)) ∧ w = w' := by
  go_enter Tryz.func145, Tryz.ntmps145
  go_wp2
  go_loop [0, 3] (fun v i => ∃ k : Nat, k ≤ 8 ∧ i = .int .i64 k ∧ v = .int .u32 (iter k n : Int)) (fun _ i => 8 - (intOf i).toNat)
  case atStart => exact ⟨0, by omega, rfl, rfl⟩
  case round =>
    obtain ⟨k, hk, rfl, rfl⟩ := hrel
    have hb := iter_lt k h
    have hs := Lib.hid (iter_succ k n)
    go_wp2
    · go_round
      case rel => exact ⟨k + 1, by omega, by go_num, valI (by rw [hs.out]; exact stp_odd _ hb (by assumption))⟩
      case measure => simp [intOf]; omega
    · go_round
      case rel => exact ⟨k + 1, by omega, by go_num, valI (by rw [hs.out]; exact stp_even _ hb (by assumption))⟩
      case measure => simp [intOf]; omega
    · go_ret
      obtain rfl : k = 8 := by omega
      exact ⟨rfl, rfl⟩

/- Complements. -/
theorem not_u32 (m : Nat) (h : m < 4294967296) : bits BinOp.xor IntKind.u32 IntKind.u32.max (m : Int) = ((4294967295 - m : Nat) : Int) := by
  show IntKind.u32.wrap ((BitVec.ofInt 32 IntKind.u32.max ^^^ BitVec.ofInt 32 (m : Int)).toNat : Int) = _
  have h1 : BitVec.ofInt 32 IntKind.u32.max = BitVec.allOnes 32 := by decide
  rw [h1, BitVec.allOnes_xor, BitVec.toNat_not, ofInt_u32 m h, IntKind.wrap_u32']
  omega
theorem byte_at (s : ByteArray) (k : Nat) (h : k < s.size) : (s.data.toList.getD k 0) = s[k] := by
  have h' : k < s.data.toList.length := by simpa using h
  simp only [List.getD, List.getElem?_eq_getElem h', Option.getD_some]
  rfl
theorem byte_in (n : Nat) (b : UInt8) (h : n < 4294967296) :
    bits BinOp.xor IntKind.u32 (bits BinOp.and IntKind.u32 (n : Int) 255) ((b.toNat : Int) % 4294967296) = ((n % 256 ^^^ b.toNat : Nat) : Int) := by
  have hb := b.toNat_lt
  have e := u32_and_nat n 255 h (by omega)
  rw [nat_mask8] at e
  have e1 : (b.toNat : Int) % 4294967296 = (b.toNat : Int) := by omega
  rw [e1]
  have e2 : bits BinOp.and IntKind.u32 (n : Int) 255 = ((n % 256 : Nat) : Int) := e
  rw [e2]
  exact u32_xor_nat _ _ (by omega) (by omega)
theorem byte_in_lt (n : Nat) (b : UInt8) : n % 256 ^^^ b.toNat < 4294967296 := by
  have := Nat.xor_lt_two_pow (n := 8) (x := n % 256) (y := b.toNat) (by omega) b.toNat_lt
  omega
theorem byte_out (n : Nat) (b : UInt8) (h : n < 4294967296) :
    bits BinOp.xor IntKind.u32 (one (n % 256 ^^^ b.toNat) : Int) ((n : Int) / 256) = (byteStep n b.toNat : Int) := by
  have e1 : (n : Int) / 256 = ((n / 256 : Nat) : Int) := by omega
  rw [e1]
  exact u32_xor_nat _ _ (iter_lt 8 (byte_in_lt n b)) (by omega)
theorem take_snoc (s : ByteArray) (k : Nat) (h : k < s.size) : s.data.toList.take (k + 1) = s.data.toList.take k ++ [s[k]] := by
  rw [List.take_succ_eq_append_getElem (by simpa using h)]; rfl
theorem run_step (n : Nat) (s : ByteArray) (k : Nat) (h : k < s.size) : run n (s.data.toList.take (k + 1)) = byteStep (run n (s.data.toList.take k)) s[k].toNat := by
  rw [take_snoc s k h, run_snoc]

def more (n : Nat) (l : List UInt8) : Nat := 4294967295 - run (4294967295 - n) l

theorem more_any (n : Nat) (s : ByteArray) (w : World) (hn : n < 4294967296) (hs : s.size ≤ maxLen) :
    Calls Tryz.prog 126 #[.int .u32 (n : Int), .string s] w fun e w' => e = .returned (.int .u32 (more n s.data.toList : Int)) ∧ w = w' := by
  unfold maxLen at hs
  go_enter Tryz.func126, Tryz.ntmps126
  go_wp2
  go_loop [0, 5, 10] (fun v _ i => ∃ k : Nat, k ≤ s.size ∧ i = .int .i64 k ∧ v = .int .u32 (run (4294967295 - n) (s.data.toList.take k) : Int)) (fun _ _ i => s.size - (intOf i).toNat)
  case atStart => exact ⟨0, by omega, rfl, valI (not_u32 n hn)⟩
  case round =>
    obtain ⟨k, hk, rfl, rfl⟩ := hrel
    have hb := run_lt (n := 4294967295 - n) (by omega) (s.data.toList.take k)
    by_cases hlt : k < s.size
    · have hstep := Lib.hid (run_step (4294967295 - n) s k hlt)
      have hout := Lib.hid (byte_out (run (4294967295 - n) (s.data.toList.take k)) s[k] hb)
      have hin := Lib.hid (byte_in (run (4294967295 - n) (s.data.toList.take k)) s[k] hb)
      go_wp2_with fail
      rw [hin.out]
      refine (one_any _ _ (byte_in_lt _ _)).mono ?_
      rintro e w' ⟨rfl, rfl⟩
      go_wp2_with fail
      go_round
      case rel => exact ⟨k + 1, by omega, by go_num, valI (by rw [hstep.out]; exact hout.out)⟩
      case measure => simp [intOf]; omega
    · obtain rfl : k = s.size := by omega
      go_wp2_with fail
      go_ret
      have e : s.data.toList.take s.size = s.data.toList := List.take_of_length_le (by simp)
      rw [e] at hb ⊢
      exact ⟨retI (not_u32 _ hb), rfl⟩
theorem bit_at (n : Nat) (b : UInt8) (j : Nat) (h : n < 4294967296) :
    bits BinOp.xor IntKind.u32 (bits BinOp.and IntKind.u32 (n : Int) 1) (bits BinOp.and IntKind.u32 ((b.toNat : Int) / 2 ^ j % 4294967296) 1) = ((n % 2 ^^^ (b.toNat / 2 ^ j % 2) : Nat) : Int) := by
  have hb := b.toNat_lt
  have hd : b.toNat / 2 ^ j ≤ b.toNat := Nat.div_le_self _ _
  have e1 : (b.toNat : Int) / 2 ^ j % 4294967296 = ((b.toNat / 2 ^ j : Nat) : Int) := by
    have e0 : ((b.toNat / 2 ^ j : Nat) : Int) = (b.toNat : Int) / 2 ^ j := by simp
    rw [← e0]
    generalize b.toNat / 2 ^ j = q at hd ⊢
    omega
  rw [e1, and_one n h, and_one _ (by omega)]
  exact u32_xor_nat _ _ (by omega) (by omega)
theorem carry_yes (n : Nat) (s : ByteArray) (k : Nat) (h : n < 4294967296) (hlt : k < 8 * s.size) (h8 : k / 8 < s.size)
    (t : (bits BinOp.xor IntKind.u32 (bits BinOp.and IntKind.u32 (carried n s.data.toList k : Int) 1) (bits BinOp.and IntKind.u32 ((s[k / 8].toNat : Int) / 2 ^ (k % 8) % 4294967296) 1) == 1) = true) :
    bits BinOp.xor IntKind.u32 ((carried n s.data.toList k : Int) / 2) 2197175160 = (carried n s.data.toList (k + 1) : Int) := by
  have hc := carried_lt h s.data.toList k
  rw [bit_at _ _ _ hc] at t
  have t' := beq_iff_eq.1 t
  rw [xor_poly _ hc, carried_succ n _ k (by simpa using hlt), bitStep_ref _ _ (by omega), byte_at s _ h8, if_pos (by omega)]
theorem carry_no (n : Nat) (s : ByteArray) (k : Nat) (h : n < 4294967296) (hlt : k < 8 * s.size) (h8 : k / 8 < s.size)
    (t : (bits BinOp.xor IntKind.u32 (bits BinOp.and IntKind.u32 (carried n s.data.toList k : Int) 1) (bits BinOp.and IntKind.u32 ((s[k / 8].toNat : Int) / 2 ^ (k % 8) % 4294967296) 1) == 1) = false) :
    (carried n s.data.toList k : Int) / 2 = (carried n s.data.toList (k + 1) : Int) := by
  have hc := carried_lt h s.data.toList k
  rw [bit_at _ _ _ hc] at t
  have t' := beq_eq_false_iff_ne.1 t
  rw [carried_succ n _ k (by simpa using hlt), bitStep_ref _ _ (by omega), byte_at s _ h8, if_neg (by omega)]
  omega
theorem carry_any (n : Nat) (s : ByteArray) (w : World) (h : n < 4294967296) (hs : s.size ≤ 1000000) :
    Calls Tryz.prog 121 #[.int .u32 (n : Int), .string s] w fun e w' => e = .returned (.int .u32 (run n s.data.toList : Int)) ∧ w = w' := by
  go_enter Tryz.func121, Tryz.ntmps121
  go_wp2
  go_loop [0, 5] (fun v i => ∃ k : Nat, k ≤ 8 * s.size ∧ i = .int .i64 k ∧ v = .int .u32 (carried n s.data.toList k : Int)) (fun _ i => 8 * s.size - (intOf i).toNat)
  case atStart => exact ⟨0, by omega, rfl, valI (by rw [carried_zero])⟩
  case round =>
    obtain ⟨k, hk, rfl, rfl⟩ := hrel
    have hb := carried_lt h s.data.toList k
    by_cases hlt : k < 8 * s.size
    · have h8 : k / 8 < s.size := by omega
      go_wp2_with fail
      · go_round
        case rel => exact ⟨k + 1, by omega, by go_num, valI (carry_yes n s k h hlt h8 (by assumption))⟩
        case measure => simp [intOf]; omega
      · go_round
        case rel => exact ⟨k + 1, by omega, by go_num, valI (carry_no n s k h hlt h8 (by assumption))⟩
        case measure => simp [intOf]; omega
    · obtain rfl : k = 8 * s.size := by omega
      go_wp2_with fail
      go_ret
      have e : carried n s.data.toList (8 * s.size) = run n s.data.toList := by
        rw [← carried_end n s.data.toList]; simp
      exact ⟨retI (by rw [e]), rfl⟩
theorem rsum_any (s : ByteArray) (w : World) (hs : s.size ≤ 1000000) :
    Calls Tryz.prog 78 #[.string s] w fun e w' => e = .returned (.int .u32 (more 0 s.data.toList : Int)) ∧ w = w' := by
  go_enter Tryz.func78, Tryz.ntmps78
  go_wp2_with fail
  refine (carry_any 4294967295 s _ (by omega) hs).mono ?_
  rintro e w' ⟨rfl, rfl⟩
  go_wp2_with fail
  go_ret
  exact ⟨retI (not_u32 _ (run_lt (by omega) _)), rfl⟩
theorem sum_any (s : ByteArray) (w : World) (hs : s.size ≤ maxLen) :
    Calls Tryz.prog 85 #[.string s] w fun e w' => e = .returned (.int .u32 (more 0 s.data.toList : Int)) ∧ w = w' := by
  go_enter Tryz.func85, Tryz.ntmps85
  go_wp2_with fail
  refine (more_any 0 s _ (by omega) hs).mono ?_
  rintro e w' ⟨rfl, rfl⟩
  go_wp2_with fail
  go_ret
  exact ⟨rfl, rfl⟩

end Go.Proofs.YtkejlnjnoiidnaaGreatDoor.Crc
end
