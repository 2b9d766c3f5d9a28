/- Since of a log: what it answers. Printed by gen_logs.py out of logs.src. -/
import Derived.Test.YtlpkpfpmcppciaaGreatDoorZ14
import Derived.Test.YtlpkpfpmcppciaaGreatDoorZ7
import Derived.Test.YtlpkpfpmcppciaaGreatDoorZ6b
import Derived.Test.YtlpkpfpmcppciaaGreatDoorZ5
import Derived.Test.YtlpkpfpmcppciaaGreatDoorZ10
section
namespace Go.Proofs.YtlpkpfpmcppciaaGreatDoor
set_option linter.unusedSimpArgs false
set_option linter.unusedVariables false
open Go.RowKit As
set_option maxHeartbeats 1000000 in
set_option maxRecDepth 100000 in
/-- A vector that is an argument, copied. -/
theorem clonee_arg {w : World} {A : Option Addr} {n c : Nat} {l : List Ent} (h : Ents w w.heap.size A n l) (hn : n ≤ 1000000) :
  Calls Tryz.prog 63 #[.slice A n c] w fun e w' => ∃ v', e = .returned v' ∧ w'.ownsRow w.heap.size 73 2 v' l.length (entV l) ∧ Below w.heap.size w w' := by
 have hll := h.len
 have hb0 := below1 w (.cells #[] 73)
 have h1 := h.grow hb0
 obtain ⟨i0, hi, hz0, hz1, hz2⟩ := info_parts entInfo
 cases A with
 | none =>
  have hn0 : n = 0 := by
   rcases Nat.eq_zero_or_pos n with q | q
   ·exact q
   ·obtain ⟨_, _, e, _⟩ := h.1.2 q
    cases e
  have hL : l = [] := List.eq_nil_of_length_eq_zero (by omega)
  subst hL hn0
  clear h h1 hb0 hll
  have e0 : ∀ W : World, (binOp .eql 24 (.slice none 0 c) (.slice none 0 0)).run Tryz.prog W = .ok (.bool true) W := fun _ => by kernel_rfl
  go_enter Tryz.func63, Tryz.ntmps63
  go_wp2
  go_ret
  exact ⟨_, rfl, World.ownsRow_nil _ _ _ _, .refl _ _⟩
 | some a =>
  have hnews : ∀ j u, (entV l)[j]? = some u → (w.alloc (.cells #[] 73)).cell? (a.add j) = some u := by
   intro j u hj
   have hjl : j < l.length * 2 := by have := (List.getElem?_eq_some_iff.1 hj).1; rwa [flat_len entCells 2 (fun _ => rfl)] at this
   obtain ⟨b, o, e, _, hc⟩ := h1.1.2 (by omega)
   injection e with e
   subst e
   rw [Addr.add_lit]
   exact hc j u hj
  obtain ⟨v', w', h1', h2, h3, _⟩ := run_append_own (P := Tryz.prog) (w.alloc (.cells #[] 73)) w.heap.size 24 24 73 i0 (.agg #[.int .i64 0, .int .i64 0]) 2 16 Tryz.underlying24 hi hz0 hz1 hz2 rfl (by decide) _ 0 [] (new_empty w w.heap.size 73 2 (Nat.le_refl _)) a n c (entV l) (by rw [← hll]; exact flat_len entCells 2 (fun _ => rfl) l) hnews ent_one' (by unfold maxLen; omega) (by omega) hb0.size
  rw [Nat.zero_add, List.nil_append] at h2
  have hbf : Below w.heap.size w w' := grown_own hb0 h3 hb0.size (new_empty w w.heap.size 73 2 (Nat.le_refl _))
  have HH := Lib.hid (And.intro h2 hbf)
  have e0 : ∀ W : World, (binOp .eql 24 (.slice (some a) n c) (.slice none 0 0)).run Tryz.prog W = .ok (.bool false) W := fun _ => by kernel_rfl
  clear h h1 hb0 h2 h3 hbf hnews
  go_enter Tryz.func63, Tryz.ntmps63
  go_wp2_with (at_builtin; refine Lib.wpList_append_run _ rfl _ _ _ _ rfl _ _ rfl rfl _ _ h1' ?_)
  go_ret
  exact ⟨_, rfl, by rw [hll]; exact HH.out.1, HH.out.2⟩
/-- What Since answers: a batch x, and err. -/
structure SincP (w : World) (R : (List Ent × List Ent × List Wr) × Int) (err : Int → Value) (e : Ending) (w' : World) : Prop where
 ex : ∃ x : BatArg, e = .returned (.tuple #[x.v, err R.2]) ∧ Bat w' x ∧ x.f = R.1.1 ∧ x.h = R.1.2.1 ∧ x.l = R.1.2.2 ∧ Below w.heap.size w w'
def noBat : BatArg := ⟨none, 0, 0, none, 0, 0, none, 0, 0, [], [], []⟩
theorem noBat_is (w : World) : Bat w noBat := ⟨.nil, .nil, .nil, Nat.zero_le _, Nat.zero_le _, Nat.zero_le _⟩
/-- A batch whose parts the call owns. -/
theorem bat_own {w : World} {B B' B'' c c' c'' n n' n'' : Nat} {A A' A'' : Option Addr} {f h : List Ent} {l : List Wr} (o1 : w.ownsRow B 73 2 (.slice A n c) f.length (entV f)) (o2 : w.ownsRow B' 73 2 (.slice A' n' c') h.length (entV h)) (o3 : w.ownsRow B'' 32 6 (.slice A'' n'' c'') l.length (l.flatMap wrCells)) :
  Bat w ⟨A, n, c, A', n', c', A'', n'', c'', f, h, l⟩ := by
 obtain ⟨_, rfl⟩ := own_lel o1
 obtain ⟨_, rfl⟩ := own_lel o2
 obtain ⟨_, rfl⟩ := own_lel o3
 exact ⟨Sl.of_own o1, Sl.of_own o2, Sl.of_own o3, own_cap' o1, own_cap' o2, own_cap' o3⟩
/-- As it stands in Since's loop: the batch under way at gb. -/
structure SnR (w2 wr : World) (gb : Nat) (v1 v2 v3 : Value) (f H : List Ent) (D : List Wr) : Prop where
 rc : RC wr gb [v1, v2, v3]
 o1 : wr.ownsRow w2.heap.size 73 2 v1 f.length (entV f)
 o2 : wr.ownsRow w2.heap.size 73 2 v2 H.length (entV H)
 o3 : wr.ownsRow w2.heap.size 32 6 v3 D.length (D.flatMap wrCells)
 n1 : v1.ownBlock ≠ some gb
 n2 : v2.ownBlock ≠ some gb
 n3 : v3.ownBlock ≠ some gb
 ge : w2.heap.size ≤ gb
 bel : Below w2.heap.size w2 wr
section
variable {w2 wr wr' : World} {gb : Nat} {v1 v2 v3 : Value} {f H : List Ent} {D : List Wr}
theorem SnR.below (h : SnR w2 wr gb v1 v2 v3 f H D) (hb : Below wr.heap.size wr wr') : SnR w2 wr' gb v1 v2 v3 f H D :=
 ⟨h.rc.below hb, (Turned.of_below (S := fun _ => False) hb).own h.o1 (fun _ _ q => q), (Turned.of_below (S := fun _ => False) hb).own h.o2 (fun _ _ q => q), (Turned.of_below (S := fun _ => False) hb).own h.o3 (fun _ _ q => q), h.n1, h.n2, h.n3, h.ge, h.bel.trans (hb.mono h.bel.size)⟩
theorem SnR.lt (h : SnR w2 wr gb v1 v2 v3 f H D) : gb < wr.heap.size := cell_lt (h.rc 0 _ rfl).1
/-- Another Have is stored. -/
theorem SnR.setH (h : SnR w2 wr gb v1 v2 v3 f H D) {v : Value} {H' : List Ent} {B : Nat} (ho : wr.ownsRow B 73 2 v H'.length (entV H')) (hB : w2.heap.size ≤ B) (hn : v.ownBlock ≠ some gb) : SnR w2 (wr.setCell ⟨gb, 1, none⟩ v) gb v1 v v3 f H' D := by
 have hT : Turned (fun i => i = gb) wr (wr.setCell ⟨gb, 1, none⟩ v) := .set _ _ _ rfl
 exact ⟨h.rc.set 1 v (by simp), hT.own h.o1 (fun j hj e => by rw [show j = gb from e] at hj; exact h.n1 hj), own_less (hT.own ho (fun j hj e => by rw [show j = gb from e] at hj; exact hn hj)) hB, hT.own h.o3 (fun j hj e => by rw [show j = gb from e] at hj; exact h.n3 hj), h.n1, hn, h.n3, h.ge, h.bel.setCell h.ge _⟩
/-- One more write is appended. -/
theorem SnR.app (h : SnR w2 wr gb v1 v2 v3 f H D) {v : Value} {D' : List Wr} (ho : wr'.ownsRow w2.heap.size 32 6 v D'.length (D'.flatMap wrCells)) (hg : wr.grownBy wr' v3.ownBlock) (hw : ∀ j, v.ownBlock = some j → v3.ownBlock = some j ∨ wr.heap.size ≤ j) : SnR w2 (wr'.setCell ⟨gb, 2, none⟩ v) gb v1 v2 v f H D' := by
 have ht : Turned (fun j => v3.ownBlock = some j) wr wr' := ⟨hg.os, hg.tape, hg.output, hg.size, fun i hi hn => hg.block i hi (fun e => hn e.symm)⟩
 have hT : Turned (fun i => i = gb) wr' (wr'.setCell ⟨gb, 2, none⟩ v) := .set _ _ _ rfl
 have hn : v.ownBlock ≠ some gb := fun e => by
  rcases hw _ e with q | q
  ·exact h.n3 q
  ·have := h.lt; omega
 have q1 : ∀ j, v1.ownBlock = some j → ¬ v3.ownBlock = some j := fun j hj e => by
  rcases own_ne h.o1 h.o3 (by decide) with q | q
  ·rw [q] at hj; cases hj
  ·exact q (hj.trans e.symm)
 have q2 : ∀ j, v2.ownBlock = some j → ¬ v3.ownBlock = some j := fun j hj e => by
  rcases own_ne h.o2 h.o3 (by decide) with q | q
  ·rw [q] at hj; cases hj
  ·exact q (hj.trans e.symm)
 have hb : Below w2.heap.size w2 wr' := h.bel.trans (ht.below (fun i hi => (h.o3.lt i hi).1) h.bel.size)
 exact ⟨(h.rc.turned ht (fun e => h.n3 e)).set 2 v (by simp), hT.own (ht.own h.o1 q1) (fun j hj e => by rw [show j = gb from e] at hj; exact h.n1 hj), hT.own (ht.own h.o2 q2) (fun j hj e => by rw [show j = gb from e] at hj; exact h.n2 hj), hT.own ho (fun j hj e => by rw [show j = gb from e] at hj; exact hn hj), h.n1, h.n2, hn, h.ge, hb.setCell h.ge _⟩
end
theorem after_last {f : List Ent} {S : List Wr} {k : Nat} {x : Wr} (hx : S[k]? = some x) (hb : vof f x.2.1 < x.1) (hl : (after f (S.take k)).length = 60) : 60 < (after f S).length ∧ (after f S).take 60 = after f (S.take k) := by
 have h1 := after_prefix f S k
 have h2 := after_prefix f S (k + 1)
 rw [after_take hx, if_pos hb] at h2
 have h3 := congrArg List.length h2
 rw [hl] at h1
 rw [List.length_append, List.length_take, hl] at h3
 simp at h3
 exact ⟨by omega, h1.symm⟩
def ls6V (p ch n c_ : Nat) (AH A : Option Addr) (f V : List Ent) (gz : (Option Addr × Nat) × (Option Addr × Nat) × Nat) : Nat → Value
 | 0 => .slice A n c_
 | 1 => .slice gz.1.1 f.length gz.1.2
 | 2 => .pointer (some ⟨p, 0, none⟩)
 | 3 => .pointer (some ⟨p, 0, none⟩)
 | 4 => .pointer (some ⟨p, 1, none⟩)
 | 5 => .slice AH V.length ch
 | 6 => .slice gz.2.1.1 V.length gz.2.1.2
 | 7 => .agg #[.slice gz.1.1 f.length gz.1.2, .slice gz.2.1.1 V.length gz.2.1.2, .slice none 0 0]
 | 8 => .pointer (some ⟨gz.2.2, 0, none⟩)
 | _ => undef
def ls10V (gw n c_ : Nat) (A : Option Addr) (f : List Ent) (x1 x2 : Int) (bv : Bool) (g : Unit) : Nat → Value
 | 0 => .pointer (some ⟨gw, 0, none⟩)
 | 1 => .pointer (some ⟨gw, 0, none⟩)
 | 2 => .int .i64 x1
 | 3 => .slice A n c_
 | 4 => .pointer (some ⟨gw, 0, none⟩)
 | 5 => .pointer (some ⟨gw, 1, none⟩)
 | 6 => .int .i64 x2
 | 7 => .int .i64 (vof f x2)
 | 8 => .bool bv
 | _ => undef
set_option maxHeartbeats 8000000 in
set_option maxRecDepth 100000 in
theorem psince_any {w : World} {B : Nat} {c : LgC} {rep : Int} {V : List Ent} {S_ : List Wr} (h : LogAt w B c rep V S_) (hV : (vright V).1 = 0) (hwr : ∀ x ∈ S_, wright x = 0) (hcv : ∀ x ∈ S_, x.1 ≤ vof V x.2.1) (hS : S_.length ≤ 300) (A : Option Addr) (n c_ : Nat) (f : List Ent) (hf : Ents w w.heap.size A n f) (hn : n ≤ maxLen) (hg : Handle w) :
  Calls Tryz.prog 21 #[.pointer (some ⟨c.p, 0, none⟩), .slice A n c_] w (SincP w (lsince V S_ f) errV) := by
 obtain ⟨p, hv, lv⟩ := c
 obtain ⟨AH, ch, e1, hch⟩ := own_form' h.h
 obtain ⟨AL, cl, e2, hcl⟩ := own_form' h.l
 simp only at e1 e2
 subst e1 e2
 have b0 := below1 w (.cells #[.slice none 0 0, .slice none 0 0, .slice none 0 0] 26)
 have hGR : RC (w.alloc (.cells #[.slice none 0 0, .slice none 0 0, .slice none 0 0] 26)) w.heap.size [.slice none 0 0, .slice none 0 0, .slice none 0 0] := RC.new w [.slice none 0 0, .slice none 0 0, .slice none 0 0] _
 have h0 := h.below b0
 obtain ⟨R, hR⟩ : ∃ R, lsince V S_ f = R := ⟨_, rfl⟩
 have HR := Lib.hid hR
 rw [hR]
 clear hR
 have HM := Lib.hid (own_cap' h.h)
 have HCH := Lib.hid hch
 have HYR := Lib.hid hV
 have HYL : Hid (V.length ≤ 1000000) := Lib.hid (by have := vright_ok_len hV; omega)
 have HWR := Lib.hid hwr
 have HCOV := Lib.hid hcv
 have HS3 := Lib.hid hS
 have HNF := Lib.hid hn
 have HLN : Hid (f.length = n) := Lib.hid hf.len
 have HG0 := Lib.hid (hg.below b0)
 have HEF0 := Lib.hid (hf.grow b0)
 clear h hV hwr hcv hS hf hn hg hch hcl
 go_enter Tryz.func21, Tryz.ntmps21
 go_upto_region 1 with fail
 obtain ⟨gr, hgr⟩ : ∃ g, g = w.heap.size := ⟨_, rfl⟩
 have HGE : Hid (w.heap.size ≤ gr) := Lib.hid (by omega)
 rw [← hgr] at hGR ⊢
 clear hgr
 generalize w.alloc (.cells #[.slice none 0 0, .slice none 0 0, .slice none 0 0] 26) = W at *
 have HGR := Lib.hid hGR
 have HH0 := Lib.hid h0
 have HB0 := Lib.hid b0
 obtain ⟨ve, hve⟩ : ∃ ve, vright f = ve := ⟨_, rfl⟩
 have hvr := vright_any W n c_ A f HEF0.out HNF.out
 rw [hve] at hvr
 have HVE := Lib.hid hve
 clear hGR h0 b0 hve
 by_cases hz : ve.1 = 0
 ·go_upto_region 2 with (first | (go_at_call 62; refine hvr.mono ?_; rintro e w1 ⟨v, rfl, hE, hb1⟩; obtain rfl := err_nil hE hz))
  have h1 := HH0.out.below hb1
  have HB1 := Lib.hid (HB0.out.trans (hb1.mono HB0.out.size))
  have HGR1 := Lib.hid (HGR.out.below hb1)
  have HEF1 := Lib.hid (HEF0.out.grow hb1)
  have HG1 := Lib.hid (HG0.out.below hb1)
  have HZ := Lib.hid hz
  have HN16 : Hid (n ≤ 1000000) := Lib.hid (by have := vright_ok_len (l := f) (by rw [HVE.out]; exact hz); have := HLN.out; omega)
  clear hvr hE hz hb1 HH0 HB0 HGR HEF0 HG0
  have HH1 := Lib.hid h1
  have k1 := (h1.rc 1 _ rfl).1
  simp only at k1
  have hcov := covers_any w1 V.length ch n c_ AH A V f (ents_own h1.h HYR.out) HEF1.out HM.out HNF.out
  clear h1
  cases hcv : vcovers V f with
  | false =>
   rw [hcv] at hcov
   have HRe : Hid (R = (([], [], []), 13)) := Lib.hid (by rw [← HR.out]; unfold lsince; rw [HVE.out, if_neg (fun q => q HZ.out), if_pos hcv])
   clear hcv
   go_upto_region 5 with (first | (go_at_call 54; refine hcov.mono ?_; rintro e w2 ⟨rfl, hb2⟩))
   have hGR2 := HGR1.out.below hb2
   have HB2 := Lib.hid (HB1.out.trans (hb2.mono HB1.out.size))
   have HGR2 := Lib.hid hGR2
   have z0 := (hGR2 0 _ rfl).1
   have z1 := (hGR2 1 _ rfl).1
   have z2 := (hGR2 2 _ rfl).1
   have f0 := (hGR2 0 _ rfl).2
   have f1 := (hGR2 1 _ rfl).2
   have f2 := (hGR2 2 _ rfl).2
   clear hGR2 hcov hb2 k1
   go_wp2
   have hz := ((HGR2.out.set 0 (.slice none 0 0) (by simp)).set 1 (.slice none 0 0) (by simp)).set 2 (.slice none 0 0) (by simp)
   have q0 := (hz 0 _ rfl).1
   have q1 := (hz 1 _ rfl).1
   have q2 := (hz 2 _ rfl).1
   have hbf := ((HB2.out.setCell (p := ⟨gr, 0, none⟩) HGE.out (.slice none 0 0)).setCell (p := ⟨gr, 1, none⟩) HGE.out (.slice none 0 0)).setCell (p := ⟨gr, 2, none⟩) HGE.out (.slice none 0 0)
   refine bodyPost_ret (v := .tuple #[.agg #[.slice none 0 0, .slice none 0 0, .slice none 0 0], errV 13]) (by simp [results, Tryz.results21, go_sem, q0, q1, q2, errV]) rfl ⟨noBat, by rw [HRe.out]; rfl, noBat_is _, by rw [HRe.out]; rfl, by rw [HRe.out]; rfl, by rw [HRe.out]; rfl, hbf⟩
  | true =>
   rw [hcv] at hcov
   have HCV := Lib.hid hcv
   clear hcv
   go_upto_region 6 with (first | (go_at_call 54; refine hcov.mono ?_; rintro e w2 ⟨rfl, hb2⟩))
   have h2 := HH1.out.below hb2
   have HB2 := Lib.hid (HB1.out.trans (hb2.mono HB1.out.size))
   have HGR2 := Lib.hid (HGR1.out.below hb2)
   have HEF := Lib.hid (HEF1.out.grow hb2)
   have HG2 := Lib.hid (HG1.out.below hb2)
   have HH2 := Lib.hid h2
   have HO2 := Lib.hid h2.h
   clear k1
   have k1 := (h2.rc 1 _ rfl).1
   simp only at k1
   clear h2 hcov hb2 HH1 HB1 HGR1 HEF1 HG1
   refine Flow.wp_region_go (by kernel_rfl) (by kernel_rfl) (by kernel_rfl) 93 rfl (by kernel_rfl) (ls6V p ch n c_ AH A f V) (fun gz L wz => Below w2.heap.size w2 wz ∧ (L 1 = true → wz.ownsRow w2.heap.size 73 2 (Value.slice gz.1.1 f.length gz.1.2) f.length (entV f) ∧ (L 8 = true → (Value.slice gz.1.1 f.length gz.1.2).ownBlock ≠ some gz.2.2)) ∧ (L 6 = true → wz.ownsRow w2.heap.size 73 2 (Value.slice gz.2.1.1 V.length gz.2.1.2) V.length (entV V) ∧ (L 8 = true → (Value.slice gz.2.1.1 V.length gz.2.1.2).ownBlock ≠ some gz.2.2)) ∧ (L 8 = true → w2.heap.size ≤ gz.2.2 ∧ RC wz gz.2.2 (cond (L 9) [(Value.slice gz.1.1 f.length gz.1.2), (Value.slice gz.2.1.1 V.length gz.2.1.2), .slice none 0 0] [.slice none 0 0, .slice none 0 0, .slice none 0 0]))) (fun _ _ => False) (((none, 0), (none, 0), 0)) (⟨(Below.refl _ _).drew, (fun q => by cases q), (fun q => by cases q), (fun q => by cases q)⟩) ⟨?_, ?_, ?_, ?_, ?_, ?_, ?_, ?_, ?_, ?_, trivial⟩ ?_ ?_
   ·intro gz L wz K ρ hc0 hf0 hF hO hU hcl hi hd hC hK
    have e1 : ρ (.tmp 1) = .slice A n c_ := hO 1 (by kernel_rfl)
    simp [go_sem, Flow.ylP_value, Flow.ylP_skip, Flow.ylP_enter, Flow.ylP_panic, hc0, hf0, e1]
    exact hK gz wz hC (fun _ _ => rfl)
   ·intro gz L wz K ρ hc0 hf0 hF hO hU hcl hi hd hC hK
    have d0 : L 0 = true := hd ⟨0, .data⟩ (by simp) rfl
    have e29 : ρ (.tmp 29) = .slice A n c_ := hF 29 0 (by kernel_rfl) d0
    simp [go_sem, Flow.ylP_value, Flow.ylP_skip, Flow.ylP_enter, Flow.ylP_panic, hc0, hf0, e29]
    refine (clonee_arg (HEF.out.grow hC.1) HN16.out).mono ?_
    rintro r wn ⟨v, rfl, hov, hbn⟩
    obtain ⟨A9, c9, rfl⟩ := own_form hov
    refine ⟨_, rfl, hK ((A9, c9), gz.2) wn ⟨hC.1.trans (hbn.mono hC.1.size), fun _ => ⟨own_less hov hC.1.size, fun q e => ?_⟩, fun q => ⟨(Turned.of_below (S := fun _ => False) hbn).own (hC.2.2.1 q).1 (fun _ _ q => q), (hC.2.2.1 q).2⟩, fun q => ⟨(hC.2.2.2 q).1, ?_⟩⟩ (by intro j hj; unfold ls6V; split <;> first | rfl | (rw [hi] at hj; cases hj) | (have hz := hcl _ 1 (by kernel_rfl) hj; rw [hi] at hz; cases hz))⟩
    ·have h1 : gz.2.2 < wz.heap.size := cell_lt ((hC.2.2.2 q).2 0 (cond (L 9) (Value.slice gz.1.1 f.length gz.1.2) (.slice none 0 0)) (by cases L 9 <;> rfl)).1
     have h2 : wz.heap.size ≤ gz.2.2 := (hov.lt _ e).1
     omega
    ·have h9 : L 9 = false := by cases h : L 9 with | false => rfl | true => (have := hcl 9 1 (by kernel_rfl) h; rw [hi] at this; cases this)
     have hk := (hC.2.2.2 q).2.below hbn
     show RC wn gz.2.2 (cond (L 9) _ _)
     rw [h9] at hk ⊢
     exact hk
   ·intro gz L wz K ρ hc0 hf0 hF hO hU hcl hi hd hC hK
    have e0 : ρ (.tmp 0) = .pointer (some ⟨p, 0, none⟩) := hO 0 (by kernel_rfl)
    simp [go_sem, Flow.ylP_value, Flow.ylP_skip, Flow.ylP_enter, Flow.ylP_panic, hc0, hf0, e0]
    exact hK gz wz hC (fun _ _ => rfl)
   ·intro gz L wz K ρ hc0 hf0 hF hO hU hcl hi hd hC hK
    have d2 : L 2 = true := hd ⟨2, .data⟩ (by simp) rfl
    have e31 : ρ (.tmp 31) = .pointer (some ⟨p, 0, none⟩) := hF 31 2 (by kernel_rfl) d2
    simp [go_sem, Flow.ylP_value, Flow.ylP_skip, Flow.ylP_enter, Flow.ylP_panic, hc0, hf0, e31]
    exact hK gz wz hC (fun _ _ => rfl)
   ·intro gz L wz K ρ hc0 hf0 hF hO hU hcl hi hd hC hK
    have d3 : L 3 = true := hd ⟨3, .data⟩ (by simp) rfl
    have e32 : ρ (.tmp 32) = .pointer (some ⟨p, 0, none⟩) := hF 32 3 (by kernel_rfl) d3
    simp [go_sem, Flow.ylP_value, Flow.ylP_skip, Flow.ylP_enter, Flow.ylP_panic, hc0, hf0, e32]
    exact hK gz wz hC (fun _ _ => rfl)
   ·intro gz L wz K ρ hc0 hf0 hF hO hU hcl hi hd hC hK
    have d4 : L 4 = true := hd ⟨4, .data⟩ (by simp) rfl
    have e33 : ρ (.tmp 33) = .pointer (some ⟨p, 1, none⟩) := hF 33 4 (by kernel_rfl) d4
    have cc := (hC.1.cell (p := ⟨p, 1, none⟩) (cell_lt k1)).trans k1
    simp [go_sem, Flow.ylP_value, Flow.ylP_skip, Flow.ylP_enter, Flow.ylP_panic, hc0, hf0, e33, cc]
    exact hK gz wz hC (fun _ _ => rfl)
   ·intro gz L wz K ρ hc0 hf0 hF hO hU hcl hi hd hC hK
    have d5 : L 5 = true := hd ⟨5, .data⟩ (by simp) rfl
    have e34 : ρ (.tmp 34) = .slice AH V.length ch := hF 34 5 (by kernel_rfl) d5
    simp [go_sem, Flow.ylP_value, Flow.ylP_skip, Flow.ylP_enter, Flow.ylP_panic, hc0, hf0, e34]
    refine (clonee_any ((Turned.of_below (S := fun _ => False) hC.1).own HO2.out (fun _ _ q => q)) HYL.out).mono ?_
    rintro r wn ⟨v, rfl, hov, hbn⟩
    obtain ⟨A9, c9, rfl⟩ := own_form hov
    refine ⟨_, rfl, hK (gz.1, (A9, c9), gz.2.2) wn ⟨hC.1.trans (hbn.mono hC.1.size), fun q => ⟨(Turned.of_below (S := fun _ => False) hbn).own (hC.2.1 q).1 (fun _ _ q => q), (hC.2.1 q).2⟩, fun _ => ⟨own_less hov hC.1.size, fun q e => ?_⟩, fun q => ⟨(hC.2.2.2 q).1, ?_⟩⟩ (by intro j hj; unfold ls6V; split <;> first | rfl | (rw [hi] at hj; cases hj) | (have hz := hcl _ 6 (by kernel_rfl) hj; rw [hi] at hz; cases hz))⟩
    ·have h1 : gz.2.2 < wz.heap.size := cell_lt ((hC.2.2.2 q).2 0 (cond (L 9) (Value.slice gz.1.1 f.length gz.1.2) (.slice none 0 0)) (by cases L 9 <;> rfl)).1
     have h2 : wz.heap.size ≤ gz.2.2 := (hov.lt _ e).1
     omega
    ·have h9 : L 9 = false := by cases h : L 9 with | false => rfl | true => (have := hcl 9 6 (by kernel_rfl) h; rw [hi] at this; cases this)
     have hk := (hC.2.2.2 q).2.below hbn
     show RC wn gz.2.2 (cond (L 9) _ _)
     rw [h9] at hk ⊢
     exact hk
   ·intro gz L wz K ρ hc0 hf0 hF hO hU hcl hi hd hC hK
    have d1 : L 1 = true := hd ⟨1, .data⟩ (by simp) rfl
    have e30 : ρ (.tmp 30) = .slice gz.1.1 f.length gz.1.2 := hF 30 1 (by kernel_rfl) d1
    have d6 : L 6 = true := hd ⟨6, .data⟩ (by simp) rfl
    have e35 : ρ (.tmp 35) = .slice gz.2.1.1 V.length gz.2.1.2 := hF 35 6 (by kernel_rfl) d6
    simp [go_sem, Flow.ylP_value, Flow.ylP_skip, Flow.ylP_enter, Flow.ylP_panic, hc0, hf0, e30, e35]
    exact hK gz wz hC (fun _ _ => rfl)
   ·intro gz L wz K ρ hc0 hf0 hF hO hU hcl hi hd hC hK
    simp [go_sem, Flow.ylP_value, Flow.ylP_skip, Flow.ylP_enter, Flow.ylP_panic, hc0, hf0]
    have h9 : L 9 = false := by cases h : L 9 with | false => rfl | true => (have := hcl 9 8 (by kernel_rfl) h; rw [hi] at this; cases this)
    have hbn := below1 wz (.cells #[.slice none 0 0, .slice none 0 0, .slice none 0 0] 26)
    refine hK (gz.1, gz.2.1, wz.heap.size) _ ⟨hC.1.trans (hbn.mono hC.1.size), fun q => ⟨(Turned.of_below (S := fun _ => False) hbn).own (hC.2.1 q).1 (fun _ _ q => q), fun _ e => absurd (show wz.heap.size < wz.heap.size from ((hC.2.1 q).1.lt _ e).2) (Nat.lt_irrefl _)⟩, fun q => ⟨(Turned.of_below (S := fun _ => False) hbn).own (hC.2.2.1 q).1 (fun _ _ q => q), fun _ e => absurd (show wz.heap.size < wz.heap.size from ((hC.2.2.1 q).1.lt _ e).2) (Nat.lt_irrefl _)⟩, fun _ => ⟨hC.1.size, ?_⟩⟩ (by intro j hj; unfold ls6V; split <;> first | rfl | (rw [hi] at hj; cases hj) | (have hz := hcl _ 8 (by kernel_rfl) hj; rw [hi] at hz; cases hz))
    show RC _ wz.heap.size (cond (L 9) _ _)
    rw [h9]
    exact RC.new wz [.slice none 0 0, .slice none 0 0, .slice none 0 0] 26
   ·intro gz L wz K ρ hc0 hf0 hF hO hU hcl hi hd hC hK
    have d8 : L 8 = true := hd ⟨8, .data⟩ (by simp) rfl
    have e7 : ρ (.tmp 7) = .pointer (some ⟨gz.2.2, 0, none⟩) := hF 7 8 (by kernel_rfl) d8
    have d7 : L 7 = true := hd ⟨7, .data⟩ (by simp) rfl
    have e36 : ρ (.tmp 36) = .agg #[.slice gz.1.1 f.length gz.1.2, .slice gz.2.1.1 V.length gz.2.1.2, .slice none 0 0] := hF 36 7 (by kernel_rfl) d7
    have hk := (hC.2.2.2 d8).2
    rw [hi] at hk
    have fc0 := (hk 0 _ rfl).2
    have cc0 := (hk 0 _ rfl).1
    have fc1 := (hk 1 _ rfl).2
    have cc1 := (hk 1 _ rfl).1
    have fc2 := (hk 2 _ rfl).2
    have cc2 := (hk 2 _ rfl).1
    simp [go_sem, Flow.ylP_value, Flow.ylP_skip, Flow.ylP_enter, Flow.ylP_panic, hc0, hf0, e7, e36, fc0, cc0, fc1, cc1, fc2, cc2]
    have d1 : L 1 = true := hcl 7 1 (by kernel_rfl) d7
    have d6 : L 6 = true := hcl 7 6 (by kernel_rfl) d7
    have hge := (hC.2.2.2 d8).1
    have n1 := (hC.2.1 d1).2 d8
    have n2 := (hC.2.2.1 d6).2 d8
    have hT : Turned (fun i => i = gz.2.2) wz (((wz.setCell ⟨gz.2.2, 0, none⟩ (Value.slice gz.1.1 f.length gz.1.2)).setCell ⟨gz.2.2, 1, none⟩ (Value.slice gz.2.1.1 V.length gz.2.1.2)).setCell ⟨gz.2.2, 2, none⟩ (.slice none 0 0)) := Turned.trans (S := fun i => i = gz.2.2) (.set _ _ _ rfl) (Turned.trans (S := fun i => i = gz.2.2) (.set _ _ _ rfl) (.set _ _ _ rfl))
    have hrc : RC (((wz.setCell ⟨gz.2.2, 0, none⟩ (Value.slice gz.1.1 f.length gz.1.2)).setCell ⟨gz.2.2, 1, none⟩ (Value.slice gz.2.1.1 V.length gz.2.1.2)).setCell ⟨gz.2.2, 2, none⟩ (.slice none 0 0)) gz.2.2 [(Value.slice gz.1.1 f.length gz.1.2), (Value.slice gz.2.1.1 V.length gz.2.1.2), .slice none 0 0] := ((hk.set 0 _ (by simp)).set 1 _ (by simp)).set 2 _ (by simp)
    refine hK gz _ ⟨hC.1.trans (hT.below (fun i hi => by rw [show i = gz.2.2 from hi]; exact hge) hC.1.size), fun q => ⟨hT.own (hC.2.1 q).1 (fun j hj e => by rw [show j = gz.2.2 from e] at hj; exact n1 hj), (hC.2.1 q).2⟩, fun q => ⟨hT.own (hC.2.2.1 q).1 (fun j hj e => by rw [show j = gz.2.2 from e] at hj; exact n2 hj), (hC.2.2.1 q).2⟩, fun q => ⟨hge, ?_⟩⟩ (fun _ _ => rfl)
    simpa using hrc
   ·intro gz L ch wz h; exact h.elim
   ·intro gz L wz hL hC
    have HC6 := Lib.hid (And.intro hC.1 (And.intro (hC.2.1 (hL 1 (by decide))) (And.intro (hC.2.2.1 (hL 6 (by decide))) (And.intro (hC.2.2.2 (hL 8 (by decide))) (And.intro (hL 8 (by decide)) (hL 9 (by decide)))))))
    clear hC hL
    obtain ⟨⟨A1, c1⟩, ⟨A2, c2⟩, gb⟩ := gz
    simp only at HC6
    obtain ⟨hbz, ⟨ho1, hne1⟩, ⟨ho2, hne2⟩, ⟨hge, hrcb⟩, hl8, hl9⟩ := HC6.out
    rw [hl9] at hrcb
    have hSn : SnR w2 wz gb (.slice A1 f.length c1) (.slice A2 V.length c2) (.slice none 0 0) f V [] := ⟨hrcb, ho1, ho2, World.ownsRow_nil _ _ _ _, hne1 hl8, hne2 hl8, (fun e => by cases e), hge, hbz⟩
    have HGL : Hid (gr < w2.heap.size) := Lib.hid (cell_lt (HGR2.out 0 _ rfl).1)
    have HSN0 := Lib.hid hSn
    have k2 := ((HH2.out.below hbz).rc 2 _ rfl).1
    simp only at k2
    clear hbz ho1 hne1 ho2 hne2 hge hrcb hl8 hl9 hSn HC6 k1
    simp only [Flow.putAll, ls6V]
    simp [Act.put]
    go_wp2
    clear k2
    go_loopw [9, 11, 42, 65] (fun _ _ v42 _ wr => ∃ (k : Nat) (v3 : Value), k ≤ S_.length ∧ v42 = .int .i64 (k : Int) ∧ Hid ((after f (S_.take k)).length ≤ 60) ∧ SnR w2 wr gb (.slice A1 f.length c1) (.slice A2 V.length c2) v3 f V (after f (S_.take k))) (fun _ _ i _ _ => S_.length - (intOf i).toNat)
    case atStart => exact ⟨0, .slice none 0 0, Nat.zero_le _, rfl, Lib.hid (by simp [after]), HSN0.out⟩
    case round =>
     obtain ⟨k, v3, hk, rfl, HD60, hSn⟩ := hrel
     clear HSN0
     obtain ⟨A3, c3, rfl⟩ := own_form hSn.o3
     by_cases hlt : k < S_.length
     ·obtain ⟨⟨x1, x2, x3, x4, x5, x6⟩, hx⟩ : ∃ y, S_[k]? = some y := ⟨_, List.getElem?_eq_getElem hlt⟩
      have hlw := (HH2.out.below hSn.bel).l
      simp only at hlw
      obtain ⟨gl, rfl⟩ := own_some_of hlw (by omega)
      have cx := wr_cells_own hlw rfl hx
      have r0 : wr.cell? ⟨gl, k * 6, none⟩ = some (.int .i64 x1) := cx 0 _ rfl
      have r1 := cx 1 _ rfl
      have r2 := cx 2 _ rfl
      have r3 := cx 3 _ rfl
      have r4 := cx 4 _ rfl
      have r5 := cx 5 _ rfl
      have HX := Lib.hid hx
      have bA := below1 wr (.cells #[.int .i64 x1, .int .i64 x2, .int .i64 x3, .string x4, .string x5, .int .i64 x6] 32)
      have hGW : RC (wr.alloc (.cells #[.int .i64 x1, .int .i64 x2, .int .i64 x3, .string x4, .string x5, .int .i64 x6] 32)) wr.heap.size (wrCells (x1, x2, x3, x4, x5, x6)) := RC.new wr (wrCells (x1, x2, x3, x4, x5, x6)) _
      have hSA := hSn.below bA
      obtain ⟨gw, hgw⟩ : ∃ g, g = wr.heap.size := ⟨_, rfl⟩
      have W1 := Lib.hid (w_one (a := k) (by have := HS3.out; omega))
      have HM1 : Hid (S_.length - (k + 1) < S_.length - k) := Lib.hid (by omega)
      have HK1 : Hid (k + 1 ≤ S_.length) := Lib.hid hlt
      rw [← hgw] at hGW
      clear cx hx hlt hk hSn bA hlw
      go_upto_region 10 with fail
      rw [← hgw]
      clear hgw r0 r1 r2 r3 r4 r5
      generalize wr.alloc (.cells #[.int .i64 x1, .int .i64 x2, .int .i64 x3, .string x4, .string x5, .int .i64 x6] 32) = WA at *
      have g0 := (hGW 0 _ rfl).1
      have g1 := (hGW 1 _ rfl).1
      have HEX : Hid (Ents WA WA.heap.size A n f) := Lib.hid (HEF.out.grow hSA.bel)
      obtain ⟨bv, hdv⟩ : ∃ bv, decide (x1 ≤ vof f x2) = bv := ⟨_, rfl⟩
      have HDV := Lib.hid hdv
      have HGW := Lib.hid hGW
      have HSA := Lib.hid hSA
      clear hGW hSA
      refine Flow.wp_region_go (by kernel_rfl) (by kernel_rfl) (by kernel_rfl) 93 rfl (by kernel_rfl) (ls10V gw n c_ A f x1 x2 bv) (fun _ _ wz => Below WA.heap.size WA wz) (fun _ _ => False) (()) ((Below.refl _ _).drew) ⟨?_, ?_, ?_, ?_, ?_, ?_, ?_, ?_, ?_, trivial⟩ ?_ ?_
      ·intro gz L wz K ρ hc0 hf0 hF hO hU hcl hi hd hC hK
       have e9 : ρ (.tmp 9) = .pointer (some ⟨gw, 0, none⟩) := hO 9 (by kernel_rfl)
       simp [go_sem, Flow.ylP_value, Flow.ylP_skip, Flow.ylP_enter, Flow.ylP_panic, hc0, hf0, e9]
       exact hK gz wz hC (fun _ _ => rfl)
      ·intro gz L wz K ρ hc0 hf0 hF hO hU hcl hi hd hC hK
       have d0 : L 0 = true := hd ⟨0, .data⟩ (by simp) rfl
       have e46 : ρ (.tmp 46) = .pointer (some ⟨gw, 0, none⟩) := hF 46 0 (by kernel_rfl) d0
       simp [go_sem, Flow.ylP_value, Flow.ylP_skip, Flow.ylP_enter, Flow.ylP_panic, hc0, hf0, e46]
       exact hK gz wz hC (fun _ _ => rfl)
      ·intro gz L wz K ρ hc0 hf0 hF hO hU hcl hi hd hC hK
       have d1 : L 1 = true := hd ⟨1, .data⟩ (by simp) rfl
       have e47 : ρ (.tmp 47) = .pointer (some ⟨gw, 0, none⟩) := hF 47 1 (by kernel_rfl) d1
       have cc := (hC.cell (p := ⟨gw, 0, none⟩) (cell_lt g0)).trans g0
       simp [go_sem, Flow.ylP_value, Flow.ylP_skip, Flow.ylP_enter, Flow.ylP_panic, hc0, hf0, e47, cc]
       exact hK gz wz hC (fun _ _ => rfl)
      ·intro gz L wz K ρ hc0 hf0 hF hO hU hcl hi hd hC hK
       have e1 : ρ (.tmp 1) = .slice A n c_ := hO 1 (by kernel_rfl)
       simp [go_sem, Flow.ylP_value, Flow.ylP_skip, Flow.ylP_enter, Flow.ylP_panic, hc0, hf0, e1]
       exact hK gz wz hC (fun _ _ => rfl)
      ·intro gz L wz K ρ hc0 hf0 hF hO hU hcl hi hd hC hK
       have e9 : ρ (.tmp 9) = .pointer (some ⟨gw, 0, none⟩) := hO 9 (by kernel_rfl)
       simp [go_sem, Flow.ylP_value, Flow.ylP_skip, Flow.ylP_enter, Flow.ylP_panic, hc0, hf0, e9]
       exact hK gz wz hC (fun _ _ => rfl)
      ·intro gz L wz K ρ hc0 hf0 hF hO hU hcl hi hd hC hK
       have d4 : L 4 = true := hd ⟨4, .data⟩ (by simp) rfl
       have e50 : ρ (.tmp 50) = .pointer (some ⟨gw, 0, none⟩) := hF 50 4 (by kernel_rfl) d4
       simp [go_sem, Flow.ylP_value, Flow.ylP_skip, Flow.ylP_enter, Flow.ylP_panic, hc0, hf0, e50]
       exact hK gz wz hC (fun _ _ => rfl)
      ·intro gz L wz K ρ hc0 hf0 hF hO hU hcl hi hd hC hK
       have d5 : L 5 = true := hd ⟨5, .data⟩ (by simp) rfl
       have e51 : ρ (.tmp 51) = .pointer (some ⟨gw, 1, none⟩) := hF 51 5 (by kernel_rfl) d5
       have cc := (hC.cell (p := ⟨gw, 1, none⟩) (cell_lt g1)).trans g1
       simp [go_sem, Flow.ylP_value, Flow.ylP_skip, Flow.ylP_enter, Flow.ylP_panic, hc0, hf0, e51, cc]
       exact hK gz wz hC (fun _ _ => rfl)
      ·intro gz L wz K ρ hc0 hf0 hF hO hU hcl hi hd hC hK
       have d3 : L 3 = true := hd ⟨3, .data⟩ (by simp) rfl
       have e49 : ρ (.tmp 49) = .slice A n c_ := hF 49 3 (by kernel_rfl) d3
       have d6 : L 6 = true := hd ⟨6, .data⟩ (by simp) rfl
       have e52 : ρ (.tmp 52) = .int .i64 x2 := hF 52 6 (by kernel_rfl) d6
       simp [go_sem, Flow.ylP_value, Flow.ylP_skip, Flow.ylP_enter, Flow.ylP_panic, hc0, hf0, e49, e52]
       refine (of_any wz n c_ A f x2 (HEX.out.grow hC) HNF.out).mono ?_
       rintro r wn ⟨rfl, hbn⟩
       exact ⟨_, rfl, hK gz wn (hC.trans (hbn.mono hC.size)) (by intro j hj; unfold ls10V; split <;> first | rfl | (rw [hi] at hj; cases hj) | (have hz := hcl _ 7 (by kernel_rfl) hj; rw [hi] at hz; cases hz))⟩
      ·intro gz L wz K ρ hc0 hf0 hF hO hU hcl hi hd hC hK
       have d2 : L 2 = true := hd ⟨2, .data⟩ (by simp) rfl
       have e48 : ρ (.tmp 48) = .int .i64 x1 := hF 48 2 (by kernel_rfl) d2
       have d7 : L 7 = true := hd ⟨7, .data⟩ (by simp) rfl
       have e53 : ρ (.tmp 53) = .int .i64 (vof f x2) := hF 53 7 (by kernel_rfl) d7
       simp [go_sem, Flow.ylP_value, Flow.ylP_skip, Flow.ylP_enter, Flow.ylP_panic, hc0, hf0, e48, e53, hdv]
       exact hK gz wz hC (fun _ _ => rfl)
      ·intro gz L ch wz h; exact h.elim
      ·intro gz L wz hL hC
       have HC10 := Lib.hid hC
       clear hC hL
       simp only [Flow.putAll, ls10V]
       try simp [Act.put]
       have hS1 := HSA.out.below HC10.out
       have hGW1 := HGW.out.below HC10.out
       obtain ⟨wv, hwv⟩ : ∃ wv, wv = wz := ⟨_, rfl⟩
       rw [← hwv] at hS1 hGW1 ⊢
       clear g0 g1 hdv HSA HGW HC10 HEX hwv
       obtain ⟨D, hD⟩ : ∃ D, D = after f (S_.take k) := ⟨_, rfl⟩
       have HDD := Lib.hid hD
       rw [← hD] at HD60 hS1
       clear hD
       cases bv with
       | true =>
        have HNX : Hid (after f (S_.take (k + 1)) = D) := Lib.hid (by rw [after_take HX.out, if_neg (by have h1 := of_decide_eq_true HDV.out; simp only; omega), List.append_nil, HDD.out])
        obtain ⟨m1, m2⟩ := W1.out
        have HS1 := Lib.hid hS1
        clear hS1 hGW1
        go_wp2
        go_roundw
        case rel => exact ⟨k + 1, _, HK1.out, by go_num, by rw [HNX.out]; exact HD60, by rw [HNX.out]; exact HS1.out⟩
        case measure => simpa [intOf] using HM1.out
       | false =>
        have hbv : vof f x2 < x1 := by have := of_decide_eq_false HDV.out; omega
        have HBV := Lib.hid hbv
        clear hbv
        have b2 := (hS1.rc 2 _ rfl).1
        by_cases h60 : D.length = 60
        ·have e60 : ((D.length : Int) == 60) = true := by rw [h60]; rfl
         have HLL := after_last HX.out HBV.out (by rw [← HDD.out]; exact h60)
         have HRe : Hid (R = ((f, sinceHave f D, D), 0)) := Lib.hid (by rw [← HR.out]; unfold lsince; rw [HVE.out, if_neg (fun q => q HZ.out), if_neg (by rw [HCV.out]; decide), if_neg (by omega), HLL.2, ← HDD.out])
         have HDM : Hid (∀ y ∈ D, wright y = 0 ∧ y.1 ≤ vof V y.2.1) := Lib.hid (fun y hy => by
          rw [HDD.out] at hy
          have := List.mem_of_mem_take (List.mem_filter.1 hy).1
          exact ⟨HWR.out y this, HCOV.out y this⟩)
         have hcl := clonee_arg (c := c_) (HEF.out.grow hS1.bel) HN16.out
         have b1 := (hS1.rc 1 _ rfl).1
         have fb1 := (hS1.rc 1 _ rfl).2
         have HS1 := Lib.hid hS1
         have H60 := Lib.hid h60
         clear h60 hS1 hGW1 HLL
         go_upto_region 12 with fail
         clear b2 e60
         go_upto_region 13 with (first | (go_at_call 63; refine hcl.mono ?_; rintro e w5 ⟨v, rfl, hov, hb5⟩; have hS5 := HS1.out.below hb5; have q1 := (hS5.rc 1 _ rfl).1; have fq1 := (hS5.rc 1 _ rfl).2; have hnb : v.ownBlock ≠ some gb := (fun e => by have h1 := (hov.lt _ e).1; have h2 := HS1.out.lt; omega); have HSH := Lib.hid (hS5.setH hov HS1.out.bel.size hnb); obtain ⟨AC, cC, rfl⟩ := own_form hov; clear hov hb5 hS5 hnb))
         clear b1 fb1 q1 fq1 hcl
         generalize w5.setCell ⟨gb, 1, none⟩ (.slice AC f.length cC) = w6 at *
         have b2 := (HSH.out.rc 2 _ rfl).1
         have HJ0 : Hid (Joined f (D.take 0) f) := Lib.hid (.zero (by rw [HVE.out]; exact HZ.out))
         go_wp2
         clear b2
         go_loopw [11, 65] (fun _ v65 wr => ∃ (j : Nat) (H : List Ent) (v2 : Value), j ≤ D.length ∧ v65 = .int .i64 (j : Int) ∧ Hid (Joined f (D.take j) H) ∧ SnR w2 wr gb (.slice A1 f.length c1) v2 (.slice A3 D.length c3) f H D) (fun _ i _ => D.length - (intOf i).toNat)
         case atStart => exact ⟨0, f, _, Nat.zero_le _, rfl, HJ0, HSH.out⟩
         case round =>
          obtain ⟨j, H, v2, hj, rfl, HJ, hSn⟩ := hrel
          clear HSH HJ0
          obtain ⟨AH2, cH, rfl, hcH⟩ := own_form' hSn.o2
          by_cases hlt : j < D.length
          ·obtain ⟨⟨y1, y2, y3, y4, y5, y6⟩, hy⟩ : ∃ y, D[j]? = some y := ⟨_, List.getElem?_eq_getElem hlt⟩
           obtain ⟨gd, rfl⟩ := own_some_of hSn.o3 (by omega)
           have cy := wr_cells_own hSn.o3 rfl hy
           have r0 : wr.cell? ⟨gd, j * 6, none⟩ = some (.int .i64 y1) := cy 0 _ rfl
           have r1 := cy 1 _ rfl
           have r2 := cy 2 _ rfl
           have r3 := cy 3 _ rfl
           have r4 := cy 4 _ rfl
           have r5 := cy 5 _ rfl
           have HY := Lib.hid hy
           have bA := below1 wr (.cells #[.int .i64 y1, .int .i64 y2, .int .i64 y3, .string y4, .string y5, .int .i64 y6] 32)
           have hGX : RC (wr.alloc (.cells #[.int .i64 y1, .int .i64 y2, .int .i64 y3, .string y4, .string y5, .int .i64 y6] 32)) wr.heap.size (wrCells (y1, y2, y3, y4, y5, y6)) := RC.new wr (wrCells (y1, y2, y3, y4, y5, y6)) _
           have hSA := hSn.below bA
           obtain ⟨gx, hgx⟩ : ∃ g, g = wr.heap.size := ⟨_, rfl⟩
           have W2 := Lib.hid (w_one (a := j) (by have := H60.out; omega))
           have HM2 : Hid (D.length - (j + 1) < D.length - j) := Lib.hid (by omega)
           have HK2 : Hid (j + 1 ≤ D.length) := Lib.hid hlt
           have hyD := HDM.out _ (List.mem_of_getElem? hy)
           have hHV : (vright H).1 = 0 := vright_rises HJ.out.r (HJ.out.len HYR.out (covers_all HCV.out HYR.out) (fun y hy => (HDM.out y (List.mem_of_mem_take hy)).2))
           obtain ⟨hj1, hj2⟩ := HJ.out.step (x := (y1, y2, y3, y4, y5, y6)) hyD.1 HYR.out (covers_all HCV.out HYR.out) (fun y hy => by
            rcases List.mem_append.1 hy with hy | hy
            ·exact (HDM.out y (List.mem_of_mem_take hy)).2
            ·rw [List.mem_singleton.1 hy]; exact hyD.2)
           rw [← take_snoc HY.out] at hj2
           simp only at hj1 hj2
           obtain ⟨H', hH'⟩ : ∃ H', vmerge H [(y2, y1)] = H' := ⟨_, rfl⟩
           rw [hH'] at hj1 hj2
           have HJ2 := Lib.hid hj2
           have hid2 := id_parts hyD.1
           have HEF2 : Hid (entFits (y2, y1)) := Lib.hid (by simp only at hid2; unfold entFits; simp only; omega)
           rw [← hgx] at hGX
           clear cy hy hlt hj hSn bA hyD hj2 hH' hid2
           go_upto_region 16 with fail
           rw [← hgx]
           clear hgx r0 r1 r2 r3 r4 r5
           generalize wr.alloc (.cells #[.int .i64 y1, .int .i64 y2, .int .i64 y3, .string y4, .string y5, .int .i64 y6] 32) = WB at *
           have g0 := (hGX 0 _ rfl).1
           have g1 := (hGX 1 _ rfl).1
           have b1 := (hSA.rc 1 _ rfl).1
           have bE := below1 WB (.cells #[.int .i64 y2, .int .i64 y1] 73)
           have hSE := hSA.below bE
           have hjn := vjoin_any (WB.alloc (.cells #[.int .i64 y2, .int .i64 y1] 73)) H.length cH 1 1 AH2 (some ⟨WB.heap.size, 0, none⟩) H [(y2, y1)] (ents_own hSE.o2 hHV) (ents_one (by rw [World.cell?_alloc_new]; rfl) (by rw [World.cell?_alloc_new]; rfl) HEF2.out) (own_cap' hSE.o2) (by unfold maxLen; omega) hcH (Nat.le_refl _) (HG2.out.below hSE.bel)
           rw [hj1] at hjn
           simp only [errV_zero] at hjn
           have HSE := Lib.hid hSE
           clear hSA hSE hGX bE hj1 hHV hcH
           go_upto_region 17 with (first | (go_at_call 47; refine hjn.mono ?_; rintro e w8 ⟨v, rfl, hov, hb8⟩; have hS8 := HSE.out.below hb8; have q1 := (hS8.rc 1 _ rfl).1; have fq1 := (hS8.rc 1 _ rfl).2; have hnb : v.ownBlock ≠ some gb := (fun e => by have h1 := (hov.lt _ e).1; have h2 := HSE.out.lt; omega); have HSH := Lib.hid (hS8.setH hov HSE.out.bel.size hnb); obtain ⟨AC, cC, rfl⟩ := own_form hov; clear hov hb8 hS8 hnb))
           clear g0 g1 b1 q1 fq1 hjn
           generalize w8.setCell ⟨gb, 1, none⟩ (.slice AC H'.length cC) = w9 at *
           obtain ⟨m1, m2⟩ := W2.out
           go_wp2
           go_roundw
           case rel => exact ⟨j + 1, H', _, HK2.out, by go_num, HJ2, HSH.out⟩
           case measure => simpa [intOf] using HM2.out
          ·obtain rfl : j = D.length := by omega
           rw [List.take_length] at HJ
           obtain rfl := HJ.out.is
           clear hlt hj hcH
           have m0 := (hSn.rc 0 _ rfl).1
           have m1 := (hSn.rc 1 _ rfl).1
           have m2 := (hSn.rc 2 _ rfl).1
           have hGRz := HGR2.out.below hSn.bel
           have z0 := (hGRz 0 _ rfl).1
           have z1 := (hGRz 1 _ rfl).1
           have z2 := (hGRz 2 _ rfl).1
           have f0 := (hGRz 0 _ rfl).2
           have f1 := (hGRz 1 _ rfl).2
           have f2 := (hGRz 2 _ rfl).2
           have HSN := Lib.hid hSn
           have HGRz := Lib.hid hGRz
           clear hSn hGRz
           go_wp2
           have hz := ((HGRz.out.set 0 (.slice A1 f.length c1) (by simp)).set 1 (.slice AH2 (sinceHave f D).length cH) (by simp)).set 2 (.slice A3 D.length c3) (by simp)
           have q0 := (hz 0 _ rfl).1
           have q1 := (hz 1 _ rfl).1
           have q2 := (hz 2 _ rfl).1
           have hT : Turned (fun i => i = gr) wr (((wr.setCell ⟨gr, 0, none⟩ (.slice A1 f.length c1)).setCell ⟨gr, 1, none⟩ (.slice AH2 (sinceHave f D).length cH)).setCell ⟨gr, 2, none⟩ (.slice A3 D.length c3)) := Turned.trans (S := fun i => i = gr) (.set _ _ _ rfl) (Turned.trans (S := fun i => i = gr) (.set _ _ _ rfl) (.set _ _ _ rfl))
           have hbf := (((HB2.out.trans (HSN.out.bel.mono HB2.out.size)).setCell (p := ⟨gr, 0, none⟩) HGE.out (.slice A1 f.length c1)).setCell (p := ⟨gr, 1, none⟩) HGE.out (.slice AH2 (sinceHave f D).length cH)).setCell (p := ⟨gr, 2, none⟩) HGE.out (.slice A3 D.length c3)
           have hB := bat_own (hT.own HSN.out.o1 (fun j hj e => by have h1 := (HSN.out.o1.lt j hj).1; have h2 := HGL.out; rw [show j = gr from e] at h1; omega)) (hT.own HSN.out.o2 (fun j hj e => by have h1 := (HSN.out.o2.lt j hj).1; have h2 := HGL.out; rw [show j = gr from e] at h1; omega)) (hT.own HSN.out.o3 (fun j hj e => by have h1 := (HSN.out.o3.lt j hj).1; have h2 := HGL.out; rw [show j = gr from e] at h1; omega))
           refine bodyPost_ret (v := .tuple #[.agg #[.slice A1 f.length c1, .slice AH2 (sinceHave f D).length cH, .slice A3 D.length c3], .nilIface]) (by simp [results, Tryz.results21, go_sem, q0, q1, q2]) rfl ⟨_, by rw [HRe.out]; rfl, hB, by rw [HRe.out], by rw [HRe.out], by rw [HRe.out], hbf⟩
        ·have e60 : ((D.length : Int) == 60) = false := beq_eq_false_iff_ne.2 (by omega)
         have HNX : Hid (after f (S_.take (k + 1)) = D ++ [(x1, x2, x3, x4, x5, x6)]) := Lib.hid (by rw [after_take HX.out, if_pos HBV.out, HDD.out])
         have HN60 : Hid ((after f (S_.take (k + 1))).length ≤ 60) := Lib.hid (by rw [HNX.out, List.length_append]; have := HD60.out; simp; omega)
         have g0 := (hGW1 0 _ rfl).1
         have g1 := (hGW1 1 _ rfl).1
         have g2 := (hGW1 2 _ rfl).1
         have g3 := (hGW1 3 _ rfl).1
         have g4 := (hGW1 4 _ rfl).1
         have g5 := (hGW1 5 _ rfl).1
         have hSO := hS1.below (below1 wv (.cells #[.int .i64 x1, .int .i64 x2, .int .i64 x3, .string x4, .string x5, .int .i64 x6] 32))
         obtain ⟨v', w7, hrun, hov, hgn, hwh⟩ := app_wr1 (x := (x1, x2, x3, x4, x5, x6)) hSO.o3 (heap_alloc_new wv (.cells #[.int .i64 x1, .int .i64 x2, .int .i64 x3, .string x4, .string x5, .int .i64 x6] 32)) (by have := HD60.out; omega) hSO.bel.size 22
         have ht : Turned (fun j => (Value.slice A3 D.length c3).ownBlock = some j) (wv.alloc (.cells #[.int .i64 x1, .int .i64 x2, .int .i64 x3, .string x4, .string x5, .int .i64 x6] 32)) w7 := ⟨hgn.os, hgn.tape, hgn.output, hgn.size, fun i hi hn => hgn.block i hi (fun e => hn e.symm)⟩
         have hrc7 := hSO.rc.turned ht (fun e => hSO.n3 e)
         have q2 := (hrc7 2 _ rfl).1
         have fq2 := (hrc7 2 _ rfl).2
         have HSF := Lib.hid (hSO.app hov hgn hwh)
         rw [← HNX.out] at HSF
         rw [show (D ++ [(x1, x2, x3, x4, x5, x6)]).length = D.length + 1 by simp] at hov
         obtain ⟨A9, c9, rfl⟩ := own_form hov
         obtain ⟨m1, m2⟩ := W1.out
         clear h60 hS1 hGW1 hSO hov hgn hwh ht hrc7
         go_upto_region 19 with (at_builtin; refine Lib.wpList_append_run _ rfl _ _ _ _ rfl _ _ rfl rfl _ _ hrun ?_)
         clear b2 e60 g0 g1 g2 g3 g4 g5 hrun q2 fq2
         generalize w7.setCell ⟨gb, 2, none⟩ (.slice A9 (D.length + 1) c9) = w8 at *
         go_wp2
         go_roundw
         case rel => exact ⟨k + 1, _, HK1.out, by go_num, HN60, HSF.out⟩
         case measure => simpa [intOf] using HM1.out
     ·obtain rfl : k = S_.length := by omega
      rw [List.take_length] at HD60 hSn
      have HRe : Hid (R = ((f, V, after f S_), 0)) := Lib.hid (by rw [← HR.out]; unfold lsince; rw [HVE.out, if_neg (fun q => q HZ.out), if_neg (by rw [HCV.out]; decide), if_pos HD60.out])
      clear hlt hk
      have m0 := (hSn.rc 0 _ rfl).1
      have m1 := (hSn.rc 1 _ rfl).1
      have m2 := (hSn.rc 2 _ rfl).1
      have hGRz := HGR2.out.below hSn.bel
      have z0 := (hGRz 0 _ rfl).1
      have z1 := (hGRz 1 _ rfl).1
      have z2 := (hGRz 2 _ rfl).1
      have f0 := (hGRz 0 _ rfl).2
      have f1 := (hGRz 1 _ rfl).2
      have f2 := (hGRz 2 _ rfl).2
      have HSN := Lib.hid hSn
      have HGRz := Lib.hid hGRz
      clear hSn hGRz
      go_wp2
      have hz := ((HGRz.out.set 0 (.slice A1 f.length c1) (by simp)).set 1 (.slice A2 V.length c2) (by simp)).set 2 (.slice A3 (after f S_).length c3) (by simp)
      have q0 := (hz 0 _ rfl).1
      have q1 := (hz 1 _ rfl).1
      have q2 := (hz 2 _ rfl).1
      have hT : Turned (fun i => i = gr) wr (((wr.setCell ⟨gr, 0, none⟩ (.slice A1 f.length c1)).setCell ⟨gr, 1, none⟩ (.slice A2 V.length c2)).setCell ⟨gr, 2, none⟩ (.slice A3 (after f S_).length c3)) := Turned.trans (S := fun i => i = gr) (.set _ _ _ rfl) (Turned.trans (S := fun i => i = gr) (.set _ _ _ rfl) (.set _ _ _ rfl))
      have hbf := (((HB2.out.trans (HSN.out.bel.mono HB2.out.size)).setCell (p := ⟨gr, 0, none⟩) HGE.out (.slice A1 f.length c1)).setCell (p := ⟨gr, 1, none⟩) HGE.out (.slice A2 V.length c2)).setCell (p := ⟨gr, 2, none⟩) HGE.out (.slice A3 (after f S_).length c3)
      have hB := bat_own (hT.own HSN.out.o1 (fun j hj e => by have h1 := (HSN.out.o1.lt j hj).1; have h2 := HGL.out; rw [show j = gr from e] at h1; omega)) (hT.own HSN.out.o2 (fun j hj e => by have h1 := (HSN.out.o2.lt j hj).1; have h2 := HGL.out; rw [show j = gr from e] at h1; omega)) (hT.own HSN.out.o3 (fun j hj e => by have h1 := (HSN.out.o3.lt j hj).1; have h2 := HGL.out; rw [show j = gr from e] at h1; omega))
      refine bodyPost_ret (v := .tuple #[.agg #[.slice A1 f.length c1, .slice A2 V.length c2, .slice A3 (after f S_).length c3], .nilIface]) (by simp [results, Tryz.results21, go_sem, q0, q1, q2]) rfl ⟨_, by rw [HRe.out]; rfl, hB, by rw [HRe.out], by rw [HRe.out], by rw [HRe.out], hbf⟩
 ·obtain ⟨ve1, ve2⟩ := ve
  simp only at hz
  have HRe : Hid (R = (([], [], []), ve1)) := Lib.hid (by rw [← HR.out]; unfold lsince; rw [HVE.out, if_pos hz])
  go_upto_region 3 with (first | (go_at_call 62; refine hvr.mono ?_; rintro e w1 ⟨v, rfl, hE, hb1⟩; obtain ⟨tt, uu, rfl⟩ := err_some hE hz))
  have hGR1 := HGR.out.below hb1
  have HB1 := Lib.hid (HB0.out.trans (hb1.mono HB0.out.size))
  have HG1 := Lib.hid (HG0.out.below hb1)
  have HE1 := Lib.hid hE
  have HZ := Lib.hid hz
  have HGR1 := Lib.hid hGR1
  clear hvr hE hb1 hz hGR1
  go_wp2_with (first | (go_at_call 36; refine (tell_any HE1.out HG1.out).mono ?_; rintro e w2 ⟨rfl, hb2⟩; have hGR2 := HGR1.out.below hb2; have HB2 := Lib.hid (HB1.out.trans (hb2.mono HB1.out.size)); have HGR2 := Lib.hid hGR2; have z0 := (hGR2 0 _ rfl).1; have z1 := (hGR2 1 _ rfl).1; have z2 := (hGR2 2 _ rfl).1; have f0 := (hGR2 0 _ rfl).2; have f1 := (hGR2 1 _ rfl).2; have f2 := (hGR2 2 _ rfl).2; clear hGR2 hb2))
  have hz := ((HGR2.out.set 0 (.slice none 0 0) (by simp)).set 1 (.slice none 0 0) (by simp)).set 2 (.slice none 0 0) (by simp)
  have q0 := (hz 0 _ rfl).1
  have q1 := (hz 1 _ rfl).1
  have q2 := (hz 2 _ rfl).1
  have hbf := ((HB2.out.setCell (p := ⟨gr, 0, none⟩) HGE.out (.slice none 0 0)).setCell (p := ⟨gr, 1, none⟩) HGE.out (.slice none 0 0)).setCell (p := ⟨gr, 2, none⟩) HGE.out (.slice none 0 0)
  refine bodyPost_ret (v := .tuple #[.agg #[.slice none 0 0, .slice none 0 0, .slice none 0 0], errV ve1]) (by simp [results, Tryz.results21, go_sem, q0, q1, q2, errV, HZ.out]) rfl ⟨noBat, by rw [HRe.out]; rfl, noBat_is _, by rw [HRe.out]; rfl, by rw [HRe.out]; rfl, by rw [HRe.out]; rfl, hbf⟩
end Go.Proofs.YtlpkpfpmcppciaaGreatDoor
end
