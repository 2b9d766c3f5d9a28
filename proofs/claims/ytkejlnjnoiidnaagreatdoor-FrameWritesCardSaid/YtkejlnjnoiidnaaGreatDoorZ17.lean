/- Frame of the reference says what frameOf says. Printed by gen_rframe.py out of rframe.src.

How the arguments of a law are opened: slices of structs, strings and numbers, and structs by value, as lists and tuples of mine. Any program.

Entries and ids as arguments.

Batches and writes as arguments.

Arguments opened with the form's own reach: no string and no slice of more than 2^47 bytes. Any program.

Slices of entries as arguments, with what they have room for.

Batches as arguments, with what their vectors have room for.

The law's own function big: how much a batch has.

The law FrameWrites returns true and changes nothing. -/
import Derived.Test.YtkejlnjnoiidnaaGreatDoorZ13
import Derived.Test.YtkejlnjnoiidnaaGreatDoorZ16
import Derived.Test.YtkejlnjnoiidnaaGreatDoorZ1
import Derived.ProofKit
import Derived.OpenShut
import Derived.Deep.Slices
import Derived.Deep.Fields
import Derived.Test.YtkejlnjnoiidnaaGreatDoorZ2
import Derived.Test.YtkejlnjnoiidnaaGreatDoorRows
import Derived.KernelRfl
import Derived.Test.YtkejlnjnoiidnaaGreatDoorZ8
import Derived.SizedLaws
section
namespace Go.Proofs.YtkejlnjnoiidnaaGreatDoor
set_option linter.unusedSimpArgs false
set_option linter.unusedVariables false
open Go.RowKit As Tokens
theorem pt1 : ((⟨#[80, 84, 3]⟩ : ByteArray) ++ ⟨#[1]⟩) = ⟨#[80, 84, 3, 1]⟩ := rfl
theorem pt0 : ((⟨#[80, 84, 3]⟩ : ByteArray) ++ ⟨#[0]⟩) = ⟨#[80, 84, 3, 0]⟩ := rfl
theorem Two.set2 {w : World} {F : Nat} {a b : Int} (h : Two w F a b) (x y : Int) : Two ((w.setCell ⟨F, 0, none⟩ (.int .i64 x)).setCell ⟨F, 1, none⟩ (.int .i64 y)) F x y :=
  ⟨by rw [World.cell?_setCell_other _ _ _ _ (by simp)]; exact World.cell?_setCell_same _ _ _ h.c0, World.cell?_setCell_same _ _ _ (by rw [World.cell?_setCell_other _ _ _ _ (by simp)]; exact h.c1), by simpa using h.f0, by simpa using h.f1⟩
theorem Two.oth2 {w : World} {F G : Nat} {a b : Int} (h : Two w G a b) (hn : F ≠ G) (x y : Int) : Two ((w.setCell ⟨F, 0, none⟩ (.int .i64 x)).setCell ⟨F, 1, none⟩ (.int .i64 y)) G a b :=
  ⟨by rw [World.cell?_setCell_other _ _ _ _ (by intro h; injection h with h1 h2; first | exact hn h1 | exact hn h1.symm), World.cell?_setCell_other _ _ _ _ (by intro h; injection h with h1 h2; first | exact hn h1 | exact hn h1.symm)]; exact h.c0, by rw [World.cell?_setCell_other _ _ _ _ (by intro h; injection h with h1 h2; first | exact hn h1 | exact hn h1.symm), World.cell?_setCell_other _ _ _ _ (by intro h; injection h with h1 h2; first | exact hn h1 | exact hn h1.symm)]; exact h.c1, by simpa using h.f0, by simpa using h.f1⟩
def frV (h : ByteArray) (n : Nat) (q : ByteArray) (p : Int) (g : Unit) : Nat → Value
  | 0 => .string ⟨(vput n).toArray⟩
  | 1 => .string (h ++ ⟨(vput n).toArray⟩)
  | 2 => .string q
  | 3 => .string ((h ++ ⟨(vput n).toArray⟩) ++ q)
  | 4 => .string (sealOf ((h ++ ⟨(vput n).toArray⟩) ++ q))
  | 5 => .agg #[.int .i64 0, .int .i64 p]
  | 6 => .string (sealOf ((h ++ ⟨(vput n).toArray⟩) ++ q))
  | _ => undef
set_option maxHeartbeats 4000000 in
set_option maxRecDepth 100000 in
theorem rframe_any (w : World) (x : BatArg) (hb : Bat w x) (hf : ∀ y ∈ x.f, entFits y) (hh : ∀ y ∈ x.h, entFits y) :
    Calls Tryz.prog 14 #[x.v] w fun e w' => e = .returned (.tuple #[.string (frameOf (bwrite x.f x.h x.l)).1, faultV (frameOf (bwrite x.f x.h x.l)).2]) ∧ Below w.heap.size w w' := by
  have hbx := BxAt.new w x
  have b0 := below1 w (.cells #[.slice x.A x.n x.c, .slice x.A' x.n' x.c', .slice x.A'' x.n'' x.c''] 25)
  have hT0 := Two.new (w.alloc (.cells #[.slice x.A x.n x.c, .slice x.A' x.n' x.c', .slice x.A'' x.n'' x.c''] 25)) 0 0 29
  simp only [World.size_alloc] at hT0
  have bF := below1 (w.alloc (.cells #[.slice x.A x.n x.c, .slice x.A' x.n' x.c', .slice x.A'' x.n'' x.c''] 25)) (.cells #[.int .i64 0, .int .i64 0] 29)
  have hb0 := (hb.grow b0).grow bF
  have b1 := b0.trans (bF.mono b0.size)
  obtain ⟨⟨t, e, p⟩, hbw⟩ : ∃ z, bwrite x.f x.h x.l = z := ⟨_, rfl⟩
  obtain ⟨ht, hp⟩ := bwrite_size hbw
  have HBW := Lib.hid hbw
  rw [hbw]
  clear hbw
  have hbx2 := hbx.below bF
  have q0 := hbx2.c0
  have q1 := hbx2.c1
  have q2 := hbx2.c2
  unfold BatArg.v
  go_enter Tryz.func14, Tryz.ntmps14
  go_wp2_with fail
  refine (rbody_any _ x hb0 hf hh).mono ?_
  rintro r w1 ⟨rfl, hb1⟩
  rw [HBW.out]
  unfold faultV
  simp only
  have b2 := b1.trans (hb1.mono b1.size)
  have bG := below1 w1 (.cells #[.int .i64 e, .int .i64 p] 29)
  have hG := Two.new w1 e p 29
  have F1 := (hT0.below hb1).below bG
  have b3 := b2.trans (bG.mono b2.size)
  have nFG : w.heap.size + 1 ≠ w1.heap.size := by have := cell_lt (hT0.below hb1).c0; simp only at this; omega
  have lF : w.heap.size ≤ w.heap.size + 1 := by omega
  generalize w.heap.size + 1 = F at *
  go_wp2_with fail
  refine (is_any (e, p) _).mono ?_
  rintro r w2 ⟨rfl, hb2⟩
  have F2 := F1.below hb2
  have G2 := hG.below hb2
  have b4 := b3.trans (hb2.mono b3.size)
  generalize w1.heap.size = G at *
  clear hT0 hbx hbx2 q0 q1 q2 bF b0 hb0 b1 hb1 b2 bG hG F1 b3 hb2
  by_cases he : e = 0
  · subst he
    have HSQ := Lib.hid (squeeze_right ht)
    have hr := Lib.hid (frame_good (t := t) (p := p))
    have e1 : (((0, p) : Int × Int).1 == 0) = true := rfl
    rw [e1]
    go_wp2_with fail
    refine (rsqueeze_any t _ (by omega)).mono ?_
    rintro r w3 ⟨rfl, hb3⟩
    rw [HSQ.out]
    unfold faultV
    simp only
    have b5 := b4.trans (hb3.mono b4.size)
    have bH := below1 w3 (.cells #[.int .i64 0, .int .i64 (-1)] 29)
    have b6 := b5.trans (bH.mono b5.size)
    have F3 := (F2.below hb3).below bH
    have G3 := (G2.below hb3).below bH
    have wS : IntKind.u64.wrap (t.size : Int) = (t.size : Int) := by rw [IntKind.wrap_u64]; omega
    have hvs := fr_size ht
    generalize hq : (squeezeOf t).1 = q at *
    have HQ := Lib.hid hq
    clear hq b4 b5 hb3 bH F2 G2
    go_wp2_with fail
    refine (rvary_any t.size _ (by omega)).mono ?_
    rintro r w4 ⟨rfl, hb4⟩
    have b7 := b6.trans (hb4.mono b6.size)
    have F4 := F3.below hb4
    have G4 := G3.below hb4
    clear b6 hb4 F3 G3
    by_cases hlt : q.size < t.size
    · have d1 : decide ((q.size : Int) < (t.size : Int)) = true := by simp only [decide_eq_true_eq]; omega
      have d1' : decide (q.size < t.size) = true := by simpa using hlt
      have HT := Lib.hid (frText_less (by rw [HQ.out]; exact hlt))
      have hv10 : (vput t.size).length ≤ 10 := vput_len10 (by omega)
      have k1 : ¬ 9223372036854775807 < 4 + (vput t.size).length := by omega
      have k2 : ¬ 9223372036854775807 < 4 + (vput t.size).length + q.size := by omega
      have k3 : (((⟨#[80, 84, 3, 1]⟩ : ByteArray) ++ ⟨(vput t.size).toArray⟩) ++ q).size ≤ 1000000 := by rw [ByteArray.size_append, ByteArray.size_append]; show 4 + _ + _ ≤ _; omega
      clear hlt
      go_wp2_with fail
      refine Flow.wp_region_go (by kernel_rfl) (by kernel_rfl) (by kernel_rfl) 44 rfl (by kernel_rfl) (frV ⟨#[80, 84, 3, 1]⟩ t.size q p) (fun _ L wz => Below w.heap.size w wz ∧ Two wz F 0 (cond (L 7) p 0) ∧ Two wz G 0 p) (fun _ _ => False) (()) (⟨b7.drew, F4.below (Below.refl _ _).drew, G4.below (Below.refl _ _).drew⟩) ⟨?_, ?_, ?_, ?_, ?_, ?_, ?_, ?_, trivial⟩ ?_ ?_
      · intro g L wz K ρ hc0 hf0 hF hO hU hcl hi hd hC hK
        have e8 : ρ (.tmp 8) = .string ⟨(vput t.size).toArray⟩ := hO 8 (by kernel_rfl)
        simp [go_sem, Flow.ylP_value, Flow.ylP_skip, Flow.ylP_enter, Flow.ylP_panic, hc0, hf0, e8]
        exact hK g wz hC (fun _ _ => rfl)
      · intro g L wz K ρ hc0 hf0 hF hO hU hcl hi hd hC hK
        have d0 : L 0 = true := hd ⟨0, .data⟩ (by simp) rfl
        have e32 : ρ (.tmp 32) = .string ⟨(vput t.size).toArray⟩ := hF 32 0 (by kernel_rfl) d0
        simp [go_sem, Flow.ylP_value, Flow.ylP_skip, Flow.ylP_enter, Flow.ylP_panic, hc0, hf0, e32, k1]
        exact hK g wz hC (fun _ _ => rfl)
      · intro g L wz K ρ hc0 hf0 hF hO hU hcl hi hd hC hK
        have e6 : ρ (.tmp 6) = .string q := hO 6 (by kernel_rfl)
        simp [go_sem, Flow.ylP_value, Flow.ylP_skip, Flow.ylP_enter, Flow.ylP_panic, hc0, hf0, e6]
        exact hK g wz hC (fun _ _ => rfl)
      · intro g L wz K ρ hc0 hf0 hF hO hU hcl hi hd hC hK
        have d1 : L 1 = true := hd ⟨1, .data⟩ (by simp) rfl
        have e33 : ρ (.tmp 33) = .string ((⟨#[80, 84, 3, 1]⟩ : ByteArray) ++ ⟨(vput t.size).toArray⟩) := hF 33 1 (by kernel_rfl) d1
        have d2 : L 2 = true := hd ⟨2, .data⟩ (by simp) rfl
        have e34 : ρ (.tmp 34) = .string q := hF 34 2 (by kernel_rfl) d2
        simp [go_sem, Flow.ylP_value, Flow.ylP_skip, Flow.ylP_enter, Flow.ylP_panic, hc0, hf0, e33, e34, k2]
        exact hK g wz hC (fun _ _ => rfl)
      · intro g L wz K ρ hc0 hf0 hF hO hU hcl hi hd hC hK
        have d3 : L 3 = true := hd ⟨3, .data⟩ (by simp) rfl
        have e35 : ρ (.tmp 35) = .string (((⟨#[80, 84, 3, 1]⟩ : ByteArray) ++ ⟨(vput t.size).toArray⟩) ++ q) := hF 35 3 (by kernel_rfl) d3
        simp [go_sem, Flow.ylP_value, Flow.ylP_skip, Flow.ylP_enter, Flow.ylP_panic, hc0, hf0, e35]
        refine (rseal_any _ wz k3).mono ?_
        rintro r wn ⟨rfl, hbn⟩
        exact ⟨_, rfl, hK () wn ⟨hC.1.trans (hbn.mono hC.1.size), hC.2.1.below hbn, hC.2.2.below hbn⟩ (by intro j hj; unfold frV; split <;> first | rfl | (rw [hi] at hj; cases hj) | (have hz := hcl _ 4 (by kernel_rfl) hj; rw [hi] at hz; cases hz))⟩
      · intro g L wz K ρ hc0 hf0 hF hO hU hcl hi hd hC hK
        have e5 : ρ (.tmp 5) = .pointer (some ⟨G, 0, none⟩) := hO 5 (by kernel_rfl)
        have a0 := hC.2.2.c0
        have a1 := hC.2.2.c1
        simp [go_sem, Flow.ylP_value, Flow.ylP_skip, Flow.ylP_enter, Flow.ylP_panic, hc0, hf0, e5, a0, a1]
        exact hK () wz hC (fun _ _ => rfl)
      · intro g L wz K ρ hc0 hf0 hF hO hU hcl hi hd hC hK
        have d4 : L 4 = true := hd ⟨4, .data⟩ (by simp) rfl
        have e36 : ρ (.tmp 36) = .string (sealOf (((⟨#[80, 84, 3, 1]⟩ : ByteArray) ++ ⟨(vput t.size).toArray⟩) ++ q)) := hF 36 4 (by kernel_rfl) d4
        simp [go_sem, Flow.ylP_value, Flow.ylP_skip, Flow.ylP_enter, Flow.ylP_panic, hc0, hf0, e36]
        exact hK g wz hC (fun _ _ => rfl)
      · intro g L wz K ρ hc0 hf0 hF hO hU hcl hi hd hC hK
        have e3 : ρ (.tmp 3) = .pointer (some ⟨F, 0, none⟩) := hO 3 (by kernel_rfl)
        have d5 : L 5 = true := hd ⟨5, .data⟩ (by simp) rfl
        have e37 : ρ (.tmp 37) = .agg #[.int .i64 0, .int .i64 p] := hF 37 5 (by kernel_rfl) d5
        rw [hi] at hC
        obtain ⟨hb0, hF0, hG0⟩ := hC
        have a0 := hF0.c0
        have a1 : (wz.setCell ⟨F, 0, none⟩ (.int .i64 0)).cell? ⟨F, 1, none⟩ = some (.int .i64 0) := by rw [World.cell?_setCell_other _ _ _ _ (by simp)]; exact hF0.c1
        have g0 := hF0.f0
        have g1 := hF0.f1
        simp [go_sem, Flow.ylP_value, Flow.ylP_skip, Flow.ylP_enter, Flow.ylP_panic, hc0, hf0, e3, e37, a0, a1, g0, g1]
        exact hK () _ ⟨(hb0.setCell (p := ⟨F, 0, none⟩) lF _).setCell (p := ⟨F, 1, none⟩) lF _, hF0.set2 0 p, hG0.oth2 nFG 0 p⟩ (fun _ _ => rfl)
      · intro g L ch wz h; exact h.elim
      · intro g L wz hL hC
        rw [hL 7 (by decide)] at hC
        obtain ⟨hb9, hF9, _⟩ := hC
        have z0 := hF9.c0
        have z1 : wz.cell? ⟨F, 1, none⟩ = some (.int .i64 p) := hF9.c1
        simp only [Flow.putAll, frV]
        go_wp2
        exact bodyPost_ret (v := .tuple #[.string (sealOf (((⟨#[80, 84, 3, 1]⟩ : ByteArray) ++ ⟨(vput t.size).toArray⟩) ++ q)), .agg #[.int .i64 0, .int .i64 p]]) (by simp [results, Tryz.results14, go_sem, z0, z1]) rfl ⟨by rw [hr.out, HT.out, HQ.out, pt1]; rfl, hb9⟩
    · have d1 : decide ((q.size : Int) < (t.size : Int)) = false := by simp only [decide_eq_false_iff_not]; omega
      have d1' : decide (q.size < t.size) = false := by simpa using hlt
      have HT := Lib.hid (frText_more (by rw [HQ.out]; exact hlt))
      have hv10 : (vput t.size).length ≤ 10 := vput_len10 (by omega)
      have k1 : ¬ 9223372036854775807 < 4 + (vput t.size).length := by omega
      have k2 : ¬ 9223372036854775807 < 4 + (vput t.size).length + t.size := by omega
      have k3 : (((⟨#[80, 84, 3, 0]⟩ : ByteArray) ++ ⟨(vput t.size).toArray⟩) ++ t).size ≤ 1000000 := by rw [ByteArray.size_append, ByteArray.size_append]; show 4 + _ + _ ≤ _; omega
      clear hlt
      go_wp2_with fail
      refine Flow.wp_region_go (by kernel_rfl) (by kernel_rfl) (by kernel_rfl) 44 rfl (by kernel_rfl) (frV ⟨#[80, 84, 3, 0]⟩ t.size t p) (fun _ L wz => Below w.heap.size w wz ∧ Two wz F 0 (cond (L 7) p 0) ∧ Two wz G 0 p) (fun _ _ => False) (()) (⟨b7.drew, F4.below (Below.refl _ _).drew, G4.below (Below.refl _ _).drew⟩) ⟨?_, ?_, ?_, ?_, ?_, ?_, ?_, ?_, trivial⟩ ?_ ?_
      · intro g L wz K ρ hc0 hf0 hF hO hU hcl hi hd hC hK
        have e8 : ρ (.tmp 8) = .string ⟨(vput t.size).toArray⟩ := hO 8 (by kernel_rfl)
        simp [go_sem, Flow.ylP_value, Flow.ylP_skip, Flow.ylP_enter, Flow.ylP_panic, hc0, hf0, e8]
        exact hK g wz hC (fun _ _ => rfl)
      · intro g L wz K ρ hc0 hf0 hF hO hU hcl hi hd hC hK
        have d0 : L 0 = true := hd ⟨0, .data⟩ (by simp) rfl
        have e38 : ρ (.tmp 38) = .string ⟨(vput t.size).toArray⟩ := hF 38 0 (by kernel_rfl) d0
        simp [go_sem, Flow.ylP_value, Flow.ylP_skip, Flow.ylP_enter, Flow.ylP_panic, hc0, hf0, e38, k1]
        exact hK g wz hC (fun _ _ => rfl)
      · intro g L wz K ρ hc0 hf0 hF hO hU hcl hi hd hC hK
        have e4 : ρ (.tmp 4) = .string t := hO 4 (by kernel_rfl)
        simp [go_sem, Flow.ylP_value, Flow.ylP_skip, Flow.ylP_enter, Flow.ylP_panic, hc0, hf0, e4]
        exact hK g wz hC (fun _ _ => rfl)
      · intro g L wz K ρ hc0 hf0 hF hO hU hcl hi hd hC hK
        have d1 : L 1 = true := hd ⟨1, .data⟩ (by simp) rfl
        have e39 : ρ (.tmp 39) = .string ((⟨#[80, 84, 3, 0]⟩ : ByteArray) ++ ⟨(vput t.size).toArray⟩) := hF 39 1 (by kernel_rfl) d1
        have d2 : L 2 = true := hd ⟨2, .data⟩ (by simp) rfl
        have e40 : ρ (.tmp 40) = .string t := hF 40 2 (by kernel_rfl) d2
        simp [go_sem, Flow.ylP_value, Flow.ylP_skip, Flow.ylP_enter, Flow.ylP_panic, hc0, hf0, e39, e40, k2]
        exact hK g wz hC (fun _ _ => rfl)
      · intro g L wz K ρ hc0 hf0 hF hO hU hcl hi hd hC hK
        have d3 : L 3 = true := hd ⟨3, .data⟩ (by simp) rfl
        have e41 : ρ (.tmp 41) = .string (((⟨#[80, 84, 3, 0]⟩ : ByteArray) ++ ⟨(vput t.size).toArray⟩) ++ t) := hF 41 3 (by kernel_rfl) d3
        simp [go_sem, Flow.ylP_value, Flow.ylP_skip, Flow.ylP_enter, Flow.ylP_panic, hc0, hf0, e41]
        refine (rseal_any _ wz k3).mono ?_
        rintro r wn ⟨rfl, hbn⟩
        exact ⟨_, rfl, hK () wn ⟨hC.1.trans (hbn.mono hC.1.size), hC.2.1.below hbn, hC.2.2.below hbn⟩ (by intro j hj; unfold frV; split <;> first | rfl | (rw [hi] at hj; cases hj) | (have hz := hcl _ 4 (by kernel_rfl) hj; rw [hi] at hz; cases hz))⟩
      · intro g L wz K ρ hc0 hf0 hF hO hU hcl hi hd hC hK
        have e5 : ρ (.tmp 5) = .pointer (some ⟨G, 0, none⟩) := hO 5 (by kernel_rfl)
        have a0 := hC.2.2.c0
        have a1 := hC.2.2.c1
        simp [go_sem, Flow.ylP_value, Flow.ylP_skip, Flow.ylP_enter, Flow.ylP_panic, hc0, hf0, e5, a0, a1]
        exact hK () wz hC (fun _ _ => rfl)
      · intro g L wz K ρ hc0 hf0 hF hO hU hcl hi hd hC hK
        have d4 : L 4 = true := hd ⟨4, .data⟩ (by simp) rfl
        have e42 : ρ (.tmp 42) = .string (sealOf (((⟨#[80, 84, 3, 0]⟩ : ByteArray) ++ ⟨(vput t.size).toArray⟩) ++ t)) := hF 42 4 (by kernel_rfl) d4
        simp [go_sem, Flow.ylP_value, Flow.ylP_skip, Flow.ylP_enter, Flow.ylP_panic, hc0, hf0, e42]
        exact hK g wz hC (fun _ _ => rfl)
      · intro g L wz K ρ hc0 hf0 hF hO hU hcl hi hd hC hK
        have e3 : ρ (.tmp 3) = .pointer (some ⟨F, 0, none⟩) := hO 3 (by kernel_rfl)
        have d5 : L 5 = true := hd ⟨5, .data⟩ (by simp) rfl
        have e43 : ρ (.tmp 43) = .agg #[.int .i64 0, .int .i64 p] := hF 43 5 (by kernel_rfl) d5
        rw [hi] at hC
        obtain ⟨hb0, hF0, hG0⟩ := hC
        have a0 := hF0.c0
        have a1 : (wz.setCell ⟨F, 0, none⟩ (.int .i64 0)).cell? ⟨F, 1, none⟩ = some (.int .i64 0) := by rw [World.cell?_setCell_other _ _ _ _ (by simp)]; exact hF0.c1
        have g0 := hF0.f0
        have g1 := hF0.f1
        simp [go_sem, Flow.ylP_value, Flow.ylP_skip, Flow.ylP_enter, Flow.ylP_panic, hc0, hf0, e3, e43, a0, a1, g0, g1]
        exact hK () _ ⟨(hb0.setCell (p := ⟨F, 0, none⟩) lF _).setCell (p := ⟨F, 1, none⟩) lF _, hF0.set2 0 p, hG0.oth2 nFG 0 p⟩ (fun _ _ => rfl)
      · intro g L ch wz h; exact h.elim
      · intro g L wz hL hC
        rw [hL 7 (by decide)] at hC
        obtain ⟨hb9, hF9, _⟩ := hC
        have z0 := hF9.c0
        have z1 : wz.cell? ⟨F, 1, none⟩ = some (.int .i64 p) := hF9.c1
        simp only [Flow.putAll, frV]
        go_wp2
        exact bodyPost_ret (v := .tuple #[.string (sealOf (((⟨#[80, 84, 3, 0]⟩ : ByteArray) ++ ⟨(vput t.size).toArray⟩) ++ t)), .agg #[.int .i64 0, .int .i64 p]]) (by simp [results, Tryz.results14, go_sem, z0, z1]) rfl ⟨by rw [hr.out, HT.out, pt0]; rfl, hb9⟩
  · have hr := Lib.hid (frame_bad (t := t) (p := p) he)
    have e1 : (((e, p) : Int × Int).1 == 0) = false := beq_eq_false_iff_ne.2 he
    rw [e1]
    obtain ⟨c0, c1, f0, f1⟩ := F2
    obtain ⟨d0, d1, g0, g1⟩ := G2
    go_wp2_with fail
    go_region
    have S := set2 (.int .i64 e) (.int .i64 p) c0 c1
    go_wp2
    exact bodyPost_ret (v := .tuple #[.string ⟨#[]⟩, .agg #[.int .i64 e, .int .i64 p]]) (by simp [results, Tryz.results14, go_sem, S.1, S.2]) rfl ⟨by rw [hr.out]; rfl, (below_set2 _ _ b4 lF).drew⟩
end Go.Proofs.YtkejlnjnoiidnaaGreatDoor
end

section
namespace Go.Proofs.YtkejlnjnoiidnaaGreatDoor
open Go.ChangeShapes Go.WideShapes Go.ChangeAt Go.RowKit
open Go.ChangeMaps (open_string)
section
variable {H : Type} {enc : TypeId × Value → H} {P : Program} {w : World} {base : Nat} {spare : Nat → Bool} {held : Bool}

/-- A slice whose elements' cells are k each: every element's cells are those of an x of mine. -/
theorem open_cells {α : Type} (f : α → List Value) (k : Nat) (hk0 : 0 < k) (hf : ∀ x, (f x).length = k) (ok : α → Prop) {t e fuel : Nat} {cs : List Value} {y : DataW H × List MemPlace}
    (ht : P.underlying t = some (.slice e)) (hk : P.cellsOf e = k)
    (helem : ∀ (cs : List Value) (m : Nat) (y : DataW H × List MemPlace), DataW.trod enc P w base spare held m e cs = some y → ∃ x, cs = f x ∧ ok x)
    (hfu : DataW.trod enc P w base spare held fuel t cs = some y) :
    ∃ (A : Option Addr) (n c : Nat) (l : List α), cs = [.slice A n c] ∧ n ≤ maxLen ∧ l.length = n ∧ Sl w w.heap.size k A n (l.flatMap f) ∧ ∀ x ∈ l, ok x := by
  rcases Go.Deep.open_slice ht hfu with ⟨hcs, _⟩ | ⟨a, n, c, m, n', D, Pl, hcs, _, hl, hm, hmm, _, hi⟩
  · exact ⟨none, 0, 0, [], hcs, Nat.zero_le _, rfl, Sl.nil, fun x hx => by simp at hx⟩
  · have hlm : n ≤ m := by rw [hmm]; split <;> omega
    obtain ⟨l, hll, hP⟩ := exists_list n (fun i x => (∀ j, j < k → w.cell? (a.add (i * k + j)) = (f x)[j]?) ∧ ok x) (fun i him => by
      obtain ⟨cs', hc, ht'⟩ := hi i (by omega)
      obtain ⟨x, rfl, hx⟩ := helem cs' n' _ ht'
      obtain ⟨_, hcl, hat⟩ := World.cells?_some hc
      rw [hk] at hat
      exact ⟨x, fun j hj => by rw [← Go.Deep.add_add]; exact hat j hj, hx⟩)
    refine ⟨some a, n, c, l, hcs, Nat.le_trans hl hm, hll, ⟨by rw [flat_len f k hf, hll], fun hn => ?_⟩, fun x hx => ?_⟩
    · have h0 := (hP 0 _ (List.getElem?_eq_getElem (by omega : 0 < l.length))).1 0 hk0
      rw [List.getElem?_eq_getElem (by rw [hf]; exact hk0)] at h0
      have hspot := World.cell?_spot h0
      obtain ⟨b, o, sp⟩ := a
      have hsp : sp = none := by simpa [Addr.add] using hspot
      subst hsp
      have hadd : ∀ j, (⟨b, o, none⟩ : Addr).add j = ⟨b, o + j, none⟩ := fun j => by unfold Addr.add; split <;> simp_all
      refine ⟨b, o, rfl, ?_, fun j u hu => ?_⟩
      · have := cell_lt h0
        rw [hadd] at this
        exact this
      · obtain ⟨i, j', x, rfl, hj', hx, hu'⟩ := flat_at f k hf l j u hu
        have := (hP i x hx).1 j' hj'
        rw [hadd] at this
        rw [this, hu']
    · obtain ⟨i, hi', rfl⟩ := List.mem_iff_getElem.1 hx
      exact (hP i _ (List.getElem?_eq_getElem hi')).2
theorem open_elems {α : Type} (f : α → List Value) (k : Nat) (hk0 : 0 < k) (hf : ∀ x, (f x).length = k) (ok : α → Prop) {r : Reach} {b0 : Nat} {t e : TypeId} {v : Value} {d : DataW H} {p : List MemPlace}
    (ht : P.underlying t = some (.slice e)) (hk : P.cellsOf e = k)
    (helem : ∀ (cs : List Value) (m : Nat) (y : DataW H × List MemPlace), DataW.trod enc P w base spare held m e cs = some y → ∃ x, cs = f x ∧ ok x)
    (hv : Value.okWide P w r b0 t v) (h : DataW.Trod enc P w base spare held t v d p) :
    ∃ (A : Option Addr) (n c : Nat) (l : List α), v = .slice A n c ∧ n ≤ maxLen ∧ l.length = n ∧ Sl w w.heap.size k A n (l.flatMap f) ∧ ∀ x ∈ l, ok x := by
  obtain ⟨A, n, c, rfl⟩ := okWide_slice ht hv
  obtain ⟨fuel, hfu⟩ := h
  obtain ⟨A', n', c', l, hcs, r⟩ := open_cells f k hk0 hf ok ht hk helem hfu
  simp [Value.cells] at hcs
  obtain ⟨rfl, rfl, rfl⟩ := hcs
  exact ⟨A, n, c, l, rfl, r⟩

/-- A struct's field of one cell. -/
theorem field1 {fs : Array Field} {cs : List Value} {xs : List (DataW H × List MemPlace)} {m : Nat} (hlen : xs.length = fs.size)
    (hg : ∀ (i : Nat) (f : Field), fs[i]? = some f → DataW.trod enc P w base spare held m f.type ((cs.drop f.offset).take (P.cellsOf f.type)) = xs[i]?) (i : Nat) (f : Field) (hf : fs[i]? = some f) :
    ∃ y, DataW.trod enc P w base spare held m f.type ((cs.drop f.offset).take (P.cellsOf f.type)) = some y := by
  have hi : i < xs.length := by rw [hlen]; exact (Array.getElem?_eq_some_iff.1 hf).1
  exact ⟨xs[i], by rw [hg i f hf, List.getElem?_eq_getElem hi]⟩
theorem take1 {cs : List Value} {o : Nat} {v : Value} (h : (cs.drop o).take 1 = [v]) : cs[o]? = some v := by
  have e : ((cs.drop o).take 1)[0]? = some v := by rw [h]; rfl
  rw [List.getElem?_take_of_lt (by omega), List.getElem?_drop] at e
  simpa using e
/-- What a struct's reading says of all its fields. -/
def Fielded (P : Program) (w : World) (base : Nat) (spare : Nat → Bool) (held : Bool) (enc : TypeId × Value → H) (fs : Array Field) (cs : List Value) : Prop :=
  ∃ m, ∀ (i : Nat) (f : Field), fs[i]? = some f → ∃ y, DataW.trod enc P w base spare held m f.type ((cs.drop f.offset).take (P.cellsOf f.type)) = some y
theorem fielded {t : TypeId} {fs : Array Field} {m : Nat} {cs : List Value} {x : DataW H × List MemPlace} (ht : P.underlying t = some (.struct fs)) (h : DataW.trod enc P w base spare held m t cs = some x) :
    cs.length = P.cellsOf t ∧ Fielded P w base spare held enc fs cs := by
  obtain ⟨xs, n, _, _, hcl, hlen, hg⟩ := DataW.trod_struct ht h
  exact ⟨hcl, n, fun i f hf => field1 hlen hg i f hf⟩
theorem field_sub {fs : Array Field} {cs : List Value} (h : Fielded P w base spare held enc fs cs) (i o T k : Nat) {f : Field} (hf : fs[i]? = some f) (hT : f.type = T) (ho : f.offset = o) (hc : P.cellsOf T = k) :
    ∃ m y, DataW.trod enc P w base spare held m T ((cs.drop o).take k) = some y := by
  obtain ⟨m, hg⟩ := h
  obtain ⟨y, hy⟩ := hg i f hf
  subst hT ho hc
  exact ⟨m, y, hy⟩
theorem field_int {fs : Array Field} {cs : List Value} (h : Fielded P w base spare held enc fs cs) (i o T : Nat) {f : Field} {k : IntKind} (hf : fs[i]? = some f) (hT : f.type = T) (ho : f.offset = o) (hu : P.underlying T = some (.int k)) (hc : P.cellsOf T = 1) :
    ∃ n, cs[o]? = some (.int k n) ∧ (Lit.int k n).wf = true := by
  obtain ⟨m, y, hy⟩ := field_sub h i o T 1 hf hT ho hc
  obtain ⟨n, e, _, wn⟩ := DataW.trod_int hu hy
  exact ⟨n, take1 e, wn⟩
theorem field_bool {fs : Array Field} {cs : List Value} (h : Fielded P w base spare held enc fs cs) (i o T : Nat) {f : Field} (hf : fs[i]? = some f) (hT : f.type = T) (ho : f.offset = o) (hu : P.underlying T = some .bool) (hc : P.cellsOf T = 1) :
    ∃ b, cs[o]? = some (.bool b) := by
  obtain ⟨m, y, hy⟩ := field_sub h i o T 1 hf hT ho hc
  obtain ⟨n, e, _⟩ := DataW.trod_bool hu hy
  exact ⟨n, take1 e⟩
theorem field_string {fs : Array Field} {cs : List Value} (h : Fielded P w base spare held enc fs cs) (i o T : Nat) {f : Field} (hf : fs[i]? = some f) (hT : f.type = T) (ho : f.offset = o) (hu : P.underlying T = some .string) (hc : P.cellsOf T = 1) :
    ∃ s : ByteArray, cs[o]? = some (.string s) ∧ s.size ≤ maxLen := by
  obtain ⟨m, y, hy⟩ := field_sub h i o T 1 hf hT ho hc
  obtain ⟨n, e, _, wn⟩ := DataW.trod_string hu hy
  exact ⟨n, take1 e, wn⟩
theorem str_eq (s : ByteArray) : (⟨s.data.toList.toArray⟩ : ByteArray) = s := by simp
end
end Go.Proofs.YtkejlnjnoiidnaaGreatDoor
end

section
namespace Go.Proofs.YtkejlnjnoiidnaaGreatDoor
set_option maxRecDepth 100000
open Go.ChangeShapes Go.WideShapes Go.ChangeAt Go.RowKit
section
variable {H : Type} {enc : TypeId × Value → H} {w : World} {base : Nat} {spare : Nat → Bool} {held : Bool}
theorem cellsEnt : Tryz.prog.cellsOf 79 = 2 := by kernel_rfl
theorem cellsInt : Tryz.prog.cellsOf 3 = 1 := by kernel_rfl
theorem open_ent (cs : List Value) (m : Nat) (y : DataW H × List MemPlace) (h : DataW.trod enc Tryz.prog w base spare held m 79 cs = some y) : ∃ x : Ent, cs = entCells x ∧ entFits x := by
  obtain ⟨hcl, hg⟩ := fielded Tryz.underlying79 h
  rw [cellsEnt] at hcl
  obtain ⟨r, g0, w0⟩ := field_int hg 0 0 3 rfl rfl rfl Tryz.underlying3 cellsInt
  obtain ⟨t, g1, w1⟩ := field_int hg 1 1 3 rfl rfl rfl Tryz.underlying3 cellsInt
  refine ⟨(r, t), ?_, bounds_i64 w0, bounds_i64 w1⟩
  match cs, hcl with
  | [a, b], _ =>
    simp at g0 g1
    subst g0 g1
    rfl
theorem open_ents {r : Reach} {b0 : Nat} {v : Value} {d : DataW H} {p : List MemPlace} (hv : Value.okWide Tryz.prog w r b0 22 v) (h : DataW.Trod enc Tryz.prog w base spare held 22 v d p) :
    ∃ a : EntArg, v = .slice a.A a.n a.c ∧ (Ents w w.heap.size a.A a.n a.l ∧ a.n ≤ maxLen) := by
  obtain ⟨A, n, c, l, rfl, hn, hl, hs, ho⟩ := open_elems entCells 2 (by omega) entCells_len entFits Tryz.underlying22 cellsEnt open_ent hv h
  exact ⟨⟨A, n, c, l⟩, rfl, ⟨hs, ho⟩, hn⟩
theorem open_id {r : Reach} {b0 : Nat} {v : Value} {d : DataW H} {p : List MemPlace} (hv : Value.okWide Tryz.prog w r b0 51 v) (h : DataW.Trod enc Tryz.prog w base spare held 51 v d p) :
    ∃ x : Ent, v = .agg #[.int .i64 x.1, .int .i64 x.2] ∧ entFits x := by
  obtain ⟨cs, rfl, hsz⟩ := okWide_struct Tryz.underlying51 hv
  obtain ⟨fuel, hf⟩ := h
  obtain ⟨_, hg⟩ := fielded Tryz.underlying51 hf
  obtain ⟨r, g0, w0⟩ := field_int hg 0 0 3 rfl rfl rfl Tryz.underlying3 cellsInt
  obtain ⟨t, g1, w1⟩ := field_int hg 1 1 3 rfl rfl rfl Tryz.underlying3 cellsInt
  refine ⟨(r, t), ?_, bounds_i64 w0, bounds_i64 w1⟩
  have hc : cs.size = 2 := hsz.trans (by kernel_rfl)
  obtain ⟨l⟩ := cs
  match l, hc with
  | [a, b], _ =>
    simp [Value.cells] at g0 g1
    subst g0 g1
    rfl
end
end Go.Proofs.YtkejlnjnoiidnaaGreatDoor
end

section
namespace Go.Proofs.YtkejlnjnoiidnaaGreatDoor
set_option maxRecDepth 100000
open Go.ChangeShapes Go.WideShapes Go.ChangeAt Go.RowKit
section
variable {H : Type} {enc : TypeId × Value → H} {w : World} {base : Nat} {spare : Nat → Bool} {held : Bool}
theorem cellsWr : Tryz.prog.cellsOf 53 = 6 := by kernel_rfl
theorem cellsIdT : Tryz.prog.cellsOf 51 = 2 := by kernel_rfl
theorem cellsStrT : Tryz.prog.cellsOf 9 = 1 := by kernel_rfl
theorem cellsEntsT : Tryz.prog.cellsOf 22 = 1 := by kernel_rfl
theorem cellsWrsT : Tryz.prog.cellsOf 23 = 1 := by kernel_rfl
theorem cellsBat : Tryz.prog.cellsOf 25 = 3 := by kernel_rfl
def i64Fits (n : Int) : Prop := -9223372036854775808 ≤ n ∧ n ≤ 9223372036854775807
def wrFits (x : Wr) : Prop := i64Fits x.1 ∧ i64Fits x.2.1 ∧ i64Fits x.2.2.1 ∧ x.2.2.2.1.size ≤ maxLen ∧ x.2.2.2.2.1.size ≤ maxLen ∧ i64Fits x.2.2.2.2.2
theorem six {cs : List Value} (h : cs.length = 6) {a b c d e f : Value} (h0 : cs[0]? = some a) (h1 : cs[1]? = some b) (h2 : cs[2]? = some c) (h3 : cs[3]? = some d) (h4 : cs[4]? = some e) (h5 : cs[5]? = some f) : cs = [a, b, c, d, e, f] := by
  match cs, h with
  | [_, _, _, _, _, _], _ =>
    simp at h0 h1 h2 h3 h4 h5
    subst h0 h1 h2 h3 h4 h5
    rfl
theorem open_wr (cs : List Value) (m : Nat) (y : DataW H × List MemPlace) (h : DataW.trod enc Tryz.prog w base spare held m 53 cs = some y) : ∃ x : Wr, cs = wrCells x ∧ wrFits x := by
  obtain ⟨hcl, hg⟩ := fielded Tryz.underlying53 h
  rw [cellsWr] at hcl
  obtain ⟨m', y', hid⟩ := field_sub hg 0 0 51 2 rfl rfl rfl cellsIdT
  obtain ⟨_, hgi⟩ := fielded Tryz.underlying51 hid
  obtain ⟨a, g0, w0⟩ := field_int hgi 0 0 3 rfl rfl rfl Tryz.underlying3 cellsInt
  obtain ⟨b, g1, w1⟩ := field_int hgi 1 1 3 rfl rfl rfl Tryz.underlying3 cellsInt
  obtain ⟨c, g2, w2⟩ := field_int hg 1 2 3 rfl rfl rfl Tryz.underlying3 cellsInt
  obtain ⟨d, g3, w3⟩ := field_string hg 2 3 9 rfl rfl rfl Tryz.underlying9 cellsStrT
  obtain ⟨e, g4, w4⟩ := field_string hg 3 4 9 rfl rfl rfl Tryz.underlying9 cellsStrT
  obtain ⟨f, g5, w5⟩ := field_int hg 4 5 3 rfl rfl rfl Tryz.underlying3 cellsInt
  rw [List.getElem?_take_of_lt (by omega), List.drop_zero] at g0 g1
  exact ⟨(a, b, c, d, e, f), six hcl g0 g1 g2 g3 g4 g5, bounds_i64 w0, bounds_i64 w1, bounds_i64 w2, w3, w4, bounds_i64 w5⟩
/-- What a batch among the arguments holds fits. -/
structure BatFits (b : BatArg) : Prop where
  f : ∀ x ∈ b.f, entFits x
  h : ∀ x ∈ b.h, entFits x
  l : ∀ x ∈ b.l, wrFits x
theorem open_bat {r : Reach} {b0 : Nat} {v : Value} {d : DataW H} {p : List MemPlace} (hv : Value.okWide Tryz.prog w r b0 25 v) (h : DataW.Trod enc Tryz.prog w base spare held 25 v d p) :
    ∃ b : BatArg, v = b.v ∧ (Bat w b ∧ BatFits b) := by
  obtain ⟨cs, rfl, hsz⟩ := okWide_struct Tryz.underlying25 hv
  obtain ⟨fuel, hf⟩ := h
  obtain ⟨hcl, hg⟩ := fielded Tryz.underlying25 hf
  rw [cellsBat] at hsz
  obtain ⟨m0, y0, t0⟩ := field_sub hg 0 0 22 1 rfl rfl rfl cellsEntsT
  obtain ⟨m1, y1, t1⟩ := field_sub hg 1 1 22 1 rfl rfl rfl cellsEntsT
  obtain ⟨m2, y2, t2⟩ := field_sub hg 2 2 23 1 rfl rfl rfl cellsWrsT
  obtain ⟨A, n, c, f, e0, a0, _, s0, f0⟩ := open_cells entCells 2 (by omega) entCells_len entFits Tryz.underlying22 cellsEnt open_ent t0
  obtain ⟨A', n', c', h, e1, a1, _, s1, f1⟩ := open_cells entCells 2 (by omega) entCells_len entFits Tryz.underlying22 cellsEnt open_ent t1
  obtain ⟨A'', n'', c'', l, e2, a2, _, s2, f2⟩ := open_cells wrCells 6 (by omega) (fun _ => rfl) wrFits Tryz.underlying23 cellsWr open_wr t2
  refine ⟨⟨A, n, c, A', n', c', A'', n'', c'', f, h, l⟩, ?_, ⟨s0, s1, s2, a0, a1, a2⟩, ⟨f0, f1, f2⟩⟩
  obtain ⟨l⟩ := cs
  match l, hsz with
  | [x, y, z], _ =>
    simp [Value.cells] at e0 e1 e2
    subst e0 e1 e2
    rfl
end
end Go.Proofs.YtkejlnjnoiidnaaGreatDoor
end

section
namespace Go.Proofs.YtkejlnjnoiidnaaGreatDoor
open Go.ChangeShapes Go.WideShapes Go.ChangeAt Go.RowKit
/-- The reach: 2^47 - 4096 bytes. -/
def Small {H : Type} (P : Program) (t : TypeId) (d : DataW H) : Prop := ∀ n ∈ d.weights P t, n ≤ 140737488351232
theorem small_each {H : Type} {P : Program} {ts : List TypeId} {ds : List (DataW H)} (h : (DataW.weightsEach P ts ds).all (· ≤ reachBytes) = true) {j : Nat} {t : TypeId} {d : DataW H} (ht : ts[j]? = some t) (hd : ds[j]? = some d) : Small P t d := by
  intro n hn
  have := List.all_eq_true.1 h _ (DataW.weights_mem_each ht hd n hn)
  have := of_decide_eq_true this
  unfold reachBytes at this
  omega
section
variable {H : Type} {enc : TypeId × Value → H} {P : Program} {w : World} {base : Nat} {spare : Nat → Bool} {held : Bool}
theorem weightsAll_mem {e : TypeId} : ∀ {l : List (DataW H)} {d : DataW H}, d ∈ l → ∀ n ∈ d.weights P e, n ∈ DataW.weightsAll P e l
  | x :: l, d, h, n, hn => by
    simp only [DataW.weightsAll, List.mem_append]
    rcases List.mem_cons.1 h with rfl | h
    · exact .inl hn
    · exact .inr (weightsAll_mem h n hn)
theorem small_elem {t e : TypeId} {elems sp : List (DataW H)} {d : DataW H} (ht : P.underlying t = some (.slice e)) (h : Small P t (.slice elems sp)) (hd : d ∈ elems ∨ d ∈ sp) : Small P e d := by
  intro n hn
  apply h
  simp only [DataW.weights, ht, List.mem_cons, List.mem_append]
  rcases hd with hd | hd
  · exact .inr (.inl (weightsAll_mem hd n hn))
  · exact .inr (.inr (weightsAll_mem hd n hn))
theorem small_len {t e : TypeId} {elems sp : List (DataW H)} (ht : P.underlying t = some (.slice e)) (h : Small P t (.slice elems sp)) : elems.length * P.bytesOf e ≤ 140737488351232 := by
  have := h ((elems.length + sp.length) * P.bytesOf e) (by simp only [DataW.weights, ht, List.mem_cons, true_or])
  refine Nat.le_trans (Nat.mul_le_mul_right _ (by omega)) this
theorem small_string {t : TypeId} {l : List UInt8} (h : Small (H := H) P t (.lit (.string l))) : l.length ≤ 140737488351232 := h _ (by simp [DataW.weights])
theorem str_small {t : TypeId} {s : ByteArray} (h : Small (H := H) P t (.lit (.string s.data.toList))) : s.size ≤ 140737488351232 := by
  have := small_string h
  simpa using this
theorem open_cells_r {α : Type} (f : α → List Value) (k : Nat) (hk0 : 0 < k) (hf : ∀ x, (f x).length = k) (ok : α → Prop) {t e fuel : Nat} {cs : List Value} {y : DataW H × List MemPlace} (by_ : Nat)
    (ht : P.underlying t = some (.slice e)) (hk : P.cellsOf e = k) (hby : P.bytesOf e = by_) (hsm : Small P t y.1)
    (helem : ∀ (cs : List Value) (m : Nat) (y : DataW H × List MemPlace), DataW.trod enc P w base spare held m e cs = some y → Small P e y.1 → ∃ x, cs = f x ∧ ok x)
    (hfu : DataW.trod enc P w base spare held fuel t cs = some y) :
    ∃ (A : Option Addr) (n c : Nat) (l : List α), cs = [.slice A n c] ∧ n * by_ ≤ 140737488351232 ∧ l.length = n ∧ Sl w w.heap.size k A n (l.flatMap f) ∧ ∀ x ∈ l, ok x := by
  rcases Go.Deep.open_slice ht hfu with ⟨hcs, _⟩ | ⟨a, n, c, m, n', D, Pl, hcs, _, hl, hm, hmm, hy, hi⟩
  · exact ⟨none, 0, 0, [], hcs, by simp, rfl, Sl.nil, fun x hx => by simp at hx⟩
  · have hlm : n ≤ m := by rw [hmm]; split <;> omega
    subst hy
    have hb := small_len ht hsm
    rw [List.length_map, List.length_range, hby] at hb
    obtain ⟨l, hll, hP⟩ := exists_list n (fun i x => (∀ j, j < k → w.cell? (a.add (i * k + j)) = (f x)[j]?) ∧ ok x) (fun i him => by
      obtain ⟨cs', hc, ht'⟩ := hi i (by omega)
      obtain ⟨x, rfl, hx⟩ := helem cs' n' _ ht' (small_elem ht hsm (.inl (List.mem_map.2 ⟨i, List.mem_range.2 him, rfl⟩)))
      obtain ⟨_, hcl, hat⟩ := World.cells?_some hc
      rw [hk] at hat
      exact ⟨x, fun j hj => by rw [← Go.Deep.add_add]; exact hat j hj, hx⟩)
    refine ⟨some a, n, c, l, hcs, hb, hll, ⟨by rw [flat_len f k hf, hll], fun hn => ?_⟩, fun x hx => ?_⟩
    · have h0 := (hP 0 _ (List.getElem?_eq_getElem (by omega : 0 < l.length))).1 0 hk0
      rw [List.getElem?_eq_getElem (by rw [hf]; exact hk0)] at h0
      have hspot := World.cell?_spot h0
      obtain ⟨b, o, sp⟩ := a
      have hsp : sp = none := by simpa [Addr.add] using hspot
      subst hsp
      have hadd : ∀ j, (⟨b, o, none⟩ : Addr).add j = ⟨b, o + j, none⟩ := fun j => by unfold Addr.add; split <;> simp_all
      refine ⟨b, o, rfl, ?_, fun j u hu => ?_⟩
      · have := cell_lt h0
        rw [hadd] at this
        exact this
      · obtain ⟨i, j', x, rfl, hj', hx, hu'⟩ := flat_at f k hf l j u hu
        have := (hP i x hx).1 j' hj'
        rw [hadd] at this
        rw [this, hu']
    · obtain ⟨i, hi', rfl⟩ := List.mem_iff_getElem.1 hx
      exact (hP i _ (List.getElem?_eq_getElem hi')).2
theorem open_elems_r {α : Type} (f : α → List Value) (k : Nat) (hk0 : 0 < k) (hf : ∀ x, (f x).length = k) (ok : α → Prop) {r : Reach} {b0 : Nat} {t e : TypeId} {v : Value} {d : DataW H} {p : List MemPlace} (by_ : Nat)
    (ht : P.underlying t = some (.slice e)) (hk : P.cellsOf e = k) (hby : P.bytesOf e = by_) (hsm : Small P t d)
    (helem : ∀ (cs : List Value) (m : Nat) (y : DataW H × List MemPlace), DataW.trod enc P w base spare held m e cs = some y → Small P e y.1 → ∃ x, cs = f x ∧ ok x)
    (hv : Value.okWide P w r b0 t v) (h : DataW.Trod enc P w base spare held t v d p) :
    ∃ (A : Option Addr) (n c : Nat) (l : List α), v = .slice A n c ∧ n * by_ ≤ 140737488351232 ∧ l.length = n ∧ Sl w w.heap.size k A n (l.flatMap f) ∧ ∀ x ∈ l, ok x := by
  obtain ⟨A, n, c, rfl⟩ := okWide_slice ht hv
  obtain ⟨fuel, hfu⟩ := h
  obtain ⟨A', n', c', l, hcs, r⟩ := open_cells_r f k hk0 hf ok by_ ht hk hby hsm helem hfu
  simp [Value.cells] at hcs
  obtain ⟨rfl, rfl, rfl⟩ := hcs
  exact ⟨A, n, c, l, rfl, r⟩
/-- What a struct's reading says of all its fields, with the reach. -/
def FieldedR (P : Program) (w : World) (base : Nat) (spare : Nat → Bool) (held : Bool) (enc : TypeId × Value → H) (fs : Array Field) (cs : List Value) : Prop :=
  ∃ m, ∀ (i : Nat) (f : Field), fs[i]? = some f → ∃ y, DataW.trod enc P w base spare held m f.type ((cs.drop f.offset).take (P.cellsOf f.type)) = some y ∧ Small P f.type y.1
theorem fielded_r {t : TypeId} {fs : Array Field} {m : Nat} {cs : List Value} {x : DataW H × List MemPlace} (ht : P.underlying t = some (.struct fs)) (h : DataW.trod enc P w base spare held m t cs = some x) (hsm : Small P t x.1) :
    cs.length = P.cellsOf t ∧ FieldedR P w base spare held enc fs cs := by
  obtain ⟨xs, n, _, rfl, hcl, hlen, hg⟩ := DataW.trod_struct ht h
  refine ⟨hcl, n, fun i f hf => ?_⟩
  obtain ⟨y, hy⟩ := field1 hlen hg i f hf
  refine ⟨y, hy, fun k hk => hsm k ?_⟩
  simp only [DataW.weights, ht]
  have hi : xs[i]? = some y := by rw [← hg i f hf]; exact hy
  exact DataW.weights_mem_each (j := i) (t := f.type) (d := y.1) (by rw [List.getElem?_map, Array.getElem?_toList, hf]; rfl) (by rw [List.getElem?_map, hi]; rfl) k hk
theorem FieldedR.all {fs : Array Field} {cs : List Value} (h : FieldedR P w base spare held enc fs cs) : Fielded P w base spare held enc fs cs := by
  obtain ⟨m, hg⟩ := h
  exact ⟨m, fun i f hf => by obtain ⟨y, hy, _⟩ := hg i f hf; exact ⟨y, hy⟩⟩
theorem field_sub_r {fs : Array Field} {cs : List Value} (h : FieldedR P w base spare held enc fs cs) (i o T k : Nat) {f : Field} (hf : fs[i]? = some f) (hT : f.type = T) (ho : f.offset = o) (hc : P.cellsOf T = k) :
    ∃ m y, DataW.trod enc P w base spare held m T ((cs.drop o).take k) = some y ∧ Small P T y.1 := by
  obtain ⟨m, hg⟩ := h
  obtain ⟨y, hy, hs⟩ := hg i f hf
  subst hT ho hc
  exact ⟨m, y, hy, hs⟩
theorem field_string_r {fs : Array Field} {cs : List Value} (h : FieldedR P w base spare held enc fs cs) (i o T : Nat) {f : Field} (hf : fs[i]? = some f) (hT : f.type = T) (ho : f.offset = o) (hu : P.underlying T = some .string) (hc : P.cellsOf T = 1) :
    ∃ s : ByteArray, cs[o]? = some (.string s) ∧ s.size ≤ 140737488351232 := by
  obtain ⟨m, y, hy, hs⟩ := field_sub_r h i o T 1 hf hT ho hc
  obtain ⟨n, e, rfl, wn⟩ := DataW.trod_string hu hy
  refine ⟨n, take1 e, ?_⟩
  have := small_string hs
  simpa using this
end
end Go.Proofs.YtkejlnjnoiidnaaGreatDoor
end

section
namespace Go.Proofs.YtkejlnjnoiidnaaGreatDoor
set_option maxRecDepth 100000
open Go.ChangeShapes Go.WideShapes Go.ChangeAt Go.RowKit
section
variable {H : Type} {enc : TypeId × Value → H} {w : World} {base : Nat} {spare : Nat → Bool} {held : Bool}
theorem slice_room {t e : TypeId} {A : Option Addr} {n c : Nat} {d : DataW H} {p : List MemPlace} {P : Program} (ht : P.underlying t = some (.slice e)) (h : DataW.Trod enc P w base spare held t (.slice A n c) d p) : n ≤ c := by
  obtain ⟨fuel, hf⟩ := h
  rcases Go.Deep.open_slice ht hf with ⟨h1, _⟩ | ⟨a, n', c', m, k, D, Pl, hcs, _, hl, _⟩
  · simp [Value.cells] at h1
    omega
  · simp [Value.cells] at hcs
    omega
theorem bytesEnt : Tryz.prog.bytesOf 79 = 16 := by kernel_rfl
theorem open_ents_r {r : Reach} {b0 : Nat} {v : Value} {d : DataW H} {p : List MemPlace} (hv : Value.okWide Tryz.prog w r b0 22 v) (h : DataW.Trod enc Tryz.prog w base spare held 22 v d p) (hs : Small Tryz.prog 22 d) :
    ∃ a : EntArg, v = .slice a.A a.n a.c ∧ (Ents w w.heap.size a.A a.n a.l ∧ a.n * 16 ≤ 140737488351232 ∧ a.n ≤ a.c) := by
  obtain ⟨A, n, c, l, rfl, hn, hl, hsl, ho⟩ := open_elems_r entCells 2 (by omega) entCells_len entFits 16 Tryz.underlying22 cellsEnt bytesEnt hs (fun cs m y hy _ => open_ent cs m y hy) hv h
  exact ⟨⟨A, n, c, l⟩, rfl, ⟨hsl, ho⟩, hn, slice_room Tryz.underlying22 h⟩
end
end Go.Proofs.YtkejlnjnoiidnaaGreatDoor
end

section
namespace Go.Proofs.YtkejlnjnoiidnaaGreatDoor
set_option maxRecDepth 100000
open Go.ChangeShapes Go.WideShapes Go.ChangeAt Go.RowKit
section
variable {H : Type} {enc : TypeId × Value → H} {w : World} {base : Nat} {spare : Nat → Bool} {held : Bool}
theorem room_at {t e : TypeId} {A : Option Addr} {n c m : Nat} {P : Program} {y : DataW H × List MemPlace} (ht : P.underlying t = some (.slice e)) (h : DataW.trod enc P w base spare held m t [.slice A n c] = some y) : n ≤ c := by
  rcases Go.Deep.open_slice ht h with ⟨h1, _⟩ | ⟨a, n', c', m, k, D, Pl, hcs, _, hl, _⟩
  · simp at h1
    omega
  · simp at hcs
    omega
theorem open_bat_c {r : Reach} {b0 : Nat} {v : Value} {d : DataW H} {p : List MemPlace} (hv : Value.okWide Tryz.prog w r b0 25 v) (h : DataW.Trod enc Tryz.prog w base spare held 25 v d p) :
    ∃ b : BatArg, v = b.v ∧ (Bat w b ∧ BatFits b ∧ b.n ≤ b.c ∧ b.n' ≤ b.c') := by
  obtain ⟨b, rfl, hb, hf⟩ := open_bat hv h
  refine ⟨b, rfl, hb, hf, ?_⟩
  obtain ⟨fuel, hfu⟩ := h
  obtain ⟨hcl, hg⟩ := fielded Tryz.underlying25 hfu
  obtain ⟨m0, y0, t0⟩ := field_sub hg 0 0 22 1 rfl rfl rfl cellsEntsT
  obtain ⟨m1, y1, t1⟩ := field_sub hg 1 1 22 1 rfl rfl rfl cellsEntsT
  exact ⟨room_at Tryz.underlying22 t0, room_at Tryz.underlying22 t1⟩
end
end Go.Proofs.YtkejlnjnoiidnaaGreatDoor
end

section
namespace Go.Proofs.YtkejlnjnoiidnaaGreatDoor
open Go.RowKit
theorem below1' (w : World) (o : Obj) : Below w.heap.size w (w.alloc o) := (Below.refl _ _).alloc (Nat.le_refl _) o
def bigStep (z : Int) (x : Wr) : Int := wrap64 (z + wrap64 ((wrap64 ((x.2.2.2.1.size : Int) + (x.2.2.2.2.1.size : Int))).tdiv 8))
def bigN (z : Int) (l : List Wr) : Int := l.foldl bigStep z
theorem bigN_take (z : Int) (k : Nat) (l : List Wr) (x : Wr) (h : l[k]? = some x) : bigN z (l.take (k + 1)) = bigStep (bigN z (l.take k)) x := by
  have hk : k < l.length := (List.getElem?_eq_some_iff.1 h).1
  rw [List.take_succ_eq_append_getElem hk]
  rw [List.getElem?_eq_getElem hk] at h
  injection h with h
  simp only [bigN, List.foldl_append, List.foldl_cons, List.foldl_nil, h]
theorem bigN_0 (z : Int) (l : List Wr) : bigN z (l.take 0) = z := by simp only [bigN, List.take_zero, List.foldl_nil]
theorem bigStep_eq (z : Int) (x : Wr) : bigStep z x = wrap64 (z + wrap64 ((wrap64 ((x.2.2.2.1.size : Int) + (x.2.2.2.2.1.size : Int))).tdiv 8)) := by simp only [bigStep]
def bigZ (n n' n'' : Nat) : Int := wrap64 (wrap64 ((n : Int) + (n' : Int)) + (n'' : Int))
theorem bigZ_eq (n n' n'' : Nat) : wrap64 (wrap64 ((n : Int) + (n' : Int)) + (n'' : Int)) = bigZ n n' n'' := by simp only [bigZ]
def bigB (n n' n'' : Nat) (l : List Wr) : Bool := decide (300 < bigN (bigZ n n' n'') l)
theorem big_any (A A' A'' : Option Addr) (n n' n'' c c' c'' : Nat) (l : List Wr) (w : World) (h : Sl w w.heap.size 6 A'' n'' (l.flatMap wrCells)) (hn'' : n'' ≤ maxLen) :
    Calls Tryz.prog 8 #[.agg #[.slice A n c, .slice A' n' c', .slice A'' n'' c'']] w fun e w' => e = .returned (.bool (bigB n n' n'' l)) ∧ Below w.heap.size w w' := by
  unfold maxLen at hn''
  have hl := Lib.hid (slk_len wrCells 6 (by omega) (fun _ => rfl) h)
  have hz := bigZ_eq n n' n''
  have hB : Hid (bigB n n' n'' l = decide (300 < bigN (bigZ n n' n'') l)) := Lib.hid (by simp only [bigB])
  generalize bigZ n n' n'' = z0 at *
  generalize bigB n n' n'' l = bb at *
  go_enter Tryz.func8, Tryz.ntmps8
  go_wp2
  go_loopw [3, 5, 20] (fun v _ i wr => (∃ k : Nat, k ≤ n'' ∧ i = .int .i64 k ∧ v = .int .i64 (bigN z0 (l.take k))) ∧ Below w.heap.size w wr) (fun _ _ i _ => n'' - (intOf i).toNat)
  case atStart => exact ⟨⟨0, by omega, rfl, valI (hz.trans (bigN_0 _ _).symm)⟩, below1' _ _⟩
  case round =>
    obtain ⟨⟨k, hk, rfl, rfl⟩, hbel⟩ := hrel
    clear hz
    by_cases hlt : k < n''
    · obtain ⟨b, o, x, rfl, hb, hx, hc⟩ := slk_at wrCells 6 (fun _ => rfl) h hl.out hlt
      obtain ⟨a1, a2, a3, a4, a5, a6⟩ := x
      have c0 := (hbel.cell (p := ⟨b, _, none⟩) hb).trans (hc 0 _ rfl)
      have c1 := (hbel.cell (p := ⟨b, _, none⟩) hb).trans (hc 1 _ rfl)
      have c2 := (hbel.cell (p := ⟨b, _, none⟩) hb).trans (hc 2 _ rfl)
      have c3 := (hbel.cell (p := ⟨b, _, none⟩) hb).trans (hc 3 _ rfl)
      have c4 := (hbel.cell (p := ⟨b, _, none⟩) hb).trans (hc 4 _ rfl)
      have c5 := (hbel.cell (p := ⟨b, _, none⟩) hb).trans (hc 5 _ rfl)
      simp only [Nat.add_zero] at c0
      have hsz := hbel.size
      have hst := Lib.hid (bigN_take z0 k l _ hx)
      clear hc h hx
      go_wp2_with fail
      go_roundw
      case rel => exact ⟨⟨k + 1, by omega, by go_num, by rw [hst.out, bigStep_eq]⟩, hbel.alloc hsz _⟩
      case measure => simp [intOf]; omega
    · obtain rfl : k = n'' := by omega
      have htk : l.take k = l := List.take_of_length_le (by rw [hl.out]; exact Nat.le_refl _)
      rw [htk]
      go_wp2_with fail
      go_ret
      exact ⟨by rw [hB.out]; rfl, hbel⟩
theorem big_is (A A' A'' : Option Addr) (n n' n'' c c' c'' : Nat) (l : List Wr) (w : World) (h : Sl w w.heap.size 6 A'' n'' (l.flatMap wrCells)) (hn'' : n'' ≤ maxLen) {x : Bool} (hx : bigB n n' n'' l = x) :
    Calls Tryz.prog 8 #[.agg #[.slice A n c, .slice A' n' c', .slice A'' n'' c'']] w fun e w' => e = .returned (.bool x) ∧ Below w.heap.size w w' := by
  rw [← hx]
  exact big_any A A' A'' n n' n'' c c' c'' l w h hn''
end Go.Proofs.YtkejlnjnoiidnaaGreatDoor
end

section
namespace Go.Proofs.YtkejlnjnoiidnaaGreatDoor
set_option linter.unusedSimpArgs false
open Go.RowKit As
set_option maxHeartbeats 2000000 in
set_option maxRecDepth 100000 in
theorem walkFrameWrites (a : BatArg) (w : World) (ha : Bat w a ∧ BatFits a ∧ a.n ≤ a.c ∧ a.n' ≤ a.c') (hg : Handle w) :
    Calls Tryz.prog 4 #[a.v] w fun e w' => e = .returned (.bool true) ∧ Below w.heap.size w w' := by
  obtain ⟨hb, hfit, hcf, hch⟩ := ha
  have hbx := BxAt.new w a
  have b0 := below1 w (.cells #[.slice a.A a.n a.c, .slice a.A' a.n' a.c', .slice a.A'' a.n'' a.c''] 25)
  have hb0 := hb.grow b0
  obtain ⟨q0, q1, q2⟩ := hbx
  unfold BatArg.v
  go_enter Tryz.func4, Tryz.ntmps4
  go_wp2_with fail
  refine (big_any a.A a.A' a.A'' a.n a.n' a.n'' a.c a.c' a.c'' a.l _ hb0.l hb0.nl).mono ?_
  rintro e w1 ⟨rfl, hb1⟩
  have b1 := b0.trans (hb1.mono b0.size)
  have hB1 := hb0.grow hb1
  replace q0 := (hb1.cell (cell_lt q0)).trans q0
  replace q1 := (hb1.cell (cell_lt q1)).trans q1
  replace q2 := (hb1.cell (cell_lt q2)).trans q2
  cases hbb : bigB a.n a.n' a.n'' a.l with
  | true =>
    clear hbb
    go_wp2
    go_ret
    exact ⟨rfl, b1⟩
  | false =>
    clear hbb
    go_wp2_with fail
    refine (rframe_any _ a hB1 hfit.f hfit.h).mono ?_
    rintro e w2 ⟨rfl, hb2⟩
    unfold faultV
    generalize hY : frameOf (bwrite a.f a.h a.l) = y
    have HY := Lib.hid hY
    clear hY
    obtain ⟨t, q, p⟩ := y
    have bT := below1 w2 (.cells #[.int .i64 q, .int .i64 p] 29)
    have T1 := Two.new w2 q p 29
    have hb12 := hb2.trans (bT.mono hb2.size)
    have b2 := b1.trans (hb12.mono b1.size)
    have hB2 := hB1.grow hb12
    replace q0 := (hb12.cell (cell_lt q0)).trans q0
    replace q1 := (hb12.cell (cell_lt q1)).trans q1
    replace q2 := (hb12.cell (cell_lt q2)).trans q2
    simp only
    go_wp2_with fail
    refine (framewrite_any _ a hB2 hfit.f hfit.h hcf hch (hg.below b2)).mono ?_
    rintro e w3 ⟨v, rfl, hv, hb3⟩
    rw [HY.out] at hv
    rw [HY.out]
    have b3 := b2.trans (hb3.mono b2.size)
    obtain ⟨t0, t1, _, _⟩ := T1.below hb3
    unfold ErrOf at hv
    simp only at hv ⊢
    go_wp2_with fail
    refine (placed_any hv (hg.below b3) q p).mono ?_
    rintro r w4 ⟨rfl, hb4⟩
    rw [decide_eq_true ⟨rfl, rfl⟩]
    go_wp2
    go_ret
    exact ⟨rfl, b3.trans (hb4.mono b3.size)⟩
end Go.Proofs.YtkejlnjnoiidnaaGreatDoor
end
