/- The reference's Old says what oread says. Printed by gen_rold.py. -/
import Derived.Test.YtkejlnjnoiidnaaGreatDoorZ18
import Derived.Test.YtkejlnjnoiidnaaGreatDoorZ10
section
namespace Go.Proofs.YtkejlnjnoiidnaaGreatDoor
set_option linter.unusedSimpArgs false
set_option linter.unusedVariables false
open Go.RowKit As
/-- While an entry is read and laid behind the others: l6 it is read, l8 it lies in a block of its own, l9 the row has grown, l11 it is laid down. -/
structure RV (G : Nat → Value → List Ent → World → Prop) (O i p k : Nat) (v : Value) (acc : List Ent) (r t : Int) (g : Nat × Value) (l6 l8 l9 l11 : Bool) (wz : World) : Prop where
 pre : l9 = false → G (cond l6 (p + k) p) v acc wz
 tmp : l8 = true → l9 = false → wz.cell? ⟨g.1, 0, none⟩ = some (.int .i64 r) ∧ wz.cell? ⟨g.1, 1, none⟩ = some (.int .i64 t)
 mid : l9 = true → l11 = false → (∃ A n c, g.2 = .slice A n c) ∧ wz.cell? ⟨O, i, none⟩ = some v ∧ wz.frozen? ⟨O, i, none⟩ = false ∧ G (p + k) g.2 (acc ++ [(r, t)]) (wz.setCell ⟨O, i, none⟩ g.2)
 fin : l11 = true → G (p + k) g.2 (acc ++ [(r, t)]) wz
 o8 : l8 = true → l6 = true
 o9 : l9 = true → l8 = true
 o11 : l11 = true → l9 = true
section
variable {G : Nat → Value → List Ent → World → Prop} {O i p k : Nat} {v v' : Value} {acc : List Ent} {r t : Int} {g : Nat × Value} {wz wn : World} {l6 l8 l9 l11 : Bool}
theorem RV.new (H : G p v acc wz) (g : Nat × Value) : RV G O i p k v acc r t g false false false false wz :=
 ⟨fun _ => H, (fun h => by cases h), (fun h => by cases h), (fun h => by cases h), (fun h => by cases h), (fun h => by cases h), (fun h => by cases h)⟩
theorem RV.flags (H : RV G O i p k v acc r t g false l8 l9 l11 wz) : l8 = false ∧ l9 = false ∧ l11 = false := by
 have h8 : l8 = false := by cases l8 with | false => rfl | true => exact absurd (H.o8 rfl) (by decide)
 subst h8
 have h9 : l9 = false := by cases l9 with | false => rfl | true => exact absurd (H.o9 rfl) (by decide)
 subst h9
 exact ⟨rfl, rfl, by cases l11 with | false => rfl | true => exact absurd (H.o11 rfl) (by decide)⟩
theorem RV.flags8 (H : RV G O i p k v acc r t g l6 false l9 l11 wz) : l9 = false ∧ l11 = false := by
 have h9 : l9 = false := by cases l9 with | false => rfl | true => exact absurd (H.o9 rfl) (by decide)
 subst h9
 exact ⟨rfl, by cases l11 with | false => rfl | true => exact absurd (H.o11 rfl) (by decide)⟩
theorem RV.flags9 (H : RV G O i p k v acc r t g l6 l8 false l11 wz) : l11 = false := by cases l11 with | false => rfl | true => exact absurd (H.o11 rfl) (by decide)
theorem RV.call (H : G (p + k) v acc wn) : RV G O i p k v acc r t g true false false false wn :=
 ⟨fun _ => H, (fun h => by cases h), (fun h => by cases h), (fun h => by cases h), (fun h => by cases h), (fun h => by cases h), (fun h => by cases h)⟩
theorem RV.build (H : G (p + k) v acc wn) (h0 : wn.cell? ⟨g.1, 0, none⟩ = some (.int .i64 r)) (h1 : wn.cell? ⟨g.1, 1, none⟩ = some (.int .i64 t)) : RV G O i p k v acc r t g true true false false wn :=
 ⟨fun _ => H, fun _ _ => ⟨h0, h1⟩, (fun h => by cases h), (fun h => by cases h), (fun _ => rfl), (fun h => by cases h), (fun h => by cases h)⟩
theorem RV.app (hg : ∃ A n c, g.2 = .slice A n c) (h : G (p + k) g.2 (acc ++ [(r, t)]) (wn.setCell ⟨O, i, none⟩ g.2) ∧ wn.cell? ⟨O, i, none⟩ = some v ∧ wn.frozen? ⟨O, i, none⟩ = false) : RV G O i p k v acc r t g true true true false wn :=
 ⟨(fun h => by cases h), (fun _ h => by cases h), fun _ _ => ⟨hg, h.2.1, h.2.2, h.1⟩, (fun h => by cases h), (fun _ => rfl), (fun _ => rfl), (fun h => by cases h)⟩
theorem RV.store (H : G (p + k) g.2 (acc ++ [(r, t)]) wn) : RV G O i p k v acc r t g true true true true wn :=
 ⟨(fun h => by cases h), (fun _ h => by cases h), (fun _ h => by cases h), fun _ => H, (fun _ => rfl), (fun _ => rfl), (fun _ => rfl)⟩
end
theorem ent_cells {w : World} {g : Nat} {r t : Int} (h0 : w.cell? ⟨g, 0, none⟩ = some (.int .i64 r)) (h1 : w.cell? ⟨g, 1, none⟩ = some (.int .i64 t)) : ∀ j u, ([.int .i64 r, .int .i64 t] : List Value)[j]? = some u → w.cell? ((⟨g, 0, none⟩ : Addr).add j) = some u := by
 intro j u hu
 have e : (⟨g, 0, none⟩ : Addr).add j = ⟨g, j, none⟩ := by unfold Addr.add; split <;> simp_all
 rw [e]
 rcases j with _ | _ | j
 ·rw [h0]; exact hu
 ·rw [h1]; exact hu
 ·simp at hu
theorem rf_put {X : BR} {w w4 w5 : World} {O F : Nat} {x : BatArg} {a b c : Value} {x0 y0 : Int} (hR : RB w5 O F a b c x0 y0) (hn : O ≠ F) (hx : Bat w5 x) (hX : (x.f, x.h, x.l) = X.1) (hcap : x.n ≤ x.c ∧ x.n' ≤ x.c' ∧ Above w4.heap.size x) (lO : w.heap.size ≤ O) (lF : w.heap.size ≤ F) (hO4 : O < w4.heap.size) (hF4 : F < w4.heap.size) (hb4 : Below w.heap.size w w4) (hb : Below w.heap.size w w5) :
  RFEnd X w (.returned (.tuple #[x.v, faultV X.2])) (put5 w5 O F (.slice x.A x.n x.c) (.slice x.A' x.n' x.c') (.slice x.A'' x.n'' x.c'') X.2.1 X.2.2) ∧ RB (put5 w5 O F (.slice x.A x.n x.c) (.slice x.A' x.n' x.c') (.slice x.A'' x.n'' x.c'') X.2.1 X.2.2) O F (.slice x.A x.n x.c) (.slice x.A' x.n' x.c') (.slice x.A'' x.n'' x.c'') X.2.1 X.2.2 := by
 have ha := hcap.2.2
 refine ⟨⟨x, rfl, ?_, hX, ⟨hcap.1, hcap.2.1, above_mono ha hb4.size⟩, below_put5 hb lO lF _ _ _ _ _⟩, (((hR.set0 hn _).set1 hn _).set2 hn _).setF hn _ _⟩
 exact ((((hx.low ha hO4 _).low ha hO4 _).low ha hO4 _).low ha hF4 _).low ha hF4 _
theorem vd_dec {c : Nat} (h : 0 < c) : decide ((0 : Int) < (c : Int)) = true ∧ decide (0 < c) = true := ⟨by simp only [decide_eq_true_eq]; omega, by simpa using h⟩
theorem vd_pred {c c' : Nat} (h : c = c' + 1) (h2 : c ≤ 1000) : IntKind.i64.wrap ((c : Int) - 1) = (c' : Int) := by subst h; rw [show ((c' + 1 : Nat) : Int) - 1 = (c' : Int) by omega]; exact IntWalk.i64_in _ (by omega)
def rv0V (O R : Nat) (A : Option Addr) (n c : Nat) (r t : Int) (g : Nat × Value) : Nat → Value
 | 0 => .pointer (some ⟨O, 0, none⟩)
 | 1 => .pointer (some ⟨O, 0, none⟩)
 | 2 => .pointer (some ⟨O, 0, none⟩)
 | 3 => .slice A n c
 | 4 => .int .i64 r
 | 5 => .pointer (some ⟨R, 0, none⟩)
 | 6 => .int .i64 t
 | 7 => .agg #[.int .i64 r, .int .i64 t]
 | 8 => .slice (some ⟨g.1, 0, none⟩) 1 1
 | 9 => g.2
 | 10 => .pointer (some ⟨O, 0, none⟩)
 | _ => undef
def rv1V (O R : Nat) (A : Option Addr) (n c : Nat) (r t : Int) (g : Nat × Value) : Nat → Value
 | 0 => .pointer (some ⟨O, 1, none⟩)
 | 1 => .pointer (some ⟨O, 1, none⟩)
 | 2 => .pointer (some ⟨O, 1, none⟩)
 | 3 => .slice A n c
 | 4 => .int .i64 r
 | 5 => .pointer (some ⟨R, 0, none⟩)
 | 6 => .int .i64 t
 | 7 => .agg #[.int .i64 r, .int .i64 t]
 | 8 => .slice (some ⟨g.1, 0, none⟩) 1 1
 | 9 => g.2
 | 10 => .pointer (some ⟨O, 1, none⟩)
 | _ => undef
def ro39V (s : ByteArray) (R p4 : Nat) (t r : Int) (kd : Nat) (x3 : ByteArray) (y : Wr) (nf : Nat) (ef : Int) (g : Unit) : Nat → Value
 | 0 => .agg #[.int .i64 t, .int .i64 r, .int .i64 (kd : Int), .string x3, .string ⟨#[]⟩, .int .i64 0]
 | 1 => .string s
 | 2 => .pointer (some ⟨R, 0, none⟩)
 | 3 => .pointer (some ⟨R, 0, none⟩)
 | 4 => .pointer (some ⟨R, 1, none⟩)
 | 5 => .int .i64 (p4 : Int)
 | 6 => .string (s.extract p4 s.size)
 | 7 => rfillV (y, nf, ef)
 | 8 => rfillV (y, nf, ef)
 | 9 => wrV y.1 y.2.1 y.2.2.1 y.2.2.2.1 y.2.2.2.2.1 y.2.2.2.2.2
 | 10 => .int .i64 (nf : Int)
 | 11 => .int .i64 ef
 | 13 => .int .i64 (nf : Int)
 | 14 => .int .i64 ef
 | _ => undef
def ro3V (e : Int) (g : Unit) : Nat → Value
 | 0 => .agg #[nilS, nilS, nilS]
 | 1 => .int .i64 e
 | 2 => .agg #[.int .i64 e, .int .i64 (-1)]
 | _ => undef
def ro5V  (g : Unit) : Nat → Value
 | 0 => .agg #[nilS, nilS, nilS]
 | 1 => .agg #[.int .i64 6, .int .i64 (-1)]
 | _ => undef
def RoRel (s : ByteArray) (X : BR) (w : World) (E R B : Nat) (iv : Value) (wr : World) : Prop :=
 (iv = .int .i64 0 ∧ Hid (X = oall s) ∧ RL w w.heap.size E R B s 0 nilS nilS nilS nilS nilS [] [] [] [] [] wr) ∨
 (iv = .int .i64 1 ∧ ∃ f p v0, p ≤ s.size ∧ Hid (X = ovec s p fun h p => onum s p 60 fun n p => owrites s f h n p []) ∧ f.length ≤ 16 ∧ (∀ y ∈ f, entFits y) ∧ RL w w.heap.size E R B s p v0 nilS nilS nilS nilS f [] [] [] [] wr) ∨
 (iv = .int .i64 2 ∧ ∃ f h p v0 v1, p ≤ s.size ∧ Hid (X = onum s p 60 fun n p => owrites s f h n p []) ∧ f.length ≤ 16 ∧ (∀ y ∈ f, entFits y) ∧ h.length ≤ 16 ∧ (∀ y ∈ h, entFits y) ∧ RL w w.heap.size E R B s p v0 v1 nilS nilS nilS f h [] [] [] wr)
set_option maxHeartbeats 16000000 in
set_option maxRecDepth 100000 in
theorem rold_any (z : ByteArray) (w : World) (hz : z.size ≤ 1000000) :
  Calls Tryz.prog 16 #[.string z] w fun e w' => RFEnd (oread z) w e w' := by
 obtain ⟨k0, hk0, hx0, hx1, hx2⟩ := info_parts bdWr
 obtain ⟨n0, hn0, hn1, hn2, hn3⟩ := info_parts entInfo
 have hmf : ∀ (fn : Fn) (first cap : Array Value) (w : World), (Instr.makeFunc fn first cap).run Tryz.prog w = .ok (.func fn first cap) w := fun _ _ _ _ => rfl
 have hR := RB.new w 25 29
 have b0 := (below1 w (.cells #[nilS, nilS, nilS] 25)).alloc (by simp) (.cells #[.int .i64 0, .int .i64 0] 29)
 obtain ⟨E, hE⟩ : ∃ E, E = w.heap.size + 1 := ⟨_, rfl⟩
 have nOE : w.heap.size ≠ E := by omega
 have lE : w.heap.size ≤ E := by omega
 rw [← hE] at hR
 obtain ⟨⟨v, e⟩, hy⟩ : ∃ y, fver z = y := ⟨_, rfl⟩
 have HY := Lib.hid hy
 clear hy
 obtain ⟨X, hX⟩ : ∃ X, X = oread z := ⟨_, rfl⟩
 rw [← hX]
 have HXX := Lib.hid hX
 clear hX
 by_cases he : e = 0
 ·subst he
  have HG := Lib.hid (fver_good HY.out)
  have hop := HG.out.2.1
  have HOP := Lib.hid hop
  obtain ⟨U, hU⟩ : ∃ U, U = fbody z := ⟨_, rfl⟩
  have HU3 := Lib.hid (show U.extract 3 U.size = z.extract 3 (z.size - 4) by rw [hU]; exact fbody_three HG.out.1)
  have p3 : (3 : Int) ≤ (U.size : Int) := by rw [hU, fbody_size HG.out.1]; have := HG.out.1; omega
  have p3' : 3 ≤ U.size := by omega
  rw [← hU] at HOP
  clear hU hop
  have hv3 := HG.out.2.2.1
  by_cases h3 : v = 3
  ·subst h3
   have HV := Lib.hid (show X = bad0 6 from HXX.out.trans (oread_three HY.out))
   clear hv3
   go_enter Tryz.func16, Tryz.ntmps16
   go_wp2_with fail
   rw [← hE]
   clear hE
   generalize (w.alloc (.cells #[nilS, nilS, nilS] 25)).alloc (.cells #[.int .i64 0, .int .i64 0] 29) = W at *
   refine (rversion_any z _ hz).mono ?_
   rintro r9 w1 ⟨rfl, hb1⟩
   rw [HY.out]
   simp only
   replace hR := hR.below hb1
   have b1 := b0.trans (hb1.mono b0.size)
   clear b0 hb1
   go_wp2_with fail
   refine Flow.wp_region_go (by kernel_rfl) (by kernel_rfl) (by kernel_rfl) 214 rfl (by kernel_rfl) (ro5V) (fun _ L wz => RB wz w.heap.size E nilS nilS nilS (cond (L 3) 6 0) (cond (L 3) (-1) 0) ∧ Below w.heap.size w wz) (fun _ _ => False) (()) (⟨hR.drew, b1.drew⟩) ⟨?_, ?_, ?_, ?_, trivial⟩ ?_ ?_
   ·intro gz L wz K ρ hc0 hf0 hF hO hU hcl hi hd hC hK
    have e2 : ρ (.tmp 2) = .pointer (some ⟨w.heap.size, 0, none⟩) := hO 2 (by kernel_rfl)
    have a0 := hC.1.c0
    have a1 := hC.1.c1
    have a2 := hC.1.c2
    simp [go_sem, Flow.ylP_value, Flow.ylP_skip, Flow.ylP_enter, Flow.ylP_panic, hc0, hf0, e2, a0, a1, a2]
    exact hK () wz hC (fun _ _ => rfl)
   ·intro gz L wz K ρ hc0 hf0 hF hO hU hcl hi hd hC hK
    simp [go_sem, Flow.ylP_value, Flow.ylP_skip, Flow.ylP_enter, Flow.ylP_panic, hc0, hf0]
    refine (bareF_any 6 wz).mono ?_
    rintro r9 wn ⟨rfl, hbn⟩
    exact ⟨_, rfl, hK () wn ⟨hC.1.below hbn, hC.2.trans (hbn.mono hC.2.size)⟩ (by intro j hj; unfold ro5V; split <;> first | rfl | (rw [hi] at hj; cases hj) | (have hz := hcl _ 1 (by kernel_rfl) hj; rw [hi] at hz; cases hz))⟩
   ·intro gz L wz K ρ hc0 hf0 hF hO hU hcl hi hd hC hK
    have e2 : ρ (.tmp 2) = .pointer (some ⟨w.heap.size, 0, none⟩) := hO 2 (by kernel_rfl)
    have d0 : L 0 = true := hd ⟨0, .data⟩ (by simp) rfl
    have e31 : ρ (.tmp 31) = .agg #[nilS, nilS, nilS] := hF 31 0 (by kernel_rfl) d0
    have P0 := hC.1.set0 nOE nilS
    have P1 := P0.set1 nOE nilS
    have P2 := P1.set2 nOE nilS
    have a0 := hC.1.c0
    have b0' := hC.1.f0
    have b1' := hC.1.f1
    have b2' := hC.1.f2
    have a1 := P0.c1
    have a2 := P1.c2
    simp [go_sem, Flow.ylP_value, Flow.ylP_skip, Flow.ylP_enter, Flow.ylP_panic, hc0, hf0, e2, e31, a0, a1, a2, b0', b1', b2']
    exact hK () _ ⟨P2, ((hC.2.setCell (p := ⟨w.heap.size, 0, none⟩) (Nat.le_refl _) _).setCell (p := ⟨w.heap.size, 1, none⟩) (Nat.le_refl _) _).setCell (p := ⟨w.heap.size, 2, none⟩) (Nat.le_refl _) _⟩ (fun _ _ => rfl)
   ·intro gz L wz K ρ hc0 hf0 hF hO hU hcl hi hd hC hK
    have e3 : ρ (.tmp 3) = .pointer (some ⟨E, 0, none⟩) := hO 3 (by kernel_rfl)
    have d1 : L 1 = true := hd ⟨1, .data⟩ (by simp) rfl
    have e32 : ρ (.tmp 32) = .agg #[.int .i64 6, .int .i64 (-1)] := hF 32 1 (by kernel_rfl) d1
    rw [hi] at hC
    have P := hC.1.setF nOE 6 (-1)
    have a0 := hC.1.x
    have a1 : (wz.setCell ⟨E, 0, none⟩ (.int .i64 6)).cell? ⟨E, 1, none⟩ = some (.int .i64 0) := res_ne hC.1.y (by omega)
    have b1' := hC.1.fx
    have b2' := hC.1.fy
    simp [go_sem, Flow.ylP_value, Flow.ylP_skip, Flow.ylP_enter, Flow.ylP_panic, hc0, hf0, e3, e32, a0, a1, b1', b2']
    exact hK () _ ⟨P, (hC.2.setCell (p := ⟨E, 0, none⟩) lE _).setCell (p := ⟨E, 1, none⟩) lE _⟩ (fun _ _ => rfl)
   ·intro g L ch wz h; exact h.elim
   ·intro gz L wz hL hC
    rw [hL 3 (by decide)] at hC
    obtain ⟨hB, hb⟩ := hC
    have z0 := hB.c0
    have z1 := hB.c1
    have z2 := hB.c2
    have z3 : wz.cell? ⟨E, 0, none⟩ = some (.int .i64 6) := hB.x
    have z4 : wz.cell? ⟨E, 1, none⟩ = some (.int .i64 (-1)) := hB.y
    simp only [Flow.putAll, ro5V]
    go_wp2
    exact bodyPost_ret (v := .tuple #[.agg #[nilS, nilS, nilS], .agg #[.int .i64 6, .int .i64 (-1)]]) (by simp [results, Tryz.results16, go_sem, z0, z1, z2, z3, z4]) rfl (rf_no HV.out hb)
  ·by_cases h2 : v = 2
   ·subst h2
    have HX2 := Lib.hid (show X = bread (z.extract 3 (z.size - 4)) from HXX.out.trans (oread_two HY.out))
    clear hv3 h3
    go_enter Tryz.func16, Tryz.ntmps16
    go_wp2_with fail
    rw [← hE]
    clear hE
    generalize (w.alloc (.cells #[nilS, nilS, nilS] 25)).alloc (.cells #[.int .i64 0, .int .i64 0] 29) = W at *
    refine (rversion_any z _ hz).mono ?_
    rintro r9 w1 ⟨rfl, hb1⟩
    rw [HY.out]
    simp only
    replace hR := hR.below hb1
    have b1 := b0.trans (hb1.mono b0.size)
    clear b0 hb1
    go_wp2_with fail
    refine (ropen_any z _ hz).mono ?_
    rintro r9 w2 ⟨rfl, hb2⟩
    rw [HOP.out]
    simp only
    replace hR := hR.below hb2
    have b2 := b1.trans (hb2.mono b1.size)
    clear b1 hb2
    go_wp2_with fail
    rw [HU3.out]
    refine (unbody_any _ w2 (by rw [ByteArray.size_extract]; omega)).mono ?_
    rintro r9 w5 ⟨x, rfl, hx, hx2, hcap, hb5⟩
    rw [← HX2.out] at hx2 ⊢
    have hR5 := hR.below hb5
    have b5 := b2.trans (hb5.mono b2.size)
    obtain ⟨hEnd, hZ⟩ := rf_put hR5 nOE hx hx2 hcap (Nat.le_refl _) lE (cell_lt hR.c0) (cell_lt hR.x) b2 b5
    have H1 := hR5.set0 nOE (.slice x.A x.n x.c)
    have H2 := H1.set1 nOE (.slice x.A' x.n' x.c')
    have H3 := H2.set2 nOE (.slice x.A'' x.n'' x.c'')
    obtain ⟨⟨e0, q0⟩, hq⟩ : ∃ y, X.2 = y := ⟨_, rfl⟩
    rw [hq] at hEnd hZ ⊢
    simp only at hEnd hZ
    have q1 := H1.c1
    have q2 := H2.c2
    have q3 := H3.x
    have q4 := res_ne (v := .int .i64 e0) H3.y (i := 0) (by decide)
    have m3 := H3.fx
    have m4 := H3.fy
    obtain ⟨j0, j1, j2, j3, j4, j5, j6, j7, j8, j9⟩ := hR5
    unfold BatArg.v faultV
    clear hx hx2 hcap hb5 hR H1 H2 H3 hq
    go_wp2
    unfold put5 at hEnd hZ
    obtain ⟨z0, z1, z2, z3, z4, _, _, _, _, _⟩ := hZ
    exact bodyPost_ret (v := .tuple #[x.v, faultV (e0, q0)]) (by simp [results, Tryz.results16, go_sem, z0, z1, z2, z3, z4, BatArg.v, faultV]) rfl hEnd
   ·have h1 : v = 1 := by rcases hv3 with h | h | h <;> omega
    subst h1
    obtain ⟨s, hs0⟩ : ∃ s, s = z.extract 3 (z.size - 4) := ⟨_, rfl⟩
    have hs : s.size ≤ 1000000 := by rw [hs0, ByteArray.size_extract]; omega
    rw [← hs0] at HU3
    have HX0 := Lib.hid (show X = oall s from (HXX.out.trans (oread_one HY.out)).trans (by rw [hs0]))
    clear hv3 h3 h2 hs0 HXX
    go_enter_defers Tryz.func16, Tryz.ntmps16
    go_wp2_with fail
    rw [← hE]
    clear hE
    generalize (w.alloc (.cells #[nilS, nilS, nilS] 25)).alloc (.cells #[.int .i64 0, .int .i64 0] 29) = W at *
    refine (rversion_any z _ hz).mono ?_
    rintro r9 w1 ⟨rfl, hb1⟩
    rw [HY.out]
    simp only
    replace hR := hR.below hb1
    have b1 := b0.trans (hb1.mono b0.size)
    clear b0 hb1
    go_wp2_with fail
    refine (ropen_any z _ hz).mono ?_
    rintro r9 w2 ⟨rfl, hb2⟩
    rw [HOP.out]
    simp only
    replace hR := hR.below hb2
    have b2 := b1.trans (hb2.mono b1.size)
    clear b1 hb2
    go_wp2_with fail
    rw [HU3.out]
    refine (good_any _).mono ?_
    rintro r9 w3 ⟨rfl, hb3⟩
    have b3 := b2.trans (hb3.mono b2.size)
    have hR1 := hR.below hb3
    have hR2 := hR1.setF nOE 0 (-1)
    have b4 := (b3.setCell (p := ⟨E, 0, none⟩) lE (.int .i64 0)).setCell (p := ⟨E, 1, none⟩) lE (.int .i64 (-1))
    obtain ⟨r0, r1, r2, r3, r4, r5, r6, r7, r8, r9⟩ := hR1
    clear hR b2 hb3 b3 p3 p3' HOP HU3
    go_wp2_with fail
    clear r0 r1 r2 r3 r4 r5 r6 r7 r8 r9
    have hVs : ((w3.setCell ⟨E, 0, none⟩ (.int .i64 0)).setCell ⟨E, 1, none⟩ (.int .i64 (-1))).heap.size = w3.heap.size := by simp
    have qO : w.heap.size < ((w3.setCell ⟨E, 0, none⟩ (.int .i64 0)).setCell ⟨E, 1, none⟩ (.int .i64 (-1))).heap.size := cell_lt hR2.c0
    have qE : E < ((w3.setCell ⟨E, 0, none⟩ (.int .i64 0)).setCell ⟨E, 1, none⟩ (.int .i64 (-1))).heap.size := cell_lt hR2.x
    generalize (w3.setCell ⟨E, 0, none⟩ (.int .i64 0)).setCell ⟨E, 1, none⟩ (.int .i64 (-1)) = V at *
    rw [hVs] at qO qE
    generalize w3.heap.size = R at *
    have bS := below1 V (.cells #[.string s, .int .i64 0] 74)
    have hSc : Sc (V.alloc (.cells #[.string s, .int .i64 0] 74)) R s 0 := by
     rw [← hVs]
     exact ⟨by rw [World.cell?_alloc_new]; rfl, by rw [World.cell?_alloc_new]; rfl, by simp⟩
    have hS1 : (V.alloc (.cells #[.string s, .int .i64 0] 74)).heap.size = R + 1 := by simp [hVs]
    have hR3 := hR2.below bS
    have b5 := b4.trans (bS.mono b4.size)
    generalize V.alloc (.cells #[.string s, .int .i64 0] 74) = V2 at *
    have bA := below1 V2 (.cells #[.pointer (some ⟨w.heap.size, 0, none⟩), .pointer (some ⟨w.heap.size, 1, none⟩)] 75)
    have hA : TwoP (V2.alloc (.cells #[.pointer (some ⟨w.heap.size, 0, none⟩), .pointer (some ⟨w.heap.size, 1, none⟩)] 75)) (R + 1) w.heap.size := by
     rw [← hS1]
     exact ⟨by rw [World.cell?_alloc_new]; rfl, by rw [World.cell?_alloc_new]; rfl⟩
    have hSz : (V2.alloc (.cells #[.pointer (some ⟨w.heap.size, 0, none⟩), .pointer (some ⟨w.heap.size, 1, none⟩)] 75)).heap.size = R + 1 + 1 := by simp [hS1]
    have hR4 := hR3.below bA
    have hSc4 := hSc.below bA
    have b6 := b5.trans (bA.mono b5.size)
    generalize V2.alloc (.cells #[.pointer (some ⟨w.heap.size, 0, none⟩), .pointer (some ⟨w.heap.size, 1, none⟩)] 75) = W at *
    have S : BS w w.heap.size E R W.heap.size := ⟨by omega, by omega, by omega, nOE, by omega, by omega, Nat.le_refl _, lE, by omega⟩
    have AA : AS w.heap.size R W.heap.size := ⟨by omega, by omega⟩
    have HL : RL w w.heap.size E R W.heap.size s 0 nilS nilS nilS nilS nilS [] [] [] [] [] W := ⟨hSc4, hR4, World.ownsRow_nil _ _ _ _, World.ownsRow_nil _ _ _ _, World.ownsRow_nil _ _ _ _, World.ownsRow_nil _ _ _ _, World.ownsRow_nil _ _ _ _, b6, Nat.le_refl _⟩
    clear hR2 hR3 hR4 hSc hSc4 b4 b5 b6 bS bA hVs hS1 qO qE hSz nOE lE
    generalize W.heap.size = B at *
    go_loopw [10, 11, 12, 55] (fun _ _ _ iv wr => RoRel s X w E R B iv wr ∧ TwoP wr (R + 1) w.heap.size) (fun _ _ _ iv _ => 2 - (intOf iv).toNat)
    case atStart => exact ⟨.inl ⟨rfl, HX0, HL⟩, hA⟩
    case round =>
     obtain ⟨hrel, hA⟩ := hrel
     clear HL HX0
     rcases hrel with ⟨rfl, HX0', H0⟩ | ⟨rfl, f, p, v0, hp, HX0, hf16, hff, H0⟩ | ⟨rfl, f, h, p, v0, v1, hp, HX0, hf16, hff, hh16, hhf, H⟩
     ·have H : RQ0 w w.heap.size E R B s 0 nilS [] wr := ⟨H0, hA, World.ownsRow_nil _ _ _ _⟩
      obtain ⟨p, hp0⟩ : ∃ p : Nat, p = 0 := ⟨0, rfl⟩
      have hp : p ≤ s.size := by omega
      have HX0 := Lib.hid (show X = onum s p 16 fun n p => oents s n p [] (fun f p => ovec s p fun h p => onum s p 60 fun n p => owrites s f h n p []) by rw [hp0]; exact HX0'.out)
      rw [← hp0] at H
      clear HX0' H0 hp0
      have i1 : p ≤ s.size := hp
      obtain ⟨a0, a1⟩ := hA
      go_wp2_with fail
      refine (next_any s p R 16 wr hs hp (by decide) H.b.sc).mono ?_
      rintro r9 w1 ⟨q, m, k, e, hv, hx⟩
      rcases hx with ⟨rfl, hm, _, _, hk, rfl, rfl⟩ | ⟨he, rfl, rfl⟩
      ·have HX1 := Lib.hid (show X = oents s m (p + k) [] (fun f p => ovec s p fun h p => onum s p 60 fun n p => owrites s f h n p []) from HX0.out.trans (onum_go hv))
       have H1 := H.step S q (p + k)
       have HM := Lib.hid hm
       clear hv HX0 H hp i1 a0 a1 hm
       generalize (wr.drewN q).setCell ⟨R, 1, none⟩ (.int .i64 ((p + k : Nat) : Int)) = W1 at *
       generalize p + k = p1 at *
       clear q
       go_wp2
       go_loopw [11, 12] (fun cv _ wr => ∃ (c p : Nat) (acc : List Ent) (v : Value), cv = .int .i64 (c : Int) ∧ p ≤ s.size ∧ Hid (X = oents s c p acc (fun f p => ovec s p fun h p => onum s p 60 fun n p => owrites s f h n p [])) ∧ Hid (acc.length + c = m ∧ ∀ y ∈ acc, entFits y) ∧ RQ0 w w.heap.size E R B s p v acc wr) (fun cv _ _ => (intOf cv).toNat)
       case atStart => exact ⟨m, p1, [], nilS, rfl, hk, HX1, Lib.hid ⟨by simp, fun _ h => by cases h⟩, H1⟩
       case round =>
        obtain ⟨c, p, acc, v, rfl, hp, HX2, HAC, H⟩ := hrel
        clear H1 HX1 hk
        by_cases hlt : 0 < c
        ·obtain ⟨t0, t0'⟩ := vd_dec hlt
         obtain ⟨c', hc'⟩ : ∃ c', c = c' + 1 := ⟨c - 1, by omega⟩
         have hcm : c ≤ 16 := by have := HM.out; have := HAC.out.1; omega
         have dw : IntKind.i64.wrap ((c : Int) - 1) = (c' : Int) := vd_pred hc' (by omega)
         have hcl' : c' < c := by omega
         have HX3 := Lib.hid (show X = onum s p 200 fun r p => onum s p 1099511627776 fun t p => oents s c' p (acc ++ [((r : Int), (t : Int))]) (fun f p => ovec s p fun h p => onum s p 60 fun n p => owrites s f h n p []) by rw [HX2.out, hc']; rfl)
         have HCP := Lib.hid (show acc.length + 1 ≤ 2 ^ 63 - 1 ∧ (acc.length + 1) * 16 ≤ 140737488355328 by have := HM.out; have := HAC.out.1; omega)
         replace HAC := Lib.hid (show (acc.length + 1) + c' = m ∧ ∀ y ∈ acc, entFits y from ⟨by have := HAC.out.1; omega, HAC.out.2⟩)
         clear hc' HX2 hlt hcm
         go_wp2_with fail
         refine (next_any s p R 200 wr hs hp (by decide) H.b.sc).mono ?_
         rintro r9 w1 ⟨q, r, k, e, hv, hx⟩
         rcases hx with ⟨rfl, hr, _, _, hk, rfl, rfl⟩ | ⟨he, rfl, rfl⟩
         ·have HX4 := Lib.hid (show X = onum s (p + k) 1099511627776 fun t p => oents s c' p (acc ++ [((r : Int), (t : Int))]) (fun f p => ovec s p fun h p => onum s p 60 fun n p => owrites s f h n p []) from HX3.out.trans (onum_go hv))
          have H2 := H.step S q (p + k)
          have HR9 := Lib.hid hr
          clear hv HX3 H hr
          generalize (wr.drewN q).setCell ⟨R, 1, none⟩ (.int .i64 ((p + k : Nat) : Int)) = W3 at *
          generalize hp2' : p + k = p2 at *
          have hp2 : p2 ≤ s.size := by omega
          clear q hp2' hk hp
          obtain ⟨A9, c9, rfl⟩ := own_form H2.n
          obtain ⟨t, k2, e2, ha2, hx2⟩ := vat_of s p2 1099511627776
          go_wp2_with fail
          rcases hx2 with ⟨rfl, ht, _, _, hk2⟩ | ⟨he2, rfl, rfl⟩
          ·have HA2 := Lib.hid ha2
           have HT9 := Lib.hid ht
           have HXN := Lib.hid (show X = oents s c' (p2 + k2) (acc ++ [((r : Int), (t : Int))]) (fun f p => ovec s p fun h p => onum s p 60 fun n p => owrites s f h n p []) from HX4.out.trans (onum_go ha2))
           clear ha2 ht HX4
           refine Flow.wp_region_go (by kernel_rfl) (by kernel_rfl) (by kernel_rfl) 214 rfl (by kernel_rfl) (rv0V w.heap.size R A9 acc.length c9 (r : Int) (t : Int)) (fun gz L wz => RV (fun p v acc w' => RQ0 w w.heap.size E R B s p v acc w') w.heap.size 0 p2 k2 (.slice A9 acc.length c9) acc (r : Int) (t : Int) gz (L 6) (L 8) (L 9) (L 11) wz) (fun _ _ => False) ((0, undef)) ((RV.new (H2.below (Below.refl _ _).drew) _)) ⟨?_, ?_, ?_, ?_, ?_, ?_, ?_, ?_, ?_, ?_, ?_, ?_, trivial⟩ ?_ ?_
           ·intro gz L wz K ρ hc0 hf0 hF hO hU hcl hi hd hC hK
            have e10 : ρ (.tmp 10) = .pointer (some ⟨w.heap.size, 0, none⟩) := hO 10 (by kernel_rfl)
            simp [go_sem, Flow.ylP_value, Flow.ylP_skip, Flow.ylP_enter, Flow.ylP_panic, hc0, hf0, e10]
            exact hK gz wz hC (fun _ _ => rfl)
           ·intro gz L wz K ρ hc0 hf0 hF hO hU hcl hi hd hC hK
            have e10 : ρ (.tmp 10) = .pointer (some ⟨w.heap.size, 0, none⟩) := hO 10 (by kernel_rfl)
            simp [go_sem, Flow.ylP_value, Flow.ylP_skip, Flow.ylP_enter, Flow.ylP_panic, hc0, hf0, e10]
            exact hK gz wz hC (fun _ _ => rfl)
           ·intro gz L wz K ρ hc0 hf0 hF hO hU hcl hi hd hC hK
            have d1 : L 1 = true := hd ⟨1, .data⟩ (by simp) rfl
            have e68 : ρ (.tmp 68) = .pointer (some ⟨w.heap.size, 0, none⟩) := hF 68 1 (by kernel_rfl) d1
            simp [go_sem, Flow.ylP_value, Flow.ylP_skip, Flow.ylP_enter, Flow.ylP_panic, hc0, hf0, e68]
            exact hK gz wz hC (fun _ _ => rfl)
           ·intro gz L wz K ρ hc0 hf0 hF hO hU hcl hi hd hC hK
            have d2 : L 2 = true := hd ⟨2, .data⟩ (by simp) rfl
            have e69 : ρ (.tmp 69) = .pointer (some ⟨w.heap.size, 0, none⟩) := hF 69 2 (by kernel_rfl) d2
            have h9 : L 9 = false := by cases h : L 9 with | false => rfl | true => (have := hcl 9 3 (by kernel_rfl) h; rw [hi] at this; cases this)
            have cc := (hC.pre h9).b.bt.c0
            simp [go_sem, Flow.ylP_value, Flow.ylP_skip, Flow.ylP_enter, Flow.ylP_panic, hc0, hf0, e69, cc]
            exact hK gz wz hC (fun _ _ => rfl)
           ·intro gz L wz K ρ hc0 hf0 hF hO hU hcl hi hd hC hK
            have e12 : ρ (.tmp 12) = .int .i64 (r : Int) := hO 12 (by kernel_rfl)
            simp [go_sem, Flow.ylP_value, Flow.ylP_skip, Flow.ylP_enter, Flow.ylP_panic, hc0, hf0, e12]
            exact hK gz wz hC (fun _ _ => rfl)
           ·intro gz L wz K ρ hc0 hf0 hF hO hU hcl hi hd hC hK
            have e8 : ρ (.tmp 8) = .pointer (some ⟨R, 0, none⟩) := hO 8 (by kernel_rfl)
            simp [go_sem, Flow.ylP_value, Flow.ylP_skip, Flow.ylP_enter, Flow.ylP_panic, hc0, hf0, e8]
            exact hK gz wz hC (fun _ _ => rfl)
           ·intro gz L wz K ρ hc0 hf0 hF hO hU hcl hi hd hC hK
            have d5 : L 5 = true := hd ⟨5, .data⟩ (by simp) rfl
            have e72 : ρ (.tmp 72) = .pointer (some ⟨R, 0, none⟩) := hF 72 5 (by kernel_rfl) d5
            simp [go_sem, Flow.ylP_value, Flow.ylP_skip, Flow.ylP_enter, Flow.ylP_panic, hc0, hf0, e72]
            obtain ⟨h8, h9, h11⟩ := (hi ▸ hC).flags
            have hG := hC.pre h9
            rw [hi] at hG
            refine (next_any s p2 R 1099511627776 wz hs hp2 (by decide) hG.b.sc).mono ?_
            rintro r9 wn ⟨q, n', k', e', ha', hx'⟩
            rw [HA2.out] at ha'
            injection ha' with q1 ha'
            injection ha' with q2 ha'
            subst q1 q2 ha'
            rcases hx' with ⟨_, _, _, _, _, rfl, rfl⟩ | ⟨h0, _⟩
            ·exact ⟨_, rfl, hK gz _ (by show RV (fun p v acc w' => RQ0 w w.heap.size E R B s p v acc w') w.heap.size 0 p2 k2 (.slice A9 acc.length c9) acc (r : Int) (t : Int) gz true (L 8) (L 9) (L 11) _; rw [h8, h9, h11]; exact RV.call (hG.step S q (p2 + k2))) (fun _ _ => rfl)⟩
            ·exact absurd rfl h0
           ·intro gz L wz K ρ hc0 hf0 hF hO hU hcl hi hd hC hK
            have d4 : L 4 = true := hd ⟨4, .data⟩ (by simp) rfl
            have e71 : ρ (.tmp 71) = .int .i64 (r : Int) := hF 71 4 (by kernel_rfl) d4
            have d6 : L 6 = true := hd ⟨6, .data⟩ (by simp) rfl
            have e73 : ρ (.tmp 73) = .int .i64 (t : Int) := hF 73 6 (by kernel_rfl) d6
            simp [go_sem, Flow.ylP_value, Flow.ylP_skip, Flow.ylP_enter, Flow.ylP_panic, hc0, hf0, e71, e73]
            exact hK gz wz hC (fun _ _ => rfl)
           ·intro gz L wz K ρ hc0 hf0 hF hO hU hcl hi hd hC hK
            have d7 : L 7 = true := hd ⟨7, .data⟩ (by simp) rfl
            have e74 : ρ (.tmp 74) = .agg #[.int .i64 (r : Int), .int .i64 (t : Int)] := hF 74 7 (by kernel_rfl) d7
            obtain ⟨h9, h11⟩ := (hi ▸ hC).flags8
            simp [go_sem, Flow.ylP_value, Flow.ylP_skip, Flow.ylP_enter, Flow.ylP_panic, hc0, hf0, e74]
            have d6 := hcl 7 6 (by kernel_rfl) d7
            have hG := hC.pre h9
            rw [d6] at hG
            refine hK (wz.heap.size, gz.2) _ ?_ (by intro j hj; unfold rv0V; split <;> first | rfl | (rw [hi] at hj; cases hj) | (have hz := hcl _ 8 (by kernel_rfl) hj; rw [hi] at hz; cases hz))
            show RV (fun p v acc w' => RQ0 w w.heap.size E R B s p v acc w') w.heap.size 0 p2 k2 (.slice A9 acc.length c9) acc (r : Int) (t : Int) _ (L 6) true (L 9) (L 11) _
            rw [d6, h9, h11]
            exact RV.build (hG.below (below1 _ _)) (by rw [World.cell?_alloc_new]; rfl) (by rw [World.cell?_alloc_new]; rfl)
           ·intro gz L wz K ρ hc0 hf0 hF hO hU hcl hi hd hC hK
            have d3 : L 3 = true := hd ⟨3, .data⟩ (by simp) rfl
            have e70 : ρ (.tmp 70) = .slice A9 acc.length c9 := hF 70 3 (by kernel_rfl) d3
            have d8 : L 8 = true := hd ⟨8, .data⟩ (by simp) rfl
            have e75 : ρ (.tmp 75) = .slice (some ⟨gz.1, 0, none⟩) 1 1 := hF 75 8 (by kernel_rfl) d8
            have h11 := (hi ▸ hC).flags9
            have d6 := hC.o8 d8
            have hpre := hC.pre hi
            rw [d6] at hpre
            have htmp := hC.tmp d8 hi
            obtain ⟨v', wn, hrun, ho, hgw, _⟩ := run_append_own (P := Tryz.prog) wz B 22 22 79 n0 (.agg #[.int .i64 0, .int .i64 0]) 2 16 Tryz.underlying22 hn0 hn1 hn2 hn3 rfl (by decide) (.slice A9 acc.length c9) acc.length (entV acc) hpre.n ⟨gz.1, 0, none⟩ 1 1 [.int .i64 (r : Int), .int .i64 (t : Int)] rfl (ent_cells htmp.1 htmp.2) (by intro u hu; simp at hu; rcases hu with rfl | rfl <;> rfl) HCP.out.1 HCP.out.2 hpre.b.sz
            have ho' := entV_snoc (x := ((r : Int), (t : Int))) rfl ho
            unfold execOp
            simp only [resolve, invoke, builtin, Sem.run_bind, Sem.run_pure, Result.andThen_ok, List.map_toArray, List.map_cons, List.map_nil, e70, e75, hrun]
            refine hK (gz.1, v') wn ?_ (by intro j hj; unfold rv0V; split <;> first | rfl | (rw [hi] at hj; cases hj) | (have hz := hcl _ 9 (by kernel_rfl) hj; rw [hi] at hz; cases hz))
            show RV (fun p v acc w' => RQ0 w w.heap.size E R B s p v acc w') w.heap.size 0 p2 k2 (.slice A9 acc.length c9) acc (r : Int) (t : Int) _ (L 6) (L 8) true (L 11) _
            rw [d6, d8, h11]
            exact RV.app (by obtain ⟨A8, c8, h8⟩ := own_form ho'; exact ⟨A8, _, c8, h8⟩) (hpre.grow S AA hgw ho')
           ·intro gz L wz K ρ hc0 hf0 hF hO hU hcl hi hd hC hK
            have d0 : L 0 = true := hd ⟨0, .data⟩ (by simp) rfl
            have e67 : ρ (.tmp 67) = .pointer (some ⟨w.heap.size, 0, none⟩) := hF 67 0 (by kernel_rfl) d0
            simp [go_sem, Flow.ylP_value, Flow.ylP_skip, Flow.ylP_enter, Flow.ylP_panic, hc0, hf0, e67]
            exact hK gz wz hC (fun _ _ => rfl)
           ·intro gz L wz K ρ hc0 hf0 hF hO hU hcl hi hd hC hK
            have d10 : L 10 = true := hd ⟨10, .data⟩ (by simp) rfl
            have e77 : ρ (.tmp 77) = .pointer (some ⟨w.heap.size, 0, none⟩) := hF 77 10 (by kernel_rfl) d10
            have d9 : L 9 = true := hd ⟨9, .data⟩ (by simp) rfl
            have e76 : ρ (.tmp 76) = gz.2 := hF 76 9 (by kernel_rfl) d9
            have d8 := hC.o9 d9
            have d6 := hC.o8 d8
            obtain ⟨⟨A8, n8, c8, hv8⟩, a0, a1, hfin⟩ := hC.mid d9 hi
            have hz := hK gz _ (show RV (fun p v acc w' => RQ0 w w.heap.size E R B s p v acc w') w.heap.size 0 p2 k2 (.slice A9 acc.length c9) acc (r : Int) (t : Int) _ (L 6) (L 8) (L 9) true _ by rw [d6, d8, d9]; exact RV.store hfin) (fun _ _ => rfl)
            rw [hv8] at e76 hz
            simp [go_sem, Flow.ylP_value, Flow.ylP_skip, Flow.ylP_enter, Flow.ylP_panic, hc0, hf0, e77, e76, a0, a1]
            exact hz
           ·intro g L ch wz h; exact h.elim
           ·intro gz L wz hL hC
            rw [hL 6 (by decide), hL 8 (by decide), hL 9 (by decide), hL 11 (by decide)] at hC
            have H9 := hC.fin rfl
            clear hC hL H2
            simp only [Flow.putAll, rv0V]
            go_wp2
            go_roundw
            case rel => exact ⟨c', p2 + k2, acc ++ [((r : Int), (t : Int))], gz.2, by go_num, hk2, HXN, Lib.hid ⟨by have := HAC.out.1; rw [List.length_append]; simp only [List.length_cons, List.length_nil]; omega, tv_fits HAC.out.2 HR9.out HT9.out⟩, H9⟩
            case measure => simp [intOf]; omega
          ·have HA2 := Lib.hid ha2
           have HE := Lib.hid he2
           have HV := Lib.hid (show X = bad0 e2 from HX4.out.trans (onum_bad ha2 he2))
           clear ha2 he2 HX4
           refine Flow.wp_region_go (by kernel_rfl) (by kernel_rfl) (by kernel_rfl) 214 rfl (by kernel_rfl) (rv0V w.heap.size R A9 acc.length c9 (r : Int) 0) (fun _ L wz => Below W3.heap.size W3 wz ∧ L 6 = false) (fun ch wz => ch = Thrown e2 (p2 : Int) ∧ Below W3.heap.size W3 wz) ((0, undef)) (⟨(Below.refl _ _).drew, rfl⟩) ⟨?_, ?_, ?_, ?_, ?_, ?_, ?_, ?_, ?_, ?_, ?_, ?_, trivial⟩ ?_ ?_
           ·intro gz L wz K ρ hc0 hf0 hF hO hU hcl hi hd hC hK
            have e10 : ρ (.tmp 10) = .pointer (some ⟨w.heap.size, 0, none⟩) := hO 10 (by kernel_rfl)
            simp [go_sem, Flow.ylP_value, Flow.ylP_skip, Flow.ylP_enter, Flow.ylP_panic, hc0, hf0, e10]
            exact hK gz wz hC (fun _ _ => rfl)
           ·intro gz L wz K ρ hc0 hf0 hF hO hU hcl hi hd hC hK
            have e10 : ρ (.tmp 10) = .pointer (some ⟨w.heap.size, 0, none⟩) := hO 10 (by kernel_rfl)
            simp [go_sem, Flow.ylP_value, Flow.ylP_skip, Flow.ylP_enter, Flow.ylP_panic, hc0, hf0, e10]
            exact hK gz wz hC (fun _ _ => rfl)
           ·intro gz L wz K ρ hc0 hf0 hF hO hU hcl hi hd hC hK
            have d1 : L 1 = true := hd ⟨1, .data⟩ (by simp) rfl
            have e68 : ρ (.tmp 68) = .pointer (some ⟨w.heap.size, 0, none⟩) := hF 68 1 (by kernel_rfl) d1
            simp [go_sem, Flow.ylP_value, Flow.ylP_skip, Flow.ylP_enter, Flow.ylP_panic, hc0, hf0, e68]
            exact hK gz wz hC (fun _ _ => rfl)
           ·intro gz L wz K ρ hc0 hf0 hF hO hU hcl hi hd hC hK
            have d2 : L 2 = true := hd ⟨2, .data⟩ (by simp) rfl
            have e69 : ρ (.tmp 69) = .pointer (some ⟨w.heap.size, 0, none⟩) := hF 69 2 (by kernel_rfl) d2
            have cc := (hC.1.cell (cell_lt H2.b.bt.c0)).trans H2.b.bt.c0
            simp [go_sem, Flow.ylP_value, Flow.ylP_skip, Flow.ylP_enter, Flow.ylP_panic, hc0, hf0, e69, cc]
            exact hK gz wz hC (fun _ _ => rfl)
           ·intro gz L wz K ρ hc0 hf0 hF hO hU hcl hi hd hC hK
            have e12 : ρ (.tmp 12) = .int .i64 (r : Int) := hO 12 (by kernel_rfl)
            simp [go_sem, Flow.ylP_value, Flow.ylP_skip, Flow.ylP_enter, Flow.ylP_panic, hc0, hf0, e12]
            exact hK gz wz hC (fun _ _ => rfl)
           ·intro gz L wz K ρ hc0 hf0 hF hO hU hcl hi hd hC hK
            have e8 : ρ (.tmp 8) = .pointer (some ⟨R, 0, none⟩) := hO 8 (by kernel_rfl)
            simp [go_sem, Flow.ylP_value, Flow.ylP_skip, Flow.ylP_enter, Flow.ylP_panic, hc0, hf0, e8]
            exact hK gz wz hC (fun _ _ => rfl)
           ·intro gz L wz K ρ hc0 hf0 hF hO hU hcl hi hd hC hK
            have d5 : L 5 = true := hd ⟨5, .data⟩ (by simp) rfl
            have e72 : ρ (.tmp 72) = .pointer (some ⟨R, 0, none⟩) := hF 72 5 (by kernel_rfl) d5
            simp [go_sem, Flow.ylP_value, Flow.ylP_skip, Flow.ylP_enter, Flow.ylP_panic, hc0, hf0, e72]
            refine (next_any s p2 R 1099511627776 wz hs hp2 (by decide) (H2.b.sc.below hC.1)).mono ?_
            rintro r9 wn ⟨q, n', k', e', ha', hx'⟩
            rw [HA2.out] at ha'
            injection ha' with _ ha'
            injection ha' with _ ha'
            subst ha'
            rcases hx' with ⟨h0, _⟩ | ⟨_, rfl, rfl⟩
            ·exact absurd h0 HE.out
            ·exact .inr ⟨_, rfl, rfl, below_drewN hC.1 q⟩
           ·intro gz L wz K ρ hc0 hf0 hF hO hU hcl hi hd hC hK
            have d4 : L 4 = true := hd ⟨4, .data⟩ (by simp) rfl
            have e71 : ρ (.tmp 71) = .int .i64 (r : Int) := hF 71 4 (by kernel_rfl) d4
            have d6 : L 6 = true := hd ⟨6, .data⟩ (by simp) rfl
            have e73 : ρ (.tmp 73) = .int .i64 0 := hF 73 6 (by kernel_rfl) d6
            have hz := d6
            rw [hC.2] at hz
            cases hz
           ·intro gz L wz K ρ hc0 hf0 hF hO hU hcl hi hd hC hK
            have d7 : L 7 = true := hd ⟨7, .data⟩ (by simp) rfl
            have e74 : ρ (.tmp 74) = .agg #[.int .i64 (r : Int), .int .i64 0] := hF 74 7 (by kernel_rfl) d7
            have hz := hcl 7 6 (by kernel_rfl) d7
            rw [hC.2] at hz
            cases hz
           ·intro gz L wz K ρ hc0 hf0 hF hO hU hcl hi hd hC hK
            have d3 : L 3 = true := hd ⟨3, .data⟩ (by simp) rfl
            have e70 : ρ (.tmp 70) = .slice A9 acc.length c9 := hF 70 3 (by kernel_rfl) d3
            have d8 : L 8 = true := hd ⟨8, .data⟩ (by simp) rfl
            have e75 : ρ (.tmp 75) = .slice (some ⟨gz.1, 0, none⟩) 1 1 := hF 75 8 (by kernel_rfl) d8
            have hz := hcl 8 6 (by kernel_rfl) d8
            rw [hC.2] at hz
            cases hz
           ·intro gz L wz K ρ hc0 hf0 hF hO hU hcl hi hd hC hK
            have d0 : L 0 = true := hd ⟨0, .data⟩ (by simp) rfl
            have e67 : ρ (.tmp 67) = .pointer (some ⟨w.heap.size, 0, none⟩) := hF 67 0 (by kernel_rfl) d0
            simp [go_sem, Flow.ylP_value, Flow.ylP_skip, Flow.ylP_enter, Flow.ylP_panic, hc0, hf0, e67]
            exact hK gz wz hC (fun _ _ => rfl)
           ·intro gz L wz K ρ hc0 hf0 hF hO hU hcl hi hd hC hK
            have d10 : L 10 = true := hd ⟨10, .data⟩ (by simp) rfl
            have e77 : ρ (.tmp 77) = .pointer (some ⟨w.heap.size, 0, none⟩) := hF 77 10 (by kernel_rfl) d10
            have d9 : L 9 = true := hd ⟨9, .data⟩ (by simp) rfl
            have e76 : ρ (.tmp 76) = gz.2 := hF 76 9 (by kernel_rfl) d9
            have hz := hcl 9 6 (by kernel_rfl) d9
            rw [hC.2] at hz
            cases hz
           ·rintro gz L ch wz ⟨rfl, hb⟩
            have hZ := H2.below hb
            refine rodoor_bad HV.out HE.out hZ.b.bt S.oe S.lo S.le hZ.b.bel ?_ ?_
            ·rw [Flow.frame_at]; rfl
            ·rw [Flow.frame_at]; rfl
           ·intro gz L wz hL hC
            have := hL 6 (by decide)
            rw [hC.2] at this
            cases this
         ·have HV := Lib.hid (show X = bad0 e from HX3.out.trans (onum_bad hv he))
          have HE := Lib.hid he
          have hZ := H.below (below_drewN (Below.refl _ _) q)
          clear hv he
          go_wp2
          exact rodoor_bad HV.out HE.out hZ.b.bt S.oe S.lo S.le hZ.b.bel rfl rfl
        ·obtain ⟨t0, t0'⟩ : decide ((0 : Int) < (c : Int)) = false ∧ decide (0 < c) = false := ⟨by simp only [decide_eq_false_iff_not]; omega, by simpa using hlt⟩
         obtain rfl : c = 0 := by omega
         have HXE := Lib.hid (show X = (fun f p => ovec s p fun h p => onum s p 60 fun n p => owrites s f h n p []) acc p from HX2.out)
         clear HX2 hlt
         have HM' := HM.out
         go_wp2
         go_roundw
         case rel => exact ⟨.inr (.inl ⟨rfl, acc, p, v, hp, HXE, by have := HAC.out.1; omega, HAC.out.2, H.b⟩), H.a⟩
         case measure => simp [intOf]
      ·have HV := Lib.hid (show X = bad0 e from HX0.out.trans (onum_bad hv he))
       have HE := Lib.hid he
       have hZ := H.below (below_drewN (Below.refl _ _) q)
       clear hv he
       go_wp2
       exact rodoor_bad HV.out HE.out hZ.b.bt S.oe S.lo S.le hZ.b.bel rfl rfl
     ·have H := RQ0.next ⟨H0, hA, H0.f⟩
      generalize wr.heap.size = B1 at H
      clear H0
      have i1 : p ≤ s.size := hp
      obtain ⟨a0, a1⟩ := hA
      go_wp2_with fail
      refine (next_any s p R 16 wr hs hp (by decide) H.b.sc).mono ?_
      rintro r9 w1 ⟨q, m, k, e, hv, hx⟩
      rcases hx with ⟨rfl, hm, _, _, hk, rfl, rfl⟩ | ⟨he, rfl, rfl⟩
      ·have HX1 := Lib.hid (show X = oents s m (p + k) [] (fun h p => onum s p 60 fun n p => owrites s f h n p []) from HX0.out.trans (onum_go hv))
       have H1 := H.step S q (p + k)
       have HM := Lib.hid hm
       clear hv HX0 H hp i1 a0 a1 hm
       generalize (wr.drewN q).setCell ⟨R, 1, none⟩ (.int .i64 ((p + k : Nat) : Int)) = W1 at *
       generalize p + k = p1 at *
       clear q
       go_wp2
       go_loopw [11, 12] (fun cv _ wr => ∃ (c p : Nat) (acc : List Ent) (v : Value), cv = .int .i64 (c : Int) ∧ p ≤ s.size ∧ Hid (X = oents s c p acc (fun h p => onum s p 60 fun n p => owrites s f h n p [])) ∧ Hid (acc.length + c = m ∧ ∀ y ∈ acc, entFits y) ∧ RQ1 w w.heap.size E R B B1 v0 f s p v acc wr) (fun cv _ _ => (intOf cv).toNat)
       case atStart => exact ⟨m, p1, [], nilS, rfl, hk, HX1, Lib.hid ⟨by simp, fun _ h => by cases h⟩, H1⟩
       case round =>
        obtain ⟨c, p, acc, v, rfl, hp, HX2, HAC, H⟩ := hrel
        clear H1 HX1 hk
        by_cases hlt : 0 < c
        ·obtain ⟨t0, t0'⟩ := vd_dec hlt
         obtain ⟨c', hc'⟩ : ∃ c', c = c' + 1 := ⟨c - 1, by omega⟩
         have hcm : c ≤ 16 := by have := HM.out; have := HAC.out.1; omega
         have dw : IntKind.i64.wrap ((c : Int) - 1) = (c' : Int) := vd_pred hc' (by omega)
         have hcl' : c' < c := by omega
         have HX3 := Lib.hid (show X = onum s p 200 fun r p => onum s p 1099511627776 fun t p => oents s c' p (acc ++ [((r : Int), (t : Int))]) (fun h p => onum s p 60 fun n p => owrites s f h n p []) by rw [HX2.out, hc']; rfl)
         have HCP := Lib.hid (show acc.length + 1 ≤ 2 ^ 63 - 1 ∧ (acc.length + 1) * 16 ≤ 140737488355328 by have := HM.out; have := HAC.out.1; omega)
         replace HAC := Lib.hid (show (acc.length + 1) + c' = m ∧ ∀ y ∈ acc, entFits y from ⟨by have := HAC.out.1; omega, HAC.out.2⟩)
         clear hc' HX2 hlt hcm
         go_wp2_with fail
         refine (next_any s p R 200 wr hs hp (by decide) H.b.sc).mono ?_
         rintro r9 w1 ⟨q, r, k, e, hv, hx⟩
         rcases hx with ⟨rfl, hr, _, _, hk, rfl, rfl⟩ | ⟨he, rfl, rfl⟩
         ·have HX4 := Lib.hid (show X = onum s (p + k) 1099511627776 fun t p => oents s c' p (acc ++ [((r : Int), (t : Int))]) (fun h p => onum s p 60 fun n p => owrites s f h n p []) from HX3.out.trans (onum_go hv))
          have H2 := H.step S q (p + k)
          have HR9 := Lib.hid hr
          clear hv HX3 H hr
          generalize (wr.drewN q).setCell ⟨R, 1, none⟩ (.int .i64 ((p + k : Nat) : Int)) = W3 at *
          generalize hp2' : p + k = p2 at *
          have hp2 : p2 ≤ s.size := by omega
          clear q hp2' hk hp
          obtain ⟨A9, c9, rfl⟩ := own_form H2.n
          obtain ⟨t, k2, e2, ha2, hx2⟩ := vat_of s p2 1099511627776
          go_wp2_with fail
          rcases hx2 with ⟨rfl, ht, _, _, hk2⟩ | ⟨he2, rfl, rfl⟩
          ·have HA2 := Lib.hid ha2
           have HT9 := Lib.hid ht
           have HXN := Lib.hid (show X = oents s c' (p2 + k2) (acc ++ [((r : Int), (t : Int))]) (fun h p => onum s p 60 fun n p => owrites s f h n p []) from HX4.out.trans (onum_go ha2))
           clear ha2 ht HX4
           refine Flow.wp_region_go (by kernel_rfl) (by kernel_rfl) (by kernel_rfl) 214 rfl (by kernel_rfl) (rv1V w.heap.size R A9 acc.length c9 (r : Int) (t : Int)) (fun gz L wz => RV (fun p v acc w' => RQ1 w w.heap.size E R B B1 v0 f s p v acc w') w.heap.size 1 p2 k2 (.slice A9 acc.length c9) acc (r : Int) (t : Int) gz (L 6) (L 8) (L 9) (L 11) wz) (fun _ _ => False) ((0, undef)) ((RV.new (H2.below (Below.refl _ _).drew) _)) ⟨?_, ?_, ?_, ?_, ?_, ?_, ?_, ?_, ?_, ?_, ?_, ?_, trivial⟩ ?_ ?_
           ·intro gz L wz K ρ hc0 hf0 hF hO hU hcl hi hd hC hK
            have e10 : ρ (.tmp 10) = .pointer (some ⟨w.heap.size, 1, none⟩) := hO 10 (by kernel_rfl)
            simp [go_sem, Flow.ylP_value, Flow.ylP_skip, Flow.ylP_enter, Flow.ylP_panic, hc0, hf0, e10]
            exact hK gz wz hC (fun _ _ => rfl)
           ·intro gz L wz K ρ hc0 hf0 hF hO hU hcl hi hd hC hK
            have e10 : ρ (.tmp 10) = .pointer (some ⟨w.heap.size, 1, none⟩) := hO 10 (by kernel_rfl)
            simp [go_sem, Flow.ylP_value, Flow.ylP_skip, Flow.ylP_enter, Flow.ylP_panic, hc0, hf0, e10]
            exact hK gz wz hC (fun _ _ => rfl)
           ·intro gz L wz K ρ hc0 hf0 hF hO hU hcl hi hd hC hK
            have d1 : L 1 = true := hd ⟨1, .data⟩ (by simp) rfl
            have e68 : ρ (.tmp 68) = .pointer (some ⟨w.heap.size, 1, none⟩) := hF 68 1 (by kernel_rfl) d1
            simp [go_sem, Flow.ylP_value, Flow.ylP_skip, Flow.ylP_enter, Flow.ylP_panic, hc0, hf0, e68]
            exact hK gz wz hC (fun _ _ => rfl)
           ·intro gz L wz K ρ hc0 hf0 hF hO hU hcl hi hd hC hK
            have d2 : L 2 = true := hd ⟨2, .data⟩ (by simp) rfl
            have e69 : ρ (.tmp 69) = .pointer (some ⟨w.heap.size, 1, none⟩) := hF 69 2 (by kernel_rfl) d2
            have h9 : L 9 = false := by cases h : L 9 with | false => rfl | true => (have := hcl 9 3 (by kernel_rfl) h; rw [hi] at this; cases this)
            have cc := (hC.pre h9).b.bt.c1
            simp [go_sem, Flow.ylP_value, Flow.ylP_skip, Flow.ylP_enter, Flow.ylP_panic, hc0, hf0, e69, cc]
            exact hK gz wz hC (fun _ _ => rfl)
           ·intro gz L wz K ρ hc0 hf0 hF hO hU hcl hi hd hC hK
            have e12 : ρ (.tmp 12) = .int .i64 (r : Int) := hO 12 (by kernel_rfl)
            simp [go_sem, Flow.ylP_value, Flow.ylP_skip, Flow.ylP_enter, Flow.ylP_panic, hc0, hf0, e12]
            exact hK gz wz hC (fun _ _ => rfl)
           ·intro gz L wz K ρ hc0 hf0 hF hO hU hcl hi hd hC hK
            have e8 : ρ (.tmp 8) = .pointer (some ⟨R, 0, none⟩) := hO 8 (by kernel_rfl)
            simp [go_sem, Flow.ylP_value, Flow.ylP_skip, Flow.ylP_enter, Flow.ylP_panic, hc0, hf0, e8]
            exact hK gz wz hC (fun _ _ => rfl)
           ·intro gz L wz K ρ hc0 hf0 hF hO hU hcl hi hd hC hK
            have d5 : L 5 = true := hd ⟨5, .data⟩ (by simp) rfl
            have e72 : ρ (.tmp 72) = .pointer (some ⟨R, 0, none⟩) := hF 72 5 (by kernel_rfl) d5
            simp [go_sem, Flow.ylP_value, Flow.ylP_skip, Flow.ylP_enter, Flow.ylP_panic, hc0, hf0, e72]
            obtain ⟨h8, h9, h11⟩ := (hi ▸ hC).flags
            have hG := hC.pre h9
            rw [hi] at hG
            refine (next_any s p2 R 1099511627776 wz hs hp2 (by decide) hG.b.sc).mono ?_
            rintro r9 wn ⟨q, n', k', e', ha', hx'⟩
            rw [HA2.out] at ha'
            injection ha' with q1 ha'
            injection ha' with q2 ha'
            subst q1 q2 ha'
            rcases hx' with ⟨_, _, _, _, _, rfl, rfl⟩ | ⟨h0, _⟩
            ·exact ⟨_, rfl, hK gz _ (by show RV (fun p v acc w' => RQ1 w w.heap.size E R B B1 v0 f s p v acc w') w.heap.size 1 p2 k2 (.slice A9 acc.length c9) acc (r : Int) (t : Int) gz true (L 8) (L 9) (L 11) _; rw [h8, h9, h11]; exact RV.call (hG.step S q (p2 + k2))) (fun _ _ => rfl)⟩
            ·exact absurd rfl h0
           ·intro gz L wz K ρ hc0 hf0 hF hO hU hcl hi hd hC hK
            have d4 : L 4 = true := hd ⟨4, .data⟩ (by simp) rfl
            have e71 : ρ (.tmp 71) = .int .i64 (r : Int) := hF 71 4 (by kernel_rfl) d4
            have d6 : L 6 = true := hd ⟨6, .data⟩ (by simp) rfl
            have e73 : ρ (.tmp 73) = .int .i64 (t : Int) := hF 73 6 (by kernel_rfl) d6
            simp [go_sem, Flow.ylP_value, Flow.ylP_skip, Flow.ylP_enter, Flow.ylP_panic, hc0, hf0, e71, e73]
            exact hK gz wz hC (fun _ _ => rfl)
           ·intro gz L wz K ρ hc0 hf0 hF hO hU hcl hi hd hC hK
            have d7 : L 7 = true := hd ⟨7, .data⟩ (by simp) rfl
            have e74 : ρ (.tmp 74) = .agg #[.int .i64 (r : Int), .int .i64 (t : Int)] := hF 74 7 (by kernel_rfl) d7
            obtain ⟨h9, h11⟩ := (hi ▸ hC).flags8
            simp [go_sem, Flow.ylP_value, Flow.ylP_skip, Flow.ylP_enter, Flow.ylP_panic, hc0, hf0, e74]
            have d6 := hcl 7 6 (by kernel_rfl) d7
            have hG := hC.pre h9
            rw [d6] at hG
            refine hK (wz.heap.size, gz.2) _ ?_ (by intro j hj; unfold rv1V; split <;> first | rfl | (rw [hi] at hj; cases hj) | (have hz := hcl _ 8 (by kernel_rfl) hj; rw [hi] at hz; cases hz))
            show RV (fun p v acc w' => RQ1 w w.heap.size E R B B1 v0 f s p v acc w') w.heap.size 1 p2 k2 (.slice A9 acc.length c9) acc (r : Int) (t : Int) _ (L 6) true (L 9) (L 11) _
            rw [d6, h9, h11]
            exact RV.build (hG.below (below1 _ _)) (by rw [World.cell?_alloc_new]; rfl) (by rw [World.cell?_alloc_new]; rfl)
           ·intro gz L wz K ρ hc0 hf0 hF hO hU hcl hi hd hC hK
            have d3 : L 3 = true := hd ⟨3, .data⟩ (by simp) rfl
            have e70 : ρ (.tmp 70) = .slice A9 acc.length c9 := hF 70 3 (by kernel_rfl) d3
            have d8 : L 8 = true := hd ⟨8, .data⟩ (by simp) rfl
            have e75 : ρ (.tmp 75) = .slice (some ⟨gz.1, 0, none⟩) 1 1 := hF 75 8 (by kernel_rfl) d8
            have h11 := (hi ▸ hC).flags9
            have d6 := hC.o8 d8
            have hpre := hC.pre hi
            rw [d6] at hpre
            have htmp := hC.tmp d8 hi
            obtain ⟨v', wn, hrun, ho, hgw, _⟩ := run_append_own (P := Tryz.prog) wz B1 22 22 79 n0 (.agg #[.int .i64 0, .int .i64 0]) 2 16 Tryz.underlying22 hn0 hn1 hn2 hn3 rfl (by decide) (.slice A9 acc.length c9) acc.length (entV acc) hpre.n ⟨gz.1, 0, none⟩ 1 1 [.int .i64 (r : Int), .int .i64 (t : Int)] rfl (ent_cells htmp.1 htmp.2) (by intro u hu; simp at hu; rcases hu with rfl | rfl <;> rfl) HCP.out.1 HCP.out.2 hpre.sz
            have ho' := entV_snoc (x := ((r : Int), (t : Int))) rfl ho
            unfold execOp
            simp only [resolve, invoke, builtin, Sem.run_bind, Sem.run_pure, Result.andThen_ok, List.map_toArray, List.map_cons, List.map_nil, e70, e75, hrun]
            refine hK (gz.1, v') wn ?_ (by intro j hj; unfold rv1V; split <;> first | rfl | (rw [hi] at hj; cases hj) | (have hz := hcl _ 9 (by kernel_rfl) hj; rw [hi] at hz; cases hz))
            show RV (fun p v acc w' => RQ1 w w.heap.size E R B B1 v0 f s p v acc w') w.heap.size 1 p2 k2 (.slice A9 acc.length c9) acc (r : Int) (t : Int) _ (L 6) (L 8) true (L 11) _
            rw [d6, d8, h11]
            exact RV.app (by obtain ⟨A8, c8, h8⟩ := own_form ho'; exact ⟨A8, _, c8, h8⟩) (hpre.grow S AA hgw ho')
           ·intro gz L wz K ρ hc0 hf0 hF hO hU hcl hi hd hC hK
            have d0 : L 0 = true := hd ⟨0, .data⟩ (by simp) rfl
            have e67 : ρ (.tmp 67) = .pointer (some ⟨w.heap.size, 1, none⟩) := hF 67 0 (by kernel_rfl) d0
            simp [go_sem, Flow.ylP_value, Flow.ylP_skip, Flow.ylP_enter, Flow.ylP_panic, hc0, hf0, e67]
            exact hK gz wz hC (fun _ _ => rfl)
           ·intro gz L wz K ρ hc0 hf0 hF hO hU hcl hi hd hC hK
            have d10 : L 10 = true := hd ⟨10, .data⟩ (by simp) rfl
            have e77 : ρ (.tmp 77) = .pointer (some ⟨w.heap.size, 1, none⟩) := hF 77 10 (by kernel_rfl) d10
            have d9 : L 9 = true := hd ⟨9, .data⟩ (by simp) rfl
            have e76 : ρ (.tmp 76) = gz.2 := hF 76 9 (by kernel_rfl) d9
            have d8 := hC.o9 d9
            have d6 := hC.o8 d8
            obtain ⟨⟨A8, n8, c8, hv8⟩, a0, a1, hfin⟩ := hC.mid d9 hi
            have hz := hK gz _ (show RV (fun p v acc w' => RQ1 w w.heap.size E R B B1 v0 f s p v acc w') w.heap.size 1 p2 k2 (.slice A9 acc.length c9) acc (r : Int) (t : Int) _ (L 6) (L 8) (L 9) true _ by rw [d6, d8, d9]; exact RV.store hfin) (fun _ _ => rfl)
            rw [hv8] at e76 hz
            simp [go_sem, Flow.ylP_value, Flow.ylP_skip, Flow.ylP_enter, Flow.ylP_panic, hc0, hf0, e77, e76, a0, a1]
            exact hz
           ·intro g L ch wz h; exact h.elim
           ·intro gz L wz hL hC
            rw [hL 6 (by decide), hL 8 (by decide), hL 9 (by decide), hL 11 (by decide)] at hC
            have H9 := hC.fin rfl
            clear hC hL H2
            simp only [Flow.putAll, rv1V]
            go_wp2
            go_roundw
            case rel => exact ⟨c', p2 + k2, acc ++ [((r : Int), (t : Int))], gz.2, by go_num, hk2, HXN, Lib.hid ⟨by have := HAC.out.1; rw [List.length_append]; simp only [List.length_cons, List.length_nil]; omega, tv_fits HAC.out.2 HR9.out HT9.out⟩, H9⟩
            case measure => simp [intOf]; omega
          ·have HA2 := Lib.hid ha2
           have HE := Lib.hid he2
           have HV := Lib.hid (show X = bad0 e2 from HX4.out.trans (onum_bad ha2 he2))
           clear ha2 he2 HX4
           refine Flow.wp_region_go (by kernel_rfl) (by kernel_rfl) (by kernel_rfl) 214 rfl (by kernel_rfl) (rv1V w.heap.size R A9 acc.length c9 (r : Int) 0) (fun _ L wz => Below W3.heap.size W3 wz ∧ L 6 = false) (fun ch wz => ch = Thrown e2 (p2 : Int) ∧ Below W3.heap.size W3 wz) ((0, undef)) (⟨(Below.refl _ _).drew, rfl⟩) ⟨?_, ?_, ?_, ?_, ?_, ?_, ?_, ?_, ?_, ?_, ?_, ?_, trivial⟩ ?_ ?_
           ·intro gz L wz K ρ hc0 hf0 hF hO hU hcl hi hd hC hK
            have e10 : ρ (.tmp 10) = .pointer (some ⟨w.heap.size, 1, none⟩) := hO 10 (by kernel_rfl)
            simp [go_sem, Flow.ylP_value, Flow.ylP_skip, Flow.ylP_enter, Flow.ylP_panic, hc0, hf0, e10]
            exact hK gz wz hC (fun _ _ => rfl)
           ·intro gz L wz K ρ hc0 hf0 hF hO hU hcl hi hd hC hK
            have e10 : ρ (.tmp 10) = .pointer (some ⟨w.heap.size, 1, none⟩) := hO 10 (by kernel_rfl)
            simp [go_sem, Flow.ylP_value, Flow.ylP_skip, Flow.ylP_enter, Flow.ylP_panic, hc0, hf0, e10]
            exact hK gz wz hC (fun _ _ => rfl)
           ·intro gz L wz K ρ hc0 hf0 hF hO hU hcl hi hd hC hK
            have d1 : L 1 = true := hd ⟨1, .data⟩ (by simp) rfl
            have e68 : ρ (.tmp 68) = .pointer (some ⟨w.heap.size, 1, none⟩) := hF 68 1 (by kernel_rfl) d1
            simp [go_sem, Flow.ylP_value, Flow.ylP_skip, Flow.ylP_enter, Flow.ylP_panic, hc0, hf0, e68]
            exact hK gz wz hC (fun _ _ => rfl)
           ·intro gz L wz K ρ hc0 hf0 hF hO hU hcl hi hd hC hK
            have d2 : L 2 = true := hd ⟨2, .data⟩ (by simp) rfl
            have e69 : ρ (.tmp 69) = .pointer (some ⟨w.heap.size, 1, none⟩) := hF 69 2 (by kernel_rfl) d2
            have cc := (hC.1.cell (cell_lt H2.b.bt.c1)).trans H2.b.bt.c1
            simp [go_sem, Flow.ylP_value, Flow.ylP_skip, Flow.ylP_enter, Flow.ylP_panic, hc0, hf0, e69, cc]
            exact hK gz wz hC (fun _ _ => rfl)
           ·intro gz L wz K ρ hc0 hf0 hF hO hU hcl hi hd hC hK
            have e12 : ρ (.tmp 12) = .int .i64 (r : Int) := hO 12 (by kernel_rfl)
            simp [go_sem, Flow.ylP_value, Flow.ylP_skip, Flow.ylP_enter, Flow.ylP_panic, hc0, hf0, e12]
            exact hK gz wz hC (fun _ _ => rfl)
           ·intro gz L wz K ρ hc0 hf0 hF hO hU hcl hi hd hC hK
            have e8 : ρ (.tmp 8) = .pointer (some ⟨R, 0, none⟩) := hO 8 (by kernel_rfl)
            simp [go_sem, Flow.ylP_value, Flow.ylP_skip, Flow.ylP_enter, Flow.ylP_panic, hc0, hf0, e8]
            exact hK gz wz hC (fun _ _ => rfl)
           ·intro gz L wz K ρ hc0 hf0 hF hO hU hcl hi hd hC hK
            have d5 : L 5 = true := hd ⟨5, .data⟩ (by simp) rfl
            have e72 : ρ (.tmp 72) = .pointer (some ⟨R, 0, none⟩) := hF 72 5 (by kernel_rfl) d5
            simp [go_sem, Flow.ylP_value, Flow.ylP_skip, Flow.ylP_enter, Flow.ylP_panic, hc0, hf0, e72]
            refine (next_any s p2 R 1099511627776 wz hs hp2 (by decide) (H2.b.sc.below hC.1)).mono ?_
            rintro r9 wn ⟨q, n', k', e', ha', hx'⟩
            rw [HA2.out] at ha'
            injection ha' with _ ha'
            injection ha' with _ ha'
            subst ha'
            rcases hx' with ⟨h0, _⟩ | ⟨_, rfl, rfl⟩
            ·exact absurd h0 HE.out
            ·exact .inr ⟨_, rfl, rfl, below_drewN hC.1 q⟩
           ·intro gz L wz K ρ hc0 hf0 hF hO hU hcl hi hd hC hK
            have d4 : L 4 = true := hd ⟨4, .data⟩ (by simp) rfl
            have e71 : ρ (.tmp 71) = .int .i64 (r : Int) := hF 71 4 (by kernel_rfl) d4
            have d6 : L 6 = true := hd ⟨6, .data⟩ (by simp) rfl
            have e73 : ρ (.tmp 73) = .int .i64 0 := hF 73 6 (by kernel_rfl) d6
            have hz := d6
            rw [hC.2] at hz
            cases hz
           ·intro gz L wz K ρ hc0 hf0 hF hO hU hcl hi hd hC hK
            have d7 : L 7 = true := hd ⟨7, .data⟩ (by simp) rfl
            have e74 : ρ (.tmp 74) = .agg #[.int .i64 (r : Int), .int .i64 0] := hF 74 7 (by kernel_rfl) d7
            have hz := hcl 7 6 (by kernel_rfl) d7
            rw [hC.2] at hz
            cases hz
           ·intro gz L wz K ρ hc0 hf0 hF hO hU hcl hi hd hC hK
            have d3 : L 3 = true := hd ⟨3, .data⟩ (by simp) rfl
            have e70 : ρ (.tmp 70) = .slice A9 acc.length c9 := hF 70 3 (by kernel_rfl) d3
            have d8 : L 8 = true := hd ⟨8, .data⟩ (by simp) rfl
            have e75 : ρ (.tmp 75) = .slice (some ⟨gz.1, 0, none⟩) 1 1 := hF 75 8 (by kernel_rfl) d8
            have hz := hcl 8 6 (by kernel_rfl) d8
            rw [hC.2] at hz
            cases hz
           ·intro gz L wz K ρ hc0 hf0 hF hO hU hcl hi hd hC hK
            have d0 : L 0 = true := hd ⟨0, .data⟩ (by simp) rfl
            have e67 : ρ (.tmp 67) = .pointer (some ⟨w.heap.size, 1, none⟩) := hF 67 0 (by kernel_rfl) d0
            simp [go_sem, Flow.ylP_value, Flow.ylP_skip, Flow.ylP_enter, Flow.ylP_panic, hc0, hf0, e67]
            exact hK gz wz hC (fun _ _ => rfl)
           ·intro gz L wz K ρ hc0 hf0 hF hO hU hcl hi hd hC hK
            have d10 : L 10 = true := hd ⟨10, .data⟩ (by simp) rfl
            have e77 : ρ (.tmp 77) = .pointer (some ⟨w.heap.size, 1, none⟩) := hF 77 10 (by kernel_rfl) d10
            have d9 : L 9 = true := hd ⟨9, .data⟩ (by simp) rfl
            have e76 : ρ (.tmp 76) = gz.2 := hF 76 9 (by kernel_rfl) d9
            have hz := hcl 9 6 (by kernel_rfl) d9
            rw [hC.2] at hz
            cases hz
           ·rintro gz L ch wz ⟨rfl, hb⟩
            have hZ := H2.below hb
            refine rodoor_bad HV.out HE.out hZ.b.bt S.oe S.lo S.le hZ.b.bel ?_ ?_
            ·rw [Flow.frame_at]; rfl
            ·rw [Flow.frame_at]; rfl
           ·intro gz L wz hL hC
            have := hL 6 (by decide)
            rw [hC.2] at this
            cases this
         ·have HV := Lib.hid (show X = bad0 e from HX3.out.trans (onum_bad hv he))
          have HE := Lib.hid he
          have hZ := H.below (below_drewN (Below.refl _ _) q)
          clear hv he
          go_wp2
          exact rodoor_bad HV.out HE.out hZ.b.bt S.oe S.lo S.le hZ.b.bel rfl rfl
        ·obtain ⟨t0, t0'⟩ : decide ((0 : Int) < (c : Int)) = false ∧ decide (0 < c) = false := ⟨by simp only [decide_eq_false_iff_not]; omega, by simpa using hlt⟩
         obtain rfl : c = 0 := by omega
         have HXE := Lib.hid (show X = (fun h p => onum s p 60 fun n p => owrites s f h n p []) acc p from HX2.out)
         clear HX2 hlt
         have HM' := HM.out
         go_wp2
         go_roundw
         case rel => exact ⟨.inr (.inr ⟨rfl, f, acc, p, v0, v, hp, HXE, hf16, hff, by have := HAC.out.1; omega, HAC.out.2, H.b⟩), H.a⟩
         case measure => simp [intOf]
      ·have HV := Lib.hid (show X = bad0 e from HX0.out.trans (onum_bad hv he))
       have HE := Lib.hid he
       have hZ := H.below (below_drewN (Below.refl _ _) q)
       clear hv he
       go_wp2
       exact rodoor_bad HV.out HE.out hZ.b.bt S.oe S.lo S.le hZ.b.bel rfl rfl
     ·have HX1 := HX0
      clear hA
      go_wp2_with fail
      refine (next_any s p R 60 wr hs hp (by decide) H.sc).mono ?_
      rintro r9 w1 ⟨q, m, k, e, hv, hx⟩
      rcases hx with ⟨rfl, hm, _, _, hk, rfl, rfl⟩ | ⟨he, rfl, rfl⟩
      ·have HX2 := Lib.hid (show X = owrites s f h m (p + k) [] from HX1.out.trans (onum_go hv))
       have HL4 := H.step S q (p + k)
       have HM := Lib.hid hm
       clear hv HX1 HX0 H hp hm
       generalize (wr.drewN q).setCell ⟨R, 1, none⟩ (.int .i64 ((p + k : Nat) : Int)) = W4 at *
       generalize p + k = p1 at *
       clear q
       go_wp2
       go_loopw [13, 14, 15, 16, 17] (fun cv _ _ _ _ wr => ∃ (c p : Nat) (ws : List Wr) (v2 : Value), cv = .int .i64 (c : Int) ∧ p ≤ s.size ∧ Hid (X = owrites s f h c p ws) ∧ Hid (ws.length + c = m) ∧ RL w w.heap.size E R B s p v0 v1 v2 nilS nilS f h ws [] [] wr) (fun cv _ _ _ _ _ => (intOf cv).toNat)
       case atStart => exact ⟨m, p1, [], nilS, rfl, hk, HX2, Lib.hid (by simp), HL4⟩
       case round =>
        obtain ⟨c, p, ws, v2, rfl, hp, HX5, HAC, HL⟩ := hrel
        clear HL4 HX2 hk
        obtain ⟨k0', k1', k2'⟩ := HL.sc
        by_cases hlt : 0 < c
        ·obtain ⟨t0, t0'⟩ := vd_dec hlt
         obtain ⟨c', hc'⟩ : ∃ c', c = c' + 1 := ⟨c - 1, by omega⟩
         have hcm : c ≤ 60 := by have := HM.out; have := HAC.out; omega
         have dw : IntKind.i64.wrap ((c : Int) - 1) = (c' : Int) := vd_pred hc' (by omega)
         have hcl' : c' < c := by omega
         have HCP := Lib.hid (show ws.length + 1 ≤ 2 ^ 63 - 1 ∧ (ws.length + 1) * 64 ≤ 140737488355328 by have := HM.out; have := HAC.out; omega)
         have HX6 := Lib.hid (show X = owrite s p (fun y q => owrites s f h c' q (ws ++ [y])) by rw [HX5.out, hc']; rfl)
         replace HAC := Lib.hid (show (ws.length + 1) + c' = m by have := HAC.out; omega)
         clear hc' HX5 hlt hcm
         by_cases hend : s.size ≤ p
         ·have te : ((p : Int) == (s.size : Int)) = true := by rw [beq_iff_eq]; omega
          have HV := Lib.hid (show X = bad0 7 from HX6.out.trans (owrite_end hend))
          clear hend
          go_wp2_with fail
          refine (throw_any 7 (p : Int) _).mono ?_
          rintro r9 w9 ⟨rfl, rfl⟩
          go_wp2
          exact rodoor_bad HV.out (by decide) HL.bt S.oe S.lo S.le HL.bel rfl rfl
         ·have hps : p < s.size := by omega
          have te : ((p : Int) == (s.size : Int)) = false := by rw [beq_eq_false_iff_ne]; omega
          have i1 : (p : Int) < (s.size : Int) := by omega
          have i0' : (0 : Int) ≤ (p : Int) := by omega
          have hBy := byteOf_eq s p hps
          have hBy' : ((s[p].toNat : Nat) : Int) = (byteOf s p : Int) := by rw [← hBy]
          have hlB := byteOf_lt s p
          obtain ⟨kd, hkd'⟩ : ∃ kd, kd = byteOf s p := ⟨_, rfl⟩
          rw [← hkd'] at hBy hBy' hlB
          have wK : IntKind.i64.wrap (kd : Int) = (kd : Int) := IntWalk.i64_in _ (by omega)
          have HKD := Lib.hid hkd'
          have HNE := Lib.hid hend
          have HG := HL.newG (0, 0, (kd : Int), ⟨#[]⟩, ⟨#[]⟩, 0)
          have HGs := HG.b.sc
          obtain ⟨z0, z1, z2⟩ := HGs
          have z3 : (wr.alloc (wrO 0 0 (kd : Int) ⟨#[]⟩ ⟨#[]⟩ 0)).cell? ⟨wr.heap.size, 2, none⟩ = some (.int .i64 (kd : Int)) := HG.cell 2 (by omega)
          clear hkd' hend HL
          go_wp2_with fail
          generalize wr.alloc (wrO 0 0 (kd : Int) ⟨#[]⟩ ⟨#[]⟩ 0) = W5 at *
          generalize wr.heap.size = g at *
          refine (within_any (kd : Int) 1 4 _).mono ?_
          rintro r9 w9 ⟨rfl, rfl⟩
          by_cases hok : kd < 1 ∨ 4 < kd
          ·have eB : inB (kd : Int) 1 4 = false := by unfold inB; simp only [decide_eq_false_iff_not]; omega
           have HV := Lib.hid (show X = bad0 1 from HX6.out.trans (owrite_kind HNE.out (by rw [← HKD.out]; exact hok)))
           rw [eB]
           clear hok
           go_wp2_with fail
           refine (throw_any 1 (p : Int) _).mono ?_
           rintro r9 w9 ⟨rfl, rfl⟩
           go_wp2
           exact rodoor_bad HV.out (by decide) HG.b.bt S.oe S.lo S.le HG.b.bel rfl rfl
          ·have eB : inB (kd : Int) 1 4 = true := by unfold inB; simp only [decide_eq_true_eq]; omega
           have HX7 := Lib.hid (show X = onum s (p + 1) 1099511627776 fun t q => onum s q 200 fun r q => okey s q t r kd (fun y q => owrites s f h c' q (ws ++ [y])) from HX6.out.trans ((owrite_go HNE.out (by rw [← HKD.out]; exact hok)).trans (by rw [← HKD.out])))
           rw [eB]
           have wp1 : IntKind.i64.wrap ((p : Int) + 1) = ((p + 1 : Nat) : Int) := IntWalk.i64_in _ (by omega)
           have HG' := HG.setR S (p + 1)
           have hp1s : p + 1 ≤ s.size := by omega
           clear hok eB hBy hBy' z3 HX6
           have z4 := HG'.b.sc.c1
           go_wp2_with fail
           clear z0 z1 z2 z4 wK wp1 i1 i0' te HG
           have ep1 : (p : Int) + 1 = ((p + 1 : Nat) : Int) := by omega
           rw [ep1]
           generalize W5.setCell ⟨R, 1, none⟩ (.int .i64 ((p + 1 : Nat) : Int)) = W6 at *
           generalize hp1 : p + 1 = p1 at *
           clear ep1 hp1 hps hp
           refine (next_any s p1 R 1099511627776 W6 hs hp1s (by decide) HG'.b.sc).mono ?_
           rintro r9 w1 ⟨q1, t, k1, e, hv, hx⟩
           rcases hx with ⟨rfl, hn, _, _, hk1, rfl, rfl⟩ | ⟨he, rfl, rfl⟩
           ·have HX8 := Lib.hid (show X = onum s (p1 + k1) 200 fun r q => okey s q t r kd (fun y q => owrites s f h c' q (ws ++ [y])) from HX7.out.trans (onum_go hv))
            have HG1 := HG'.step S q1 (p1 + k1)
            clear hv HG' HX7 hp1s hn
            generalize (W6.drewN q1).setCell ⟨R, 1, none⟩ (.int .i64 ((p1 + k1 : Nat) : Int)) = W7 at *
            generalize p1 + k1 = p2 at *
            have g0 : W7.cell? ⟨g, 0, none⟩ = some (.int .i64 0) := HG1.cell 0 (by omega)
            have g1 := HG1.froz 0
            have HG2 := HG1.setG S (y := ((t : Int), 0, (kd : Int), ⟨#[]⟩, ⟨#[]⟩, 0)) 0 (.int .i64 (t : Int)) rfl
            go_wp2_with fail
            clear g0 g1 HG1
            generalize W7.setCell ⟨g, 0, none⟩ (.int .i64 (t : Int)) = W8 at *
            refine (next_any s p2 R 200 W8 hs hk1 (by decide) HG2.b.sc).mono ?_
            rintro r9 w1 ⟨q2, r, k2, e, hv, hx⟩
            rcases hx with ⟨rfl, hr, _, _, hk2, rfl, rfl⟩ | ⟨he, rfl, rfl⟩
            ·have HX8' := Lib.hid (show X = okey s (p2 + k2) t r kd (fun y q => owrites s f h c' q (ws ++ [y])) from HX8.out.trans (onum_go hv))
             have HG3 := HG2.step S q2 (p2 + k2)
             clear hv HG2 HX8 hk1 hr
             generalize (W8.drewN q2).setCell ⟨R, 1, none⟩ (.int .i64 ((p2 + k2 : Nat) : Int)) = W9 at *
             generalize p2 + k2 = p3 at *
             have g0 : W9.cell? ⟨g, 1, none⟩ = some (.int .i64 0) := HG3.cell 1 (by omega)
             have g1 := HG3.froz 1
             have HG4 := HG3.setG S (y := ((t : Int), (r : Int), (kd : Int), ⟨#[]⟩, ⟨#[]⟩, 0)) 1 (.int .i64 (r : Int)) rfl
             have hl3 : (s.extract p3 s.size).size ≤ maxLen := by rw [ByteArray.size_extract]; unfold maxLen; omega
             have i1 : (0 : Int) ≤ (p3 : Int) := by omega
             have i2 : (p3 : Int) ≤ (s.size : Int) := by omega
             have z1 := HG4.b.sc.c1
             obtain ⟨⟨x3, n3, e3⟩, hu⟩ : ∃ x, unspan (s.extract p3 s.size) = x := ⟨_, rfl⟩
             have hfar3 : p3 + n3 ≤ s.size := by
              have h2 : (unspan (s.extract p3 s.size)).2.1 ≤ (s.extract p3 s.size).size := by
               rcases unspan_says (s.extract p3 s.size) with h | ⟨e, h, _⟩
               ·exact h.2.2.1
               ·rw [h]; exact Nat.zero_le _
              rw [hu, ByteArray.size_extract] at h2
              simp only at h2
              omega
             have HU := Lib.hid hu
             clear hu HG3
             go_wp2_with fail
             clear g0 g1
             generalize W9.setCell ⟨g, 1, none⟩ (.int .i64 (r : Int)) = W10 at *
             refine (runspan_any (s.extract p3 s.size) W10 hl3).mono ?_
             rintro r9 w1 ⟨rfl, rfl⟩
             rw [HU.out]
             simp only
             clear i1 i2 hl3
             by_cases he : e3 = 0
             ·subst he
              have HX9 := Lib.hid (show X = ofill s (p3 + n3) ((t : Int), (r : Int), (kd : Int), x3, ⟨#[]⟩, 0) (fun y q => owrites s f h c' q (ws ++ [y])) from HX8'.out.trans (okey_go HU.out))
              clear HU HX8'
              have g0 : W10.cell? ⟨g, 3, none⟩ = some (.string ⟨#[]⟩) := HG4.cell 3 (by omega)
              have g1 := HG4.froz 3
              have HG5 := HG4.setG S (y := ((t : Int), (r : Int), (kd : Int), x3, ⟨#[]⟩, 0)) 3 (.string x3) rfl
              have HG7 := HG5.setR S (p3 + n3)
              have z2 := HG5.b.sc.c1
              have z3 := HG5.b.sc.f1
              have w9 : IntKind.i64.wrap ((p3 : Int) + (n3 : Int)) = ((p3 + n3 : Nat) : Int) := IntWalk.i64_in _ (by omega)
              obtain ⟨⟨y, nf, ef⟩, hf⟩ : ∃ z, wfill ((t : Int), (r : Int), (kd : Int), x3, ⟨#[]⟩, 0) (s.extract (p3 + n3) s.size) = z := ⟨_, rfl⟩
              have hfar : p3 + n3 + nf ≤ s.size := by
               have h2 := wfill_far ((t : Int), (r : Int), (kd : Int), x3, ⟨#[]⟩, 0) (s.extract (p3 + n3) s.size)
               rw [hf, ByteArray.size_extract] at h2
               simp only at h2
               omega
              have hl4 : (s.extract (p3 + n3) s.size).size ≤ maxLen := by rw [ByteArray.size_extract]; unfold maxLen; omega
              have j1 : (0 : Int) ≤ ((p3 + n3 : Nat) : Int) := by omega
              have j2 : ((p3 + n3 : Nat) : Int) ≤ (s.size : Int) := by omega
              have HFL := Lib.hid hf
              clear hf HG4
              rw [Int.natCast_add] at w9 HG7
              go_wp2_with fail
              clear g0 g1 z1 z2 z3 w9 HG5
              have ep : (p3 : Int) + (n3 : Int) = ((p3 + n3 : Nat) : Int) := by omega
              rw [ep] at HG7
              try rw [ep]
              generalize (W10.setCell ⟨g, 3, none⟩ (.string x3)).setCell ⟨R, 1, none⟩ (.int .i64 ((p3 + n3 : Nat) : Int)) = W12 at *
              clear ep
              generalize p3 + n3 = p4 at *
              try simp [Act.put]
              refine Flow.wp_region_go (by kernel_rfl) (by kernel_rfl) (by kernel_rfl) 214 rfl (by kernel_rfl) (ro39V s R p4 (t : Int) (r : Int) kd x3 y nf ef) (fun _ L wz => RLG w w.heap.size E R B g (cond (L 12) y ((t : Int), (r : Int), (kd : Int), x3, ⟨#[]⟩, 0)) s p4 v0 v1 v2 nilS nilS f h ws [] [] wz) (fun _ _ => False) (()) (HG7.below ((Below.refl _ _).drew)) ⟨?_, ?_, ?_, ?_, ?_, ?_, ?_, ?_, ?_, ?_, ?_, ?_, ?_, ?_, ?_, trivial⟩ ?_ ?_
              ·intro gy L wz K ρ hc0 hf0 hF hO hU hcl hi hd hC hK
               have e14 : ρ (.tmp 14) = .pointer (some ⟨g, 0, none⟩) := hO 14 (by kernel_rfl)
               have h12 : L 12 = false := by cases h : L 12 with | false => rfl | true => (have := hcl 12 0 (by kernel_rfl) h; rw [hi] at this; cases this)
               rw [h12] at hC
               have hC' : RLG w w.heap.size E R B g ((t : Int), (r : Int), (kd : Int), x3, ⟨#[]⟩, 0) s p4 v0 v1 v2 nilS nilS f h ws [] [] wz := hC
               obtain ⟨c0, c1, c2', c3', c4, c5⟩ := hC'.at_
               simp [go_sem, Flow.ylP_value, Flow.ylP_skip, Flow.ylP_enter, Flow.ylP_panic, hc0, hf0, e14, c0, c1, c2', c3', c4, c5]
               refine hK () wz ?_ (fun _ _ => rfl)
               show RLG w w.heap.size E R B g (cond (L 12) y ((t : Int), (r : Int), (kd : Int), x3, ⟨#[]⟩, 0)) _ _ _ _ _ _ _ _ _ _ _ _ _
               rw [h12]
               exact hC'
              ·intro gy L wz K ρ hc0 hf0 hF hO hU hcl hi hd hC hK
               have e6 : ρ (.tmp 6) = .string s := hO 6 (by kernel_rfl)
               simp [go_sem, Flow.ylP_value, Flow.ylP_skip, Flow.ylP_enter, Flow.ylP_panic, hc0, hf0, e6]
               exact hK gy wz hC (fun _ _ => rfl)
              ·intro gy L wz K ρ hc0 hf0 hF hO hU hcl hi hd hC hK
               have e8 : ρ (.tmp 8) = .pointer (some ⟨R, 0, none⟩) := hO 8 (by kernel_rfl)
               simp [go_sem, Flow.ylP_value, Flow.ylP_skip, Flow.ylP_enter, Flow.ylP_panic, hc0, hf0, e8]
               exact hK gy wz hC (fun _ _ => rfl)
              ·intro gy L wz K ρ hc0 hf0 hF hO hU hcl hi hd hC hK
               have d2 : L 2 = true := hd ⟨2, .data⟩ (by simp) rfl
               have e161 : ρ (.tmp 161) = .pointer (some ⟨R, 0, none⟩) := hF 161 2 (by kernel_rfl) d2
               simp [go_sem, Flow.ylP_value, Flow.ylP_skip, Flow.ylP_enter, Flow.ylP_panic, hc0, hf0, e161]
               exact hK gy wz hC (fun _ _ => rfl)
              ·intro gy L wz K ρ hc0 hf0 hF hO hU hcl hi hd hC hK
               have d3 : L 3 = true := hd ⟨3, .data⟩ (by simp) rfl
               have e162 : ρ (.tmp 162) = .pointer (some ⟨R, 0, none⟩) := hF 162 3 (by kernel_rfl) d3
               simp [go_sem, Flow.ylP_value, Flow.ylP_skip, Flow.ylP_enter, Flow.ylP_panic, hc0, hf0, e162]
               exact hK gy wz hC (fun _ _ => rfl)
              ·intro gy L wz K ρ hc0 hf0 hF hO hU hcl hi hd hC hK
               have d4 : L 4 = true := hd ⟨4, .data⟩ (by simp) rfl
               have e163 : ρ (.tmp 163) = .pointer (some ⟨R, 1, none⟩) := hF 163 4 (by kernel_rfl) d4
               have cc := hC.b.sc.c1
               simp [go_sem, Flow.ylP_value, Flow.ylP_skip, Flow.ylP_enter, Flow.ylP_panic, hc0, hf0, e163, cc]
               exact hK gy wz hC (fun _ _ => rfl)
              ·intro gy L wz K ρ hc0 hf0 hF hO hU hcl hi hd hC hK
               have d1 : L 1 = true := hd ⟨1, .data⟩ (by simp) rfl
               have e160 : ρ (.tmp 160) = .string s := hF 160 1 (by kernel_rfl) d1
               have d5 : L 5 = true := hd ⟨5, .data⟩ (by simp) rfl
               have e164 : ρ (.tmp 164) = .int .i64 (p4 : Int) := hF 164 5 (by kernel_rfl) d5
               simp [go_sem, Flow.ylP_value, Flow.ylP_skip, Flow.ylP_enter, Flow.ylP_panic, hc0, hf0, e160, e164, j1, j2]
               exact hK gy wz hC (fun _ _ => rfl)
              ·intro gy L wz K ρ hc0 hf0 hF hO hU hcl hi hd hC hK
               have d0 : L 0 = true := hd ⟨0, .data⟩ (by simp) rfl
               have e159 : ρ (.tmp 159) = .agg #[.int .i64 (t : Int), .int .i64 (r : Int), .int .i64 (kd : Int), .string x3, .string ⟨#[]⟩, .int .i64 0] := hF 159 0 (by kernel_rfl) d0
               have d6 : L 6 = true := hd ⟨6, .data⟩ (by simp) rfl
               have e165 : ρ (.tmp 165) = .string (s.extract p4 s.size) := hF 165 6 (by kernel_rfl) d6
               simp [go_sem, Flow.ylP_value, Flow.ylP_skip, Flow.ylP_enter, Flow.ylP_panic, hc0, hf0, e159, e165]
               refine (rfill_any ((t : Int), (r : Int), (kd : Int), x3, ⟨#[]⟩, 0) (s.extract p4 s.size) wz hl4).mono ?_
               rintro r9 wn ⟨rfl, hbn⟩
               rw [HFL.out]
               exact ⟨_, rfl, hK () wn (hC.below hbn) (by intro j hj; unfold ro39V; split <;> first | rfl | (rw [hi] at hj; cases hj) | (have hz := hcl _ 7 (by kernel_rfl) hj; rw [hi] at hz; cases hz))⟩
              ·intro gy L wz K ρ hc0 hf0 hF hO hU hcl hi hd hC hK
               have d7 : L 7 = true := hd ⟨7, .data⟩ (by simp) rfl
               have e166 : ρ (.tmp 166) = rfillV (y, nf, ef) := hF 166 7 (by kernel_rfl) d7
               simp [go_sem, Flow.ylP_value, Flow.ylP_skip, Flow.ylP_enter, Flow.ylP_panic, hc0, hf0, e166]
               exact hK gy wz hC (fun _ _ => rfl)
              ·intro gy L wz K ρ hc0 hf0 hF hO hU hcl hi hd hC hK
               have d8 : L 8 = true := hd ⟨8, .data⟩ (by simp) rfl
               have e158 : ρ (.tmp 158) = rfillV (y, nf, ef) := hF 158 8 (by kernel_rfl) d8
               simp [go_sem, Flow.ylP_value, Flow.ylP_skip, Flow.ylP_enter, Flow.ylP_panic, hc0, hf0, e158, rfillV]
               exact hK gy wz hC (fun _ _ => rfl)
              ·intro gy L wz K ρ hc0 hf0 hF hO hU hcl hi hd hC hK
               have d8 : L 8 = true := hd ⟨8, .data⟩ (by simp) rfl
               have e158 : ρ (.tmp 158) = rfillV (y, nf, ef) := hF 158 8 (by kernel_rfl) d8
               simp [go_sem, Flow.ylP_value, Flow.ylP_skip, Flow.ylP_enter, Flow.ylP_panic, hc0, hf0, e158, rfillV]
               exact hK gy wz hC (fun _ _ => rfl)
              ·intro gy L wz K ρ hc0 hf0 hF hO hU hcl hi hd hC hK
               have d8 : L 8 = true := hd ⟨8, .data⟩ (by simp) rfl
               have e158 : ρ (.tmp 158) = rfillV (y, nf, ef) := hF 158 8 (by kernel_rfl) d8
               simp [go_sem, Flow.ylP_value, Flow.ylP_skip, Flow.ylP_enter, Flow.ylP_panic, hc0, hf0, e158, rfillV]
               exact hK gy wz hC (fun _ _ => rfl)
              ·intro gy L wz K ρ hc0 hf0 hF hO hU hcl hi hd hC hK
               have e14 : ρ (.tmp 14) = .pointer (some ⟨g, 0, none⟩) := hO 14 (by kernel_rfl)
               have d9 : L 9 = true := hd ⟨9, .data⟩ (by simp) rfl
               have e167 : ρ (.tmp 167) = wrV y.1 y.2.1 y.2.2.1 y.2.2.2.1 y.2.2.2.2.1 y.2.2.2.2.2 := hF 167 9 (by kernel_rfl) d9
               rw [hi] at hC
               have hC' : RLG w w.heap.size E R B g ((t : Int), (r : Int), (kd : Int), x3, ⟨#[]⟩, 0) s p4 v0 v1 v2 nilS nilS f h ws [] [] wz := hC
               obtain ⟨u0, u1, u2, u3, u4, u5⟩ := hC'.at_
               obtain ⟨m0, m1, m2', m3, m4, m5⟩ := hC'.free
               simp [go_sem, Flow.ylP_value, Flow.ylP_skip, Flow.ylP_enter, Flow.ylP_panic, hc0, hf0, e14, e167, u0, u1, u2, u3, u4, u5, m0, m1, m2', m3, m4, m5]
               exact hK () _ (hC'.put S) (fun _ _ => rfl)
              ·intro gy L wz K ρ hc0 hf0 hF hO hU hcl hi hd hC hK
               have d10 : L 10 = true := hd ⟨10, .data⟩ (by simp) rfl
               have e168 : ρ (.tmp 168) = .int .i64 (nf : Int) := hF 168 10 (by kernel_rfl) d10
               simp [go_sem, Flow.ylP_value, Flow.ylP_skip, Flow.ylP_enter, Flow.ylP_panic, hc0, hf0, e168]
               exact hK gy wz hC (fun _ _ => rfl)
              ·intro gy L wz K ρ hc0 hf0 hF hO hU hcl hi hd hC hK
               have d11 : L 11 = true := hd ⟨11, .data⟩ (by simp) rfl
               have e169 : ρ (.tmp 169) = .int .i64 ef := hF 169 11 (by kernel_rfl) d11
               simp [go_sem, Flow.ylP_value, Flow.ylP_skip, Flow.ylP_enter, Flow.ylP_panic, hc0, hf0, e169]
               exact hK gy wz hC (fun _ _ => rfl)
              ·intro g L ch wz h; exact h.elim
              ·intro gy L wy hL hC
               rw [hL 12 (by decide)] at hC
               have HG9 : RLG w w.heap.size E R B g y s p4 v0 v1 v2 nilS nilS f h ws [] [] wy := hC
               clear hC hL HG7
               simp only [Flow.putAll, ro39V]
               have HFW := fun (e0 : ef = 0) => (show X = owrites s f h c' (p4 + nf) (ws ++ [y]) from HX9.out.trans (ofill_go (HFL.out.trans (by rw [e0]))))
               have HFB := fun (e0 : ef ≠ 0) => (show X = bad0 ef from HX9.out.trans (ofill_bad HFL.out e0))
               clear HFL HX9 j1 j2 hl4
               by_cases he : ef = 0
               ·have HXn := Lib.hid (HFW he)
                subst he
                clear HFW HFB
                have w9 : IntKind.i64.wrap ((p4 : Int) + (nf : Int)) = ((p4 + nf : Nat) : Int) := IntWalk.i64_in _ (by omega)
                have HB9 := HG9.setR S (p4 + nf)
                rw [Int.natCast_add] at HB9
                have hW9 := HB9.at_
                have HA9 := HB9.b.below (below1 (wy.setCell ⟨R, 1, none⟩ (.int .i64 ((p4 : Int) + (nf : Int)))) (.cells #[.int .i64 y.1, .int .i64 y.2.1, .int .i64 y.2.2.1, .string y.2.2.2.1, .string y.2.2.2.2.1, .int .i64 y.2.2.2.2.2] 53))
                have hsz9 := HB9.b.sz
                have hce := cells_of (wy.setCell ⟨R, 1, none⟩ (.int .i64 ((p4 : Int) + (nf : Int)))) #[.int .i64 y.1, .int .i64 y.2.1, .int .i64 y.2.2.1, .string y.2.2.2.1, .string y.2.2.2.2.1, .int .i64 y.2.2.2.2.2] 53
                rw [show (wy.setCell ⟨R, 1, none⟩ (.int .i64 ((p4 : Int) + (nf : Int)))).heap.size = wy.heap.size by simp] at hce hsz9
                have m2' := HB9.b.bt.c2
                have m3' := HA9.bt.c2
                obtain ⟨x0', x1', x2', x3', x4', x5'⟩ := hW9
                obtain ⟨l0, l1, l2⟩ := HG9.b.sc
                clear HG9
                go_wp2_with (first
                 | (at_builtin; refine wpList_append_own _ rfl (.tmp 187) (.tmp 189) 23 rfl B 53 k0 (.agg #[.int .i64 0, .int .i64 0, .int .i64 0, .string ⟨#[]⟩, .string ⟨#[]⟩, .int .i64 0]) 6 64 Tryz.underlying23 hk0 hx0 hx1 hx2 rfl (by decide) v2 ws.length (wrsV ws) rfl HA9.ws ⟨wy.heap.size, 0, none⟩ 1 1 (wrCells y) rfl rfl hce (by intro u hu; simp [wrCells] at hu; rcases hu with rfl | rfl | rfl | rfl | rfl | rfl <;> rfl) HCP.out.1 HCP.out.2 (by simp; omega) ?_; intro v5 w5 hT5 hg5 _; obtain ⟨A5, c5, rfl⟩ := own_form hT5; have HL9 := HA9.growW S hg5 (wrsV_snoc rfl hT5); have bb5 := grown_own (Below.refl B _) hg5 HA9.sz HA9.ws; have m4 := HA9.bt.keep bb5 S.o S.e; obtain ⟨_, _, y2', _, _, _, _, y6', _, _⟩ := m4))
                clear x0' x1' x2' x3' x4' x5' l0 l1 l2 m2' m3' HB9 HA9
                go_wp2
                go_roundw
                case rel => exact ⟨c', p4 + nf, ws ++ [y], .slice A5 (ws.length + 1) c5, by go_num, hfar, HXn, Lib.hid (by have := HAC.out; rw [List.length_append]; simp only [List.length_cons, List.length_nil]; omega), HL9⟩
                case measure => simp [intOf]; exact hcl'
               ·have HV := Lib.hid (HFB he)
                have HE := Lib.hid he
                have ne : (ef != 0) = true := by rw [bne_iff_ne]; exact he
                clear HFW HFB he
                have z1 := HG9.b.sc.c1
                go_wp2_with fail
                refine (throw_any ef (p4 : Int) _).mono ?_
                rintro r9 w9 ⟨rfl, rfl⟩
                go_wp2
                exact rodoor_bad HV.out HE.out HG9.b.bt S.oe S.lo S.le HG9.b.bel rfl rfl
             ·have HV := Lib.hid (show X = bad0 e3 from HX8'.out.trans (okey_bad HU.out he))
              have HE := Lib.hid he
              have ne : (e3 != 0) = true := by rw [bne_iff_ne]; exact he
              clear he HU
              go_wp2_with fail
              refine (throw_any e3 (p3 : Int) _).mono ?_
              rintro r9 w9 ⟨rfl, rfl⟩
              go_wp2
              exact rodoor_bad HV.out HE.out HG4.b.bt S.oe S.lo S.le HG4.b.bel rfl rfl
            ·have HV := Lib.hid (show X = bad0 e from HX8.out.trans (onum_bad hv he))
             have HE := Lib.hid he
             have hZ := HG2.below (below_drewN (Below.refl _ _) q2)
             clear hv he
             go_wp2
             exact rodoor_bad HV.out HE.out hZ.b.bt S.oe S.lo S.le hZ.b.bel rfl rfl
           ·have HV := Lib.hid (show X = bad0 e from HX7.out.trans (onum_bad hv he))
            have HE := Lib.hid he
            have hZ := HG'.below (below_drewN (Below.refl _ _) q1)
            clear hv he
            go_wp2
            exact rodoor_bad HV.out HE.out hZ.b.bt S.oe S.lo S.le hZ.b.bel rfl rfl
        ·obtain ⟨t0, t0'⟩ : decide ((0 : Int) < (c : Int)) = false ∧ decide (0 < c) = false := ⟨by simp only [decide_eq_false_iff_not]; omega, by simpa using hlt⟩
         obtain rfl : c = 0 := by omega
         have HX6 := Lib.hid (show X = oend s f h ws p from HX5.out)
         have hll : ws.length ≤ 60 := by have := HM.out; have := HAC.out; omega
         clear HX5 hlt
         by_cases hlt : p < s.size
         ·obtain ⟨t1, t1'⟩ := lt_dec hlt
          have HV := Lib.hid (show X = bad0 3 from HX6.out.trans (oend_more hlt))
          have z1 := HL.sc.c1
          clear hlt
          go_wp2_with fail
          refine (throw_any 3 (p : Int) _).mono ?_
          rintro r9 w9 ⟨rfl, rfl⟩
          go_wp2
          exact rodoor_bad HV.out (by decide) HL.bt S.oe S.lo S.le HL.bel rfl rfl
         ·obtain ⟨t1, t1'⟩ := lt_no hlt
          have HNL := Lib.hid hlt
          obtain ⟨A1, c1, rfl⟩ := own_form HL.f
          obtain ⟨A2, c2, rfl⟩ := own_form HL.h
          obtain ⟨A5, c5, rfl⟩ := own_form HL.ws
          have hbat : Bat wr ⟨A1, f.length, c1, A2, h.length, c2, A5, ws.length, c5, f, h, ws⟩ := ⟨Sl.of_own HL.f, Sl.of_own HL.h, Sl.of_own HL.ws, by show f.length ≤ maxLen; unfold maxLen; omega, by show h.length ≤ maxLen; unfold maxLen; omega, by show ws.length ≤ maxLen; unfold maxLen; omega⟩
          have hcap := Lib.hid (own_cap HL.f)
          have hcap2 := Lib.hid (own_cap HL.h)
          obtain ⟨⟨eb, pb⟩, hbr⟩ : ∃ x, bright f h ws = x := ⟨_, rfl⟩
          have HBR := Lib.hid hbr
          obtain ⟨l0, l1, l2, l3, l4, _, _, _, _, _⟩ := HL.bt
          have z1 := HL.sc.c1
          clear hbr hlt
          go_wp2_with fail
          refine (rbright_any wr ⟨A1, f.length, c1, A2, h.length, c2, A5, ws.length, c5, f, h, ws⟩ hbat hff hhf).mono ?_
          rintro r9 w4 ⟨rfl, hb4⟩
          simp only
          rw [HBR.out]
          unfold faultV
          have HL4 := (HL.below hb4).below (below1 w4 (.cells #[.int .i64 eb, .int .i64 pb] 29))
          have hF := Two.new w4 eb pb 29
          clear l0 l1 l2 l3 l4 z1 hbat HL hb4
          go_wp2_with fail
          refine (is_any (eb, pb) _).mono ?_
          rintro r9 w5 ⟨rfl, hb5⟩
          have HL5 := HL4.below hb5
          obtain ⟨f0, f1, _, _⟩ := hF.below hb5
          clear HL4 hF hb5
          by_cases hb : eb = 0
          ·have e2 : (((eb, pb) : Int × Int).1 == 0) = true := by simpa using hb
           rw [e2]
           have HV := Lib.hid (show X = ((f, h, ws), 0, -1) from HX6.out.trans (oend_ok HNL.out (by rw [HBR.out]; exact hb)))
           clear f0 f1 hb
           have HR5 := HL5.bt
           have P0 := HR5.set0 S.oe (.slice A1 f.length c1)
           have P1 := P0.set1 S.oe (.slice A2 h.length c2)
           have P2 := P1.set2 S.oe (.slice A5 ws.length c5)
           have P3 := P2.setF S.oe 0 (-1)
           have F5 := own_set (s := E) (j := 1) (.int .i64 (-1)) (own_set (s := E) (j := 0) (.int .i64 0) (own_set (s := w.heap.size) (j := 2) (.slice A5 ws.length c5) (own_set (s := w.heap.size) (j := 1) (.slice A2 h.length c2) (own_set (s := w.heap.size) (j := 0) (.slice A1 f.length c1) HL5.f S.o) S.o) S.o) S.e) S.e
           have H5 := own_set (s := E) (j := 1) (.int .i64 (-1)) (own_set (s := E) (j := 0) (.int .i64 0) (own_set (s := w.heap.size) (j := 2) (.slice A5 ws.length c5) (own_set (s := w.heap.size) (j := 1) (.slice A2 h.length c2) (own_set (s := w.heap.size) (j := 0) (.slice A1 f.length c1) HL5.h S.o) S.o) S.o) S.e) S.e
           have W5' := own_set (s := E) (j := 1) (.int .i64 (-1)) (own_set (s := E) (j := 0) (.int .i64 0) (own_set (s := w.heap.size) (j := 2) (.slice A5 ws.length c5) (own_set (s := w.heap.size) (j := 1) (.slice A2 h.length c2) (own_set (s := w.heap.size) (j := 0) (.slice A1 f.length c1) HL5.ws S.o) S.o) S.o) S.e) S.e
           have bZ := below_put5 HL5.bel S.lo S.le (.slice A1 f.length c1) (.slice A2 h.length c2) (.slice A5 ws.length c5) 0 (-1)
           have a1 := P0.c1
           have a2 := P1.c2
           have a3 := P2.x
           have a4 := P2.y
           have a5 : ((((w5.setCell ⟨w.heap.size, 0, none⟩ (.slice A1 f.length c1)).setCell ⟨w.heap.size, 1, none⟩ (.slice A2 h.length c2)).setCell ⟨w.heap.size, 2, none⟩ (.slice A5 ws.length c5)).setCell ⟨E, 0, none⟩ (.int .i64 0)).cell? ⟨E, 1, none⟩ = some (.int .i64 (-1)) := res_ne P2.y (by omega)
           obtain ⟨l0, l1, l2, l3, l4, m0, m1, m2', m3, m4⟩ := HR5
           clear P0 P1 P2 HL5
           go_wp2
           clear l0 l1 l2 l3 l4 m0 m1 m2' m3 m4 a1 a2 a3 a4 a5
           unfold put5 at bZ
           generalize ((((w5.setCell ⟨w.heap.size, 0, none⟩ (.slice A1 f.length c1)).setCell ⟨w.heap.size, 1, none⟩ (.slice A2 h.length c2)).setCell ⟨w.heap.size, 2, none⟩ (.slice A5 ws.length c5)).setCell ⟨E, 0, none⟩ (.int .i64 0)).setCell ⟨E, 1, none⟩ (.int .i64 (-1)) = WZ at *
           refine leaves_cons (f := 51) (args := #[.pointer (some ⟨E, 0, none⟩)]) (by simp) (by simp [go_sem]) ?_
           refine (caught_idle E _).mono ?_
           rintro e' u' w' ⟨rfl, rfl, rfl⟩
           show Leaves _ _ _ _ _ .returning _
           refine leaves_cons (f := 50) (args := #[.pointer (some ⟨E, 0, none⟩), .pointer (some ⟨w.heap.size, 0, none⟩)]) (by simp) (by simp [go_sem]) ?_
           refine (rod_good E w.heap.size (-1) _ P3.x P3.y).mono ?_
           rintro e' u' w' ⟨rfl, rfl, hbz⟩
           have hZ := P3.below hbz
           have FZ := own_below F5 hbz
           have HZ := own_below H5 hbz
           have WZ' := own_below W5' hbz
           have bF := bZ.trans (hbz.mono bZ.size)
           obtain ⟨z0, z1, z2, z3, z4, _, _, _, _, _⟩ := hZ
           have hBw : w.heap.size ≤ B := Nat.le_of_lt (Nat.lt_of_le_of_lt S.lo S.o)
           show Leaves _ _ _ _ [] .returning _
           exact ⟨.tuple #[.agg #[.slice A1 f.length c1, .slice A2 h.length c2, .slice A5 ws.length c5], .agg #[.int .i64 0, .int .i64 (-1)]], by simp [results, Tryz.results16, go_sem, z0, z1, z2, z3, z4], ⟨A1, f.length, c1, A2, h.length, c2, A5, ws.length, c5, f, h, ws⟩, by rw [HV.out]; rfl, ⟨Sl.of_own FZ, Sl.of_own HZ, Sl.of_own WZ', by show f.length ≤ maxLen; unfold maxLen; omega, by show h.length ≤ maxLen; unfold maxLen; omega, by show ws.length ≤ maxLen; unfold maxLen; omega⟩, by rw [HV.out], ⟨hcap.out, hcap2.out, own_above FZ hBw, own_above HZ hBw, own_above WZ' hBw⟩, bF⟩
          ·have e2 : (((eb, pb) : Int × Int).1 == 0) = false := by simpa using hb
           rw [e2]
           have HV := Lib.hid (show X = bad0 eb from HX6.out.trans ((oend_bad HNL.out (by rw [HBR.out]; exact hb)).trans (by rw [HBR.out])))
           have HE := Lib.hid hb
           clear hb
           go_wp2_with fail
           refine (throw_any eb (-1) _).mono ?_
           rintro r9 w9 ⟨rfl, rfl⟩
           go_wp2
           exact rodoor_bad HV.out HE.out HL5.bt S.oe S.lo S.le HL5.bel rfl rfl
      ·have HV := Lib.hid (show X = bad0 e from HX1.out.trans (onum_bad hv he))
       have HE := Lib.hid he
       have hZ := H.below (below_drewN (Below.refl _ _) q)
       clear hv he
       go_wp2
       exact rodoor_bad HV.out HE.out hZ.bt S.oe S.lo S.le hZ.bel rfl rfl
 ·have HV := Lib.hid (show X = bad0 e from HXX.out.trans (oread_ver HY.out he))
  have ne : (e != 0) = true := by rw [bne_iff_ne]; exact he
  have HE := Lib.hid he
  clear he
  go_enter Tryz.func16, Tryz.ntmps16
  go_wp2_with fail
  rw [← hE]
  clear hE
  generalize (w.alloc (.cells #[nilS, nilS, nilS] 25)).alloc (.cells #[.int .i64 0, .int .i64 0] 29) = W at *
  refine (rversion_any z _ hz).mono ?_
  rintro r9 w1 ⟨rfl, hb1⟩
  rw [HY.out]
  simp only
  replace hR := hR.below hb1
  have b1 := b0.trans (hb1.mono b0.size)
  clear b0 hb1
  go_wp2_with fail
  refine Flow.wp_region_go (by kernel_rfl) (by kernel_rfl) (by kernel_rfl) 214 rfl (by kernel_rfl) (ro3V e) (fun _ L wz => RB wz w.heap.size E nilS nilS nilS (cond (L 4) e 0) (cond (L 4) (-1) 0) ∧ Below w.heap.size w wz) (fun _ _ => False) (()) (⟨hR.drew, b1.drew⟩) ⟨?_, ?_, ?_, ?_, ?_, trivial⟩ ?_ ?_
  ·intro gz L wz K ρ hc0 hf0 hF hO hU hcl hi hd hC hK
   have e2 : ρ (.tmp 2) = .pointer (some ⟨w.heap.size, 0, none⟩) := hO 2 (by kernel_rfl)
   have a0 := hC.1.c0
   have a1 := hC.1.c1
   have a2 := hC.1.c2
   simp [go_sem, Flow.ylP_value, Flow.ylP_skip, Flow.ylP_enter, Flow.ylP_panic, hc0, hf0, e2, a0, a1, a2]
   exact hK () wz hC (fun _ _ => rfl)
  ·intro gz L wz K ρ hc0 hf0 hF hO hU hcl hi hd hC hK
   have e5 : ρ (.tmp 5) = .int .i64 e := hO 5 (by kernel_rfl)
   simp [go_sem, Flow.ylP_value, Flow.ylP_skip, Flow.ylP_enter, Flow.ylP_panic, hc0, hf0, e5]
   exact hK gz wz hC (fun _ _ => rfl)
  ·intro gz L wz K ρ hc0 hf0 hF hO hU hcl hi hd hC hK
   have d1 : L 1 = true := hd ⟨1, .data⟩ (by simp) rfl
   have e27 : ρ (.tmp 27) = .int .i64 e := hF 27 1 (by kernel_rfl) d1
   simp [go_sem, Flow.ylP_value, Flow.ylP_skip, Flow.ylP_enter, Flow.ylP_panic, hc0, hf0, e27]
   refine (bareF_any e wz).mono ?_
   rintro r9 wn ⟨rfl, hbn⟩
   exact ⟨_, rfl, hK () wn ⟨hC.1.below hbn, hC.2.trans (hbn.mono hC.2.size)⟩ (by intro j hj; unfold ro3V; split <;> first | rfl | (rw [hi] at hj; cases hj) | (have hz := hcl _ 2 (by kernel_rfl) hj; rw [hi] at hz; cases hz))⟩
  ·intro gz L wz K ρ hc0 hf0 hF hO hU hcl hi hd hC hK
   have e2 : ρ (.tmp 2) = .pointer (some ⟨w.heap.size, 0, none⟩) := hO 2 (by kernel_rfl)
   have d0 : L 0 = true := hd ⟨0, .data⟩ (by simp) rfl
   have e26 : ρ (.tmp 26) = .agg #[nilS, nilS, nilS] := hF 26 0 (by kernel_rfl) d0
   have P0 := hC.1.set0 nOE nilS
   have P1 := P0.set1 nOE nilS
   have P2 := P1.set2 nOE nilS
   have a0 := hC.1.c0
   have b0' := hC.1.f0
   have b1' := hC.1.f1
   have b2' := hC.1.f2
   have a1 := P0.c1
   have a2 := P1.c2
   simp [go_sem, Flow.ylP_value, Flow.ylP_skip, Flow.ylP_enter, Flow.ylP_panic, hc0, hf0, e2, e26, a0, a1, a2, b0', b1', b2']
   exact hK () _ ⟨P2, ((hC.2.setCell (p := ⟨w.heap.size, 0, none⟩) (Nat.le_refl _) _).setCell (p := ⟨w.heap.size, 1, none⟩) (Nat.le_refl _) _).setCell (p := ⟨w.heap.size, 2, none⟩) (Nat.le_refl _) _⟩ (fun _ _ => rfl)
  ·intro gz L wz K ρ hc0 hf0 hF hO hU hcl hi hd hC hK
   have e3 : ρ (.tmp 3) = .pointer (some ⟨E, 0, none⟩) := hO 3 (by kernel_rfl)
   have d2 : L 2 = true := hd ⟨2, .data⟩ (by simp) rfl
   have e28 : ρ (.tmp 28) = .agg #[.int .i64 e, .int .i64 (-1)] := hF 28 2 (by kernel_rfl) d2
   rw [hi] at hC
   have P := hC.1.setF nOE e (-1)
   have a0 := hC.1.x
   have a1 : (wz.setCell ⟨E, 0, none⟩ (.int .i64 e)).cell? ⟨E, 1, none⟩ = some (.int .i64 0) := res_ne hC.1.y (by omega)
   have b1' := hC.1.fx
   have b2' := hC.1.fy
   simp [go_sem, Flow.ylP_value, Flow.ylP_skip, Flow.ylP_enter, Flow.ylP_panic, hc0, hf0, e3, e28, a0, a1, b1', b2']
   exact hK () _ ⟨P, (hC.2.setCell (p := ⟨E, 0, none⟩) lE _).setCell (p := ⟨E, 1, none⟩) lE _⟩ (fun _ _ => rfl)
  ·intro g L ch wz h; exact h.elim
  ·intro gz L wz hL hC
   rw [hL 4 (by decide)] at hC
   obtain ⟨hB, hb⟩ := hC
   have z0 := hB.c0
   have z1 := hB.c1
   have z2 := hB.c2
   have z3 : wz.cell? ⟨E, 0, none⟩ = some (.int .i64 e) := hB.x
   have z4 : wz.cell? ⟨E, 1, none⟩ = some (.int .i64 (-1)) := hB.y
   simp only [Flow.putAll, ro3V]
   go_wp2
   exact bodyPost_ret (v := .tuple #[.agg #[nilS, nilS, nilS], .agg #[.int .i64 e, .int .i64 (-1)]]) (by simp [results, Tryz.results16, go_sem, z0, z1, z2, z3, z4]) rfl (rf_no HV.out hb)
end Go.Proofs.YtkejlnjnoiidnaaGreatDoor
end
