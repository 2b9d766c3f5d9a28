/- Unbody of the reference says what bread says. Printed by gen_rbodyread.py out of rbodyread.src. -/
import Derived.Test.YtkejlnjnoiidnaaGreatDoorZ20
import Derived.Test.YtkejlnjnoiidnaaGreatDoorZ15
import Derived.Test.YtkejlnjnoiidnaaGreatDoorZ21
import Derived.Test.YtkejlnjnoiidnaaGreatDoorZ12
import Derived.Test.YtkejlnjnoiidnaaGreatDoorZ13
set_option linter.unusedSimpArgs false
set_option linter.unusedVariables false
section
namespace Go.Proofs.YtkejlnjnoiidnaaGreatDoor
open Go.RowKit As
theorem RL.yow {w0 w : World} {O E R B p : Nat} {s : ByteArray} {v0 v1 v2 tv av u0 : Value} {f h f' : List Ent} {ws : List Wr} {T : List ByteArray} {a : List Int} (H : RL w0 O E R B s p u0 v1 v2 tv av f' h ws T a w) (S : BS w0 O E R B) (hf : w.ownsRow B 79 2 v0 f.length (entV f)) : RL w0 O E R B s p v0 v1 v2 tv av f h ws T a (w.setCell ⟨O, 0, none⟩ v0) :=
 ⟨⟨zam H.sc.c0 (Ne.symm S.ro), zam H.sc.c1 (Ne.symm S.ro), by simpa using H.sc.f1⟩, H.bt.set0 S.oe _, zab _ hf S.o, zab _ H.h S.o, zab _ H.t S.o, zab _ H.ws S.o, zab _ H.a S.o, H.bel.setCell (p := ⟨O, 0, none⟩) S.lo _, by simpa using H.sz⟩
theorem RL.yoe {w0 w : World} {O E R B p : Nat} {s : ByteArray} {v0 v1 v2 tv av u1 : Value} {f h h' : List Ent} {ws : List Wr} {T : List ByteArray} {a : List Int} (H : RL w0 O E R B s p v0 u1 v2 tv av f h' ws T a w) (S : BS w0 O E R B) (hh : w.ownsRow B 79 2 v1 h.length (entV h)) : RL w0 O E R B s p v0 v1 v2 tv av f h ws T a (w.setCell ⟨O, 1, none⟩ v1) :=
 ⟨⟨zam H.sc.c0 (Ne.symm S.ro), zam H.sc.c1 (Ne.symm S.ro), by simpa using H.sc.f1⟩, H.bt.set1 S.oe _, zab _ H.f S.o, zab _ hh S.o, zab _ H.t S.o, zab _ H.ws S.o, zab _ H.a S.o, H.bel.setCell (p := ⟨O, 1, none⟩) S.lo _, by simpa using H.sz⟩
structure TwoP (w : World) (A O : Nat) : Prop where
 c0 : w.cell? ⟨A, 0, none⟩ = some (.pointer (some ⟨O, 0, none⟩))
 c1 : w.cell? ⟨A, 1, none⟩ = some (.pointer (some ⟨O, 1, none⟩))
theorem TwoP.below {w w' : World} {A O : Nat} (h : TwoP w A O) (hb : Below w.heap.size w w') : TwoP w' A O := ⟨(hb.cell (cell_lt h.c0)).trans h.c0, (hb.cell (cell_lt h.c1)).trans h.c1⟩
theorem TwoP.set {w : World} {A O C i : Nat} {v : Value} (h : TwoP w A O) (hn : C ≠ A) : TwoP (w.setCell ⟨C, i, none⟩ v) A O := ⟨zam h.c0 hn, zam h.c1 hn⟩
def VRel (s : ByteArray) (w : World) (E R B : Nat) (iv : Value) (wr : World) : Prop :=
 (iv = .int .i64 0 ∧ RL w w.heap.size E R B s 0 nilS nilS nilS nilS nilS [] [] [] [] [] wr) ∨
 (iv = .int .i64 1 ∧ ∃ f n v0, zbj s = (f, n, 0) ∧ n ≤ s.size ∧ RL w w.heap.size E R B s n v0 nilS nilS nilS nilS f [] [] [] [] wr) ∨
 (iv = .int .i64 2 ∧ ∃ f n h n2 v0 v1, zbj s = (f, n, 0) ∧ zbj (s.extract n s.size) = (h, n2, 0) ∧ n + n2 ≤ s.size ∧ RL w w.heap.size E R B s (n + n2) v0 v1 nilS nilS nilS f h [] [] [] wr)
def t12V (N R p : Nat) (e : Int) (g : Unit) : Nat → Value
 | 0 => .pointer (some ⟨N, 0, none⟩)
 | 1 => .int .i64 e
 | 2 => .pointer (some ⟨R, 0, none⟩)
 | 3 => .pointer (some ⟨R, 0, none⟩)
 | 4 => .pointer (some ⟨R, 1, none⟩)
 | 5 => .int .i64 (p : Int)
 | _ => undef
def r23V (tv : Value) (b : ByteArray) (R p n : Nat) (g : Nat × Value) : Nat → Value
 | 0 => .pointer (some ⟨R, 0, none⟩)
 | 1 => tv
 | 2 => .string b
 | 3 => .slice (some ⟨g.1, 0, none⟩) 1 1
 | 4 => g.2
 | 5 => .pointer (some ⟨R, 0, none⟩)
 | 6 => .pointer (some ⟨R, 0, none⟩)
 | 7 => .pointer (some ⟨R, 1, none⟩)
 | 8 => .int .i64 (p : Int)
 | 9 => .int .i64 (n : Int)
 | 10 => .int .i64 ((p : Int) + (n : Int))
 | 11 => g.2
 | 12 => .pointer (some ⟨R, 0, none⟩)
 | 13 => .pointer (some ⟨R, 1, none⟩)
 | _ => undef
def r39V (O R k g2 n2 hl : Nat) (TMN r2 : Int) (sv : Value) (g : Unit) : Nat → Value
 | 0 => .int .i64 TMN
 | 1 => .pointer (some ⟨O, 1, none⟩)
 | 2 => sv
 | 3 => .pointer (some ⟨R, 0, none⟩)
 | 4 => .pointer (some ⟨O, 1, none⟩)
 | 5 => sv
 | 6 => .int .i64 (hl : Int)
 | 7 => .int .i64 ((hl : Int) - 1)
 | 8 => .int .i64 (n2 : Int)
 | 9 => .pointer (some ⟨g2, n2 * 2, none⟩)
 | 10 => .pointer (some ⟨g2, n2 * 2, none⟩)
 | 11 => .int .i64 r2
 | 12 => .agg #[.int .i64 TMN, .int .i64 r2]
 | 13 => .pointer (some ⟨k, 0, none⟩)
 | _ => undef
def r41V (av tv : Value) (g3 n3 k : Nat) (x3 : ByteArray) (g : Nat × Value) : Nat → Value
 | 0 => av
 | 1 => .int .i64 (n3 : Int)
 | 2 => .slice (some ⟨g.1, 0, none⟩) 1 1
 | 3 => g.2
 | 4 => tv
 | 5 => .int .i64 (n3 : Int)
 | 6 => .pointer (some ⟨g3, n3, none⟩)
 | 7 => .string x3
 | 8 => g.2
 | 9 => .pointer (some ⟨k, 3, none⟩)
 | _ => undef
def r42V (s : ByteArray) (R p4 : Nat) (tmn r2 : Int) (kd : Nat) (x3 : ByteArray) (y : Wr) (nf : Nat) (ef : Int) (g : Unit) : Nat → Value
 | 0 => .agg #[.int .i64 tmn, .int .i64 r2, .int .i64 (kd : Int), .string x3, .string ⟨#[]⟩, .int .i64 0]
 | 1 => .string s
 | 2 => .pointer (some ⟨R, 0, none⟩)
 | 3 => .pointer (some ⟨R, 0, none⟩)
 | 4 => .pointer (some ⟨R, 1, none⟩)
 | 5 => .int .i64 (p4 : Int)
 | 6 => .string (s.extract p4 s.size)
 | 7 => zdk (y, nf, ef)
 | 8 => zdk (y, nf, ef)
 | 9 => wrV y.1 y.2.1 y.2.2.1 y.2.2.2.1 y.2.2.2.2.1 y.2.2.2.2.2
 | 10 => .int .i64 (nf : Int)
 | 11 => .int .i64 ef
 | 13 => .int .i64 (nf : Int)
 | 14 => .int .i64 ef
 | _ => undef
def r2V  (g : Unit) : Nat → Value
 | 0 => .agg #[nilS, nilS, nilS]
 | 1 => .agg #[.int .i64 4, .int .i64 (-1)]
 | _ => undef
theorem ztu {w : World} {B : Nat} {e : TypeId} {size : Nat} {v : Value} {n : Nat} {xs : List Value} (h : w.ownsRow B e size v n xs) (hn : 0 < n) : ∃ g c, v = .slice (some ⟨g, 0, none⟩) n c ∧ B ≤ g ∧ g < w.heap.size := by
 rcases h.2 with ⟨_, h0⟩ | ⟨g, cap, cur, hv, hb, hh, _⟩
 ·omega
 ·exact ⟨g, cap, hv, hb, (Array.getElem?_eq_some_iff.1 hh).1⟩
theorem one_cell {w : World} {g : Nat} {x : Value} (h : w.cell? ⟨g, 0, none⟩ = some x) : ∀ j u, ([x] : List Value)[j]? = some u → w.cell? ((⟨g, 0, none⟩ : Addr).add j) = some u := by
 intro j u hj;have e : (⟨g, 0, none⟩ : Addr).add j = ⟨g, j, none⟩ := by unfold Addr.add; split <;> simp_all
 rw [e];cases j with
 | zero => simp at hj; subst hj; exact h
 | succ j => simp at hj
def rfP (l : Bool) (p n : Nat) : Nat := cond l (p + n) p
structure RX (w0 : World) (O E R B : Nat) (s : ByteArray) (p n : Nat) (v0 v1 tv : Value) (f h : List Ent) (T : List ByteArray) (b : ByteArray) (g : Nat × Value) (l3 l4 l14 : Bool) (wz : World) : Prop where
 pre : l4 = false → RL w0 O E R B s (rfP l14 p n) v0 v1 nilS tv nilS f h [] T [] wz
 tmp : l3 = true → l4 = false → B ≤ g.1 ∧ wz.cell? ⟨g.1, 0, none⟩ = some (.string b)
 post : l4 = true → RL w0 O E R B s (rfP l14 p n) v0 v1 nilS g.2 nilS f h [] (T ++ [b]) [] wz
section
variable {w0 wz : World} {O E R B p n : Nat} {s b : ByteArray} {v0 v1 tv : Value} {f h : List Ent} {T : List ByteArray} {g : Nat × Value} {l3 l4 l14 : Bool}
theorem RX.sc (H : RX w0 O E R B s p n v0 v1 tv f h T b g l3 l4 l14 wz) : Sc wz R s (rfP l14 p n) := by
 cases hl : l4 with
 | false => exact (H.pre hl).sc
 | true => exact (H.post hl).sc
theorem RX.build (H : RX w0 O E R B s p n v0 v1 tv f h T b g false false l14 wz) (t : TypeId) : RX w0 O E R B s p n v0 v1 tv f h T b (wz.heap.size, g.2) true false l14 (wz.alloc (.cells #[.string b] t)) :=
 ⟨fun _ => (H.pre rfl).below (zaa _ _), fun _ _ => ⟨(H.pre rfl).sz, by rw [World.cell?_alloc_new]; rfl⟩, fun h => by cases h⟩
theorem RX.store (H : RX w0 O E R B s p n v0 v1 tv f h T b g l3 l4 false wz) (S : BS w0 O E R B) : RX w0 O E R B s p n v0 v1 tv f h T b g l3 l4 true (wz.setCell ⟨R, 1, none⟩ (.int .i64 ((p + n : Nat) : Int))) :=
 ⟨fun h => (H.pre h).setR S (p + n), fun h h' => ⟨(H.tmp h h').1, zam (H.tmp h h').2 (by have := S.r; have := (H.tmp h h').1; omega)⟩, fun h => (H.post h).setR S (p + n)⟩
end
structure RY (w0 : World) (O E R B k : Nat) (x x' : Wr) (s : ByteArray) (p : Nat) (n : Int) (v0 v1 v2 tv av : Value) (f h : List Ent) (ws : List Wr) (T : List ByteArray) (a : List Int) (g : Nat × Value) (l2 l3 l10 : Bool) (wz : World) : Prop where
 pre : l3 = false → RLG w0 O E R B k (cond l10 x' x) s p v0 v1 v2 tv av f h ws T a wz
 tmp : l2 = true → l3 = false → (B ≤ g.1 ∧ g.1 ≠ k) ∧ wz.cell? ⟨g.1, 0, none⟩ = some (.int .i64 n)
 post : l3 = true → RLG w0 O E R B k (cond l10 x' x) s p v0 v1 v2 tv g.2 f h ws T (a ++ [n]) wz
section
variable {w0 wz : World} {O E R B k p : Nat} {x x' : Wr} {s : ByteArray} {n : Int} {v0 v1 v2 tv av : Value} {f h : List Ent} {ws : List Wr} {T : List ByteArray} {a : List Int} {g : Nat × Value} {l2 l3 l10 : Bool}
theorem RY.t (H : RY w0 O E R B k x x' s p n v0 v1 v2 tv av f h ws T a g l2 l3 l10 wz) : wz.ownsRow B 9 1 tv T.length (T.map Value.string) := by
 cases hl : l3 with
 | false => exact (H.pre hl).b.t
 | true => exact (H.post hl).b.t
theorem RY.build (H : RY w0 O E R B k x x' s p n v0 v1 v2 tv av f h ws T a g false false l10 wz) (t : TypeId) : RY w0 O E R B k x x' s p n v0 v1 v2 tv av f h ws T a (wz.heap.size, g.2) true false l10 (wz.alloc (.cells #[.int .i64 n] t)) :=
 ⟨fun _ => (H.pre rfl).below (zaa _ _), fun _ _ => ⟨⟨(H.pre rfl).b.sz, by have := (H.pre rfl).lt; simp only; omega⟩, by rw [World.cell?_alloc_new]; rfl⟩, fun h => by cases h⟩
theorem RY.store (H : RY w0 O E R B k x x' s p n v0 v1 v2 tv av f h ws T a g l2 l3 false wz) (S : BS w0 O E R B) (u : Value) (hx : zbb x' = (zbb x).set 3 u) : RY w0 O E R B k x x' s p n v0 v1 v2 tv av f h ws T a g l2 l3 true (wz.setCell ⟨k, 3, none⟩ u) :=
 ⟨fun h => (H.pre h).setG S 3 u hx, fun h h' => ⟨(H.tmp h h').1, zam (H.tmp h h').2 (Ne.symm (H.tmp h h').1.2)⟩, fun h => (H.post h).setG S 3 u hx⟩
theorem RY.key (H : RY w0 O E R B k x x' s p n v0 v1 v2 tv av f h ws T a g l2 l3 false wz) : wz.cell? ⟨k, 3, none⟩ = some (.string x.2.2.2.1) ∧ wz.frozen? ⟨k, 3, none⟩ = false := by
 cases hl : l3 with
 | false => exact ⟨(H.pre hl).cell 3 (by omega), (H.pre hl).froz 3⟩
 | true => exact ⟨(H.post hl).cell 3 (by omega), (H.post hl).froz 3⟩
end
theorem RLG.put {w0 w : World} {O E R B g p : Nat} {x y : Wr} {s : ByteArray} {v0 v1 v2 tv av : Value} {f h : List Ent} {ws : List Wr} {T : List ByteArray} {a : List Int} (H : RLG w0 O E R B g x s p v0 v1 v2 tv av f h ws T a w) (S : BS w0 O E R B) : RLG w0 O E R B g y s p v0 v1 v2 tv av f h ws T a (put6 w g y.1 y.2.1 y.2.2.1 y.2.2.2.1 y.2.2.2.2.1 y.2.2.2.2.2) := by
 have h0 := H.setG S (y := (y.1, x.2.1, x.2.2.1, x.2.2.2.1, x.2.2.2.2.1, x.2.2.2.2.2)) 0 (.int .i64 y.1) rfl;have h1 := h0.setG S (y := (y.1, y.2.1, x.2.2.1, x.2.2.2.1, x.2.2.2.2.1, x.2.2.2.2.2)) 1 (.int .i64 y.2.1) rfl;have h2 := h1.setG S (y := (y.1, y.2.1, y.2.2.1, x.2.2.2.1, x.2.2.2.2.1, x.2.2.2.2.2)) 2 (.int .i64 y.2.2.1) rfl;have h3 := h2.setG S (y := (y.1, y.2.1, y.2.2.1, y.2.2.2.1, x.2.2.2.2.1, x.2.2.2.2.2)) 3 (.string y.2.2.2.1) rfl;have h4 := h3.setG S (y := (y.1, y.2.1, y.2.2.1, y.2.2.2.1, y.2.2.2.2.1, x.2.2.2.2.2)) 4 (.string y.2.2.2.2.1) rfl;exact h4.setG S (y := y) 5 (.int .i64 y.2.2.2.2.2) rfl
set_option maxHeartbeats 16000000 in
set_option maxRecDepth 100000 in
theorem zkm (s : ByteArray) (w : World) (hs : s.size ≤ 1000000) :
  Calls Tryz.prog 49 #[.string s] w fun e w' => ynh s w e w' := by
 obtain ⟨i0, hi0, hz0, hz1, hz2⟩ := info_parts zfy;obtain ⟨j0, hj, hy0, hy1, hy2⟩ := info_parts ymt;obtain ⟨k0, hk0, hx0, hx1, hx2⟩ := info_parts bdWr;have hmf : ∀ (fn : Fn) (first cap : Array Value) (w : World), (Instr.makeFunc fn first cap).run Tryz.prog w = .ok (.func fn first cap) w := fun _ _ _ _ => rfl
 have hR := RB.new w 25 29;have b0 := (zaa w (.cells #[nilS, nilS, nilS] 25)).alloc (by simp) (.cells #[.int .i64 0, .int .i64 0] 29);by_cases hbig : 20000 < s.size
 ·have d0 : decide (20000 < s.size) = true := by simpa using hbig
  have d0' : decide ((20000 : Int) < (s.size : Int)) = true := decide_eq_true (by omega);have hV := Lib.hid (ztp hbig);go_enter Tryz.func49, Tryz.ntmps49;go_wp2_with fail;obtain ⟨E, hE⟩ : ∃ E, E = w.heap.size + 1 := ⟨_, rfl⟩;have nOE : w.heap.size ≠ E := by omega
  have lE : w.heap.size ≤ E := by omega
  rw [← hE] at hR;rw [← hE];generalize (w.alloc (.cells #[nilS, nilS, nilS] 25)).alloc (.cells #[.int .i64 0, .int .i64 0] 29) = W at *;refine Flow.zan (by kernel_rfl) (by kernel_rfl) (by kernel_rfl) 269 rfl (by kernel_rfl) (r2V) (fun _ L wz => RB wz w.heap.size E nilS nilS nilS (cond (L 3) 4 0) (cond (L 3) (-1) 0) ∧ Below w.heap.size w wz) (fun _ _ => False) (()) (⟨hR.drew, b0.drew⟩) ⟨?_, ?_, ?_, ?_, trivial⟩ ?_ ?_
  ·intro gz L wz K ρ hc0 hf0 hF hO hU hcl hi hd hC hK;have e2 : ρ (.tmp 2) = .pointer (some ⟨w.heap.size, 0, none⟩) := hO 2 (by kernel_rfl);have a0 := hC.1.c0;have a1 := hC.1.c1;have a2 := hC.1.c2;simp [go_sem, hc0, hf0, e2, a0, a1, a2];exact hK () wz hC (fun _ _ => rfl)
  ·intro gz L wz K ρ hc0 hf0 hF hO hU hcl hi hd hC hK;simp [go_sem, hc0, hf0];refine (zbi 4 wz).mono ?_;rintro r wn ⟨rfl, hbn⟩;exact ⟨_, rfl, hK () wn ⟨hC.1.below hbn, hC.2.trans (hbn.mono hC.2.size)⟩ (by intro j hj; unfold r2V; split <;> first | rfl | (rw [hi] at hj; cases hj) | (have hz := hcl _ 1 (by kernel_rfl) hj; rw [hi] at hz; cases hz))⟩
  ·intro gz L wz K ρ hc0 hf0 hF hO hU hcl hi hd hC hK;have e2 : ρ (.tmp 2) = .pointer (some ⟨w.heap.size, 0, none⟩) := hO 2 (by kernel_rfl);have d0 : L 0 = true := hd ⟨0, .data⟩ (by simp) rfl;have e29 : ρ (.tmp 29) = .agg #[nilS, nilS, nilS] := hF 29 0 (by kernel_rfl) d0;have P0 := hC.1.set0 nOE nilS;have P1 := P0.set1 nOE nilS;have P2 := P1.set2 nOE nilS;have a0 := hC.1.c0;have b0' := hC.1.f0;have b1' := hC.1.f1;have b2' := hC.1.f2;have a1 := P0.c1;have a2 := P1.c2;simp [go_sem, hc0, hf0, e2, e29, a0, a1, a2, b0', b1', b2'];exact hK () _ ⟨P2, ((hC.2.setCell (p := ⟨w.heap.size, 0, none⟩) (Nat.le_refl _) _).setCell (p := ⟨w.heap.size, 1, none⟩) (Nat.le_refl _) _).setCell (p := ⟨w.heap.size, 2, none⟩) (Nat.le_refl _) _⟩ (fun _ _ => rfl)
  ·intro gz L wz K ρ hc0 hf0 hF hO hU hcl hi hd hC hK;have e3 : ρ (.tmp 3) = .pointer (some ⟨E, 0, none⟩) := hO 3 (by kernel_rfl);have d1 : L 1 = true := hd ⟨1, .data⟩ (by simp) rfl;have e30 : ρ (.tmp 30) = .agg #[.int .i64 4, .int .i64 (-1)] := hF 30 1 (by kernel_rfl) d1;rw [hi] at hC;have P := hC.1.setF nOE 4 (-1);have a0 := hC.1.x;have a1 : (wz.setCell ⟨E, 0, none⟩ (.int .i64 4)).cell? ⟨E, 1, none⟩ = some (.int .i64 0) := zaw hC.1.y (by omega);have b1' := hC.1.fx;have b2' := hC.1.fy;simp [go_sem, hc0, hf0, e3, e30, a0, a1, b1', b2'];exact hK () _ ⟨P, (hC.2.setCell (p := ⟨E, 0, none⟩) lE _).setCell (p := ⟨E, 1, none⟩) lE _⟩ (fun _ _ => rfl)
  ·intro g L ch wz h; exact h.elim
  ·intro gz L wz hL hC;rw [hL 3 (by decide)] at hC;obtain ⟨hB, hb⟩ := hC;have z0 := hB.c0;have z1 := hB.c1;have z2 := hB.c2;have z3 : wz.cell? ⟨E, 0, none⟩ = some (.int .i64 4) := hB.x;have z4 : wz.cell? ⟨E, 1, none⟩ = some (.int .i64 (-1)) := hB.y;simp only [Flow.zbs, r2V];go_wp2;exact bodyPost_ret (v := .tuple #[zis.v, .agg #[.int .i64 4, .int .i64 (-1)]]) (by simp [results, Tryz.results49, go_sem, zav.v, z0, z1, z2, z3, z4]) rfl ⟨zis, by rw [hV.out]; rfl, zhy _, by rw [hV.out], noCap _, hb⟩
 ·have d0 : decide (20000 < s.size) = false := by simpa using hbig
  have d0' : decide ((20000 : Int) < (s.size : Int)) = false := decide_eq_false (by omega);have HB := Lib.hid hbig;clear hbig;go_enter_defers Tryz.func49, Tryz.ntmps49;go_wp2_with fail;generalize (w.alloc (.cells #[nilS, nilS, nilS] 25)).alloc (.cells #[.int .i64 0, .int .i64 0] 29) = W at *;obtain ⟨E, hE⟩ : ∃ E, E = w.heap.size + 1 := ⟨_, rfl⟩;rw [← hE] at hR;rw [← hE];have nE : w.heap.size ≠ E := by omega
  have lE : w.heap.size ≤ E := by omega
  clear hE;refine (zdy _).mono ?_;rintro r w1 ⟨rfl, hb1⟩;have b1 := b0.trans (hb1.mono b0.size);have hR1 := hR.below hb1;have hR2 := hR1.setF nE 0 (-1);have b2 := (b1.setCell (p := ⟨E, 0, none⟩) lE (.int .i64 0)).setCell (p := ⟨E, 1, none⟩) lE (.int .i64 (-1));obtain ⟨r0, r1, r2, r3, r4, r5, r6, r7, r8, r9⟩ := hR1;clear hR b0 hb1 b1;go_wp2_with fail;clear r0 r1 r2 r3 r4 r5 r6 r7 r8 r9;have hVs : ((w1.setCell ⟨E, 0, none⟩ (.int .i64 0)).setCell ⟨E, 1, none⟩ (.int .i64 (-1))).heap.size = w1.heap.size := by simp
  have qO : w.heap.size < ((w1.setCell ⟨E, 0, none⟩ (.int .i64 0)).setCell ⟨E, 1, none⟩ (.int .i64 (-1))).heap.size := cell_lt hR2.c0;have qE : E < ((w1.setCell ⟨E, 0, none⟩ (.int .i64 0)).setCell ⟨E, 1, none⟩ (.int .i64 (-1))).heap.size := cell_lt hR2.x;generalize (w1.setCell ⟨E, 0, none⟩ (.int .i64 0)).setCell ⟨E, 1, none⟩ (.int .i64 (-1)) = V at *;rw [hVs] at qO qE;generalize w1.heap.size = R at *;have bS := zaa V (.cells #[.string s, .int .i64 0] 74);have hSc : Sc (V.alloc (.cells #[.string s, .int .i64 0] 74)) R s 0 := by
   rw [← hVs];exact ⟨by rw [World.cell?_alloc_new]; rfl, by rw [World.cell?_alloc_new]; rfl, by simp⟩
  have hS1 : (V.alloc (.cells #[.string s, .int .i64 0] 74)).heap.size = R + 1 := by simp [hVs]
  have hR3 := hR2.below bS;have b3 := b2.trans (bS.mono b2.size);generalize V.alloc (.cells #[.string s, .int .i64 0] 74) = V2 at *;have bA := zaa V2 (.cells #[.pointer (some ⟨w.heap.size, 0, none⟩), .pointer (some ⟨w.heap.size, 1, none⟩)] 75);have hA : TwoP (V2.alloc (.cells #[.pointer (some ⟨w.heap.size, 0, none⟩), .pointer (some ⟨w.heap.size, 1, none⟩)] 75)) (R + 1) w.heap.size := by
   rw [← hS1];exact ⟨by rw [World.cell?_alloc_new]; rfl, by rw [World.cell?_alloc_new]; rfl⟩
  have hSz : (V2.alloc (.cells #[.pointer (some ⟨w.heap.size, 0, none⟩), .pointer (some ⟨w.heap.size, 1, none⟩)] 75)).heap.size = R + 1 + 1 := by simp [hS1]
  have hR4 := hR3.below bA;have hSc4 := hSc.below bA;have b4 := b3.trans (bA.mono b3.size);generalize V2.alloc (.cells #[.pointer (some ⟨w.heap.size, 0, none⟩), .pointer (some ⟨w.heap.size, 1, none⟩)] 75) = W at *;have S : BS w w.heap.size E R W.heap.size := ⟨by omega, by omega, by omega, nE, by omega, by omega, Nat.le_refl _, lE, by omega⟩;have nOA : w.heap.size ≠ R + 1 := by omega
  have nRA : R ≠ R + 1 := by omega
  have HL : RL w w.heap.size E R W.heap.size s 0 nilS nilS nilS nilS nilS [] [] [] [] [] W := ⟨hSc4, hR4, World.ownsRow_nil _ _ _ _, World.ownsRow_nil _ _ _ _, World.ownsRow_nil _ _ _ _, World.ownsRow_nil _ _ _ _, World.ownsRow_nil _ _ _ _, b4, Nat.le_refl _⟩;clear hR2 hR3 hR4 hSc hSc4 b2 b3 b4 bS bA hVs hS1 qO qE hSz nE lE;generalize W.heap.size = B at *;go_loopw [6, 7, 8, 9, 40] (fun _ _ _ _ iv wr => VRel s w E R B iv wr ∧ TwoP wr (R + 1) w.heap.size) (fun _ _ _ _ iv _ => 2 - (intOf iv).toNat)
  case atStart => exact ⟨.inl ⟨rfl, HL⟩, hA⟩
  case round =>
   obtain ⟨hrel, hA⟩ := hrel;clear HL;rcases hrel with ⟨rfl, H⟩ | ⟨rfl, f0, n0, v0', hf0, hn0, H⟩ | ⟨rfl, f, n1, h, n2, v0, v1, hf0, hh0, hn, H⟩
   ·
    have hl : (s).size ≤ 1000000 := by omega
    obtain ⟨⟨l, n, e⟩, hv⟩ : ∃ x, zbj s = x := ⟨_, rfl⟩;have hfar := zmb s;rw [hv] at hfar;simp only at hfar;have hfar' : 0 + n ≤ s.size := by omega
    have HVR := Lib.hid hv;have k1 := H.sc.c1;have i1 : (0 : Int) ≤ (0 : Int) := by omega
    have i2 : (0 : Int) ≤ (s.size : Int) := by omega
    obtain ⟨a0, a1⟩ := hA;clear hv hfar;go_wp2_with fail;refine (zps s wr hl).mono ?_;rintro r w1 ⟨v, rfl, hT, hb1⟩;rw [HVR.out] at hT ⊢;simp only at hT ⊢;unfold zba;have bF := zaa w1 (.cells #[.int .i64 e, .int .i64 (-1)] 29);have hF := Two.new w1 e (-1) 29;have b1 := hb1.trans (bF.mono hb1.size);have T1 := own_below hT bF;go_wp2_with fail;refine (zcd (e, -1) _).mono ?_;rintro r w2 ⟨rfl, hb2⟩;have b2 := b1.trans (hb2.mono b1.size);have H2 := H.below b2;have hA2 := (TwoP.mk a0 a1).below b2;have T2 := own_below T1 hb2;obtain ⟨g0, g1, _, _⟩ := hF.below hb2;have sc2 := H2.sc;have hszr := H.sz;clear hT T1 hF bF b1 hb2 hb1 H k1 a0 a1;by_cases he : e = 0
    ·subst he;have e1 : (((0, -1) : Int × Int).1 == 0) = true := rfl;rw [e1];obtain ⟨A9, c9, rfl⟩ := zah T2;have w9 : IntKind.i64.wrap ((0 : Int) + (n : Int)) = ((0 + n : Nat) : Int) := IntWalk.i64_in _ (by omega);have T3 := zei T2 hszr;have H3 := H2.yow S T3;have H4 := H3.setR S (0 + n);have hA3 := (hA2.set (C := w.heap.size) (i := 0) (v := .slice A9 l.length c9) nOA).set (C := R) (i := 1) (v := .int .i64 ((0 + n : Nat) : Int)) nRA;have m0 := H2.bt.c0;have m1 := H2.bt.f0;have m2 := H3.sc.c1;have m3 := H3.sc.f1;simp only [Nat.zero_add] at w9 H4 hA3 hfar';go_wp2;go_roundw
     case rel => exact ⟨.inr (.inl ⟨rfl, l, n, _, HVR.out, hfar', H4⟩), hA3⟩
     case measure => simp [intOf]
    ·have e1 : (((e, -1) : Int × Int).1 == 0) = false := by simpa using he
     rw [e1];have HE := Lib.hid he;have HV := Lib.hid (zot HB.out HVR.out he);clear he e1;go_wp2_with fail;refine Flow.zan (by kernel_rfl) (by kernel_rfl) (by kernel_rfl) 269 rfl (by kernel_rfl) (t12V w1.heap.size R ((0 : Nat)) e) (fun _ L wz => Below w2.heap.size w2 wz ∧ L 6 = false) (fun ch wz => ch = zgw e ((0 : Nat) : Int) ∧ Below w2.heap.size w2 wz) (()) (⟨(Below.refl _ _).drew, rfl⟩) ⟨?_, ?_, ?_, ?_, ?_, ?_, ?_, trivial⟩ ?_ ?_
     ·intro g L wz K ρ hc0 hf0 hF hO hU hcl hi hd hC hK;have e9 : ρ (.tmp 9) = .pointer (some ⟨w1.heap.size, 0, none⟩) := hO 9 (by kernel_rfl);simp [go_sem, hc0, hf0, e9];exact hK g wz hC (fun _ _ => rfl)
     ·intro g L wz K ρ hc0 hf0 hF hO hU hcl hi hd hC hK;have d0 : L 0 = true := hd ⟨0, .data⟩ (by simp) rfl;have e58 : ρ (.tmp 58) = .pointer (some ⟨w1.heap.size, 0, none⟩) := hF 58 0 (by kernel_rfl) d0;have cc := (hC.1.cell (cell_lt g0)).trans g0;simp [go_sem, hc0, hf0, e58, cc];exact hK g wz hC (fun _ _ => rfl)
     ·intro g L wz K ρ hc0 hf0 hF hO hU hcl hi hd hC hK;have e4 : ρ (.tmp 4) = .pointer (some ⟨R, 0, none⟩) := hO 4 (by kernel_rfl);simp [go_sem, hc0, hf0, e4];exact hK g wz hC (fun _ _ => rfl)
     ·intro g L wz K ρ hc0 hf0 hF hO hU hcl hi hd hC hK;have d2 : L 2 = true := hd ⟨2, .data⟩ (by simp) rfl;have e60 : ρ (.tmp 60) = .pointer (some ⟨R, 0, none⟩) := hF 60 2 (by kernel_rfl) d2;simp [go_sem, hc0, hf0, e60];exact hK g wz hC (fun _ _ => rfl)
     ·intro g L wz K ρ hc0 hf0 hF hO hU hcl hi hd hC hK;have d3 : L 3 = true := hd ⟨3, .data⟩ (by simp) rfl;have e61 : ρ (.tmp 61) = .pointer (some ⟨R, 0, none⟩) := hF 61 3 (by kernel_rfl) d3;simp [go_sem, hc0, hf0, e61];exact hK g wz hC (fun _ _ => rfl)
     ·intro g L wz K ρ hc0 hf0 hF hO hU hcl hi hd hC hK;have d4 : L 4 = true := hd ⟨4, .data⟩ (by simp) rfl;have e62 : ρ (.tmp 62) = .pointer (some ⟨R, 1, none⟩) := hF 62 4 (by kernel_rfl) d4;have cc := (hC.1.cell (cell_lt sc2.c1)).trans sc2.c1;simp [go_sem, hc0, hf0, e62, cc];exact hK g wz hC (fun _ _ => rfl)
     ·intro g L wz K ρ hc0 hf0 hF hO hU hcl hi hd hC hK;have d1 : L 1 = true := hd ⟨1, .data⟩ (by simp) rfl;have e59 : ρ (.tmp 59) = .int .i64 e := hF 59 1 (by kernel_rfl) d1;have d5 : L 5 = true := hd ⟨5, .data⟩ (by simp) rfl;have e63 : ρ (.tmp 63) = .int .i64 ((0 : Nat) : Int) := hF 63 5 (by kernel_rfl) d5;simp [go_sem, hc0, hf0, e59, e63];refine (zbc e ((0 : Nat) : Int) _).mono ?_;rintro r w9 ⟨rfl, rfl⟩;exact .inr ⟨_, rfl, rfl, hC.1⟩
     ·rintro g L ch wz ⟨rfl, hb⟩;have hZ := H2.below hb;refine zch HV.out HE.out hZ.bt S.oe S.lo S.le hZ.bel ?_ ?_
      ·rw [Flow.zbn]; rfl
      ·rw [Flow.zbn]; rfl
     ·intro g L wz hL hC;have := hL 6 (by decide);rw [hC.2] at this;cases this
   ·have HF0 := Lib.hid hf0;clear hf0;have hl : ((s.extract n0 s.size)).size ≤ 1000000 := by rw [ByteArray.size_extract]; omega
    obtain ⟨⟨l, n, e⟩, hv⟩ : ∃ x, zbj (s.extract n0 s.size) = x := ⟨_, rfl⟩;have hfar := zmb (s.extract n0 s.size);rw [hv] at hfar;rw [ByteArray.size_extract] at hfar;simp only at hfar;have hfar' : n0 + n ≤ s.size := by omega
    have HVR := Lib.hid hv;have k1 := H.sc.c1;have i1 : (0 : Int) ≤ (n0 : Int) := by omega
    have i2 : (n0 : Int) ≤ (s.size : Int) := by omega
    obtain ⟨a0, a1⟩ := hA;clear hv hfar;go_wp2_with fail;refine (zps (s.extract n0 s.size) wr hl).mono ?_;rintro r w1 ⟨v, rfl, hT, hb1⟩;rw [HVR.out] at hT ⊢;simp only at hT ⊢;unfold zba;have bF := zaa w1 (.cells #[.int .i64 e, .int .i64 (-1)] 29);have hF := Two.new w1 e (-1) 29;have b1 := hb1.trans (bF.mono hb1.size);have T1 := own_below hT bF;go_wp2_with fail;refine (zcd (e, -1) _).mono ?_;rintro r w2 ⟨rfl, hb2⟩;have b2 := b1.trans (hb2.mono b1.size);have H2 := H.below b2;have hA2 := (TwoP.mk a0 a1).below b2;have T2 := own_below T1 hb2;obtain ⟨g0, g1, _, _⟩ := hF.below hb2;have sc2 := H2.sc;have hszr := H.sz;clear hT T1 hF bF b1 hb2 hb1 H k1 a0 a1;by_cases he : e = 0
    ·subst he;have e1 : (((0, -1) : Int × Int).1 == 0) = true := rfl;rw [e1];obtain ⟨A9, c9, rfl⟩ := zah T2;have w9 : IntKind.i64.wrap ((n0 : Int) + (n : Int)) = ((n0 + n : Nat) : Int) := IntWalk.i64_in _ (by omega);have T3 := zei T2 hszr;have H3 := H2.yoe S T3;have H4 := H3.setR S (n0 + n);have hA3 := (hA2.set (C := w.heap.size) (i := 1) (v := .slice A9 l.length c9) nOA).set (C := R) (i := 1) (v := .int .i64 ((n0 + n : Nat) : Int)) nRA;have m0 := H2.bt.c1;have m1 := H2.bt.f1;have m2 := H3.sc.c1;have m3 := H3.sc.f1;rw [Int.natCast_add] at H4 hA3;go_wp2;go_roundw
     case rel => exact ⟨.inr (.inr ⟨rfl, f0, n0, l, n, _, _, HF0.out, HVR.out, hfar', H4⟩), hA3⟩
     case measure => simp [intOf]
    ·have e1 : (((e, -1) : Int × Int).1 == 0) = false := by simpa using he
     rw [e1];have HE := Lib.hid he;have HV := Lib.hid (zuf (zqf HB.out HF0.out) HVR.out he);clear he e1;go_wp2_with fail;refine Flow.zan (by kernel_rfl) (by kernel_rfl) (by kernel_rfl) 269 rfl (by kernel_rfl) (t12V w1.heap.size R (n0) e) (fun _ L wz => Below w2.heap.size w2 wz ∧ L 6 = false) (fun ch wz => ch = zgw e (n0 : Int) ∧ Below w2.heap.size w2 wz) (()) (⟨(Below.refl _ _).drew, rfl⟩) ⟨?_, ?_, ?_, ?_, ?_, ?_, ?_, trivial⟩ ?_ ?_
     ·intro g L wz K ρ hc0 hf0 hF hO hU hcl hi hd hC hK;have e9 : ρ (.tmp 9) = .pointer (some ⟨w1.heap.size, 0, none⟩) := hO 9 (by kernel_rfl);simp [go_sem, hc0, hf0, e9];exact hK g wz hC (fun _ _ => rfl)
     ·intro g L wz K ρ hc0 hf0 hF hO hU hcl hi hd hC hK;have d0 : L 0 = true := hd ⟨0, .data⟩ (by simp) rfl;have e58 : ρ (.tmp 58) = .pointer (some ⟨w1.heap.size, 0, none⟩) := hF 58 0 (by kernel_rfl) d0;have cc := (hC.1.cell (cell_lt g0)).trans g0;simp [go_sem, hc0, hf0, e58, cc];exact hK g wz hC (fun _ _ => rfl)
     ·intro g L wz K ρ hc0 hf0 hF hO hU hcl hi hd hC hK;have e4 : ρ (.tmp 4) = .pointer (some ⟨R, 0, none⟩) := hO 4 (by kernel_rfl);simp [go_sem, hc0, hf0, e4];exact hK g wz hC (fun _ _ => rfl)
     ·intro g L wz K ρ hc0 hf0 hF hO hU hcl hi hd hC hK;have d2 : L 2 = true := hd ⟨2, .data⟩ (by simp) rfl;have e60 : ρ (.tmp 60) = .pointer (some ⟨R, 0, none⟩) := hF 60 2 (by kernel_rfl) d2;simp [go_sem, hc0, hf0, e60];exact hK g wz hC (fun _ _ => rfl)
     ·intro g L wz K ρ hc0 hf0 hF hO hU hcl hi hd hC hK;have d3 : L 3 = true := hd ⟨3, .data⟩ (by simp) rfl;have e61 : ρ (.tmp 61) = .pointer (some ⟨R, 0, none⟩) := hF 61 3 (by kernel_rfl) d3;simp [go_sem, hc0, hf0, e61];exact hK g wz hC (fun _ _ => rfl)
     ·intro g L wz K ρ hc0 hf0 hF hO hU hcl hi hd hC hK;have d4 : L 4 = true := hd ⟨4, .data⟩ (by simp) rfl;have e62 : ρ (.tmp 62) = .pointer (some ⟨R, 1, none⟩) := hF 62 4 (by kernel_rfl) d4;have cc := (hC.1.cell (cell_lt sc2.c1)).trans sc2.c1;simp [go_sem, hc0, hf0, e62, cc];exact hK g wz hC (fun _ _ => rfl)
     ·intro g L wz K ρ hc0 hf0 hF hO hU hcl hi hd hC hK;have d1 : L 1 = true := hd ⟨1, .data⟩ (by simp) rfl;have e59 : ρ (.tmp 59) = .int .i64 e := hF 59 1 (by kernel_rfl) d1;have d5 : L 5 = true := hd ⟨5, .data⟩ (by simp) rfl;have e63 : ρ (.tmp 63) = .int .i64 (n0 : Int) := hF 63 5 (by kernel_rfl) d5;simp [go_sem, hc0, hf0, e59, e63];refine (zbc e (n0 : Int) _).mono ?_;rintro r w9 ⟨rfl, rfl⟩;exact .inr ⟨_, rfl, rfl, hC.1⟩
     ·rintro g L ch wz ⟨rfl, hb⟩;have hZ := H2.below hb;refine zch HV.out HE.out hZ.bt S.oe S.lo S.le hZ.bel ?_ ?_
      ·rw [Flow.zbn]; rfl
      ·rw [Flow.zbn]; rfl
     ·intro g L wz hL hC;have := hL 6 (by decide);rw [hC.2] at this;cases this
   ·have HX1 := Lib.hid (zxw (zqf HB.out hf0) hh0);have HF := zkf hf0;have HH := zkf hh0;clear hf0 hh0 hA;generalize n1 + n2 = p at *;go_wp2_with fail;refine (next_any s p R 60 wr hs hn (by omega) H.sc).mono ?_;rintro r w1 ⟨q, m, k, e, hv, hx⟩;rcases hx with ⟨rfl, hm, _, _, hk, rfl, rfl⟩ | ⟨he, rfl, rfl⟩
    ·have HX2 := Lib.hid (ydz HX1.out hv);have HL4 := H.step S q (p + k);clear hv HX1 H hn;generalize (wr.drewN q).setCell ⟨R, 1, none⟩ (.int .i64 ((p + k : Nat) : Int)) = W4 at *;generalize p + k = p at *;clear q;go_wp2;go_loopw [10, 11, 12, 13, 14] (fun tv cv _ _ _ wr => ∃ (c p : Nat) (T : List ByteArray), cv = .int .i64 (c : Int) ∧ p ≤ s.size ∧ Hid (zcj s = zgq s f h c p T) ∧ (T.length + c = m ∧ Hid (∀ x ∈ T, x.size ≤ maxLen)) ∧ RL w w.heap.size E R B s p v0 v1 nilS tv nilS f h [] T [] wr) (fun _ cv _ _ _ _ => (intOf cv).toNat)
     case atStart => exact ⟨m, p, [], rfl, hk, HX2, ⟨by simp, Lib.hid (fun _ h => by cases h)⟩, HL4⟩
     case round =>
      obtain ⟨c, p, T, rfl, hp, HX3, ⟨hTd, HTs⟩, HL⟩ := hrel;clear HL4 HX2 hk;have hl : (s.extract p s.size).size ≤ maxLen := by rw [ByteArray.size_extract]; unfold maxLen; omega
      have i1 : (0 : Int) ≤ (p : Int) := by omega
      have i2 : (p : Int) ≤ (s.size : Int) := by omega
      have hT60 : T.length ≤ 60 := by omega
      obtain ⟨k0', k1, k2⟩ := HL.sc;by_cases hlt : 0 < c
      ·have t0 : decide ((0 : Int) < (c : Int)) = true := decide_eq_true (by omega);have t0' : decide (0 < c) = true := by simpa using hlt
       obtain ⟨c', hc'⟩ : ∃ c', c = c' + 1 := ⟨c - 1, by omega⟩;have hTd' : (T.length + 1) + c' = m := by omega
       have dw : IntKind.i64.wrap ((c : Int) - 1) = (c' : Int) := by rw [hc', show ((c' + 1 : Nat) : Int) - 1 = (c' : Int) by omega]; exact IntWalk.i64_in _ (by omega)
       have hcm : c' < c := by omega
       have HX4 := Lib.hid (show zcj s = zgq s f h (c' + 1) p T by rw [← hc']; exact HX3.out);obtain ⟨⟨b, n, e⟩, hu⟩ : ∃ x, zaq (s.extract p s.size) = x := ⟨_, rfl⟩;have hfar : p + n ≤ s.size := by
        have h2 : (zaq (s.extract p s.size)).2.1 ≤ (s.extract p s.size).size := by
         rcases zci (s.extract p s.size) with h | ⟨e, h, _⟩
         ·exact h.2.2.1
         ·rw [h]; exact Nat.zero_le _
        rw [hu, ByteArray.size_extract] at h2;simp only at h2;omega
       have HBs := Lib.hid (show b.size ≤ maxLen by
        have h2 : (zaq (s.extract p s.size)).1.size ≤ 2000 := by
         rcases zci (s.extract p s.size) with h | ⟨e, h, _⟩
         ·exact h.2.2.2.2.1
         ·rw [h]; exact Nat.zero_le _
        rw [hu] at h2;unfold maxLen; exact Nat.le_trans h2 (by decide))
       have HU := Lib.hid hu;have HTd := Lib.hid hTd';clear hu hc' HX3 hTd hTd';go_wp2_with fail;refine (zgl (s.extract p s.size) wr hl).mono ?_;rintro r w1 ⟨rfl, rfl⟩;rw [HU.out];simp only;by_cases he : e = 0
       ·subst he;have HX5 := Lib.hid (zxv HX4.out HU.out);have w1' : IntKind.i64.wrap ((p : Int) + (n : Int)) = (p : Int) + (n : Int) := IntWalk.i64_in _ (by omega);have ep : ((p + n : Nat) : Int) = (p : Int) + (n : Int) := by omega
        have EP := Lib.hid ep;clear ep;go_wp2_with fail;refine Flow.zan (by kernel_rfl) (by kernel_rfl) (by kernel_rfl) 269 rfl (by kernel_rfl) (r23V u10 b R p n) (fun g L wz => RX w w.heap.size E R B s p n v0 v1 u10 f h T b g (L 3) (L 4) (L 14) wz) (fun _ _ => False) ((0, undef)) (⟨fun _ => HL.below ((Below.refl _ _).drew), fun h => (by cases h), fun h => (by cases h)⟩) ⟨?_, ?_, ?_, ?_, ?_, ?_, ?_, ?_, ?_, ?_, ?_, ?_, ?_, ?_, ?_, trivial⟩ ?_ ?_
        ·intro g L wz K ρ hc0 hf0 hF hO hU hcl hi hd hC hK;have e4 : ρ (.tmp 4) = .pointer (some ⟨R, 0, none⟩) := hO 4 (by kernel_rfl);simp [go_sem, hc0, hf0, e4];exact hK g wz hC (fun _ _ => rfl)
        ·intro g L wz K ρ hc0 hf0 hF hO hU hcl hi hd hC hK;have e10 : ρ (.tmp 10) = u10 := hU 10 11 (by kernel_rfl) (by cases h : L 11 with | false => rfl | true => (have := hcl 11 1 (by kernel_rfl) h; rw [hi] at this; cases this));simp [go_sem, hc0, hf0, e10];exact hK g wz hC (fun _ _ => rfl)
        ·intro g L wz K ρ hc0 hf0 hF hO hU hcl hi hd hC hK;have e12 : ρ (.tmp 12) = .string b := hO 12 (by kernel_rfl);simp [go_sem, hc0, hf0, e12];exact hK g wz hC (fun _ _ => rfl)
        ·intro g L wz K ρ hc0 hf0 hF hO hU hcl hi hd hC hK;have d2 : L 2 = true := hd ⟨2, .data⟩ (by simp) rfl;have e104 : ρ (.tmp 104) = .string b := hF 104 2 (by kernel_rfl) d2;have h4 : L 4 = false := by cases h : L 4 with | false => rfl | true => (have := hcl 4 3 (by kernel_rfl) h; rw [hi] at this; cases this)
         simp [go_sem, hc0, hf0, e104];rw [hi, h4] at hC;refine hK (wz.heap.size, g.2) _ ?_ (by intro j hj; unfold r23V; split <;> first | rfl | (rw [hi] at hj; cases hj) | (have hz := hcl _ 3 (by kernel_rfl) hj; rw [hi] at hz; cases hz));show RX _ _ _ _ _ _ _ _ _ _ _ _ _ _ _ _ true (L 4) (L 14) _;rw [h4];exact hC.build _
        ·intro g L wz K ρ hc0 hf0 hF hO hU hcl hi hd hC hK;have d1 : L 1 = true := hd ⟨1, .data⟩ (by simp) rfl;have e103 : ρ (.tmp 103) = u10 := hF 103 1 (by kernel_rfl) d1;have d3 : L 3 = true := hd ⟨3, .data⟩ (by simp) rfl;have e105 : ρ (.tmp 105) = .slice (some ⟨g.1, 0, none⟩) 1 1 := hF 105 3 (by kernel_rfl) d3;have hpre := hC.pre hi;have htmp := hC.tmp d3 hi;obtain ⟨v', wn, hrun, ho, hg, _⟩ := run_append_own (P := Tryz.prog) wz B 116 116 9 i0 (.string ⟨#[]⟩) 1 16 Tryz.underlying116 hi0 hz0 hz1 hz2 rfl (by decide) u10 T.length (T.map Value.string) hpre.t ⟨g.1, 0, none⟩ 1 1 [.string b] rfl (one_cell htmp.2) (by intro u hu; simp at hu; subst hu; rfl) (by unfold maxLen; omega) (by omega) hpre.sz;have ho' := zfi rfl ho;obtain ⟨uA, uc, hu⟩ := zah hpre.t;rw [hu] at e103 hrun;unfold execOp;simp only [resolve, invoke, builtin, Sem.run_bind, Sem.run_pure, Result.andThen_ok, List.map_toArray, List.map_cons, List.map_nil, e103, e105, hrun];refine hK (g.1, v') wn ⟨fun h => (by cases h), fun _ h => (by cases h), fun _ => hpre.yjo S hg ho'⟩ (by intro j hj; unfold r23V; split <;> first | rfl | (rw [hi] at hj; cases hj) | (have hz := hcl _ 4 (by kernel_rfl) hj; rw [hi] at hz; cases hz))
        ·intro g L wz K ρ hc0 hf0 hF hO hU hcl hi hd hC hK;have e4 : ρ (.tmp 4) = .pointer (some ⟨R, 0, none⟩) := hO 4 (by kernel_rfl);simp [go_sem, hc0, hf0, e4];exact hK g wz hC (fun _ _ => rfl)
        ·intro g L wz K ρ hc0 hf0 hF hO hU hcl hi hd hC hK;have d5 : L 5 = true := hd ⟨5, .data⟩ (by simp) rfl;have e107 : ρ (.tmp 107) = .pointer (some ⟨R, 0, none⟩) := hF 107 5 (by kernel_rfl) d5;simp [go_sem, hc0, hf0, e107];exact hK g wz hC (fun _ _ => rfl)
        ·intro g L wz K ρ hc0 hf0 hF hO hU hcl hi hd hC hK;have d6 : L 6 = true := hd ⟨6, .data⟩ (by simp) rfl;have e108 : ρ (.tmp 108) = .pointer (some ⟨R, 0, none⟩) := hF 108 6 (by kernel_rfl) d6;simp [go_sem, hc0, hf0, e108];exact hK g wz hC (fun _ _ => rfl)
        ·intro g L wz K ρ hc0 hf0 hF hO hU hcl hi hd hC hK;have d7 : L 7 = true := hd ⟨7, .data⟩ (by simp) rfl;have e109 : ρ (.tmp 109) = .pointer (some ⟨R, 1, none⟩) := hF 109 7 (by kernel_rfl) d7;have h14 : L 14 = false := by cases h : L 14 with | false => rfl | true => (have := hcl 14 8 (by kernel_rfl) h; rw [hi] at this; cases this)
         have cc : wz.cell? ⟨R, 1, none⟩ = some (.int .i64 (p : Int)) := by have := hC.sc.c1; rw [h14] at this; exact this
         simp [go_sem, hc0, hf0, e109, cc];exact hK g wz hC (fun _ _ => rfl)
        ·intro g L wz K ρ hc0 hf0 hF hO hU hcl hi hd hC hK;have e13 : ρ (.tmp 13) = .int .i64 (n : Int) := hO 13 (by kernel_rfl);simp [go_sem, hc0, hf0, e13];exact hK g wz hC (fun _ _ => rfl)
        ·intro g L wz K ρ hc0 hf0 hF hO hU hcl hi hd hC hK;have d8 : L 8 = true := hd ⟨8, .data⟩ (by simp) rfl;have e110 : ρ (.tmp 110) = .int .i64 (p : Int) := hF 110 8 (by kernel_rfl) d8;have d9 : L 9 = true := hd ⟨9, .data⟩ (by simp) rfl;have e111 : ρ (.tmp 111) = .int .i64 (n : Int) := hF 111 9 (by kernel_rfl) d9;simp [go_sem, hc0, hf0, e110, e111, w1'];exact hK g wz hC (fun _ _ => rfl)
        ·intro g L wz K ρ hc0 hf0 hF hO hU hcl hi hd hC hK;have d4 : L 4 = true := hd ⟨4, .data⟩ (by simp) rfl;have e106 : ρ (.tmp 106) = g.2 := hF 106 4 (by kernel_rfl) d4;simp [go_sem, hc0, hf0, e106];exact hK g wz hC (fun _ _ => rfl)
        ·intro g L wz K ρ hc0 hf0 hF hO hU hcl hi hd hC hK;have d0 : L 0 = true := hd ⟨0, .data⟩ (by simp) rfl;have e102 : ρ (.tmp 102) = .pointer (some ⟨R, 0, none⟩) := hF 102 0 (by kernel_rfl) d0;simp [go_sem, hc0, hf0, e102];exact hK g wz hC (fun _ _ => rfl)
        ·intro g L wz K ρ hc0 hf0 hF hO hU hcl hi hd hC hK;have d12 : L 12 = true := hd ⟨12, .data⟩ (by simp) rfl;have e113 : ρ (.tmp 113) = .pointer (some ⟨R, 0, none⟩) := hF 113 12 (by kernel_rfl) d12;simp [go_sem, hc0, hf0, e113];exact hK g wz hC (fun _ _ => rfl)
        ·intro g L wz K ρ hc0 hf0 hF hO hU hcl hi hd hC hK;have d13 : L 13 = true := hd ⟨13, .data⟩ (by simp) rfl;have e114 : ρ (.tmp 114) = .pointer (some ⟨R, 1, none⟩) := hF 114 13 (by kernel_rfl) d13;have d10 : L 10 = true := hd ⟨10, .data⟩ (by simp) rfl;have e112 : ρ (.tmp 112) = .int .i64 ((p : Int) + (n : Int)) := hF 112 10 (by kernel_rfl) d10;rw [hi] at hC;have cc := hC.sc.c1;have ff := hC.sc.f1;simp [go_sem, hc0, hf0, e114, e112, cc, ff];refine hK g _ ?_ (fun _ _ => rfl);show RX _ _ _ _ _ _ _ _ _ _ _ _ _ _ _ g (L 3) (L 4) true _;rw [← EP.out];exact hC.store S
        ·intro g L ch wz h; exact h.elim
        ·intro g L wz hL hC;have hL4 := hC.post (hL 4 (by decide));rw [hL 14 (by decide)] at hL4;simp only [Flow.zbs, r23V];go_wp2;go_roundw
         case rel => exact ⟨c', p + n, T ++ [b], by go_num, hfar, HX5, ⟨by have := HTd.out; simp; omega, Lib.hid (fun x hx => by rcases List.mem_append.1 hx with hx | hx; exact HTs.out x hx; rw [List.mem_singleton.1 hx]; exact HBs.out)⟩, hL4⟩
         case measure => simp [intOf]; exact hcm
       ·have HV := Lib.hid (zsd HX4.out HU.out he);have HE := Lib.hid he;have ne : (e != 0) = true := by rw [bne_iff_ne]; exact he
        clear he;go_wp2_with fail;refine (zbc e (p : Int) _).mono ?_;rintro r w9 ⟨rfl, rfl⟩;go_wp2;exact zch HV.out HE.out HL.bt S.oe S.lo S.le HL.bel rfl rfl
      ·have t0 : decide ((0 : Int) < (c : Int)) = false := decide_eq_false (by omega);have t0' : decide (0 < c) = false := by simpa using hlt
       obtain rfl : c = 0 := by omega
       clear hlt i1 i2 hl k0' k1 k2;go_wp2_with fail;refine (next_any s p R 60 wr hs hp (by omega) HL.sc).mono ?_;rintro r w1 ⟨q, m2, k, e, hv, hx⟩;rcases hx with ⟨rfl, hm2, _, _, hk, rfl, rfl⟩ | ⟨he, rfl, rfl⟩
       ·have HX4 := Lib.hid (zsr HX3.out hv);have HL4 := HL.step S q (p + k);clear hv HX3 HL;generalize (wr.drewN q).setCell ⟨R, 1, none⟩ (.int .i64 ((p + k : Nat) : Int)) = W4 at *;generalize p + k = p at *;go_wp2;obtain ⟨A3, c3, rfl⟩ := zah HL4.t;clear q hTd;go_loopw [15, 16, 17, 18, 19, 20, 21, 22] (fun av mv cv _ _ _ _ _ wr => ∃ (c p tm : Nat) (a : List Int) (ws : List Wr) (v2 : Value), cv = .int .i64 (c : Int) ∧ mv = .int .i64 (tm : Int) ∧ c ≤ 60 ∧ tm ≤ 1099511627776 ∧ p ≤ s.size ∧ Hid (zcj s = bws s f h T c p tm a ws) ∧ Hid (a.length + c ≤ 60 ∧ ws.length + c ≤ 60 ∧ ∀ x ∈ a, 0 ≤ x ∧ x ≤ 60) ∧ RL w w.heap.size E R B s p v0 v1 v2 (.slice A3 T.length c3) av f h ws T a wr) (fun _ _ cv _ _ _ _ _ _ => (intOf cv).toNat)
        case atStart => exact ⟨m2, p, 0, [], [], nilS, rfl, rfl, by omega, by omega, hk, HX4, Lib.hid ⟨by simp; omega, by simp; omega, fun _ h => by cases h⟩, HL4⟩
        case round =>
         obtain ⟨c, p, tm, a, ws, v2, rfl, rfl, hc60, htm, hp, HX5, HAr, HL⟩ := hrel;clear HL4 HX4 hk;obtain ⟨k0', k1, k2⟩ := HL.sc;by_cases hlt : 0 < c
         ·have t0 : decide ((0 : Int) < (c : Int)) = true := decide_eq_true (by omega);have t0' : decide (0 < c) = true := by simpa using hlt
          obtain ⟨c', hc'⟩ : ∃ c', c = c' + 1 := ⟨c - 1, by omega⟩;have dw : IntKind.i64.wrap ((c : Int) - 1) = (c' : Int) := by rw [hc', show ((c' + 1 : Nat) : Int) - 1 = (c' : Int) by omega]; exact IntWalk.i64_in _ (by omega)
          have hcm : c' < c := by omega
          have hc60' : c' ≤ 60 := by omega
          have HC1 := Lib.hid hc';have HX6 := Lib.hid (show zcj s = bws s f h T (c' + 1) p tm a ws by rw [← hc']; exact HX5.out);clear hc' HX5;by_cases hend : s.size ≤ p
          ·have te : ((p : Int) == (s.size : Int)) = true := by rw [beq_iff_eq]; omega
           have HV := Lib.hid (zej HX6.out (zyq hend) (by omega));clear hend;go_wp2_with fail;refine (zbc 7 (p : Int) _).mono ?_;rintro r w9 ⟨rfl, rfl⟩;go_wp2;exact zch HV.out (by omega) HL.bt S.oe S.lo S.le HL.bel rfl rfl
          ·have hps : p < s.size := by omega
           have te : ((p : Int) == (s.size : Int)) = false := by rw [beq_eq_false_iff_ne]; omega
           have i1 : (p : Int) < (s.size : Int) := by omega
           have i0' : (0 : Int) ≤ (p : Int) := by omega
           have hBy := zdv s p hps;have hBy' : ((s[p].toNat : Nat) : Int) = (byteOf s p : Int) := by rw [← hBy]
           have hlB := zhn s p;obtain ⟨kd, hkd'⟩ : ∃ kd, kd = byteOf s p := ⟨_, rfl⟩;rw [← hkd'] at hBy hBy' hlB;have wK : IntKind.i64.wrap (kd : Int) = (kd : Int) := IntWalk.i64_in _ (by omega);have HKD := Lib.hid hkd';have HNE := Lib.hid hend;have HG := HL.newG (0, 0, (kd : Int), ⟨#[]⟩, ⟨#[]⟩, 0);have HGs := HG.b.sc;obtain ⟨z0, z1, z2⟩ := HGs;have z3 : (wr.alloc (wrO 0 0 (kd : Int) ⟨#[]⟩ ⟨#[]⟩ 0)).cell? ⟨wr.heap.size, 2, none⟩ = some (.int .i64 (kd : Int)) := HG.cell 2 (by omega);clear hkd' hend HL;go_wp2_with fail;generalize wr.alloc (wrO 0 0 (kd : Int) ⟨#[]⟩ ⟨#[]⟩ 0) = W5 at *;generalize wr.heap.size = g at *;refine (zfd (kd : Int) 1 4 _).mono ?_;rintro r w9 ⟨rfl, rfl⟩;by_cases hok : kd < 1 ∨ 4 < kd
           ·have eB : inB (kd : Int) 1 4 = false := by unfold inB; simp only [decide_eq_false_iff_not]; omega
            have HV := Lib.hid (zej HX6.out (zsk HNE.out (by rw [← HKD.out]; exact hok)) (by omega));rw [eB];clear hok;go_wp2_with fail;refine (zbc 1 (p : Int) _).mono ?_;rintro r w9 ⟨rfl, rfl⟩;go_wp2;exact zch HV.out (by omega) HG.b.bt S.oe S.lo S.le HG.b.bel rfl rfl
           ·have eB : inB (kd : Int) 1 4 = true := by unfold inB; simp only [decide_eq_true_eq]; omega
            have HO := Lib.hid (yat (h := h) (T := T) (tm := tm) HNE.out (by rw [← HKD.out]; exact hok));rw [← HKD.out] at HO;rw [eB];have wp1 : IntKind.i64.wrap ((p : Int) + 1) = ((p + 1 : Nat) : Int) := IntWalk.i64_in _ (by omega);have HG' := HG.setR S (p + 1);have hp1s : p + 1 ≤ s.size := by omega
            clear hok eB hBy hBy' z3;have z4 := HG'.b.sc.c1;go_wp2_with fail;clear z0 z1 z2 z4 wK wp1 i1 i0' te HG;have ep1 : (p : Int) + 1 = ((p + 1 : Nat) : Int) := by omega
            rw [ep1];generalize W5.setCell ⟨R, 1, none⟩ (.int .i64 ((p + 1 : Nat) : Int)) = W6 at *;generalize hp1 : p + 1 = p1 at *;clear ep1;refine (next_any s p1 R 1099511627776 W6 hs hp1s (by omega) HG'.b.sc).mono ?_;rintro r w1 ⟨q1, n1', k1', e, hv, hx⟩;rcases hx with ⟨rfl, hn, _, _, hk1, rfl, rfl⟩ | ⟨he, rfl, rfl⟩
            ·have HG1 := HG'.step S q1 (p1 + k1');have HVt := Lib.hid hv;have wt : IntKind.i64.wrap ((tm : Int) + (n1' : Int)) = ((tm + n1' : Nat) : Int) := IntWalk.i64_in _ (by omega);clear hv HG';generalize (W6.drewN q1).setCell ⟨R, 1, none⟩ (.int .i64 ((p1 + k1' : Nat) : Int)) = W7 at *;by_cases hov : 1099511627776 < tm + n1'
             ·have t1 : decide ((1099511627776 : Int) < (tm : Int) + (n1' : Int)) = true := decide_eq_true (by omega);have t1' : decide (1099511627776 < tm + n1') = true := by simpa using hov
              have HV := Lib.hid (zej HX6.out (HO.out.trans (zox HVt.out hov)) (by omega));clear hov;go_wp2_with fail;refine (zbc 2 (p1 : Int) _).mono ?_;rintro r w9 ⟨rfl, rfl⟩;go_wp2;exact zch HV.out (by omega) HG1.b.bt S.oe S.lo S.le HG1.b.bel rfl rfl
             ·have t1 : decide ((1099511627776 : Int) < (tm : Int) + (n1' : Int)) = false := decide_eq_false (by omega);have t1' : decide (1099511627776 < tm + n1') = false := by simpa using hov
              have HO1 := Lib.hid (HO.out.trans (zxb HVt.out hov));have ht2 : tm + n1' ≤ 1099511627776 := by omega
              clear hov HO HVt;have mH : IntKind.i64.wrap ((h.length : Int) - 1) = (h.length : Int) - 1 := IntWalk.i64_in _ (by have := HH.out.1; omega);have mM : (h.length : Int) - 1 ≤ 9223372036854775807 := by have := HH.out.1; omega
              generalize hp2 : p1 + k1' = p2 at *;obtain ⟨A2, c2, rfl⟩ := zah HG1.b.h;go_wp2_with fail;obtain ⟨n2, k2, e2, ha2, hx2⟩ := zdz s p2 ((h.length : Int) - 1);rcases hx2 with ⟨rfl, hn2, _, _, hk2⟩ | ⟨he2, rfl, rfl⟩
              ·obtain ⟨g2, c2', hA2, _, _⟩ := ztu HG1.b.h (by omega);obtain ⟨hA2', hc2'⟩ : A2 = some ⟨g2, 0, none⟩ ∧ c2 = c2' := by injection hA2 with a1 a2 a3; exact ⟨a1, a3⟩
               obtain ⟨⟨r2, t2⟩, hxh⟩ : ∃ x, h[n2]? = some x := ⟨h[n2]'(by omega), List.getElem?_eq_getElem (by omega)⟩;have hev : (entV h)[n2 * 2]? = some (.int .i64 r2) := by
                have := flat_get zbv 2 zes h n2 0 _ hxh (by omega);simpa [entV, zbv] using this
               have hi2 : (n2 : Int) < (h.length : Int) := by omega
               have hi2' : n2 * 2 < h.length * 2 := by omega
               have hi2'' : (0 : Int) ≤ (n2 : Int) := by omega
               have HA2 := Lib.hid ha2;have HO2 := Lib.hid (HO1.out.trans (yav ha2));have HXH := Lib.hid hxh;clear hA2 hc2' ha2 hxh HO1;refine Flow.zan (by kernel_rfl) (by kernel_rfl) (by kernel_rfl) 269 rfl (by kernel_rfl) (r39V w.heap.size R g g2 n2 h.length ((tm : Int) + (n1' : Int)) r2 (.slice A2 h.length c2)) (fun _ L wz => RLG w w.heap.size E R B g (cond (L 14) (((tm : Int) + (n1' : Int)), r2, (kd : Int), ⟨#[]⟩, ⟨#[]⟩, 0) (0, 0, (kd : Int), ⟨#[]⟩, ⟨#[]⟩, 0)) s (cond (L 8) (p2 + k2) p2) v0 (.slice A2 h.length c2) v2 (.slice A3 T.length c3) u15 f h ws T a wz) (fun _ _ => False) (()) (HG1.below ((Below.refl _ _).drew)) ⟨?_, ?_, ?_, ?_, ?_, ?_, ?_, ?_, ?_, ?_, ?_, ?_, ?_, ?_, ?_, trivial⟩ ?_ ?_
               ·intro gz L wz K ρ hc0 hf0 hF hO hU hcl hi hd hC hK;have e16 : ρ (.tmp 16) = .int .i64 ((tm : Int) + (n1' : Int)) := hO 16 (by kernel_rfl);simp [go_sem, hc0, hf0, e16];exact hK gz wz hC (fun _ _ => rfl)
               ·intro gz L wz K ρ hc0 hf0 hF hO hU hcl hi hd hC hK;have e2 : ρ (.tmp 2) = .pointer (some ⟨w.heap.size, 0, none⟩) := hO 2 (by kernel_rfl);simp [go_sem, hc0, hf0, e2];exact hK gz wz hC (fun _ _ => rfl)
               ·intro gz L wz K ρ hc0 hf0 hF hO hU hcl hi hd hC hK;have d1 : L 1 = true := hd ⟨1, .data⟩ (by simp) rfl;have e170 : ρ (.tmp 170) = .pointer (some ⟨w.heap.size, 1, none⟩) := hF 170 1 (by kernel_rfl) d1;have cc := hC.b.bt.c1;simp [go_sem, hc0, hf0, e170, cc];exact hK gz wz hC (fun _ _ => rfl)
               ·intro gz L wz K ρ hc0 hf0 hF hO hU hcl hi hd hC hK;have e4 : ρ (.tmp 4) = .pointer (some ⟨R, 0, none⟩) := hO 4 (by kernel_rfl);simp [go_sem, hc0, hf0, e4];exact hK gz wz hC (fun _ _ => rfl)
               ·intro gz L wz K ρ hc0 hf0 hF hO hU hcl hi hd hC hK;have e2 : ρ (.tmp 2) = .pointer (some ⟨w.heap.size, 0, none⟩) := hO 2 (by kernel_rfl);simp [go_sem, hc0, hf0, e2];exact hK gz wz hC (fun _ _ => rfl)
               ·intro gz L wz K ρ hc0 hf0 hF hO hU hcl hi hd hC hK;have d4 : L 4 = true := hd ⟨4, .data⟩ (by simp) rfl;have e173 : ρ (.tmp 173) = .pointer (some ⟨w.heap.size, 1, none⟩) := hF 173 4 (by kernel_rfl) d4;have cc := hC.b.bt.c1;simp [go_sem, hc0, hf0, e173, cc];exact hK gz wz hC (fun _ _ => rfl)
               ·intro gz L wz K ρ hc0 hf0 hF hO hU hcl hi hd hC hK;have d5 : L 5 = true := hd ⟨5, .data⟩ (by simp) rfl;have e174 : ρ (.tmp 174) = .slice A2 h.length c2 := hF 174 5 (by kernel_rfl) d5;simp [go_sem, hc0, hf0, e174];exact hK gz wz hC (fun _ _ => rfl)
               ·intro gz L wz K ρ hc0 hf0 hF hO hU hcl hi hd hC hK;have d6 : L 6 = true := hd ⟨6, .data⟩ (by simp) rfl;have e175 : ρ (.tmp 175) = .int .i64 (h.length : Int) := hF 175 6 (by kernel_rfl) d6;simp [go_sem, hc0, hf0, e175, mH];exact hK gz wz hC (fun _ _ => rfl)
               ·intro gz L wz K ρ hc0 hf0 hF hO hU hcl hi hd hC hK;have d3 : L 3 = true := hd ⟨3, .data⟩ (by simp) rfl;have e172 : ρ (.tmp 172) = .pointer (some ⟨R, 0, none⟩) := hF 172 3 (by kernel_rfl) d3;have d7 : L 7 = true := hd ⟨7, .data⟩ (by simp) rfl;have e176 : ρ (.tmp 176) = .int .i64 ((h.length : Int) - 1) := hF 176 7 (by kernel_rfl) d7;rw [hi] at hC;simp [go_sem, hc0, hf0, e172, e176];refine (next_any s p2 R ((h.length : Int) - 1) wz hs hk1 mM hC.b.sc).mono ?_;rintro r wn ⟨q, n', k', e', ha', hx'⟩;rw [HA2.out] at ha';injection ha' with q1 ha'
                injection ha' with q2 ha'
                subst q1 q2 ha';rcases hx' with ⟨_, _, _, _, _, rfl, rfl⟩ | ⟨h0, _⟩
                ·exact ⟨_, rfl, hK () _ (hC.step S q (p2 + k2)) (fun _ _ => rfl)⟩
                ·exact absurd rfl h0
               ·intro gz L wz K ρ hc0 hf0 hF hO hU hcl hi hd hC hK;have d2 : L 2 = true := hd ⟨2, .data⟩ (by simp) rfl;have e171 : ρ (.tmp 171) = .slice A2 h.length c2 := hF 171 2 (by kernel_rfl) d2;have d8 : L 8 = true := hd ⟨8, .data⟩ (by simp) rfl;have e177 : ρ (.tmp 177) = .int .i64 (n2 : Int) := hF 177 8 (by kernel_rfl) d8;rw [hA2'] at e171;simp [go_sem, hc0, hf0, e171, e177, hi2, hi2''];exact hK () wz hC (fun _ _ => rfl)
               ·intro gz L wz K ρ hc0 hf0 hF hO hU hcl hi hd hC hK;have d9 : L 9 = true := hd ⟨9, .data⟩ (by simp) rfl;have e178 : ρ (.tmp 178) = .pointer (some ⟨g2, n2 * 2, none⟩) := hF 178 9 (by kernel_rfl) d9;simp [go_sem, hc0, hf0, e178];exact hK gz wz hC (fun _ _ => rfl)
               ·intro gz L wz K ρ hc0 hf0 hF hO hU hcl hi hd hC hK;have d10 : L 10 = true := hd ⟨10, .data⟩ (by simp) rfl;have e179 : ρ (.tmp 179) = .pointer (some ⟨g2, n2 * 2, none⟩) := hF 179 10 (by kernel_rfl) d10;have hrow := hC.b.h;rw [hA2'] at hrow;have cc : wz.cell? ⟨g2, n2 * 2, none⟩ = some (.int .i64 r2) := (hrow.cellAt (n2 * 2) hi2').trans hev;simp [go_sem, hc0, hf0, e179, cc];exact hK () wz hC (fun _ _ => rfl)
               ·intro gz L wz K ρ hc0 hf0 hF hO hU hcl hi hd hC hK;have d0 : L 0 = true := hd ⟨0, .data⟩ (by simp) rfl;have e169 : ρ (.tmp 169) = .int .i64 ((tm : Int) + (n1' : Int)) := hF 169 0 (by kernel_rfl) d0;have d11 : L 11 = true := hd ⟨11, .data⟩ (by simp) rfl;have e180 : ρ (.tmp 180) = .int .i64 r2 := hF 180 11 (by kernel_rfl) d11;simp [go_sem, hc0, hf0, e169, e180];exact hK gz wz hC (fun _ _ => rfl)
               ·intro gz L wz K ρ hc0 hf0 hF hO hU hcl hi hd hC hK;have e18 : ρ (.tmp 18) = .pointer (some ⟨g, 0, none⟩) := hO 18 (by kernel_rfl);simp [go_sem, hc0, hf0, e18];exact hK gz wz hC (fun _ _ => rfl)
               ·intro gz L wz K ρ hc0 hf0 hF hO hU hcl hi hd hC hK;have d13 : L 13 = true := hd ⟨13, .data⟩ (by simp) rfl;have e182 : ρ (.tmp 182) = .pointer (some ⟨g, 0, none⟩) := hF 182 13 (by kernel_rfl) d13;have d12 : L 12 = true := hd ⟨12, .data⟩ (by simp) rfl;have e181 : ρ (.tmp 181) = .agg #[.int .i64 ((tm : Int) + (n1' : Int)), .int .i64 r2] := hF 181 12 (by kernel_rfl) d12;rw [hi] at hC;have h1 := hC.setG S (y := (((tm : Int) + (n1' : Int)), 0, (kd : Int), ⟨#[]⟩, ⟨#[]⟩, 0)) 0 (.int .i64 ((tm : Int) + (n1' : Int))) rfl;have h2 := h1.setG S (y := (((tm : Int) + (n1' : Int)), r2, (kd : Int), ⟨#[]⟩, ⟨#[]⟩, 0)) 1 (.int .i64 r2) rfl;have f0 := hC.froz 0;have f1 := h1.froz 1;have c0 : wz.cell? ⟨g, 0, none⟩ = some (.int .i64 0) := hC.cell 0 (by omega);have c1 : (wz.setCell ⟨g, 0, none⟩ (.int .i64 ((tm : Int) + (n1' : Int)))).cell? ⟨g, 1, none⟩ = some (.int .i64 0) := h1.cell 1 (by omega);simp [go_sem, hc0, hf0, e182, e181, f0, f1, c0, c1];exact hK () _ h2 (fun _ _ => rfl)
               ·intro g L ch wz h; exact h.elim
               ·intro gz L wz hL hC;have HG3 := hC;rw [hL 14 (by decide), hL 8 (by decide)] at HG3;have HG4 : RLG w w.heap.size E R B g (((tm : Int) + (n1' : Int)), r2, (kd : Int), ⟨#[]⟩, ⟨#[]⟩, 0) s (p2 + k2) v0 (.slice A2 h.length c2) v2 (.slice A3 T.length c3) u15 f h ws T a wz := HG3;clear hC HG3 HG1 hL;simp only [Flow.zbs, r39V];generalize hp3 : p2 + k2 = p3 at *;have mT : IntKind.i64.wrap ((T.length : Int) - 1) = (T.length : Int) - 1 := IntWalk.i64_in _ (by omega);go_wp2_with fail;refine (next_any s p3 R ((T.length : Int) - 1) wz hs hk2 (by omega) HG4.b.sc).mono ?_;rintro r w1 ⟨q3, n3, k3, e, hv, hx⟩;rcases hx with ⟨rfl, hn3, _, _, hk3, rfl, rfl⟩ | ⟨he, rfl, rfl⟩
                ·have HG5 := HG4.step S q3 (p3 + k3);have HO3 := Lib.hid (HO2.out.trans (yef hv));clear hv HG4 HO2;generalize (wz.drewN q3).setCell ⟨R, 1, none⟩ (.int .i64 ((p3 + k3 : Nat) : Int)) = W10 at *;generalize hp4 : p3 + k3 = p4 at *;have ha60 : a.length ≤ 60 := by have := HAr.out.1; omega
                 have hn3T : n3 < T.length := by omega
                 have hn3T' : (n3 : Int) < (T.length : Int) := by omega
                 have hn30 : (0 : Int) ≤ (n3 : Int) := by omega
                 obtain ⟨g3, c3', hA3, _, _⟩ := ztu HG5.b.t (by omega);have hA3' : A3 = some ⟨g3, 0, none⟩ := by injection hA3
                 obtain ⟨x3, hx3⟩ : ∃ x, T[n3]? = some x := ⟨T[n3]'(by omega), List.getElem?_eq_getElem (by omega)⟩;have hev3 : (T.map Value.string)[n3]? = some (.string x3) := by simp [hx3]
                 have HX3 := Lib.hid hx3;have HA3 := Lib.hid hA3';clear hA3 hA3' hx3;go_wp2_with fail;refine Flow.zan (by kernel_rfl) (by kernel_rfl) (by kernel_rfl) 269 rfl (by kernel_rfl) (r41V u15 (.slice A3 T.length c3) g3 n3 g x3) (fun gz L wz => RY w w.heap.size E R B g (((tm : Int) + (n1' : Int)), r2, (kd : Int), ⟨#[]⟩, ⟨#[]⟩, 0) (((tm : Int) + (n1' : Int)), r2, (kd : Int), x3, ⟨#[]⟩, 0) s p4 (n3 : Int) v0 (.slice A2 h.length c2) v2 (.slice A3 T.length c3) u15 f h ws T a gz (L 2) (L 3) (L 10) wz) (fun _ _ => False) ((0, undef)) (⟨fun _ => HG5.below ((Below.refl _ _).drew), fun h => (by cases h), fun h => (by cases h)⟩) ⟨?_, ?_, ?_, ?_, ?_, ?_, ?_, ?_, ?_, ?_, ?_, trivial⟩ ?_ ?_
                 ·intro gz L wz K ρ hc0 hf0 hF hO hU hcl hi hd hC hK;have e15 : ρ (.tmp 15) = u15 := hU 15 8 (by kernel_rfl) (by cases h : L 8 with | false => rfl | true => (have := hcl 8 0 (by kernel_rfl) h; rw [hi] at this; cases this));simp [go_sem, hc0, hf0, e15];exact hK gz wz hC (fun _ _ => rfl)
                 ·intro gz L wz K ρ hc0 hf0 hF hO hU hcl hi hd hC hK;have e20 : ρ (.tmp 20) = .int .i64 (n3 : Int) := hO 20 (by kernel_rfl);simp [go_sem, hc0, hf0, e20];exact hK gz wz hC (fun _ _ => rfl)
                 ·intro gz L wz K ρ hc0 hf0 hF hO hU hcl hi hd hC hK;have d1 : L 1 = true := hd ⟨1, .data⟩ (by simp) rfl;have e189 : ρ (.tmp 189) = .int .i64 (n3 : Int) := hF 189 1 (by kernel_rfl) d1;have h4 : L 3 = false := by cases h : L 3 with | false => rfl | true => (have := hcl 3 2 (by kernel_rfl) h; rw [hi] at this; cases this)
                  simp [go_sem, hc0, hf0, e189];rw [hi, h4] at hC;refine hK (wz.heap.size, gz.2) _ ?_ (by intro j hj; unfold r41V; split <;> first | rfl | (rw [hi] at hj; cases hj) | (have hz := hcl _ 2 (by kernel_rfl) hj; rw [hi] at hz; cases hz));show RY _ _ _ _ _ _ _ _ _ _ _ _ _ _ _ _ _ _ _ _ _ _ true (L 3) (L 10) _;rw [h4];exact hC.build _
                 ·intro gz L wz K ρ hc0 hf0 hF hO hU hcl hi hd hC hK;have d0 : L 0 = true := hd ⟨0, .data⟩ (by simp) rfl;have e188 : ρ (.tmp 188) = u15 := hF 188 0 (by kernel_rfl) d0;have d2 : L 2 = true := hd ⟨2, .data⟩ (by simp) rfl;have e190 : ρ (.tmp 190) = .slice (some ⟨gz.1, 0, none⟩) 1 1 := hF 190 2 (by kernel_rfl) d2;have hpre := hC.pre hi;have htmp := hC.tmp d2 hi;obtain ⟨v', wn, hrun, ho, hg, _⟩ := run_append_own (P := Tryz.prog) wz B 117 117 3 j0 (.int .i64 0) 1 8 Tryz.underlying117 hj hy0 hy1 hy2 rfl (by decide) u15 a.length (zkw a) hpre.b.a ⟨gz.1, 0, none⟩ 1 1 [.int .i64 (n3 : Int)] rfl (one_cell htmp.2) (by intro u hu; simp at hu; subst hu; rfl) (by unfold maxLen; omega) (by omega) hpre.b.sz;have ho' := zpt rfl ho;obtain ⟨uA, uc, hu⟩ := zah hpre.b.a;rw [hu] at e188 hrun;unfold execOp;simp only [resolve, invoke, builtin, Sem.run_bind, Sem.run_pure, Result.andThen_ok, List.map_toArray, List.map_cons, List.map_nil, e188, e190, hrun];refine hK (gz.1, v') wn ⟨fun h => (by cases h), fun _ h => (by cases h), fun _ => hpre.zup S hg ho'⟩ (by intro j hj; unfold r41V; split <;> first | rfl | (rw [hi] at hj; cases hj) | (have hz := hcl _ 3 (by kernel_rfl) hj; rw [hi] at hz; cases hz))
                 ·intro gz L wz K ρ hc0 hf0 hF hO hU hcl hi hd hC hK;have e10 : ρ (.tmp 10) = .slice A3 T.length c3 := hO 10 (by kernel_rfl);simp [go_sem, hc0, hf0, e10];exact hK gz wz hC (fun _ _ => rfl)
                 ·intro gz L wz K ρ hc0 hf0 hF hO hU hcl hi hd hC hK;have e20 : ρ (.tmp 20) = .int .i64 (n3 : Int) := hO 20 (by kernel_rfl);simp [go_sem, hc0, hf0, e20];exact hK gz wz hC (fun _ _ => rfl)
                 ·intro gz L wz K ρ hc0 hf0 hF hO hU hcl hi hd hC hK;have d4 : L 4 = true := hd ⟨4, .data⟩ (by simp) rfl;have e192 : ρ (.tmp 192) = .slice A3 T.length c3 := hF 192 4 (by kernel_rfl) d4;have d5 : L 5 = true := hd ⟨5, .data⟩ (by simp) rfl;have e193 : ρ (.tmp 193) = .int .i64 (n3 : Int) := hF 193 5 (by kernel_rfl) d5;rw [HA3.out] at e192;simp [go_sem, hc0, hf0, e192, e193, hn3T', hn30];exact hK gz wz hC (fun _ _ => rfl)
                 ·intro gz L wz K ρ hc0 hf0 hF hO hU hcl hi hd hC hK;have d6 : L 6 = true := hd ⟨6, .data⟩ (by simp) rfl;have e194 : ρ (.tmp 194) = .pointer (some ⟨g3, n3, none⟩) := hF 194 6 (by kernel_rfl) d6;have hrow := hC.t;rw [HA3.out] at hrow;have cc : wz.cell? ⟨g3, n3, none⟩ = some (.string x3) := (hrow.cellAt n3 (by omega)).trans hev3;simp [go_sem, hc0, hf0, e194, cc];exact hK gz wz hC (fun _ _ => rfl)
                 ·intro gz L wz K ρ hc0 hf0 hF hO hU hcl hi hd hC hK;have d3 : L 3 = true := hd ⟨3, .data⟩ (by simp) rfl;have e191 : ρ (.tmp 191) = gz.2 := hF 191 3 (by kernel_rfl) d3;simp [go_sem, hc0, hf0, e191];exact hK gz wz hC (fun _ _ => rfl)
                 ·intro gz L wz K ρ hc0 hf0 hF hO hU hcl hi hd hC hK;have e18 : ρ (.tmp 18) = .pointer (some ⟨g, 0, none⟩) := hO 18 (by kernel_rfl);simp [go_sem, hc0, hf0, e18];exact hK gz wz hC (fun _ _ => rfl)
                 ·intro gz L wz K ρ hc0 hf0 hF hO hU hcl hi hd hC hK;have d9 : L 9 = true := hd ⟨9, .data⟩ (by simp) rfl;have e196 : ρ (.tmp 196) = .pointer (some ⟨g, 3, none⟩) := hF 196 9 (by kernel_rfl) d9;have d7 : L 7 = true := hd ⟨7, .data⟩ (by simp) rfl;have e195 : ρ (.tmp 195) = .string x3 := hF 195 7 (by kernel_rfl) d7;rw [hi] at hC;obtain ⟨cc, ff⟩ := hC.key;simp [go_sem, hc0, hf0, e196, e195, cc, ff];exact hK gz _ (hC.store S (.string x3) rfl) (fun _ _ => rfl)
                 ·intro g L ch wz h; exact h.elim
                 ·intro gz L wz hL hC;have HG6 := hC.post (hL 3 (by decide));rw [hL 10 (by decide)] at HG6;have HG7 : RLG w w.heap.size E R B g (((tm : Int) + (n1' : Int)), r2, (kd : Int), x3, ⟨#[]⟩, 0) s p4 v0 (.slice A2 h.length c2) v2 (.slice A3 T.length c3) gz.2 f h ws T (a ++ [(n3 : Int)]) wz := HG6;clear hC HG6 HG5 hL;simp only [Flow.zbs, r41V];have hp4s : p4 ≤ s.size := by omega
                  have hl4 : (s.extract p4 s.size).size ≤ maxLen := by rw [ByteArray.size_extract]; unfold maxLen; omega
                  obtain ⟨⟨y, nf, ef⟩, hf⟩ : ∃ z, zcy ((tm : Int) + (n1' : Int), r2, (kd : Int), x3, ⟨#[]⟩, 0) (s.extract p4 s.size) = z := ⟨_, rfl⟩;have hfar : p4 + nf ≤ s.size := by
                   have h2 := zkj ((tm : Int) + (n1' : Int), r2, (kd : Int), x3, ⟨#[]⟩, 0) (s.extract p4 s.size);rw [hf, ByteArray.size_extract] at h2;simp only at h2;omega
                  have HFL := Lib.hid hf;have j1 : (0 : Int) ≤ (p4 : Int) := by omega
                  have j2 : (p4 : Int) ≤ (s.size : Int) := by omega
                  clear hf;go_wp2_with fail;simp [Act.put];refine Flow.zan (by kernel_rfl) (by kernel_rfl) (by kernel_rfl) 269 rfl (by kernel_rfl) (r42V s R p4 ((tm : Int) + (n1' : Int)) r2 kd x3 y nf ef) (fun _ L wz => RLG w w.heap.size E R B g (cond (L 12) y (((tm : Int) + (n1' : Int)), r2, (kd : Int), x3, ⟨#[]⟩, 0)) s p4 v0 (.slice A2 h.length c2) v2 (.slice A3 T.length c3) gz.2 f h ws T (a ++ [(n3 : Int)]) wz) (fun _ _ => False) (()) (HG7.below ((Below.refl _ _).drew)) ⟨?_, ?_, ?_, ?_, ?_, ?_, ?_, ?_, ?_, ?_, ?_, ?_, ?_, ?_, ?_, trivial⟩ ?_ ?_
                  ·intro gy L wz K ρ hc0 hf0 hF hO hU hcl hi hd hC hK;have e18 : ρ (.tmp 18) = .pointer (some ⟨g, 0, none⟩) := hO 18 (by kernel_rfl);have h12 : L 12 = false := by cases h : L 12 with | false => rfl | true => (have := hcl 12 0 (by kernel_rfl) h; rw [hi] at this; cases this)
                   rw [h12] at hC;have hC' : RLG w w.heap.size E R B g (((tm : Int) + (n1' : Int)), r2, (kd : Int), x3, ⟨#[]⟩, 0) s p4 v0 (.slice A2 h.length c2) v2 (.slice A3 T.length c3) gz.2 f h ws T (a ++ [(n3 : Int)]) wz := hC;obtain ⟨c0, c1, c2', c3', c4, c5⟩ := hC'.at_;simp [go_sem, hc0, hf0, e18, c0, c1, c2', c3', c4, c5];refine hK () wz ?_ (fun _ _ => rfl);show RLG w w.heap.size E R B g (cond (L 12) y (((tm : Int) + (n1' : Int)), r2, (kd : Int), x3, ⟨#[]⟩, 0)) _ _ _ _ _ _ _ _ _ _ _ _ _;rw [h12];exact hC'
                  ·intro gy L wz K ρ hc0 hf0 hF hO hU hcl hi hd hC hK;have e0 : ρ (.tmp 0) = .string s := hO 0 (by kernel_rfl);simp [go_sem, hc0, hf0, e0];exact hK gy wz hC (fun _ _ => rfl)
                  ·intro gy L wz K ρ hc0 hf0 hF hO hU hcl hi hd hC hK;have e4 : ρ (.tmp 4) = .pointer (some ⟨R, 0, none⟩) := hO 4 (by kernel_rfl);simp [go_sem, hc0, hf0, e4];exact hK gy wz hC (fun _ _ => rfl)
                  ·intro gy L wz K ρ hc0 hf0 hF hO hU hcl hi hd hC hK;have d2 : L 2 = true := hd ⟨2, .data⟩ (by simp) rfl;have e200 : ρ (.tmp 200) = .pointer (some ⟨R, 0, none⟩) := hF 200 2 (by kernel_rfl) d2;simp [go_sem, hc0, hf0, e200];exact hK gy wz hC (fun _ _ => rfl)
                  ·intro gy L wz K ρ hc0 hf0 hF hO hU hcl hi hd hC hK;have d3 : L 3 = true := hd ⟨3, .data⟩ (by simp) rfl;have e201 : ρ (.tmp 201) = .pointer (some ⟨R, 0, none⟩) := hF 201 3 (by kernel_rfl) d3;simp [go_sem, hc0, hf0, e201];exact hK gy wz hC (fun _ _ => rfl)
                  ·intro gy L wz K ρ hc0 hf0 hF hO hU hcl hi hd hC hK;have d4 : L 4 = true := hd ⟨4, .data⟩ (by simp) rfl;have e202 : ρ (.tmp 202) = .pointer (some ⟨R, 1, none⟩) := hF 202 4 (by kernel_rfl) d4;have cc := hC.b.sc.c1;simp [go_sem, hc0, hf0, e202, cc];exact hK gy wz hC (fun _ _ => rfl)
                  ·intro gy L wz K ρ hc0 hf0 hF hO hU hcl hi hd hC hK;have d1 : L 1 = true := hd ⟨1, .data⟩ (by simp) rfl;have e199 : ρ (.tmp 199) = .string s := hF 199 1 (by kernel_rfl) d1;have d5 : L 5 = true := hd ⟨5, .data⟩ (by simp) rfl;have e203 : ρ (.tmp 203) = .int .i64 (p4 : Int) := hF 203 5 (by kernel_rfl) d5;simp [go_sem, hc0, hf0, e199, e203, j1, j2];exact hK gy wz hC (fun _ _ => rfl)
                  ·intro gy L wz K ρ hc0 hf0 hF hO hU hcl hi hd hC hK;have d0 : L 0 = true := hd ⟨0, .data⟩ (by simp) rfl;have e198 : ρ (.tmp 198) = .agg #[.int .i64 ((tm : Int) + (n1' : Int)), .int .i64 r2, .int .i64 (kd : Int), .string x3, .string ⟨#[]⟩, .int .i64 0] := hF 198 0 (by kernel_rfl) d0;have d6 : L 6 = true := hd ⟨6, .data⟩ (by simp) rfl;have e204 : ρ (.tmp 204) = .string (s.extract p4 s.size) := hF 204 6 (by kernel_rfl) d6;simp [go_sem, hc0, hf0, e198, e204];refine (zti (((tm : Int) + (n1' : Int)), r2, (kd : Int), x3, ⟨#[]⟩, 0) (s.extract p4 s.size) wz hl4).mono ?_;rintro r wn ⟨rfl, hbn⟩;rw [HFL.out];exact ⟨_, rfl, hK () wn (hC.below hbn) (by intro j hj; unfold r42V; split <;> first | rfl | (rw [hi] at hj; cases hj) | (have hz := hcl _ 7 (by kernel_rfl) hj; rw [hi] at hz; cases hz))⟩
                  ·intro gy L wz K ρ hc0 hf0 hF hO hU hcl hi hd hC hK;have d7 : L 7 = true := hd ⟨7, .data⟩ (by simp) rfl;have e205 : ρ (.tmp 205) = zdk (y, nf, ef) := hF 205 7 (by kernel_rfl) d7;simp [go_sem, hc0, hf0, e205];exact hK gy wz hC (fun _ _ => rfl)
                  ·intro gy L wz K ρ hc0 hf0 hF hO hU hcl hi hd hC hK;have d8 : L 8 = true := hd ⟨8, .data⟩ (by simp) rfl;have e197 : ρ (.tmp 197) = zdk (y, nf, ef) := hF 197 8 (by kernel_rfl) d8;simp [go_sem, hc0, hf0, e197, zdk];exact hK gy wz hC (fun _ _ => rfl)
                  ·intro gy L wz K ρ hc0 hf0 hF hO hU hcl hi hd hC hK;have d8 : L 8 = true := hd ⟨8, .data⟩ (by simp) rfl;have e197 : ρ (.tmp 197) = zdk (y, nf, ef) := hF 197 8 (by kernel_rfl) d8;simp [go_sem, hc0, hf0, e197, zdk];exact hK gy wz hC (fun _ _ => rfl)
                  ·intro gy L wz K ρ hc0 hf0 hF hO hU hcl hi hd hC hK;have d8 : L 8 = true := hd ⟨8, .data⟩ (by simp) rfl;have e197 : ρ (.tmp 197) = zdk (y, nf, ef) := hF 197 8 (by kernel_rfl) d8;simp [go_sem, hc0, hf0, e197, zdk];exact hK gy wz hC (fun _ _ => rfl)
                  ·intro gy L wz K ρ hc0 hf0 hF hO hU hcl hi hd hC hK;have e18 : ρ (.tmp 18) = .pointer (some ⟨g, 0, none⟩) := hO 18 (by kernel_rfl);have d9 : L 9 = true := hd ⟨9, .data⟩ (by simp) rfl;have e206 : ρ (.tmp 206) = wrV y.1 y.2.1 y.2.2.1 y.2.2.2.1 y.2.2.2.2.1 y.2.2.2.2.2 := hF 206 9 (by kernel_rfl) d9;rw [hi] at hC;have hC' : RLG w w.heap.size E R B g (((tm : Int) + (n1' : Int)), r2, (kd : Int), x3, ⟨#[]⟩, 0) s p4 v0 (.slice A2 h.length c2) v2 (.slice A3 T.length c3) gz.2 f h ws T (a ++ [(n3 : Int)]) wz := hC;obtain ⟨u0, u1, u2, u3, u4, u5⟩ := hC'.at_;obtain ⟨m0, m1, m2', m3, m4, m5⟩ := hC'.free;simp [go_sem, hc0, hf0, e18, e206, u0, u1, u2, u3, u4, u5, m0, m1, m2', m3, m4, m5];exact hK () _ (hC'.put S) (fun _ _ => rfl)
                  ·intro gy L wz K ρ hc0 hf0 hF hO hU hcl hi hd hC hK;have d10 : L 10 = true := hd ⟨10, .data⟩ (by simp) rfl;have e207 : ρ (.tmp 207) = .int .i64 (nf : Int) := hF 207 10 (by kernel_rfl) d10;simp [go_sem, hc0, hf0, e207];exact hK gy wz hC (fun _ _ => rfl)
                  ·intro gy L wz K ρ hc0 hf0 hF hO hU hcl hi hd hC hK;have d11 : L 11 = true := hd ⟨11, .data⟩ (by simp) rfl;have e208 : ρ (.tmp 208) = .int .i64 ef := hF 208 11 (by kernel_rfl) d11;simp [go_sem, hc0, hf0, e208];exact hK gy wz hC (fun _ _ => rfl)
                  ·intro g L ch wz h; exact h.elim
                  ·intro gy L wy hL hC;rw [hL 12 (by decide)] at hC;have HG9 : RLG w w.heap.size E R B g y s p4 v0 (.slice A2 h.length c2) v2 (.slice A3 T.length c3) gz.2 f h ws T (a ++ [(n3 : Int)]) wy := hC;clear hC hL HG7;simp only [Flow.zbs, r42V];have HFW := fun (e0 : ef = 0) => yin HX6.out (HO3.out.trans (yek (by rw [zxm HXH.out HX3.out, HFL.out, e0])))
                   have HFB := fun (e0 : ef ≠ 0) => zej HX6.out (HO3.out.trans (zwp (by rw [zxm HXH.out HX3.out]; exact HFL.out) e0)) e0
                   clear HFL HX6 HO3 HX3 HXH j1 j2 hl4;by_cases he : ef = 0
                   ·have HXn := Lib.hid (HFW he);subst he;clear HFW HFB;have w9 : IntKind.i64.wrap ((p4 : Int) + (nf : Int)) = ((p4 + nf : Nat) : Int) := IntWalk.i64_in _ (by omega);have HB9 := HG9.setR S (p4 + nf);rw [Int.natCast_add] at HB9;have hW9 := HB9.at_;have HA9 := HB9.b.below (zaa (wy.setCell ⟨R, 1, none⟩ (.int .i64 ((p4 : Int) + (nf : Int)))) (.cells #[.int .i64 y.1, .int .i64 y.2.1, .int .i64 y.2.2.1, .string y.2.2.2.1, .string y.2.2.2.2.1, .int .i64 y.2.2.2.2.2] 53));have hsz9 := HB9.b.sz;have hce := zpz (wy.setCell ⟨R, 1, none⟩ (.int .i64 ((p4 : Int) + (nf : Int)))) #[.int .i64 y.1, .int .i64 y.2.1, .int .i64 y.2.2.1, .string y.2.2.2.1, .string y.2.2.2.2.1, .int .i64 y.2.2.2.2.2] 53;rw [show (wy.setCell ⟨R, 1, none⟩ (.int .i64 ((p4 : Int) + (nf : Int)))).heap.size = wy.heap.size by simp] at hce hsz9;have hws60 : ws.length ≤ 60 := by have := HAr.out.2.1; omega
                    have m2' := HB9.b.bt.c2;have m3' := HA9.bt.c2;obtain ⟨x0', x1', x2', x3', x4', x5'⟩ := hW9;obtain ⟨l0, l1, l2⟩ := HG9.b.sc;clear HG9;go_wp2_with (first
                     | (at_builtin; refine wpList_append_own _ rfl (.tmp 226) (.tmp 228) 23 rfl B 53 k0 (.agg #[.int .i64 0, .int .i64 0, .int .i64 0, .string ⟨#[]⟩, .string ⟨#[]⟩, .int .i64 0]) 6 64 Tryz.underlying23 hk0 hx0 hx1 hx2 rfl (by decide) v2 ws.length (wrsV ws) rfl HA9.ws ⟨wy.heap.size, 0, none⟩ 1 1 (zbb y) rfl rfl hce (by intro u hu; simp [zbb] at hu; rcases hu with rfl | rfl | rfl | rfl | rfl | rfl <;> rfl) (by unfold maxLen; omega) (by omega) (by simp; omega) ?_; intro v5 w5 hT5 hg5 _; obtain ⟨A5, c5, rfl⟩ := zah hT5; have HL9 := HA9.yab S hg5 (zju rfl hT5); have bb5 := zaj (Below.refl B _) hg5 HA9.sz HA9.ws; have m4 := HA9.bt.keep bb5 S.o S.e; obtain ⟨_, _, y2', _, _, _, _, y6', _, _⟩ := m4))
                    clear x0' x1' x2' x3' x4' x5' l0 l1 l2 m2' m3' HB9 HA9;have hAr' := Lib.hid (show (a ++ [(n3 : Int)]).length + c' ≤ 60 ∧ (ws ++ [y]).length + c' ≤ 60 ∧ ∀ x ∈ a ++ [(n3 : Int)], 0 ≤ x ∧ x ≤ 60 from ⟨by have q1 := HAr.out.1; have q2 := HC1.out; simp; omega, by have q1 := HAr.out.2.1; have q2 := HC1.out; simp; omega, fun x hx => by
                     rcases List.mem_append.1 hx with hx | hx
                     ·exact HAr.out.2.2 x hx
                     ·rw [List.mem_singleton.1 hx]; omega⟩)
                    go_wp2;go_roundw
                    case rel => exact ⟨c', p4 + nf, tm + n1', a ++ [(n3 : Int)], ws ++ [y], .slice A5 (ws.length + 1) c5, by go_num, by rw [Int.natCast_add], hc60', ht2, hfar, HXn, hAr', HL9⟩
                    case measure => simp [intOf]; exact hcm
                   ·have HV := Lib.hid (HFB he);have HE := Lib.hid he;have ne : (ef != 0) = true := by rw [bne_iff_ne]; exact he
                    clear HFW HFB he;have z1 := HG9.b.sc.c1;go_wp2_with fail;refine (zbc ef (p4 : Int) _).mono ?_;rintro r w9 ⟨rfl, rfl⟩;go_wp2;exact zch HV.out HE.out HG9.b.bt S.oe S.lo S.le HG9.b.bel rfl rfl
                ·have HV := Lib.hid (zej HX6.out (HO2.out.trans (zwn hv he)) he);have HE := Lib.hid he;have hZ := HG4.below (below_drewN (Below.refl _ _) q3);clear hv he;go_wp2;exact zch HV.out HE.out hZ.b.bt S.oe S.lo S.le hZ.b.bel rfl rfl
              ·have HA2 := Lib.hid ha2;have HE := Lib.hid he2;have HV := Lib.hid (zej HX6.out (HO1.out.trans (zya ha2 he2)) he2);clear ha2 he2;refine Flow.zan (by kernel_rfl) (by kernel_rfl) (by kernel_rfl) 269 rfl (by kernel_rfl) (r39V w.heap.size R g 0 0 h.length ((tm : Int) + (n1' : Int)) 0 (.slice A2 h.length c2)) (fun _ L wz => Below W7.heap.size W7 wz ∧ L 8 = false) (fun ch wz => ch = zgw e2 (p2 : Int) ∧ Below W7.heap.size W7 wz) (()) (⟨(Below.refl _ _).drew, rfl⟩) ⟨?_, ?_, ?_, ?_, ?_, ?_, ?_, ?_, ?_, ?_, ?_, ?_, ?_, ?_, ?_, trivial⟩ ?_ ?_
               ·intro gz L wz K ρ hc0 hf0 hF hO hU hcl hi hd hC hK;have e16 : ρ (.tmp 16) = .int .i64 ((tm : Int) + (n1' : Int)) := hO 16 (by kernel_rfl);simp [go_sem, hc0, hf0, e16];exact hK gz wz hC (fun _ _ => rfl)
               ·intro gz L wz K ρ hc0 hf0 hF hO hU hcl hi hd hC hK;have e2 : ρ (.tmp 2) = .pointer (some ⟨w.heap.size, 0, none⟩) := hO 2 (by kernel_rfl);simp [go_sem, hc0, hf0, e2];exact hK gz wz hC (fun _ _ => rfl)
               ·intro gz L wz K ρ hc0 hf0 hF hO hU hcl hi hd hC hK;have d1 : L 1 = true := hd ⟨1, .data⟩ (by simp) rfl;have e170 : ρ (.tmp 170) = .pointer (some ⟨w.heap.size, 1, none⟩) := hF 170 1 (by kernel_rfl) d1;have cc := (hC.1.cell (cell_lt HG1.b.bt.c1)).trans HG1.b.bt.c1;simp [go_sem, hc0, hf0, e170, cc];exact hK gz wz hC (fun _ _ => rfl)
               ·intro gz L wz K ρ hc0 hf0 hF hO hU hcl hi hd hC hK;have e4 : ρ (.tmp 4) = .pointer (some ⟨R, 0, none⟩) := hO 4 (by kernel_rfl);simp [go_sem, hc0, hf0, e4];exact hK gz wz hC (fun _ _ => rfl)
               ·intro gz L wz K ρ hc0 hf0 hF hO hU hcl hi hd hC hK;have e2 : ρ (.tmp 2) = .pointer (some ⟨w.heap.size, 0, none⟩) := hO 2 (by kernel_rfl);simp [go_sem, hc0, hf0, e2];exact hK gz wz hC (fun _ _ => rfl)
               ·intro gz L wz K ρ hc0 hf0 hF hO hU hcl hi hd hC hK;have d4 : L 4 = true := hd ⟨4, .data⟩ (by simp) rfl;have e173 : ρ (.tmp 173) = .pointer (some ⟨w.heap.size, 1, none⟩) := hF 173 4 (by kernel_rfl) d4;have cc := (hC.1.cell (cell_lt HG1.b.bt.c1)).trans HG1.b.bt.c1;simp [go_sem, hc0, hf0, e173, cc];exact hK gz wz hC (fun _ _ => rfl)
               ·intro gz L wz K ρ hc0 hf0 hF hO hU hcl hi hd hC hK;have d5 : L 5 = true := hd ⟨5, .data⟩ (by simp) rfl;have e174 : ρ (.tmp 174) = .slice A2 h.length c2 := hF 174 5 (by kernel_rfl) d5;simp [go_sem, hc0, hf0, e174];exact hK gz wz hC (fun _ _ => rfl)
               ·intro gz L wz K ρ hc0 hf0 hF hO hU hcl hi hd hC hK;have d6 : L 6 = true := hd ⟨6, .data⟩ (by simp) rfl;have e175 : ρ (.tmp 175) = .int .i64 (h.length : Int) := hF 175 6 (by kernel_rfl) d6;simp [go_sem, hc0, hf0, e175, mH];exact hK gz wz hC (fun _ _ => rfl)
               ·intro gz L wz K ρ hc0 hf0 hF hO hU hcl hi hd hC hK;have d3 : L 3 = true := hd ⟨3, .data⟩ (by simp) rfl;have e172 : ρ (.tmp 172) = .pointer (some ⟨R, 0, none⟩) := hF 172 3 (by kernel_rfl) d3;have d7 : L 7 = true := hd ⟨7, .data⟩ (by simp) rfl;have e176 : ρ (.tmp 176) = .int .i64 ((h.length : Int) - 1) := hF 176 7 (by kernel_rfl) d7;simp [go_sem, hc0, hf0, e172, e176];refine (next_any s p2 R ((h.length : Int) - 1) wz hs hk1 mM (HG1.b.sc.below hC.1)).mono ?_;rintro r wn ⟨q, n', k', e', ha', hx'⟩;rw [HA2.out] at ha';injection ha' with _ ha'
                injection ha' with _ ha'
                subst ha';rcases hx' with ⟨h0, _⟩ | ⟨_, rfl, rfl⟩
                ·exact absurd h0 HE.out
                ·exact .inr ⟨_, rfl, rfl, below_drewN hC.1 q⟩
               ·intro gz L wz K ρ hc0 hf0 hF hO hU hcl hi hd hC hK;have d2 : L 2 = true := hd ⟨2, .data⟩ (by simp) rfl;have e171 : ρ (.tmp 171) = .slice A2 h.length c2 := hF 171 2 (by kernel_rfl) d2;have d8 : L 8 = true := hd ⟨8, .data⟩ (by simp) rfl;have e177 : ρ (.tmp 177) = .int .i64 ((0 : Nat) : Int) := hF 177 8 (by kernel_rfl) d8;have hz := hcl 8 8 (by kernel_rfl) d8;rw [hC.2] at hz;cases hz
               ·intro gz L wz K ρ hc0 hf0 hF hO hU hcl hi hd hC hK;have d9 : L 9 = true := hd ⟨9, .data⟩ (by simp) rfl;have e178 : ρ (.tmp 178) = .pointer (some ⟨0, 0 * 2, none⟩) := hF 178 9 (by kernel_rfl) d9;have hz := hcl 9 8 (by kernel_rfl) d9;rw [hC.2] at hz;cases hz
               ·intro gz L wz K ρ hc0 hf0 hF hO hU hcl hi hd hC hK;have d10 : L 10 = true := hd ⟨10, .data⟩ (by simp) rfl;have e179 : ρ (.tmp 179) = .pointer (some ⟨0, 0 * 2, none⟩) := hF 179 10 (by kernel_rfl) d10;have hz := hcl 10 8 (by kernel_rfl) d10;rw [hC.2] at hz;cases hz
               ·intro gz L wz K ρ hc0 hf0 hF hO hU hcl hi hd hC hK;have d0 : L 0 = true := hd ⟨0, .data⟩ (by simp) rfl;have e169 : ρ (.tmp 169) = .int .i64 ((tm : Int) + (n1' : Int)) := hF 169 0 (by kernel_rfl) d0;have d11 : L 11 = true := hd ⟨11, .data⟩ (by simp) rfl;have e180 : ρ (.tmp 180) = .int .i64 0 := hF 180 11 (by kernel_rfl) d11;have hz := hcl 11 8 (by kernel_rfl) d11;rw [hC.2] at hz;cases hz
               ·intro gz L wz K ρ hc0 hf0 hF hO hU hcl hi hd hC hK;have e18 : ρ (.tmp 18) = .pointer (some ⟨g, 0, none⟩) := hO 18 (by kernel_rfl);simp [go_sem, hc0, hf0, e18];exact hK gz wz hC (fun _ _ => rfl)
               ·intro gz L wz K ρ hc0 hf0 hF hO hU hcl hi hd hC hK;have d13 : L 13 = true := hd ⟨13, .data⟩ (by simp) rfl;have e182 : ρ (.tmp 182) = .pointer (some ⟨g, 0, none⟩) := hF 182 13 (by kernel_rfl) d13;have d12 : L 12 = true := hd ⟨12, .data⟩ (by simp) rfl;have e181 : ρ (.tmp 181) = .agg #[.int .i64 ((tm : Int) + (n1' : Int)), .int .i64 0] := hF 181 12 (by kernel_rfl) d12;have hz := hcl 12 8 (by kernel_rfl) d12;rw [hC.2] at hz;cases hz
               ·rintro gz L ch wz ⟨rfl, hb⟩;have hZ := HG1.below hb;refine zch HV.out HE.out hZ.b.bt S.oe S.lo S.le hZ.b.bel ?_ ?_
                ·rw [Flow.zbn]; rfl
                ·rw [Flow.zbn]; rfl
               ·intro gz L wz hL hC;have := hL 8 (by decide);rw [hC.2] at this;cases this
            ·have HV := Lib.hid (zej HX6.out (HO.out.trans (zsz hv he)) he);have HE := Lib.hid he;have hZ := HG'.below (below_drewN (Below.refl _ _) q1);clear hv he;go_wp2;exact zch HV.out HE.out hZ.b.bt S.oe S.lo S.le hZ.b.bel rfl rfl
         ·have t0 : decide ((0 : Int) < (c : Int)) = false := decide_eq_false (by omega);have t0' : decide (0 < c) = false := by simpa using hlt
          obtain rfl : c = 0 := by omega
          have HX6 := Lib.hid (yfh HX5.out);clear HX5 hlt;by_cases hlt : p < s.size
          ·have t1 : decide ((p : Int) < (s.size : Int)) = true := decide_eq_true (by omega);have t1' : decide (p < s.size) = true := by simpa using hlt
           have HV := Lib.hid (zrp HX6.out hlt);clear hlt;go_wp2_with fail;refine (zbc 3 (p : Int) _).mono ?_;rintro r w9 ⟨rfl, rfl⟩;go_wp2;exact zch HV.out (by omega) HL.bt S.oe S.lo S.le HL.bel rfl rfl
          ·have t1 : decide ((p : Int) < (s.size : Int)) = false := decide_eq_false (by omega);have t1' : decide (p < s.size) = false := by simpa using hlt
           obtain rfl : p = s.size := by omega
           have HNL := Lib.hid hlt;obtain ⟨A4, c4, rfl⟩ := zah HL.a;have ha60 : a.length ≤ 60 := by have := HAr.out.1; omega
           obtain ⟨⟨lk, ek, pk⟩, hkl⟩ : ∃ x, zgn T a = x := ⟨_, rfl⟩;have HKL := Lib.hid hkl;clear hlt hkl;go_wp2_with fail;refine (ydu T.length c3 a.length c4 A3 A4 T a wr (ydk (Sl.zbf HL.t)) (ydg (Sl.zbf HL.a)) (by omega) (by omega) (fun x hx => by have := HAr.out.2.2 x hx; omega)).mono ?_;rintro r w1 ⟨v, rfl, _, hb1⟩;rw [HKL.out];unfold zba;go_wp2_with fail;have HL1 := (HL.below hb1).below (zaa w1 (.cells #[.int .i64 ek, .int .i64 pk] 29));have hF := Two.new w1 ek pk 29;clear k0' k1 k2 HL hb1;refine (zcd (ek, pk) _).mono ?_;rintro r w2 ⟨rfl, hb2⟩;have HL2 := HL1.below hb2;obtain ⟨f0, f1, _, _⟩ := hF.below hb2;clear HL1 hF hb2;by_cases he : ek = 0
           ·have e1 : (((ek, pk) : Int × Int).1 == 0) = true := by simpa using he
            rw [e1];clear f0 f1;have HL2' := HL2;obtain ⟨_, hbt, F2, H2, _, W2, _, b2, _⟩ := HL2';obtain ⟨A1, c1, rfl⟩ := zah F2;obtain ⟨A2, c2, rfl⟩ := zah H2;obtain ⟨A5, c5, rfl⟩ := zah W2;have hcap := zhi F2;have hcap2 := zhi H2;have hws60 : ws.length ≤ 60 := by have := HAr.out.2.1; omega
            have hbat : Bat w2 ⟨A1, f.length, c1, A2, h.length, c2, A5, ws.length, c5, f, h, ws⟩ := ⟨Sl.zbf F2, Sl.zbf H2, Sl.zbf W2, by show f.length ≤ maxLen; have := HF.out.1; unfold maxLen; omega, by show h.length ≤ maxLen; have := HH.out.1; unfold maxLen; omega, by show ws.length ≤ maxLen; unfold maxLen; omega⟩;obtain ⟨l0, l1, l2, l3, l4, _, _, _, _, _⟩ := hbt;clear F2 H2 W2 b2;obtain ⟨⟨eb, pb⟩, hbr⟩ : ∃ x, zbd f h ws = x := ⟨_, rfl⟩;have HBR := Lib.hid hbr;clear hbr;go_wp2_with fail;refine (zjh w2 ⟨A1, f.length, c1, A2, h.length, c2, A5, ws.length, c5, f, h, ws⟩ hbat HF.out.2 HH.out.2).mono ?_;rintro r w4 ⟨rfl, hb4⟩;simp only;rw [HBR.out];unfold zba;have HL4 := (HL2.below hb4).below (zaa w4 (.cells #[.int .i64 eb, .int .i64 pb] 29));have hF := Two.new w4 eb pb 29;clear l0 l1 l2 l3 l4 hbat HL2 hb4;go_wp2_with fail;refine (zcd (eb, pb) _).mono ?_;rintro r w5 ⟨rfl, hb5⟩;have HL5 := HL4.below hb5;obtain ⟨f0, f1, _, _⟩ := hF.below hb5;clear HL4 hF hb5;by_cases hb : eb = 0
            ·have e2 : (((eb, pb) : Int × Int).1 == 0) = true := by simpa using hb
             rw [e2];have HV := Lib.hid (ybg HX6.out HNL.out (by rw [HKL.out]; exact he) (by rw [HBR.out]; exact hb));clear f0 f1 hb he;have HR5 := HL5.bt;have P0 := HR5.set0 S.oe (.slice A1 f.length c1);have P1 := P0.set1 S.oe (.slice A2 h.length c2);have P2 := P1.set2 S.oe (.slice A5 ws.length c5);have P3 := P2.setF S.oe 0 (-1);have F5 := zab (s := E) (j := 1) (.int .i64 (-1)) (zab (s := E) (j := 0) (.int .i64 0) (zab (s := w.heap.size) (j := 2) (.slice A5 ws.length c5) (zab (s := w.heap.size) (j := 1) (.slice A2 h.length c2) (zab (s := w.heap.size) (j := 0) (.slice A1 f.length c1) HL5.f S.o) S.o) S.o) S.e) S.e;have H5 := zab (s := E) (j := 1) (.int .i64 (-1)) (zab (s := E) (j := 0) (.int .i64 0) (zab (s := w.heap.size) (j := 2) (.slice A5 ws.length c5) (zab (s := w.heap.size) (j := 1) (.slice A2 h.length c2) (zab (s := w.heap.size) (j := 0) (.slice A1 f.length c1) HL5.h S.o) S.o) S.o) S.e) S.e;have W5' := zab (s := E) (j := 1) (.int .i64 (-1)) (zab (s := E) (j := 0) (.int .i64 0) (zab (s := w.heap.size) (j := 2) (.slice A5 ws.length c5) (zab (s := w.heap.size) (j := 1) (.slice A2 h.length c2) (zab (s := w.heap.size) (j := 0) (.slice A1 f.length c1) HL5.ws S.o) S.o) S.o) S.e) S.e;have bZ := ((((HL5.bel.setCell (p := ⟨w.heap.size, 0, none⟩) S.lo (.slice A1 f.length c1)).setCell (p := ⟨w.heap.size, 1, none⟩) S.lo (.slice A2 h.length c2)).setCell (p := ⟨w.heap.size, 2, none⟩) S.lo (.slice A5 ws.length c5)).setCell (p := ⟨E, 0, none⟩) S.le (.int .i64 0)).setCell (p := ⟨E, 1, none⟩) S.le (.int .i64 (-1));have a1 := P0.c1;have a2 := P1.c2;have a3 := P2.x;have a4 := P2.y;have a5 : ((((w5.setCell ⟨w.heap.size, 0, none⟩ (.slice A1 f.length c1)).setCell ⟨w.heap.size, 1, none⟩ (.slice A2 h.length c2)).setCell ⟨w.heap.size, 2, none⟩ (.slice A5 ws.length c5)).setCell ⟨E, 0, none⟩ (.int .i64 0)).cell? ⟨E, 1, none⟩ = some (.int .i64 (-1)) := zaw P2.y (by omega);obtain ⟨l0, l1, l2, l3, l4, m0, m1, m2', m3, m4⟩ := HR5;clear P0 P1 P2 HL5;go_wp2;clear l0 l1 l2 l3 l4 m0 m1 m2' m3 m4 a1 a2 a3 a4 a5;generalize ((((w5.setCell ⟨w.heap.size, 0, none⟩ (.slice A1 f.length c1)).setCell ⟨w.heap.size, 1, none⟩ (.slice A2 h.length c2)).setCell ⟨w.heap.size, 2, none⟩ (.slice A5 ws.length c5)).setCell ⟨E, 0, none⟩ (.int .i64 0)).setCell ⟨E, 1, none⟩ (.int .i64 (-1)) = WZ at *;refine leaves_cons (f := 51) (args := #[.pointer (some ⟨E, 0, none⟩)]) (by simp) (by simp [go_sem]) ?_;refine (zgj E _).mono ?_;rintro e' u' w' ⟨rfl, rfl, rfl⟩;show Leaves _ _ _ _ _ .returning _;refine leaves_cons (f := 97) (args := #[.pointer (some ⟨E, 0, none⟩), .pointer (some ⟨w.heap.size, 0, none⟩)]) (by simp) (by simp [go_sem]) ?_;refine (yfx E w.heap.size (-1) _ P3.x P3.y).mono ?_;rintro e' u' w' ⟨rfl, rfl, hbz⟩;have hZ := P3.below hbz;have FZ := own_below F5 hbz;have HZ := own_below H5 hbz;have WZ' := own_below W5' hbz;have bF := bZ.trans (hbz.mono bZ.size);obtain ⟨z0, z1, z2, z3, z4, _, _, _, _, _⟩ := hZ;show Leaves _ _ _ _ [] .returning _;exact ⟨.tuple #[.agg #[.slice A1 f.length c1, .slice A2 h.length c2, .slice A5 ws.length c5], .agg #[.int .i64 0, .int .i64 (-1)]], by simp [results, Tryz.results49, go_sem, z0, z1, z2, z3, z4], ⟨A1, f.length, c1, A2, h.length, c2, A5, ws.length, c5, f, h, ws⟩, by rw [HV.out]; rfl, ⟨Sl.zbf FZ, Sl.zbf HZ, Sl.zbf WZ', by show f.length ≤ maxLen; have := HF.out.1; unfold maxLen; omega, by show h.length ≤ maxLen; have := HH.out.1; unfold maxLen; omega, by show ws.length ≤ maxLen; unfold maxLen; omega⟩, by rw [HV.out], ⟨hcap, hcap2, zgg FZ (Nat.le_of_lt (Nat.lt_of_le_of_lt S.lo S.o)), zgg HZ (Nat.le_of_lt (Nat.lt_of_le_of_lt S.lo S.o)), zgg WZ' (Nat.le_of_lt (Nat.lt_of_le_of_lt S.lo S.o))⟩, bF⟩
            ·have e2 : (((eb, pb) : Int × Int).1 == 0) = false := by simpa using hb
             rw [e2];have HV := Lib.hid (zwi HX6.out HNL.out (by rw [HKL.out]; exact he) (by rw [HBR.out]; exact hb));rw [HBR.out] at HV;have HE := Lib.hid hb;clear hb he;go_wp2_with fail;refine (zbc eb (s.size : Int) _).mono ?_;rintro r w9 ⟨rfl, rfl⟩;go_wp2;exact zch HV.out HE.out HL5.bt S.oe S.lo S.le HL5.bel rfl rfl
           ·have e1 : (((ek, pk) : Int × Int).1 == 0) = false := by simpa using he
            rw [e1];have HV := Lib.hid (zsa HX6.out HNL.out (by rw [HKL.out]; exact he));rw [HKL.out] at HV;have HE := Lib.hid he;clear he;go_wp2_with fail;refine (zbc ek (s.size : Int) _).mono ?_;rintro r w9 ⟨rfl, rfl⟩;go_wp2;exact zch HV.out HE.out HL2.bt S.oe S.lo S.le HL2.bel rfl rfl
       ·have HV := Lib.hid (zsw HX3.out hv he);have HE := Lib.hid he;have hZ := HL.below (below_drewN (Below.refl _ _) q);clear hv he;go_wp2;exact zch HV.out HE.out hZ.bt S.oe S.lo S.le hZ.bel rfl rfl
    ·have HV := Lib.hid (zwq HX1.out hv he);have HE := Lib.hid he;have hZ := H.below (below_drewN (Below.refl _ _) q);clear hv he;go_wp2;exact zch HV.out HE.out hZ.bt S.oe S.lo S.le hZ.bel rfl rfl
end Go.Proofs.YtkejlnjnoiidnaaGreatDoor
end
