/- TokensRead of the reference says what lread says. Printed by gen_rlzread.py out of rlzread.src. -/
import Derived.Test.YtkejlnjnoiidnaaGreatDoorZ12
import Derived.Test.YtkejlnjnoiidnaaGreatDoorZ16
import Derived.Test.YtkejlnjnoiidnaaGreatDoorZ3
import Derived.Test.YtkejlnjnoiidnaaGreatDoorZ4
import Derived.Test.YtkejlnjnoiidnaaGreatDoorZ10
import Derived.Test.YtkejlnjnoiidnaaGreatDoorZ11
set_option linter.unusedSimpArgs false
set_option linter.unusedVariables false
section
namespace Go.Proofs.YtkejlnjnoiidnaaGreatDoor
open Go.RowKit As Tokens
structure RT (w : World) (O F : Nat) (v : Value) (x y : Int) : Prop where
 o : w.cell? ⟨O, 0, none⟩ = some v
 fo : w.frozen? ⟨O, 0, none⟩ = false
 x : w.cell? ⟨F, 0, none⟩ = some (.int .i64 x)
 y : w.cell? ⟨F, 1, none⟩ = some (.int .i64 y)
 fx : w.frozen? ⟨F, 0, none⟩ = false
 fy : w.frozen? ⟨F, 1, none⟩ = false
theorem RT.keep {w w' : World} {O F B : Nat} {v : Value} {x y : Int} (h : RT w O F v x y) (hb : Below B w w') (h1 : O < B) (h3 : F < B) : RT w' O F v x y :=
 ⟨(hb.cell (p := ⟨O, 0, none⟩) h1).trans h.o, (hb.frozen (p := ⟨O, 0, none⟩) h1).trans h.fo, (hb.cell (p := ⟨F, 0, none⟩) h3).trans h.x, (hb.cell (p := ⟨F, 1, none⟩) h3).trans h.y, (hb.frozen (p := ⟨F, 0, none⟩) h3).trans h.fx, (hb.frozen (p := ⟨F, 1, none⟩) h3).trans h.fy⟩
theorem RT.below {w w' : World} {O F : Nat} {v : Value} {x y : Int} (h : RT w O F v x y) (hb : Below w.heap.size w w') : RT w' O F v x y := h.keep hb (cell_lt h.o) (cell_lt h.x)
theorem RT.drew {w : World} {O F : Nat} {v : Value} {x y : Int} (h : RT w O F v x y) : RT w.drew O F v x y := ⟨h.o, h.fo, h.x, h.y, h.fx, h.fy⟩
theorem yng {w : World} {B i j : Nat} {v u : Value} (h : w.cell? ⟨B, j, none⟩ = some u) (hij : i ≠ j) : (w.setCell ⟨B, i, none⟩ v).cell? ⟨B, j, none⟩ = some u := by
 rw [World.cell?_setCell_other _ _ _ _ (by intro h; injection h with _ h2; exact hij (by first | exact h2 | exact h2.symm | injection h2))];exact h
theorem yfy {w : World} {B C i j : Nat} {v u : Value} (h : w.cell? ⟨C, j, none⟩ = some u) (hij : B ≠ C) : (w.setCell ⟨B, i, none⟩ v).cell? ⟨C, j, none⟩ = some u := by
 rw [World.cell?_setCell_other _ _ _ _ (by intro h; injection h with h1 _; exact hij (by first | exact h1 | exact h1.symm))];exact h
theorem RT.setF {w : World} {O F : Nat} {v : Value} {x y : Int} (h : RT w O F v x y) (h1 : F ≠ O) (x' y' : Int) : RT ((w.setCell ⟨F, 0, none⟩ (.int .i64 x')).setCell ⟨F, 1, none⟩ (.int .i64 y')) O F v x' y' :=
 ⟨yfy (yfy h.o h1) h1, by simpa using h.fo, yng (World.cell?_setCell_same _ _ _ h.x) (by omega), World.cell?_setCell_same _ _ _ (yng h.y (by omega)), by simpa using h.fx, by simpa using h.fy⟩
theorem RT.setO {w : World} {O F : Nat} {v : Value} {x y : Int} (h : RT w O F v x y) (h2 : O ≠ F) (v' : Value) : RT (w.setCell ⟨O, 0, none⟩ v') O F v' x y :=
 ⟨World.cell?_setCell_same _ _ _ h.o, by simpa using h.fo, yfy h.x h2, yfy h.y h2, by simpa using h.fx, by simpa using h.fy⟩
theorem RT.new (w : World) (t1 t3 : TypeId) : RT ((w.alloc (.cells #[.slice none 0 0] t1)).alloc (.cells #[.int .i64 0, .int .i64 0] t3)) w.heap.size (w.heap.size + 1) (.slice none 0 0) 0 0 := by
 have b2 := zaa (w.alloc (.cells #[.slice none 0 0] t1)) (.cells #[.int .i64 0, .int .i64 0] t3);have l1 : (w.alloc (.cells #[.slice none 0 0] t1)).heap.size = w.heap.size + 1 := by simp
 have o1 : (w.alloc (.cells #[.slice none 0 0] t1)).cell? ⟨w.heap.size, 0, none⟩ = some (.slice none 0 0) := by rw [World.cell?_alloc_new]; rfl
 have T := Two.new (w.alloc (.cells #[.slice none 0 0] t1)) 0 0 t3;rw [l1] at T;refine ⟨(b2.cell (cell_lt o1)).trans o1, ?_, T.c0, T.c1, T.f0, T.f1⟩;rw [b2.frozen (p := ⟨w.heap.size, 0, none⟩) (cell_lt o1)]; simp
theorem ycs (F O : Nat) (y : Int) (w : World) (h0 : w.cell? ⟨F, 0, none⟩ = some (.int .i64 0)) (h1 : w.cell? ⟨F, 1, none⟩ = some (.int .i64 y)) :
  CallsD Tryz.prog 140 #[.pointer (some ⟨F, 0, none⟩), .pointer (some ⟨O, 0, none⟩)] .returning w fun e u' w' => u' = .returning ∧ (e = .returned (.tuple #[]) ∧ Below w.heap.size w w') := by
 go_enter_d Tryz.func140, Tryz.ntmps140;go_wp2_with fail;refine (zcd (0, y) _).mono ?_;rintro r w2 ⟨rfl, hb2⟩;have e1 : (((0, y) : Int × Int).1 == 0) = true := rfl;rw [e1];go_wp2;go_end0;exact ⟨rfl, hb2⟩
theorem yif (F O : Nat) (v : Value) (x y : Int) (w : World) (h : RT w O F v x y) (hx : x ≠ 0) (h2 : O ≠ F) :
  CallsD Tryz.prog 140 #[.pointer (some ⟨F, 0, none⟩), .pointer (some ⟨O, 0, none⟩)] .returning w fun e u' w' => u' = .returning ∧ (e = .returned (.tuple #[]) ∧ RT w' O F (.slice none 0 0) x y ∧ ∀ B, B ≤ O → Below B w w') := by
 have HR := h;obtain ⟨r0, r1, r4, r5, r6, r7⟩ := h;have e1 : (((x, y) : Int × Int).1 == 0) = false := by simpa using hx
 go_enter_d Tryz.func140, Tryz.ntmps140;go_wp2_with fail;refine (zcd (x, y) _).mono ?_;rintro r w2 ⟨rfl, hb2⟩;rw [e1];have HZ := (HR.below hb2).setO h2 (.slice none 0 0);have lO := cell_lt HR.o;obtain ⟨k0, k1, k4, k5, k6, k7⟩ := HR.below hb2;clear r0 r1 r4 r5 r6 r7;go_wp2;go_end0;exact ⟨rfl, HZ, fun B q1 => (hb2.mono (by omega)).setCell (p := ⟨O, 0, none⟩) q1 _⟩
def TEnd (s : ByteArray) (w : World) (e : Ending) (w' : World) : Prop :=
 ∃ v, e = .returned (.tuple #[v, zba (zcu s).2]) ∧ w'.ownsRow w.heap.size 174 3 v (zcu s).1.length (tokV (zcu s).1) ∧ Below w.heap.size w w'
theorem zfa {s : ByteArray} {w W : World} {O F : Nat} {v : Value} {e q : Int} {tmps : Array Value} (hv : zcu s = ([], e, q)) (he : e ≠ 0) (R : RT W O F v 0 (-1)) (h2 : O ≠ F) (lO : w.heap.size ≤ O) (lF : w.heap.size ≤ F) (b : Below w.heap.size w W)
  (t2 : tmps[2]? = some (.pointer (some ⟨O, 0, none⟩))) (t3 : tmps[3]? = some (.pointer (some ⟨F, 0, none⟩))) :
  Leaves Tryz.prog Tryz.f111 tmps (TEnd s w) [{ target := .fn (.func 51) #[], args := #[.pointer (some ⟨F, 0, none⟩)] }, { target := .fn (.func 140) #[.pointer (some ⟨F, 0, none⟩), .pointer (some ⟨O, 0, none⟩)], args := #[] }] (.panicking (zgw e q)) W := by
 have HR := R;obtain ⟨r0, r1, r4, r5, r6, r7⟩ := R;refine leaves_cons (f := 51) (args := #[.pointer (some ⟨F, 0, none⟩)]) (by simp) (by simp [go_sem]) ?_;refine (zie F 0 (-1) e q [] _ r4 r5 r6 r7).mono ?_;rintro e' u' w' ⟨rfl, rfl, rfl⟩;show Leaves _ _ _ _ _ .returning _;have hZ := (HR.below (zaa W (.cells #[.int .i64 e, .int .i64 q] 138))).setF (Ne.symm h2) e q;have bZ := ((b.alloc b.size (.cells #[.int .i64 e, .int .i64 q] 138)).setCell (p := ⟨F, 0, none⟩) lF (.int .i64 e)).setCell (p := ⟨F, 1, none⟩) lF (.int .i64 q);refine leaves_cons (f := 140) (args := #[.pointer (some ⟨F, 0, none⟩), .pointer (some ⟨O, 0, none⟩)]) (by simp) (by simp [go_sem]) ?_;refine (yif F O _ _ _ _ hZ he h2).mono ?_;rintro e' u' w' ⟨rfl, rfl, hZ', hb⟩;have bF := bZ.trans (hb w.heap.size lO);obtain ⟨z0, _, z4, z5, _, _⟩ := hZ';show Leaves _ _ _ _ [] .returning _;refine ⟨.tuple #[.slice none 0 0, .agg #[.int .i64 e, .int .i64 q]], by simp [results, Tryz.results111, go_sem, t2, t3, z0, z4, z5], .slice none 0 0, by rw [hv]; rfl, by rw [hv]; exact World.ownsRow_nil _ _ _ _, bF⟩
structure KI (N0 B0 : Nat) (w0 : World) (O F : Nat) (v sv : Value) (acc : List Tok) (st : List Int) (T : ByteArray) (g : Nat × Value) (l0 l14 l15 l16 : Bool) (w : World) : Prop where
 bel : Below N0 w0 w
 sz : B0 ≤ w.heap.size
 pre : l15 = false → w.ownsRow B0 174 3 v acc.length (tokV acc)
 tmp : l15 = false → l14 = true → ∀ j u, ([.string T, .int .i64 0, .int .i64 0] : List Value)[j]? = some u → w.cell? ((⟨g.1, 0, none⟩ : Addr).add j) = some u
 post : l15 = true → w.ownsRow B0 174 3 g.2 (acc ++ [(T, 0, 0)]).length (tokV (acc ++ [(T, 0, 0)]))
 sts : w.ownsRow B0 3 1 sv st.length (stV st)
 res : l16 = false → RT w O F v 0 (-1)
 res' : l16 = true → RT w O F g.2 0 (-1)
 o0 : l15 = true → l0 = true
 o14 : l15 = true → l14 = true
 o16 : l16 = true → l15 = true
def kiV (O : Nat) (v : Value) (s T : ByteArray) (p k n H : Nat) (g : Nat × Value) : Nat → Value
 | 0 => v
 | 1 => .string s
 | 2 => .int .i64 (p : Int)
 | 3 => .int .i64 (k : Int)
 | 4 => .int .i64 ((p : Int) + (k : Int))
 | 5 => .int .i64 (p : Int)
 | 6 => .int .i64 (k : Int)
 | 7 => .int .i64 ((p : Int) + (k : Int))
 | 8 => .int .u64 (n : Int)
 | 9 => .int .u64 (H : Int)
 | 10 => .int .i64 (H : Int)
 | 11 => .int .i64 ((p : Int) + (k : Int) + (H : Int))
 | 12 => .string T
 | 13 => .agg #[.string T, .int .i64 0, .int .i64 0]
 | 14 => .slice (some ⟨g.1, 0, none⟩) 1 1
 | 15 => g.2
 | _ => undef
def rtV (F1 : Nat) (e Q : Int) (g2 n c2 kk : Nat) (g : Unit) : Nat → Value
 | 0 => .pointer (some ⟨F1, 0, none⟩)
 | 1 => .int .i64 e
 | 2 => .slice (some ⟨g2, 0, none⟩) n c2
 | 3 => .pointer (some ⟨F1, 1, none⟩)
 | 4 => .int .i64 (kk : Int)
 | 5 => .pointer (some ⟨g2, kk, none⟩)
 | 6 => .int .i64 Q
 | _ => undef
set_option maxHeartbeats 16000000 in
set_option maxRecDepth 100000 in
theorem zwf (s : ByteArray) (w : World) (hs : s.size ≤ 1000000) :
  Calls Tryz.prog 111 #[.string s] w fun e w' => TEnd s w e w' := by
 obtain ⟨i0, hi, hz0, hz1, hz2⟩ := info_parts zqe;obtain ⟨j0, hj, hy0, hy1, hy2⟩ := info_parts ymy;obtain ⟨X, hX⟩ : ∃ X, X = zkb s := ⟨_, rfl⟩;have HX := Lib.hid hX.symm;have HL0 := Lib.hid (show LAt s X 0 [] [] by rw [hX]; exact LAt.start s);clear hX;have hmf : ∀ (fn : Fn) (first cap : Array Value) (w : World), (Instr.makeFunc fn first cap).run Tryz.prog w = .ok (.func fn first cap) w := fun _ _ _ _ => rfl
 have hR := RT.new w 130 29;have b0 := (zaa w (.cells #[.slice none 0 0] 130)).alloc (by simp) (.cells #[.int .i64 0, .int .i64 0] 29);go_enter_defers Tryz.func111, Tryz.ntmps111;go_wp2_with fail;generalize (w.alloc (.cells #[.slice none 0 0] 130)).alloc (.cells #[.int .i64 0, .int .i64 0] 29) = W at *;obtain ⟨F, hF⟩ : ∃ F, F = w.heap.size + 1 := ⟨_, rfl⟩;rw [← hF] at hR;rw [← hF];have n2 : w.heap.size ≠ F := by omega
 have l3 : w.heap.size ≤ F := by omega
 clear hF;refine (zdy _).mono ?_;rintro r w1 ⟨rfl, hb1⟩;have b1 := b0.trans (hb1.mono b0.size);have hR1 := hR.below hb1;have hR2 := hR1.setF (Ne.symm n2) 0 (-1);have b2 := (b1.setCell (p := ⟨F, 0, none⟩) l3 (.int .i64 0)).setCell (p := ⟨F, 1, none⟩) l3 (.int .i64 (-1));have qO := cell_lt hR2.o;have qF := cell_lt hR2.x;simp only at qO qF;obtain ⟨r0, r1, r4, r5, r6, r7⟩ := hR1;clear hR b0 hb1 b1;go_wp2;clear r0 r1 r4 r5 r6 r7;generalize (w1.setCell ⟨F, 0, none⟩ (.int .i64 0)).setCell ⟨F, 1, none⟩ (.int .i64 (-1)) = V at *;obtain ⟨B0, hB0⟩ : ∃ B0, B0 = V.heap.size := ⟨_, rfl⟩;rw [← hB0] at qO qF;have hB0V : B0 ≤ V.heap.size := Nat.le_of_eq hB0;have lB0 : w.heap.size ≤ B0 := Nat.le_of_lt qO;clear hB0;go_loopw [4, 5] (fun sv pv wr => ∃ (p : Nat) (acc : List Tok) (st : List Int) (v : Value), pv = .int .i64 p ∧ p ≤ s.size ∧ Hid (LAt s X p acc st) ∧ (Hid (acc.length = st.length) ∧ st.length ≤ p) ∧ acc.length ≤ p ∧ Hid (zfl acc) ∧ wr.ownsRow B0 174 3 v acc.length (tokV acc) ∧ wr.ownsRow B0 3 1 sv st.length (stV st) ∧ RT wr w.heap.size F v 0 (-1) ∧ Below w.heap.size w wr ∧ B0 ≤ wr.heap.size) (fun _ pv _ => s.size - (intOf pv).toNat)
 case atStart => exact ⟨0, [], [], _, rfl, Nat.zero_le _, HL0, ⟨Lib.hid rfl, Nat.le_refl _⟩, Nat.le_refl _, Lib.hid zfl.nil, World.ownsRow_nil _ _ _ _, World.ownsRow_nil _ _ _ _, hR2, b2, hB0V⟩
 case round =>
  obtain ⟨p, acc, st, v, rfl, hp, HL, ⟨hlen, hsp⟩, hap, HF, hT, hS, hRr, hbel, hB⟩ := hrel;clear HL0 hR2 b2 hB0V;by_cases hlt : p < s.size
  ·have d0 : decide ((p : Int) < (s.size : Int)) = true := decide_eq_true (by omega);have d0' : decide (p < s.size) = true := decide_eq_true (by omega);have hst : st.length ≤ 1000000 := by omega
   have hac : acc.length ≤ 1000000 := by omega
   obtain ⟨n, k, e, ha, hx⟩ := yit s p;have hl : (s.extract p s.size).size ≤ maxLen := by rw [ByteArray.size_extract]; unfold maxLen; omega
   have hv := Lib.hid (show vget (s.extract p s.size).data.toList = (n, k, e) from ha);have q1 : (0 : Int) ≤ (p : Int) := by omega
   have q2 : (p : Int) ≤ (s.size : Int) := by omega
   have HA := Lib.hid ha;clear ha;go_wp2_with (first
    | (at_builtin; refine wpList_append_own _ rfl (.tmp 18) (.tmp 20) 117 rfl B0 3 j0 (.int .i64 0) 1 8 Tryz.underlying117 hj hy0 hy1 hy2 rfl (by decide) u4 st.length (stV st) rfl (hS.alloc _) ⟨wr.heap.size, 0, none⟩ 1 1 [.int .i64 (p : Int)] rfl rfl (zby _ _ _) (by intro u hu; simp at hu; subst hu; rfl) (by unfold maxLen; omega) (by omega) (by simp; omega) ?_; intro v1 w2 hS1 hg2 _; have bb := zaj (Below.refl B0 _) hg2 (by simp; omega) (hS.alloc _); have hS2 := zxp (x := (p : Int)) rfl hS1; have hT2 := (hT.alloc _).kept hg2 (own_ne hT hS (by decide))))
   have ba := zaa wr (.cells #[.int .i64 (p : Int)] 3);have hR2 := (hRr.below ba).keep bb qO qF;have b2 := (hbel.alloc hbel.size (.cells #[.int .i64 (p : Int)] 3)).trans (bb.mono lB0);have hB2 : B0 ≤ w2.heap.size := Nat.le_trans (Nat.le_trans hB ba.size) bb.size;clear ba bb hT hS hRr hbel hB;refine (zcq (s.extract p s.size) _ hl).mono ?_;rintro r w' ⟨rfl, rfl⟩;rw [hv.out];simp only;rcases hx with ⟨rfl, hn, x2, x3, x4⟩ | ⟨he, rfl, rfl⟩
   ·obtain ⟨H, hH⟩ : ∃ H, H = n / 2 := ⟨_, rfl⟩;have hq : (n : Int) / 2 = (H : Int) := by omega
    have hq' : (n : Int).tdiv 2 = (H : Int) := by rw [Int.tdiv_eq_ediv_of_nonneg (by omega)]; exact hq
    have hH63 : H < 9223372036854775808 := by omega
    have wH : IntKind.i64.wrap (H : Int) = (H : Int) := IntWalk.i64_in _ (by omega);have wU : IntKind.u64.wrap (H : Int) = (H : Int) := by rw [IntKind.wrap_u64]; omega
    have wS : IntKind.u64.wrap (s.size : Int) = (s.size : Int) := by rw [IntKind.wrap_u64]; omega
    have w1 : IntKind.i64.wrap ((p : Int) + (k : Int)) = (p : Int) + (k : Int) := IntWalk.i64_in _ (by omega);have r1 : (0 : Int) ≤ (p : Int) + (k : Int) := by omega
    have r2 : (p : Int) + (k : Int) ≤ (s.size : Int) := by omega
    have r3 : ((p : Int) + (k : Int)).toNat = p + k := by omega
    by_cases h2 : n % 2 = 0
    ·have hrem : (n : Int) % 2 = 0 := by omega
     have hrem' : (n : Int).tmod 2 = 0 := by rw [Int.tmod_eq_emod_of_nonneg (by omega)]; exact hrem
     by_cases h0 : n = 0
     ·have HV := Lib.hid (zds HX.out (HL.out.form hlt HA.out h2 (by omega)) (by omega));have z0 : ((n : Int) == 0) = true := by rw [beq_iff_eq]; omega
      clear h2 h0 hH hq hq';go_wp2_with fail;refine (zbc 3 (p : Int) _).mono ?_;rintro r w9 ⟨rfl, rfl⟩;go_wp2;exact zfa HV.out (by omega) hR2 n2 (Nat.le_refl _) l3 b2 rfl rfl
     ·have z0 : ((n : Int) == 0) = false := by rw [beq_eq_false_iff_ne]; omega
      have w2' : s.size < H ∨ IntKind.i64.wrap ((p : Int) + (k : Int) + (H : Int)) = (p : Int) + (k : Int) + (H : Int) := by
       by_cases hb : s.size < H
       ·exact .inl hb
       ·exact .inr (IntWalk.i64_in _ (by omega))
      by_cases h3 : s.size < p + k + H
      ·have HV := Lib.hid (zds HX.out (HL.out.miss hlt HA.out h2 (by omega) (by omega)) (by omega));rcases w2' with hb | w2'
       ·have d1 : decide ((s.size : Int) < (H : Int)) = true := decide_eq_true (by omega);have d1' : decide (s.size < H) = true := decide_eq_true (by omega);clear h2 h0 hH h3 hb;go_wp2_with fail;refine (zbc 7 (s.size : Int) _).mono ?_;rintro r w9 ⟨rfl, rfl⟩;go_wp2;exact zfa HV.out (by omega) hR2 n2 (Nat.le_refl _) l3 b2 rfl rfl
       ·by_cases hb : s.size < H
        ·have d1 : decide ((s.size : Int) < (H : Int)) = true := decide_eq_true (by omega);have d1' : decide (s.size < H) = true := decide_eq_true (by omega);clear h2 h0 hH h3 hb;go_wp2_with fail;refine (zbc 7 (s.size : Int) _).mono ?_;rintro r w9 ⟨rfl, rfl⟩;go_wp2;exact zfa HV.out (by omega) hR2 n2 (Nat.le_refl _) l3 b2 rfl rfl
        ·have d1 : decide ((s.size : Int) < (H : Int)) = false := decide_eq_false (by omega);have d1' : decide (s.size < H) = false := decide_eq_false (by omega);have d2 : decide ((s.size : Int) < (p : Int) + (k : Int) + (H : Int)) = true := decide_eq_true (by omega);clear h2 h0 hH h3 hb;go_wp2_with fail;refine (zbc 7 (s.size : Int) _).mono ?_;rintro r w9 ⟨rfl, rfl⟩;go_wp2;exact zfa HV.out (by omega) hR2 n2 (Nat.le_refl _) l3 b2 rfl rfl
      ·have HN := Lib.hid (HL.out.own hlt HA.out h2 (by omega) (by omega));rw [← hH] at HN;have w2' : IntKind.i64.wrap ((p : Int) + (k : Int) + (H : Int)) = (p : Int) + (k : Int) + (H : Int) := IntWalk.i64_in _ (by omega);have d1 : decide ((s.size : Int) < (H : Int)) = false := decide_eq_false (by omega);have d1' : decide (s.size < H) = false := decide_eq_false (by omega);have d2 : decide ((s.size : Int) < (p : Int) + (k : Int) + (H : Int)) = false := decide_eq_false (by omega);have w3' : IntKind.i64.wrap ((k : Int) + (H : Int)) = (k : Int) + (H : Int) := IntWalk.i64_in _ (by omega);have w4' : IntKind.i64.wrap ((p : Int) + ((k : Int) + (H : Int))) = ((p + k + H : Nat) : Int) := by
        rw [show (p : Int) + ((k : Int) + (H : Int)) = ((p + k + H : Nat) : Int) by omega]; exact IntWalk.i64_in _ (by omega)
       have t1 : (p : Int) + (k : Int) ≤ (p : Int) + (k : Int) + (H : Int) := by omega
       have t2 : (p : Int) + (k : Int) + (H : Int) ≤ (s.size : Int) := by omega
       have t3 : ((p : Int) + (k : Int) + (H : Int)).toNat = p + k + H := by omega
       have hTs : (s.extract (p + k) (p + k + H)).size ≤ 1000000 := by rw [ByteArray.size_extract]; omega
       have hp' : p + k + H ≤ s.size := by omega
       have hap' : acc.length + 1 ≤ p + k + H := by omega
       have hsp' : st.length + 1 ≤ p + k + H := by omega
       have hmeas : s.size - (p + k + H) < s.size - p := by omega
       have hi0 := hi;have lB0' := lB0;clear h2 h0 hH h3;obtain ⟨T, hT'⟩ : ∃ T, T = s.extract (p + k) (p + k + H) := ⟨_, rfl⟩;rw [← hT'] at HN hTs;have t4 : s.extract (p + k) (p + k + H) = T := hT'.symm;clear hT';go_wp2;refine Flow.zdh (by kernel_rfl) (by kernel_rfl) (by kernel_rfl) 139 rfl (by kernel_rfl) (kiV w.heap.size v s T p k n H) (fun g L wz => KI w.heap.size B0 w2 w.heap.size F v v1 acc (st ++ [(p : Int)]) T g (L 0) (L 14) (L 15) (L 16) wz) (0, v) ⟨((Below.refl w2.heap.size w2).mono (Nat.le_trans lB0 hB2)).drew, hB2, fun _ => hT2, fun _ h => (by cases h), fun h => (by cases h), hS2, fun _ => hR2.drew, fun h => (by cases h), fun h => (by cases h), fun h => (by cases h), fun h => (by cases h)⟩ ⟨?_, ?_, ?_, ?_, ?_, ?_, ?_, ?_, ?_, ?_, ?_, ?_, ?_, ?_, ?_, ?_, ?_, trivial⟩ ?_
       ·intro g L wz K ρ hc0 hf0 hF hO hi hd hC hK;have e2 : ρ (.tmp 2) = .pointer (some ⟨w.heap.size, 0, none⟩) := hO 2 (by kernel_rfl);have h15 : L 15 = false := by cases h : L 15 with | false => rfl | true => (have := hC.o0 h; rw [hi] at this; cases this)
        have h16 : L 16 = false := by cases h : L 16 with | false => rfl | true => (have := hC.o16 h; rw [h15] at this; cases this)
        have cc := (hC.res h16).o;simp [go_sem, hc0, hf0, e2, cc];exact hK g wz ⟨hC.bel, hC.sz, hC.pre, hC.tmp, hC.post, hC.sts, hC.res, hC.res', fun _ => rfl, hC.o14, hC.o16⟩ (fun _ _ => rfl)
       ·intro g L wz K ρ hc0 hf0 hF hO hi hd hC hK;have e0 : ρ (.tmp 0) = .string s := hO 0 (by kernel_rfl);simp [go_sem, hc0, hf0, e0];exact hK g wz hC (fun _ _ => rfl)
       ·intro g L wz K ρ hc0 hf0 hF hO hi hd hC hK;have e5 : ρ (.tmp 5) = .int .i64 (p : Int) := hO 5 (by kernel_rfl);simp [go_sem, hc0, hf0, e5];exact hK g wz hC (fun _ _ => rfl)
       ·intro g L wz K ρ hc0 hf0 hF hO hi hd hC hK;have e7 : ρ (.tmp 7) = .int .i64 (k : Int) := hO 7 (by kernel_rfl);simp [go_sem, hc0, hf0, e7];exact hK g wz hC (fun _ _ => rfl)
       ·intro g L wz K ρ hc0 hf0 hF hO hi hd hC hK;have d2 : L 2 = true := hd ⟨2, .data⟩ (by simp) rfl;have e65 : ρ (.tmp 65) = .int .i64 (p : Int) := hF 65 2 (by kernel_rfl) d2;have d3 : L 3 = true := hd ⟨3, .data⟩ (by simp) rfl;have e66 : ρ (.tmp 66) = .int .i64 (k : Int) := hF 66 3 (by kernel_rfl) d3;simp [go_sem, hc0, hf0, e65, e66, w1];exact hK g wz hC (fun _ _ => rfl)
       ·intro g L wz K ρ hc0 hf0 hF hO hi hd hC hK;have e5 : ρ (.tmp 5) = .int .i64 (p : Int) := hO 5 (by kernel_rfl);simp [go_sem, hc0, hf0, e5];exact hK g wz hC (fun _ _ => rfl)
       ·intro g L wz K ρ hc0 hf0 hF hO hi hd hC hK;have e7 : ρ (.tmp 7) = .int .i64 (k : Int) := hO 7 (by kernel_rfl);simp [go_sem, hc0, hf0, e7];exact hK g wz hC (fun _ _ => rfl)
       ·intro g L wz K ρ hc0 hf0 hF hO hi hd hC hK;have d5 : L 5 = true := hd ⟨5, .data⟩ (by simp) rfl;have e68 : ρ (.tmp 68) = .int .i64 (p : Int) := hF 68 5 (by kernel_rfl) d5;have d6 : L 6 = true := hd ⟨6, .data⟩ (by simp) rfl;have e69 : ρ (.tmp 69) = .int .i64 (k : Int) := hF 69 6 (by kernel_rfl) d6;simp [go_sem, hc0, hf0, e68, e69, w1];exact hK g wz hC (fun _ _ => rfl)
       ·intro g L wz K ρ hc0 hf0 hF hO hi hd hC hK;have e6 : ρ (.tmp 6) = .int .u64 (n : Int) := hO 6 (by kernel_rfl);simp [go_sem, hc0, hf0, e6];exact hK g wz hC (fun _ _ => rfl)
       ·intro g L wz K ρ hc0 hf0 hF hO hi hd hC hK;have d8 : L 8 = true := hd ⟨8, .data⟩ (by simp) rfl;have e71 : ρ (.tmp 71) = .int .u64 (n : Int) := hF 71 8 (by kernel_rfl) d8;simp [go_sem, hc0, hf0, e71, hq, hq', wU];exact hK g wz hC (fun _ _ => rfl)
       ·intro g L wz K ρ hc0 hf0 hF hO hi hd hC hK;have d9 : L 9 = true := hd ⟨9, .data⟩ (by simp) rfl;have e72 : ρ (.tmp 72) = .int .u64 (H : Int) := hF 72 9 (by kernel_rfl) d9;simp [go_sem, hc0, hf0, e72, wH];exact hK g wz hC (fun _ _ => rfl)
       ·intro g L wz K ρ hc0 hf0 hF hO hi hd hC hK;have d7 : L 7 = true := hd ⟨7, .data⟩ (by simp) rfl;have e70 : ρ (.tmp 70) = .int .i64 ((p : Int) + (k : Int)) := hF 70 7 (by kernel_rfl) d7;have d10 : L 10 = true := hd ⟨10, .data⟩ (by simp) rfl;have e73 : ρ (.tmp 73) = .int .i64 (H : Int) := hF 73 10 (by kernel_rfl) d10;simp [go_sem, hc0, hf0, e70, e73, w2'];exact hK g wz hC (fun _ _ => rfl)
       ·intro g L wz K ρ hc0 hf0 hF hO hi hd hC hK;have d1 : L 1 = true := hd ⟨1, .data⟩ (by simp) rfl;have e64 : ρ (.tmp 64) = .string s := hF 64 1 (by kernel_rfl) d1;have d4 : L 4 = true := hd ⟨4, .data⟩ (by simp) rfl;have e67 : ρ (.tmp 67) = .int .i64 ((p : Int) + (k : Int)) := hF 67 4 (by kernel_rfl) d4;have d11 : L 11 = true := hd ⟨11, .data⟩ (by simp) rfl;have e74 : ρ (.tmp 74) = .int .i64 ((p : Int) + (k : Int) + (H : Int)) := hF 74 11 (by kernel_rfl) d11;simp [go_sem, hc0, hf0, e64, e67, e74, r1, r2, r3, t1, t2, t3, t4];exact hK g wz hC (fun _ _ => rfl)
       ·intro g L wz K ρ hc0 hf0 hF hO hi hd hC hK;have d12 : L 12 = true := hd ⟨12, .data⟩ (by simp) rfl;have e75 : ρ (.tmp 75) = .string T := hF 75 12 (by kernel_rfl) d12;simp [go_sem, hc0, hf0, e75];exact hK g wz hC (fun _ _ => rfl)
       ·intro g L wz K ρ hc0 hf0 hF hO hi hd hC hK;have d13 : L 13 = true := hd ⟨13, .data⟩ (by simp) rfl;have e76 : ρ (.tmp 76) = .agg #[.string T, .int .i64 0, .int .i64 0] := hF 76 13 (by kernel_rfl) d13;simp [go_sem, hc0, hf0, e76];have h15 : L 15 = false := by cases h : L 15 with | false => rfl | true => (have := hC.o14 h; rw [hi] at this; cases this)
        have h16 : L 16 = false := by cases h : L 16 with | false => rfl | true => (have := hC.o16 h; rw [h15] at this; cases this)
        have ba := zaa wz (.cells #[.string T, .int .i64 0, .int .i64 0] 174);refine hK (wz.heap.size, g.2) _ ⟨hC.bel.alloc (Nat.le_trans lB0' hC.sz) _, Nat.le_trans hC.sz ba.size, fun h => (hC.pre h).alloc _, fun _ _ => zdl _ _ _, fun h => (by have h' : L 15 = true := h; rw [h15] at h'; cases h'), hC.sts.alloc _, fun h => (hC.res h).below ba, fun h => (by have h' : L 16 = true := h; rw [h16] at h'; cases h'), hC.o0, fun _ => rfl, hC.o16⟩ ?_;intro j hj; unfold kiV; split <;> first | rfl | (rw [hi] at hj; cases hj)
       ·intro g L wz K ρ hc0 hf0 hF hO hi hd hC hK;have d0 : L 0 = true := hd ⟨0, .data⟩ (by simp) rfl;have e63 : ρ (.tmp 63) = v := hF 63 0 (by kernel_rfl) d0;have d14 : L 14 = true := hd ⟨14, .data⟩ (by simp) rfl;have e77 : ρ (.tmp 77) = .slice (some ⟨g.1, 0, none⟩) 1 1 := hF 77 14 (by kernel_rfl) d14;have h16 : L 16 = false := by cases h : L 16 with | false => rfl | true => (have := hC.o16 h; rw [hi] at this; cases this)
        have hpre := hC.pre hi;obtain ⟨v', wn, hrun, ho, hg, _⟩ := run_append_own (P := Tryz.prog) wz B0 130 130 174 i0 (.agg #[.string ⟨#[]⟩, .int .i64 0, .int .i64 0]) 3 32 Tryz.underlying130 hi0 hz0 hz1 hz2 rfl (by decide) v acc.length (tokV acc) hpre ⟨g.1, 0, none⟩ 1 1 [.string T, .int .i64 0, .int .i64 0] rfl (hC.tmp hi d14) (by intro u hu; simp at hu; rcases hu with rfl | rfl <;> rfl) (by unfold maxLen; omega) (by omega) hC.sz;have ho' := zjx (x := (T, 0, 0)) rfl ho;have bb := zaj (Below.refl B0 wz) hg hC.sz hpre;have hS' := hC.sts.kept hg (own_ne hC.sts hpre (by decide));obtain ⟨uA, uc, hu⟩ := zah hpre;rw [hu] at e63 hrun;unfold execOp;simp only [resolve, invoke, builtin, Sem.run_bind, Sem.run_pure, Result.andThen_ok, List.map_toArray, List.map_cons, List.map_nil, e63, e77, hrun];refine hK (g.1, v') wn ⟨hC.bel.trans (bb.mono lB0'), Nat.le_trans hC.sz bb.size, fun h => (by cases h), fun h => (by cases h), fun _ => ho', hS', fun h => (hC.res h).keep bb qO qF, fun h => (by have h' : L 16 = true := h; rw [h16] at h'; cases h'), fun _ => d0, fun _ => d14, fun _ => rfl⟩ ?_;intro j hj; unfold kiV; split <;> first | rfl | (rw [hi] at hj; cases hj)
       ·intro g L wz K ρ hc0 hf0 hF hO hi hd hC hK;have e2 : ρ (.tmp 2) = .pointer (some ⟨w.heap.size, 0, none⟩) := hO 2 (by kernel_rfl);have d15 : L 15 = true := hd ⟨15, .data⟩ (by simp) rfl;have e78 : ρ (.tmp 78) = g.2 := hF 78 15 (by kernel_rfl) d15;have hres := hC.res hi;have cc := hres.o;have ff := hres.fo;obtain ⟨uA, uc, hu⟩ := zah (hC.post d15);have hu9 : g.2 = .slice uA (acc.length + 1) uc := by rw [hu]; simp
        rw [hu9] at e78;simp [go_sem, hc0, hf0, e2, e78, cc, ff];rw [← hu9];refine hK g _ ⟨hC.bel.setCell (p := ⟨w.heap.size, 0, none⟩) (Nat.le_refl _) _, by simpa using hC.sz, fun h => (by have h' : L 15 = false := h; rw [d15] at h'; cases h'), fun h => (by have h' : L 15 = false := h; rw [d15] at h'; cases h'), fun _ => zab _ (hC.post d15) qO, zab _ hC.sts qO, fun h => (by cases h), fun _ => hres.setO n2 _, hC.o0, hC.o14, fun _ => d15⟩ (fun _ _ => rfl)
       ·intro g L wz hL hC;have hT5 := hC.post (hL 15 (by decide));have hR5 := hC.res' (hL 16 (by decide));have hS5 := hC.sts;have b5 := b2.trans hC.bel;have hB5 := hC.sz;simp only [Flow.zbs, kiV];go_wp2;go_roundw
        case rel => exact ⟨p + k + H, acc ++ [(T, 0, 0)], st ++ [(p : Int)], g.2, by go_num, hp', HN, ⟨Lib.hid (by rw [List.length_append, List.length_append, hlen.out]; rfl), by rw [List.length_append]; exact hsp'⟩, by rw [List.length_append]; exact hap', Lib.hid (HF.out.own hTs), hT5, hS5, hR5, b5, hB5⟩
        case measure => simp [intOf]; omega
    ·have hrem : (n : Int) % 2 = 1 := by omega
     have hrem' : (n : Int).tmod 2 = 1 := by rw [Int.tmod_eq_emod_of_nonneg (by omega)]; exact hrem
     have wq : IntKind.u64.wrap ((H : Int) + 4) = (H : Int) + 4 := by rw [IntKind.wrap_u64]; omega
     by_cases h3 : 63 < H
     ·have HV := Lib.hid (zds HX.out (HL.out.range hlt HA.out h2 (by omega)) (by omega));have d1 : decide ((67 : Int) < (H : Int) + 4) = true := decide_eq_true (by omega);clear h2 hH h3;go_wp2_with fail;refine (zbc 2 (p : Int) _).mono ?_;rintro r w9 ⟨rfl, rfl⟩;go_wp2;exact zfa HV.out (by omega) hR2 n2 (Nat.le_refl _) l3 b2 rfl rfl
     ·have d1 : decide ((67 : Int) < (H : Int) + 4) = false := decide_eq_false (by omega);obtain ⟨m, j, e, hb, hx⟩ := zdz s (p + k) 1023;have hl2 : (s.extract (p + k) s.size).size ≤ maxLen := by rw [ByteArray.size_extract]; unfold maxLen; omega
      have hv2 := Lib.hid (show vint (s.extract (p + k) s.size).data.toList 1023 = (m, j, e) from hb);have H2 := Lib.hid h2;have H3 := Lib.hid (show ¬ 63 < n / 2 by omega);have hH63' : H ≤ 63 := by omega
      have HH := Lib.hid hH;have HB := Lib.hid hb;clear h2 hH h3 hb;go_wp2_with fail;refine (zjt (s.extract (p + k) s.size) 1023 _ hl2 (by omega)).mono ?_;rintro r w' ⟨rfl, rfl⟩;rw [hv2.out];simp only;rcases hx with ⟨rfl, y1, y2, y3, y4⟩ | ⟨he, rfl, rfl⟩
      ·have HN := Lib.hid (HL.out.rep hlt HA.out x2 H2.out H3.out HB.out);rw [← HH.out] at HN;have w2' : IntKind.i64.wrap ((m : Int) + 1) = (m : Int) + 1 := IntWalk.i64_in _ (by omega);have w3' : IntKind.i64.wrap ((H : Int) + 4) = (H : Int) + 4 := IntWalk.i64_in _ (by omega);have w5' : IntKind.i64.wrap ((k : Int) + (j : Int)) = (k : Int) + (j : Int) := IntWalk.i64_in _ (by omega);have w4' : IntKind.i64.wrap ((p : Int) + ((k : Int) + (j : Int))) = ((p + k + j : Nat) : Int) := by
        rw [show (p : Int) + ((k : Int) + (j : Int)) = ((p + k + j : Nat) : Int) by omega]; exact IntWalk.i64_in _ (by omega)
       have hap' : acc.length + 1 ≤ p + k + j := by omega
       have hsp' : st.length + 1 ≤ p + k + j := by omega
       have hmeas : s.size - (p + k + j) < s.size - p := by omega
       have HR2 := hR2;obtain ⟨r0, r1, r4, r5, r6, r7⟩ := hR2;go_wp2_with (first
        | (at_builtin; refine wpList_append_own _ rfl (.tmp 109) (.tmp 117) 130 rfl B0 174 i0 (.agg #[.string ⟨#[]⟩, .int .i64 0, .int .i64 0]) 3 32 Tryz.underlying130 hi hz0 hz1 hz2 rfl (by decide) v acc.length (tokV acc) rfl (hT2.alloc _) ⟨w2.heap.size, 0, none⟩ 1 1 [.string ⟨#[]⟩, .int .i64 ((m : Int) + 1), .int .i64 ((H : Int) + 4)] rfl rfl (zdl _ _ _) (by intro u hu; simp at hu; rcases hu with rfl | rfl | rfl <;> rfl) (by unfold maxLen; omega) (by omega) (by simp; omega) ?_; intro v4 w4 hT4 hg4 _; have bb := zaj (Below.refl B0 _) hg4 (by simp; omega) (hT2.alloc _); have hT5 := zjx (x := (⟨#[]⟩, (m : Int) + 1, (H : Int) + 4)) rfl hT4; have hS4 := (hS2.alloc _).kept hg4 (own_ne hS2 hT2 (by decide)); obtain ⟨uA, uc, hu⟩ := zah hT5; have hu9 : v4 = .slice uA (acc.length + 1) uc := (by rw [hu]; simp); clear hu; subst hu9; have ba := zaa w2 (.cells #[.string ⟨#[]⟩, .int .i64 ((m : Int) + 1), .int .i64 ((H : Int) + 4)] 174); have hR4 := (HR2.below ba).keep bb qO qF; have g0 := hR4.o; have g1 := hR4.fo))
       have b4 := (b2.alloc b2.size (.cells #[.string ⟨#[]⟩, .int .i64 ((m : Int) + 1), .int .i64 ((H : Int) + 4)] 174)).trans (bb.mono lB0);have hB4 := Nat.le_trans (Nat.le_trans hB2 ba.size) bb.size;go_roundw
       case rel => exact ⟨p + k + j, acc ++ [(⟨#[]⟩, (m : Int) + 1, (H : Int) + 4)], st ++ [(p : Int)], _, by go_num, y4, HN, ⟨Lib.hid (by rw [List.length_append, List.length_append, hlen.out]; rfl), by rw [List.length_append]; exact hsp'⟩, by rw [List.length_append]; exact hap', Lib.hid (HF.out.rep y1 hH63'), zab _ hT5 qO, zab _ hS4 qO, hR4.setO n2 _, b4.setCell (p := ⟨w.heap.size, 0, none⟩) (Nat.le_refl _) _, by simpa using hB4⟩
       case measure => simp [intOf]; omega
      ·have HV := Lib.hid (zds HX.out (HL.out.back hlt HA.out H2.out H3.out HB.out he) he);have HE := Lib.hid he;have hne : (e != 0) = true := by rw [bne_iff_ne]; exact he
       have pk : ((p + k : Nat) : Int) = (p : Int) + (k : Int) := by omega
       rw [pk] at HV;clear he pk;go_wp2_with fail;refine (zbc e ((p : Int) + (k : Int)) _).mono ?_;rintro r w9 ⟨rfl, rfl⟩;go_wp2;exact zfa HV.out HE.out hR2 n2 (Nat.le_refl _) l3 b2 rfl rfl
   ·have HV := Lib.hid (zds HX.out (HL.out.num hlt HA.out he) he);have HE := Lib.hid he;have hne : (e != 0) = true := by rw [bne_iff_ne]; exact he
    clear he;go_wp2_with fail;refine (zbc e (p : Int) _).mono ?_;rintro r w9 ⟨rfl, rfl⟩;go_wp2;exact zfa HV.out HE.out hR2 n2 (Nat.le_refl _) l3 b2 rfl rfl
  ·have hE := Lib.hid (HL.out.done (by omega));have d0 : decide ((p : Int) < (s.size : Int)) = false := decide_eq_false (by omega);have d0' : decide (p < s.size) = false := decide_eq_false (by omega);have hlenm : acc.length ≤ maxLen := by unfold maxLen; omega
   obtain ⟨A9, c9, rfl⟩ := zah hT;have hTk : Toks wr wr.heap.size A9 acc.length acc := ⟨Sl.zbf hT, HF.out⟩;have HRr := hRr;obtain ⟨r0, r1, r4, r5, r6, r7⟩ := hRr;go_wp2_with fail;refine (zfp wr acc.length c9 A9 acc hTk hlenm).mono ?_;rintro r w1 ⟨rfl, hb1⟩;unfold zba;go_wp2_with fail;have hk1 := zaa w1 (.cells #[.int .i64 (zaz acc).1, .int .i64 (zaz acc).2] 29);have T1 := Two.new w1 (zaz acc).1 (zaz acc).2 29;refine (zcd (zaz acc) _).mono ?_;rintro r w2 ⟨rfl, hb2⟩;obtain ⟨g0, g1, _, _⟩ := T1.below hb2;have bb := (hb1.trans (hk1.mono hb1.size)).trans (hb2.mono (hb1.trans (hk1.mono hb1.size)).size);have bw := hbel.trans (bb.mono hbel.size);have hT1 := zgb hT bb;have hS1 := zgb hS bb;have hR1 := HRr.below bb;clear r0 r1 r4 r5 r6 r7 hT hS hbel hTk HL hk1 T1 hb1 hb2 HRr;by_cases h1 : (zaz acc).1 = 0
   ·have HV := Lib.hid (zpq HX.out hE.out h1);have e1 : ((zaz acc).1 == 0) = true := by simpa using h1
    rw [e1];clear e1 g0 g1 h1;have HR1 := hR1;have hZ := (hR1.setO n2 (.slice A9 acc.length c9)).setF (Ne.symm n2) 0 (-1);have hO := zab (.int .i64 (-1)) (j := 1) (zab (.int .i64 0) (j := 0) (zab (.slice A9 acc.length c9) (j := 0) hT1 qO) qF) qF;have bZ := ((bw.setCell (p := ⟨w.heap.size, 0, none⟩) (Nat.le_refl _) (.slice A9 acc.length c9)).setCell (p := ⟨F, 0, none⟩) l3 (.int .i64 0)).setCell (p := ⟨F, 1, none⟩) l3 (.int .i64 (-1));obtain ⟨r0, r1, r4, r5, r6, r7⟩ := hR1;go_wp2;go_region;go_wp2;generalize ((w2.setCell ⟨w.heap.size, 0, none⟩ (.slice A9 acc.length c9)).setCell ⟨F, 0, none⟩ (.int .i64 0)).setCell ⟨F, 1, none⟩ (.int .i64 (-1)) = W5 at *;refine leaves_cons (f := 51) (args := #[.pointer (some ⟨F, 0, none⟩)]) (by simp) (by simp [go_sem]) ?_;refine (zgj F _).mono ?_;rintro e u' w' ⟨rfl, rfl, rfl⟩;show Leaves _ _ _ _ _ .returning _;refine leaves_cons (f := 140) (args := #[.pointer (some ⟨F, 0, none⟩), .pointer (some ⟨w.heap.size, 0, none⟩)]) (by simp) (by simp [go_sem]) ?_;refine (ycs F w.heap.size (-1) W5.drew hZ.x hZ.y).mono ?_;rintro e u' w' ⟨rfl, rfl, hb⟩;have hZ' := hZ.drew.below hb;have hO' := zgb (w := W5.drew) hO hb;have bF := bZ.drew.trans (hb.mono bZ.size);obtain ⟨z0, _, z4, z5, _, _⟩ := hZ';show Leaves _ _ _ _ [] .returning _;refine ⟨.tuple #[.slice A9 acc.length c9, .agg #[.int .i64 0, .int .i64 (-1)]], by simp [results, Tryz.results111, go_sem, z0, z4, z5], .slice A9 acc.length c9, by rw [HV.out]; rfl, by rw [HV.out]; exact zei hO' lB0, bF⟩
   ·obtain ⟨kk, hk1, hk2⟩ := zof h1;have HV := Lib.hid (zmh HX.out hE.out h1);have e1 : ((zaz acc).1 == 0) = false := by simpa using h1
    rw [e1];clear e1;generalize zaz acc = f at *;obtain ⟨e, pl⟩ := f;simp only at *;subst hk1;rw [Int.toNat_natCast] at HV;have hkn : kk < st.length := by rw [← hlen.out]; exact hk2
    obtain ⟨g2, c2, rfl, _, hgl⟩ := zjm hS1 (by omega);obtain ⟨Q, hQ⟩ : ∃ Q, Q = st.getD kk 0 := ⟨_, rfl⟩;rw [← hQ] at HV;have sc : w2.cell? ⟨g2, kk, none⟩ = some (.int .i64 Q) := by
     rw [hS1.cellAt kk (by rw [Nat.mul_one]; exact hkn), List.getElem?_map, List.getElem?_eq_getElem hkn, hQ];simp [List.getD, List.getElem?_eq_getElem hkn]
    have k0 : (0 : Int) ≤ (kk : Int) := by omega
    have k1 : (kk : Int) < (st.length : Int) := by omega
    have HE := Lib.hid h1;clear hQ h1;go_wp2;refine Flow.zhm (by kernel_rfl) (by kernel_rfl) (by kernel_rfl) 139 rfl (by kernel_rfl) (rtV w1.heap.size e Q g2 st.length c2 kk) (fun _ L wz => wz = w2.drew ∧ L 7 = false) (fun ch wz => ch = zgw e Q ∧ wz = w2.drew) () ⟨rfl, rfl⟩ ⟨?_, ?_, ?_, ?_, ?_, ?_, ?_, ?_, trivial⟩ ?_ ?_
    ·rintro g L wz K ρ hc0 hf0 hF hO hi hd ⟨rfl, h7⟩ hK;have e11 : ρ (.tmp 11) = .pointer (some ⟨w1.heap.size, 0, none⟩) := hO 11 (by kernel_rfl);simp [go_sem, hc0, hf0, e11];exact hK () _ ⟨rfl, h7⟩ (fun _ _ => rfl)
    ·rintro g L wz K ρ hc0 hf0 hF hO hi hd ⟨rfl, h7⟩ hK;have d0 : L 0 = true := hd ⟨0, .data⟩ (by simp) rfl;have e129 : ρ (.tmp 129) = .pointer (some ⟨w1.heap.size, 0, none⟩) := hF 129 0 (by kernel_rfl) d0;simp [go_sem, hc0, hf0, e129, g0];exact hK () _ ⟨rfl, h7⟩ (fun _ _ => rfl)
    ·rintro g L wz K ρ hc0 hf0 hF hO hi hd ⟨rfl, h7⟩ hK;have e4 : ρ (.tmp 4) = .slice (some ⟨g2, 0, none⟩) st.length c2 := hO 4 (by kernel_rfl);simp [go_sem, hc0, hf0, e4];exact hK () _ ⟨rfl, h7⟩ (fun _ _ => rfl)
    ·rintro g L wz K ρ hc0 hf0 hF hO hi hd ⟨rfl, h7⟩ hK;have e11 : ρ (.tmp 11) = .pointer (some ⟨w1.heap.size, 0, none⟩) := hO 11 (by kernel_rfl);simp [go_sem, hc0, hf0, e11];exact hK () _ ⟨rfl, h7⟩ (fun _ _ => rfl)
    ·rintro g L wz K ρ hc0 hf0 hF hO hi hd ⟨rfl, h7⟩ hK;have d3 : L 3 = true := hd ⟨3, .data⟩ (by simp) rfl;have e132 : ρ (.tmp 132) = .pointer (some ⟨w1.heap.size, 1, none⟩) := hF 132 3 (by kernel_rfl) d3;simp [go_sem, hc0, hf0, e132, g1];exact hK () _ ⟨rfl, h7⟩ (fun _ _ => rfl)
    ·rintro g L wz K ρ hc0 hf0 hF hO hi hd ⟨rfl, h7⟩ hK;have d2 : L 2 = true := hd ⟨2, .data⟩ (by simp) rfl;have e131 : ρ (.tmp 131) = .slice (some ⟨g2, 0, none⟩) st.length c2 := hF 131 2 (by kernel_rfl) d2;have d4 : L 4 = true := hd ⟨4, .data⟩ (by simp) rfl;have e133 : ρ (.tmp 133) = .int .i64 (kk : Int) := hF 133 4 (by kernel_rfl) d4;simp [go_sem, hc0, hf0, e131, e133, k0, k1, hkn];exact hK () _ ⟨rfl, h7⟩ (fun _ _ => rfl)
    ·rintro g L wz K ρ hc0 hf0 hF hO hi hd ⟨rfl, h7⟩ hK;have d5 : L 5 = true := hd ⟨5, .data⟩ (by simp) rfl;have e134 : ρ (.tmp 134) = .pointer (some ⟨g2, kk, none⟩) := hF 134 5 (by kernel_rfl) d5;simp [go_sem, hc0, hf0, e134, sc];exact hK () _ ⟨rfl, h7⟩ (fun _ _ => rfl)
    ·rintro g L wz K ρ hc0 hf0 hF hO hi hd ⟨rfl, h7⟩ hK;have d1 : L 1 = true := hd ⟨1, .data⟩ (by simp) rfl;have e130 : ρ (.tmp 130) = .int .i64 e := hF 130 1 (by kernel_rfl) d1;have d6 : L 6 = true := hd ⟨6, .data⟩ (by simp) rfl;have e135 : ρ (.tmp 135) = .int .i64 Q := hF 135 6 (by kernel_rfl) d6;simp [go_sem, hc0, hf0, e130, e135];refine (zbc e Q _).mono ?_;rintro r w9 ⟨rfl, rfl⟩;exact .inr ⟨_, rfl, rfl, rfl⟩
    ·rintro g L ch wz ⟨rfl, rfl⟩;refine zfa HV.out HE.out hR1.drew n2 (Nat.le_refl _) l3 bw.drew ?_ ?_
     ·rw [Flow.zbn]; rfl
     ·rw [Flow.zbn]; rfl
    ·intro g L wz hL hC;have := hL 7 (by decide);rw [hC.2] at this;cases this
end Go.Proofs.YtkejlnjnoiidnaaGreatDoor
end

section
namespace Go.Proofs.YtkejlnjnoiidnaaGreatDoor
open Go.RowKit As Tokens
theorem ygi {s : ByteArray} (hs : s.size ≤ 1000000) : ∀ (f p : Nat) (acc : List Tok) (st : List Int), zfl acc → zfl (lgo s f p acc st).1 := by
 intro f;induction f with
 | zero => intro p acc st h; exact h
 | succ f ih =>
  intro p acc st h;unfold lgo;split
  ·exact h
  ·split
   ·exact zfl.nil
   ·split
    ·split
     ·exact zfl.nil
     ·split
      ·exact zfl.nil
      ·exact ih _ _ _ (h.own (by simp only [ByteArray.size_extract]; omega))
    ·split
     ·exact zfl.nil
     ·split
      ·exact zfl.nil
      ·rename_i h63 he;obtain ⟨n, k, e, ha, hx⟩ := zdz s (p + (uat s p).2.1) 1023;rw [ha] at he ⊢;rcases hx with ⟨_, hm, _⟩ | ⟨h1, _, _⟩
       ·exact ih _ _ _ (h.rep hm (by omega))
       ·exact absurd h1 he
theorem ylc {s : ByteArray} : ∀ (f p : Nat) (acc : List Tok) (st : List Int), (lgo s f p acc st).1.length ≤ acc.length + f := by
 intro f;induction f with
 | zero => intro p acc st; exact Nat.le_refl _
 | succ f ih =>
  intro p acc st;have z : ([] : List Tok).length ≤ acc.length + (f + 1) := Nat.zero_le _;unfold lgo;split
  ·exact Nat.le_add_right _ _
  ·split
   ·exact z
   ·split
    ·split
     ·exact z
     ·split
      ·exact z
      ·refine Nat.le_trans (ih _ _ _) ?_;simp only [List.length_append, List.length_cons, List.length_nil]; omega
    ·split
     ·exact z
     ·split
      ·exact z
      ·refine Nat.le_trans (ih _ _ _) ?_;simp only [List.length_append, List.length_cons, List.length_nil]; omega
theorem zzh {s : ByteArray} (hs : s.size ≤ 1000000) : zfl (zcu s).1 := by
 unfold zcu;split
 ·exact zfl.nil
 ·split
  ·exact zfl.nil
  ·exact ygi hs _ _ _ _ zfl.nil
theorem zsj (s : ByteArray) : (zcu s).1.length ≤ s.size + 1 := by
 unfold zcu;split
 ·exact Nat.zero_le _
 ·split
  ·exact Nat.zero_le _
  ·exact Nat.le_trans (ylc _ _ _ _) (by simp)
theorem zoz {w : World} {base : Nat} {E : TypeId} {A : Option Addr} {n c : Nat} {s : ByteArray} (hs : s.size ≤ 1000000) (h : w.ownsRow base E 3 (.slice A n c) n (tokV (zcu s).1)) : Toks w w.heap.size A n (zcu s).1 := ⟨Sl.zbf h, zzh hs⟩
theorem yfs {w : World} {v : Value} {e p : Int} (h : zbo w v e p) (h0 : e = 0) : v = .nilIface := by
 subst h0;exact (zbo.zero h).1
theorem ybs {w : World} {v : Value} {e p : Int} (h : zbo w v e p) (h0 : e ≠ 0) : ∃ t u, v = .iface t u := by
 cases h with
 | none => exact absurd rfl h0
 | bare _ _ => exact ⟨_, _, rfl⟩
 | at_ _ _ _ _ _ _ _ => exact ⟨_, _, rfl⟩
theorem zol {s : ByteArray} (h : (zcu s).2.1 ≠ 0) : zex s = (⟨#[]⟩, (zcu s).2) := by unfold zex; rw [if_pos h]
theorem znr {s : ByteArray} (h : (zcu s).2.1 = 0) : zex s = textOf (zcu s).1 := by unfold zex; rw [if_neg (by omega)]
set_option maxHeartbeats 1000000 in
set_option maxRecDepth 100000 in
theorem ydc (s : ByteArray) (w : World) (hs : s.size ≤ 1000000) (hg : zbh w) :
  Calls Tryz.prog 67 #[.string s] w fun e w' => ∃ v, e = .returned (.tuple #[.string (zex s).1, v]) ∧ zck w' v (zex s).2 ∧ Below w.heap.size w w' := by
 have HL := zsj s;go_enter Tryz.func67, Tryz.ntmps67;go_wp2_with fail;refine (zzb s w hs hg).mono ?_;rintro e w1 ⟨v1, x, rfl, hT, hx, hb1⟩;obtain ⟨A, c, rfl⟩ := zah hT;have hK := zoz hs hT;by_cases hbad : (zcu s).2.1 ≠ 0
 ·have hR := Lib.hid (zol hbad);obtain ⟨t, u, rfl⟩ := ybs hx hbad;clear hbad;go_wp2;go_ret2;rw [hR.out];exact ⟨_, rfl, hx, hb1⟩
 ·have h0 : (zcu s).2.1 = 0 := by omega
  have hR := Lib.hid (znr h0);obtain rfl := yfs hx h0;clear hbad h0;go_wp2_with fail;refine (yhw w1 _ c A _ hK (by unfold maxLen; omega)).mono ?_;rintro e w2 ⟨v, rfl, hv, hb2⟩;go_wp2;go_ret2;rw [hR.out];exact ⟨_, rfl, hv, hb1.trans (hb2.mono hb1.size)⟩
set_option maxHeartbeats 1000000 in
set_option maxRecDepth 100000 in
theorem zzi (s : ByteArray) (w : World) (hs : s.size ≤ 1000000) :
  Calls Tryz.prog 65 #[.string s] w fun e w' => e = .returned (.tuple #[.string (zex s).1, zba (zex s).2]) ∧ Below w.heap.size w w' := by
 have HL := zsj s;go_enter Tryz.func65, Tryz.ntmps65;go_wp2_with fail;refine (zwf s _ hs).mono ?_;rintro e w1 ⟨v1, rfl, hT, hb1⟩;obtain ⟨A, c, rfl⟩ := zah hT;have hK := zoz hs hT;have hz := hb1.size;simp only [World.size_alloc] at hz;have bX := zaa w1 (.cells #[.int .i64 (zcu s).2.1, .int .i64 (zcu s).2.2] 29);have T0 := ((Two.new w 0 0 29).below hb1).below bX;have T1 := Two.new w1 (zcu s).2.1 (zcu s).2.2 29;have hM : Below w.heap.size w (w1.alloc (.cells #[.int .i64 (zcu s).2.1, .int .i64 (zcu s).2.2] 29)) := ((zaa w _).trans (hb1.mono (by simp))).trans (bX.mono (by omega));have hK1 := hK.grow bX;unfold zba;by_cases hbad : (zcu s).2.1 ≠ 0
 ·have hR := Lib.hid (zol hbad);have hne : ((zcu s).2.1 == 0) = false := beq_eq_false_iff_ne.2 hbad;clear hbad;generalize zcu s = y at *;obtain ⟨L, e1, p1⟩ := y;simp only at *;go_wp2_with fail;refine (zcd (e1, p1) _).mono ?_;rintro r w2 ⟨rfl, hb2⟩;have bb : Below w.heap.size w w2 := hM.trans (hb2.mono hM.size);obtain ⟨c0, c1, f0, f1⟩ := T0.below hb2;obtain ⟨d0, d1, g0, g1⟩ := T1.below hb2;simp only [hne];go_wp2_with fail;go_region;have S := set2 (.int .i64 e1) (.int .i64 p1) c0 c1;go_wp2;exact bodyPost_ret (v := .tuple #[.string ⟨#[]⟩, .agg #[.int .i64 e1, .int .i64 p1]]) (by simp [results, Tryz.results65, go_sem, S.1, S.2]) rfl ⟨by rw [hR.out]; rfl, (zai _ _ bb (Nat.le_refl _)).drew⟩
 ·have h0 : (zcu s).2.1 = 0 := by omega
  have hR := Lib.hid (znr h0);have hne : ((zcu s).2.1 == 0) = true := beq_iff_eq.2 h0;clear hbad h0;generalize zcu s = y at *;obtain ⟨L, e1, p1⟩ := y;simp only at *;go_wp2_with fail;refine (zcd (e1, p1) _).mono ?_;rintro r w2 ⟨rfl, hb2⟩;have bb : Below w.heap.size w w2 := hM.trans (hb2.mono hM.size);simp only [hne];go_wp2_with fail;refine (ycf w2 _ c A _ (hK1.grow hb2) (by unfold maxLen; omega)).mono ?_;rintro e w3 ⟨rfl, hb3⟩;have b3 := bb.trans (hb3.mono bb.size);obtain ⟨c0, c1, f0, f1⟩ := (T0.below hb2).below hb3;unfold zba;generalize hX : textOf L = X at *;obtain ⟨t, e2, p2⟩ := X;have S := set2 (.int .i64 e2) (.int .i64 p2) c0 c1;go_wp2;exact bodyPost_ret (v := .tuple #[.string t, .agg #[.int .i64 e2, .int .i64 p2]]) (by simp [results, Tryz.results65, go_sem, S.1, S.2]) rfl ⟨by rw [hR.out]; rfl, zai _ _ b3 (Nat.le_refl _)⟩
end Go.Proofs.YtkejlnjnoiidnaaGreatDoor
end

section
namespace Go.Proofs.YtkejlnjnoiidnaaGreatDoor
open Go.RowKit As Tokens
theorem zjr {w : World} {v : Value} {e p : Int} (h : zbo w v e p) (h0 : e = 0) : v = .nilIface := by
 subst h0;exact (zbo.zero h).1
theorem zev {w : World} {v : Value} {e p : Int} (h : zbo w v e p) (h0 : e ≠ 0) : ∃ t u, v = .iface t u := by
 cases h with
 | none => exact absurd rfl h0
 | bare _ _ => exact ⟨_, _, rfl⟩
 | at_ _ _ _ _ _ _ _ => exact ⟨_, _, rfl⟩
set_option maxHeartbeats 2000000 in
set_option maxRecDepth 100000 in
theorem zfu (w : World) (x : zav) (hb : Bat w x) (hf : ∀ y ∈ x.f, zbe y) (hh : ∀ y ∈ x.h, zbe y) (hcf : x.n ≤ x.c) (hch : x.n' ≤ x.c') (hg : zbh w) :
  Calls Tryz.prog 15 #[x.v] w fun e w' => ∃ v, e = .returned (.tuple #[.string (zcl (zcb x.f x.h x.l)).1, v]) ∧ zck w' v (zcl (zcb x.f x.h x.l)).2 ∧ Below w.heap.size w w' := by
 have hbx := BxAt.new w x;have b0 := zaa w (.cells #[.slice x.A x.n x.c, .slice x.A' x.n' x.c', .slice x.A'' x.n'' x.c''] 25);have hb0 := hb.grow b0;have hg0 := hg.below b0;obtain ⟨⟨t, e, p⟩, hbw⟩ : ∃ z, zcb x.f x.h x.l = z := ⟨_, rfl⟩;obtain ⟨ht, hp⟩ := znd hbw;have HBW := Lib.hid hbw;rw [hbw];clear hbw;have q0 := hbx.c0;have q1 := hbx.c1;have q2 := hbx.c2;unfold zav.v;go_enter Tryz.func15, Tryz.ntmps15;go_wp2_with fail;refine (zrf _ x hb0 hf hh hcf hch hg0).mono ?_;rintro r w1 ⟨v1, rfl, hv1, hb1⟩;rw [HBW.out] at hv1 ⊢;have bb := b0.trans (hb1.mono b0.size);unfold zck at hv1;simp only at hv1 ⊢;by_cases he : e = 0
 ·subst he;obtain rfl := zjr hv1 rfl;have hsq := zke ht;have hr := Lib.hid (zle (t := t) (p := p));have HSQ := Lib.hid hsq;have HP := Lib.hid (hp rfl);clear hsq hv1 hp;go_wp2_with fail;refine (zuo t _ (by omega)).mono ?_;rintro r w2 ⟨v2, rfl, hv2, hb2⟩;have b2 := bb.trans (hb2.mono bb.size);unfold zck at hv2;rw [HSQ.out] at hv2;obtain rfl := zjr hv2 rfl;clear hv2;have wS : IntKind.u64.wrap (t.size : Int) = (t.size : Int) := by rw [IntKind.wrap_u64]; omega
  have hvs := ydr ht;generalize hq : (zca t).1 = q at *;have HQ := Lib.hid hq;clear hq;by_cases hlt : q.size < t.size
  ·have d1 : decide ((q.size : Int) < (t.size : Int)) = true := decide_eq_true (by omega);have d1' : decide (q.size < t.size) = true := by simpa using hlt
   have HT := Lib.hid (zns (by rw [HQ.out]; exact hlt));have k1 : ¬ 9223372036854775807 < ((⟨#[80, 84, 3]⟩ : ByteArray) ++ ⟨#[1]⟩).size + (⟨(vput t.size).toArray⟩ : ByteArray).size := by rw [ByteArray.size_append]; show ¬ _ < 3 + 1 + _; omega
   have k2 : ¬ 9223372036854775807 < (((⟨#[80, 84, 3]⟩ : ByteArray) ++ ⟨#[1]⟩) ++ ⟨(vput t.size).toArray⟩).size + q.size := by rw [ByteArray.size_append, ByteArray.size_append]; show ¬ _ < 3 + 1 + _ + _; omega
   have k3 : ((((⟨#[80, 84, 3]⟩ : ByteArray) ++ ⟨#[1]⟩) ++ ⟨(vput t.size).toArray⟩) ++ q).size ≤ 1000000 := by rw [ByteArray.size_append, ByteArray.size_append, ByteArray.size_append]; show 3 + 1 + _ + _ ≤ _; omega
   clear hlt;go_wp2_with fail;refine (zbm t.size _ (by omega)).mono ?_;rintro r w3 ⟨rfl, hb3⟩;have b3 := b2.trans (hb3.mono b2.size);go_wp2_with fail;refine (zlr _ _ k3).mono ?_;rintro r w4 ⟨rfl, hb4⟩;go_wp2;go_ret2;rw [hr.out, HT.out, HQ.out, HP.out];exact ⟨_, rfl, .none, b3.trans (hb4.mono b3.size)⟩
  ·have d1 : decide ((q.size : Int) < (t.size : Int)) = false := decide_eq_false (by omega);have d1' : decide (q.size < t.size) = false := by simpa using hlt
   have HT := Lib.hid (zmf (by rw [HQ.out]; exact hlt));have k1 : ¬ 9223372036854775807 < ((⟨#[80, 84, 3]⟩ : ByteArray) ++ ⟨#[0]⟩).size + (⟨(vput t.size).toArray⟩ : ByteArray).size := by rw [ByteArray.size_append]; show ¬ _ < 3 + 1 + _; omega
   have k2 : ¬ 9223372036854775807 < (((⟨#[80, 84, 3]⟩ : ByteArray) ++ ⟨#[0]⟩) ++ ⟨(vput t.size).toArray⟩).size + t.size := by rw [ByteArray.size_append, ByteArray.size_append]; show ¬ _ < 3 + 1 + _ + _; omega
   have k3 : ((((⟨#[80, 84, 3]⟩ : ByteArray) ++ ⟨#[0]⟩) ++ ⟨(vput t.size).toArray⟩) ++ t).size ≤ 1000000 := by rw [ByteArray.size_append, ByteArray.size_append, ByteArray.size_append]; show 3 + 1 + _ + _ ≤ _; omega
   clear hlt;go_wp2_with fail;refine (zbm t.size _ (by omega)).mono ?_;rintro r w3 ⟨rfl, hb3⟩;have b3 := b2.trans (hb3.mono b2.size);go_wp2_with fail;refine (zlr _ _ k3).mono ?_;rintro r w4 ⟨rfl, hb4⟩;go_wp2;go_ret2;rw [hr.out, HT.out, HP.out];exact ⟨_, rfl, .none, b3.trans (hb4.mono b3.size)⟩
 ·have hr := Lib.hid (zmn (t := t) (p := p) he);obtain ⟨a, u, rfl⟩ := zev hv1 he;clear he;go_wp2;go_ret2;rw [hr.out];exact ⟨_, rfl, hv1, bb⟩
end Go.Proofs.YtkejlnjnoiidnaaGreatDoor
end
