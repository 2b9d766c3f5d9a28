/- What a call leaves: all blocks but some stand (as XTurned, XMoves and XRecv have it, with no map in sight). Any program.

sort's own functions over 'less' and 'swap', which may be whatever keeps to their word: swapRange_func, rotate_func.

sort.rotate_func.

symMerge in plain Lean: two rows, each sorted, made one.

sort.symMerge_func. -/
import Derived.Test.YtlpkpfpmcppciaaGreatDoorZ1
import Derived.WalkKit
import Derived.Lib.Hide
import Derived.Deep.DeepCutAuto
import Derived.Deep.Cut
import Derived.Deep.CutBlock
import Derived.Shelf.GgSortFunc.InsertionK
section
namespace Go.Proofs.YtlpkpfpmcppciaaGreatDoor
set_option linter.unusedSimpArgs false
set_option linter.unusedVariables false
open Go.RowKit
/-- All blocks but those of S stand. -/
structure Turned (S : Nat → Prop) (w w' : World) : Prop where
 os : w'.os = w.os
 tape : w'.tape = w.tape
 output : w'.output = w.output
 size : w.heap.size ≤ w'.heap.size
 block : ∀ k, k < w.heap.size → ¬ S k → w'.heap[k]? = w.heap[k]?
section
variable {S S' : Nat → Prop} {w w' w'' : World} {b B : Nat}
theorem Turned.refl (S : Nat → Prop) (w : World) : Turned S w w := ⟨rfl, rfl, rfl, Nat.le_refl _, fun _ _ _ => rfl⟩
theorem Turned.trans (h : Turned S w w') (k : Turned S w' w'') : Turned S w w'' :=
 ⟨k.os.trans h.os, k.tape.trans h.tape, k.output.trans h.output, Nat.le_trans h.size k.size, fun i hi hn => (k.block i (Nat.lt_of_lt_of_le hi h.size) hn).trans (h.block i hi hn)⟩
theorem Turned.mono (h : Turned S w w') (hs : ∀ i, S i → S' i) : Turned S' w w' := ⟨h.os, h.tape, h.output, h.size, fun i hi hn => h.block i hi (fun q => hn (hs i q))⟩
/-- New blocks may turn as they like. -/
theorem Turned.then (h : Turned S w w') (k : Turned S' w' w'') (hs : ∀ i, S' i → S i ∨ w.heap.size ≤ i) : Turned S w w'' :=
 ⟨k.os.trans h.os, k.tape.trans h.tape, k.output.trans h.output, Nat.le_trans h.size k.size, fun i hi hn => (k.block i (Nat.lt_of_lt_of_le hi h.size) (fun q => by rcases hs i q with q | q; exact hn q; omega)).trans (h.block i hi hn)⟩
theorem Turned.of_below (h : Below w.heap.size w w') : Turned S w w' := ⟨h.os, h.tape, h.output, h.size, fun i hi _ => h.block i hi⟩
theorem Turned.of_grown (h : w.grownBy w' (some b)) (hb : S b) : Turned S w w' := ⟨h.os, h.tape, h.output, h.size, fun i hi hn => h.block i hi (fun e => hn (by injection e with e; rw [e]; exact hb))⟩
theorem Turned.below (h : Turned S w w') (hS : ∀ i, S i → B ≤ i) (hB : B ≤ w.heap.size) : Below B w w' := ⟨h.os, h.tape, h.output, h.size, fun i hi => h.block i (Nat.lt_of_lt_of_le hi hB) (fun q => by have := hS i q; omega)⟩
theorem Turned.cell (h : Turned S w w') {a : Addr} {v : Value} (hc : w.cell? a = some v) (hn : ¬ S a.block) : w'.cell? a = some v := by
 rw [World.cell?_of_block (h.block a.block (cell_lt hc) hn)]; exact hc
theorem Turned.frozen (h : Turned S w w') {a : Addr} (hl : a.block < w.heap.size) (hn : ¬ S a.block) : w'.frozen? a = w.frozen? a := World.frozen?_of_block (h.block a.block hl hn)
theorem Turned.own (h : Turned S w w') {base : Nat} {e : TypeId} {size n : Nat} {v : Value} {xs : List Value} (ho : w.ownsRow base e size v n xs) (hn : ∀ k, v.ownBlock = some k → ¬ S k) : w'.ownsRow base e size v n xs := by
 refine ⟨ho.1, ?_⟩
 rcases ho.2 with hn' | ⟨g, cap, cur, rfl, hb, hgg, rest⟩
 ·exact .inl hn'
 ·refine .inr ⟨g, cap, cur, rfl, hb, ?_, rest⟩
  rw [h.block g (Array.getElem?_eq_some_iff.1 hgg).1 (hn g rfl)]
  exact hgg
theorem Turned.set (w : World) (i : Nat) (v : Value) (hb : S b) : Turned S w (w.setCell ⟨b, i, none⟩ v) :=
 ⟨rfl, rfl, rfl, by simp, fun k hk hn => Below.heap_setCell _ _ _ _ (fun e => hn (by rw [e]; exact hb))⟩
end
/-- Only the blocks of F turn; F' are some of these, and new ones. -/
structure Moves (F F' : Nat → Prop) (w w' : World) : Prop where
 t : Turned F w w'
 g : ∀ i, F' i → F i ∨ w.heap.size ≤ i
section
variable {F F' F'' G : Nat → Prop} {w w' w'' : World} {B : Nat}
theorem Moves.refl (F : Nat → Prop) (w : World) : Moves F F w w := ⟨.refl _ _, fun _ h => .inl h⟩
theorem Moves.trans (h : Moves F F' w w') (k : Moves F' F'' w' w'') : Moves F F'' w w'' :=
 ⟨h.t.then k.t h.g, fun i hi => by
  rcases k.g i hi with q | q
  ·exact h.g i q
  ·exact .inr (Nat.le_trans h.t.size q)⟩
theorem Moves.of_below (h : Below w.heap.size w w') : Moves F F w w' := ⟨.of_below h, fun _ h => .inl h⟩
theorem Moves.set (w : World) (b i : Nat) (v : Value) (hb : F b) : Moves F F w (w.setCell ⟨b, i, none⟩ v) := ⟨.set w i v hb, fun _ h => .inl h⟩
theorem Moves.size (h : Moves F F' w w') : w.heap.size ≤ w'.heap.size := h.t.size
/-- What lies from B on, and is there. -/
def Within (F : Nat → Prop) (B : Nat) (w : World) : Prop := ∀ i, F i → B ≤ i ∧ i < w.heap.size
def Apart (F G : Nat → Prop) : Prop := ∀ i, F i → ¬ G i
theorem Within.grow (h : Within F B w) (hs : w.heap.size ≤ w'.heap.size) : Within F B w' := fun i hi => ⟨(h i hi).1, Nat.lt_of_lt_of_le (h i hi).2 hs⟩
theorem Within.moved (h : Within F B w) (hm : Moves F F' w w') (hB : B ≤ w.heap.size) (hl : ∀ i, F' i → i < w'.heap.size) : Within F' B w' := fun i hi => ⟨by
 rcases hm.g i hi with q | q
 ·exact (h i q).1
 ·omega, hl i hi⟩
theorem Apart.moved (h : Apart F G) (hm : Moves F F' w w') (hl : ∀ i, G i → i < w.heap.size) : Apart F' G := fun i hi hg => by
 rcases hm.g i hi with q | q
 ·exact h i q hg
 ·have := hl i hg; omega
theorem Apart.symm (h : Apart F G) : Apart G F := fun i hg hf => h i hf hg
theorem Moves.below (h : Moves F F' w w') (hw : Within F B w) (hB : B ≤ w.heap.size) : Below B w w' := h.t.below (fun i hi => (hw i hi).1) hB
theorem Turned.apart (h : Turned F w w') (ha : Apart F G) {i : Nat} (hg : G i) : ¬ F i := fun hf => ha i hf hg
end


/-- Cells of a thing that may be written. -/
def RC (w : World) (r : Nat) (vs : List Value) : Prop := ∀ i v, vs[i]? = some v → w.cell? ⟨r, i, none⟩ = some v ∧ w.frozen? ⟨r, i, none⟩ = false
section
variable {w w' : World} {r : Nat} {vs : List Value} {F : Nat → Prop}
theorem RC.turned (h : RC w r vs) (ht : Turned F w w') (hn : ¬ F r) : RC w' r vs := fun i v hv =>
 ⟨ht.cell (h i v hv).1 hn, (ht.frozen (a := ⟨r, i, none⟩) (cell_lt (h i v hv).1) hn).trans (h i v hv).2⟩
theorem RC.below (h : RC w r vs) (hb : Below w.heap.size w w') : RC w' r vs := h.turned (F := fun _ => False) (.of_below hb) id
theorem RC.set (h : RC w r vs) (k : Nat) (x : Value) (hk : k < vs.length) : RC (w.setCell ⟨r, k, none⟩ x) r (vs.set k x) := by
 intro i v hv
 rw [List.getElem?_set] at hv
 by_cases e : k = i
 ·subst e
  rw [if_pos rfl, if_pos hk] at hv
  injection hv with hv
  subst hv
  obtain ⟨h1, h2⟩ := h k _ (List.getElem?_eq_getElem hk)
  exact ⟨World.cell?_setCell_same _ _ _ h1, by rw [World.frozen?_setCell]; exact h2⟩
 ·rw [if_neg e] at hv
  obtain ⟨h1, h2⟩ := h i v hv
  refine ⟨?_, by rw [World.frozen?_setCell]; exact h2⟩
  rw [World.cell?_setCell_other _ _ _ _ (by intro q; injection q with _ q; exact e q)]
  exact h1
theorem RC.new (w : World) (vs : List Value) (t : TypeId) : RC (w.alloc (.cells vs.toArray t)) w.heap.size vs := by
 intro i v hv
 refine ⟨?_, by simp⟩
 rw [World.cell?_alloc_new]
 simpa using hv
end
end Go.Proofs.YtlpkpfpmcppciaaGreatDoor
end

section
namespace Go.Proofs.YtlpkpfpmcppciaaGreatDoor
set_option linter.unusedSimpArgs false
set_option linter.unusedVariables false
open Go.RowKit
/-- 'less' and 'swap' of a row that lies in block g; St: what the row holds, and whatever else stays true. -/
structure Srt (lg : Nat) (lb : Array Value) (sf : Nat) (sb : Array Value) (g : Nat) (lt : Wr → Wr → Bool) (St : World → List Wr → Prop) : Prop where
 eg : ∀ args w, (callFunc lg args).run Tryz.prog w = .ok (.enter lg args) w
 less : ∀ W D (i j : Nat) x y, St W D → D[i]? = some x → D[j]? = some y → Calls Tryz.prog lg (#[.int .i64 (i : Int), .int .i64 (j : Int)] ++ lb) W fun e w' => e = .returned (.bool (lt x y)) ∧ St w' D ∧ Turned (fun k => k = g) W w'
 swap : ∀ W D (i j : Nat) x y, St W D → D[i]? = some x → D[j]? = some y → ∃ W', (callFunc sf (#[.int .i64 (i : Int), .int .i64 (j : Int)] ++ sb)).run Tryz.prog W = .ok (.value (.tuple #[])) W' ∧ St W' ((D.set i y).set j x) ∧ Turned (fun k => k = g) W W'
 alloc : ∀ W D o, St W D → St (W.alloc o) D
 here : ∀ W D, St W D → g < W.heap.size
 size : ∀ W D, St W D → D.length ≤ 1000000
def lsV (lg : Nat) (lb : Array Value) (sf : Nat) (sb : Array Value) : Value := .agg #[.func (.func lg) #[] lb, .func (.func sf) #[] sb]
theorem set_pair {α : Type} (U V T : List α) (x y : α) {i j : Nat} (hi : i = U.length) (hj : j = U.length + 1 + V.length) : ((U ++ x :: (V ++ y :: T)).set i y).set j x = U ++ y :: (V ++ x :: T) := by
 subst hi hj
 rw [List.set_append_right _ _ (Nat.le_refl _), Nat.sub_self, List.set_cons_zero, List.set_append_right _ _ (by omega)]
 rw [show U.length + 1 + V.length - U.length = V.length + 1 by omega, List.set_cons_succ, List.set_append_right _ _ (Nat.le_refl _), Nat.sub_self, List.set_cons_zero]
theorem get_pair {α : Type} (U V T : List α) (x y : α) {i j : Nat} (hi : i = U.length) (hj : j = U.length + 1 + V.length) : (U ++ x :: (V ++ y :: T))[i]? = some x ∧ (U ++ x :: (V ++ y :: T))[j]? = some y := by
 subst hi hj
 constructor
 ·rw [List.getElem?_append_right (Nat.le_refl _), Nat.sub_self]
  rfl
 ·rw [List.getElem?_append_right (by omega), show U.length + 1 + V.length - U.length = V.length + 1 by omega, List.getElem?_cons_succ, List.getElem?_append_right (Nat.le_refl _), Nat.sub_self]
  rfl
theorem mi {n k : Nat} (h : k + 1 ≤ n) : n - (intOf (Value.int .i64 ((k : Int) + 1))).toNat < n - (intOf (Value.int .i64 (k : Int))).toNat := by
 simp [intOf]
 omega
theorem w_addN {a b c : Nat} (hc : c = a + b) (ha : c ≤ 8000000) : IntKind.i64.wrap ((a : Int) + (b : Int)) = (c : Int) ∧ wrap64 ((a : Int) + (b : Int)) = (c : Int) := by
 rw [show (a : Int) + (b : Int) = (c : Int) by omega]
 exact ⟨IntWalk.i64_in _ (by omega), IntWalk.wrap64_in _ (by omega)⟩
theorem w_one {a : Nat} (ha : a ≤ 8000000) : IntKind.i64.wrap ((a : Int) + 1) = ((a + 1 : Nat) : Int) ∧ wrap64 ((a : Int) + 1) = ((a + 1 : Nat) : Int) := by
 rw [show (a : Int) + 1 = ((a + 1 : Nat) : Int) by omega]
 exact ⟨IntWalk.i64_in _ (by omega), IntWalk.wrap64_in _ (by omega)⟩
theorem swr_len {P X Y Z S : List Wr} {a b n : Nat} (hP : P.length = a) (hX : X.length = n) (hY : a + n + Y.length = b) (hZ : Z.length = n) (hs : (P ++ X ++ Y ++ Z ++ S).length ≤ 1000000) : a + n ≤ 1000000 ∧ b + n ≤ 1000000 := by
 simp only [List.length_append] at hs
 omega
/-- Where the exchange of two ranges stands. -/
def swM (P X Y Z S : List Wr) (i : Nat) : List Wr := P ++ Z.take i ++ X.drop i ++ Y ++ X.take i ++ Z.drop i ++ S
theorem swM_form {P X Y Z S : List Wr} {i : Nat} {x z : Wr} (hx : X[i]? = some x) (hz : Z[i]? = some z) : swM P X Y Z S i = (P ++ Z.take i) ++ x :: ((X.drop (i + 1) ++ Y ++ X.take i) ++ z :: (Z.drop (i + 1) ++ S)) ∧ swM P X Y Z S (i + 1) = (P ++ Z.take i) ++ z :: ((X.drop (i + 1) ++ Y ++ X.take i) ++ x :: (Z.drop (i + 1) ++ S)) := by
 obtain ⟨hi, ex⟩ := List.getElem?_eq_some_iff.1 hx
 obtain ⟨hj, ez⟩ := List.getElem?_eq_some_iff.1 hz
 have dx : X.drop i = x :: X.drop (i + 1) := by rw [List.drop_eq_getElem_cons hi, ex]
 have dz : Z.drop i = z :: Z.drop (i + 1) := by rw [List.drop_eq_getElem_cons hj, ez]
 have tx : X.take (i + 1) = X.take i ++ [x] := by rw [List.take_succ_eq_append_getElem hi, ex]
 have tz : Z.take (i + 1) = Z.take i ++ [z] := by rw [List.take_succ_eq_append_getElem hj, ez]
 unfold swM
 rw [dx, dz, tx, tz]
 simp [List.append_assoc]
section
variable {lg : Nat} {lb : Array Value} {sf : Nat} {sb : Array Value} {g : Nat} {lt : Wr → Wr → Bool} {St : World → List Wr → Prop}
/-- The two functions lie in a box. -/
structure Box (W : World) (bx g : Nat) (lg : Nat) (lb : Array Value) (sf : Nat) (sb : Array Value) : Prop where
 c0 : W.cell? ⟨bx, 0, none⟩ = some (.func (.func lg) #[] lb)
 c1 : W.cell? ⟨bx, 1, none⟩ = some (.func (.func sf) #[] sb)
 ne : bx ≠ g
theorem Box.turned {W W' : World} {bx : Nat} (h : Box W bx g lg lb sf sb) (ht : Turned (fun k => k = g) W W') : Box W' bx g lg lb sf sb := ⟨ht.cell h.c0 h.ne, ht.cell h.c1 h.ne, h.ne⟩
theorem Box.new (W : World) (hg : g < W.heap.size) (t : TypeId) : Box (W.alloc (.cells #[.func (.func lg) #[] lb, .func (.func sf) #[] sb] t)) W.heap.size g lg lb sf sb := by
 refine ⟨?_, ?_, by omega⟩
 ·rw [World.cell?_alloc_new]; rfl
 ·rw [World.cell?_alloc_new]; rfl
set_option maxHeartbeats 2000000 in
set_option maxRecDepth 100000 in
theorem swr_any (H : Srt lg lb sf sb g lt St) {W : World} {P X Y Z S : List Wr} {a b n : Nat} (hSt : St W (P ++ X ++ Y ++ Z ++ S)) (hP : P.length = a) (hX : X.length = n) (hY : a + n + Y.length = b) (hZ : Z.length = n) :
  Calls Tryz.prog 160 #[lsV lg lb sf sb, .int .i64 (a : Int), .int .i64 (b : Int), .int .i64 (n : Int)] W fun e w' => e = .returned (.tuple #[]) ∧ St w' (P ++ Z ++ Y ++ X ++ S) ∧ Turned (fun k => k = g) W w' := by
 obtain ⟨hn1, hn2⟩ := swr_len hP hX hY hZ (H.size _ _ hSt)
 have hbx := Box.new (lg := lg) (lb := lb) (sf := sf) (sb := sb) W (H.here _ _ hSt) 154
 have hS1 := H.alloc _ _ (.cells #[.func (.func lg) #[] lb, .func (.func sf) #[] sb] 154) hSt
 have hT1 : Turned (fun k => k = g) W (W.alloc (.cells #[.func (.func lg) #[] lb, .func (.func sf) #[] sb] 154)) := .of_below ((Below.refl _ _).alloc (Nat.le_refl _) _)
 have e0 : P ++ X ++ Y ++ Z ++ S = swM P X Y Z S 0 := by simp [swM]
 have HEN : Hid (P ++ Z ++ Y ++ X ++ S = swM P X Y Z S n) := Lib.hid (by unfold swM; rw [List.take_of_length_le (by omega), List.take_of_length_le (by omega), List.drop_eq_nil_of_le (by omega), List.drop_eq_nil_of_le (by omega)]; simp)
 rw [e0] at hS1
 obtain ⟨bx, hbxe⟩ : ∃ x, x = W.heap.size := ⟨_, rfl⟩
 have HA := Lib.hid (And.intro hP (And.intro hX (And.intro hY (And.intro hZ (And.intro hn1 hn2)))))
 clear hSt e0 hP hX hY hZ hn1 hn2
 unfold lsV
 go_enter Tryz.func160, Tryz.ntmps160
 go_upto_region 1 with fail
 rw [← hbxe] at hbx ⊢
 clear hbxe
 generalize W.alloc (.cells #[.func (.func lg) #[] lb, .func (.func sf) #[] sb] 154) = W1 at *
 go_wp2
 go_loopw [8] (fun i wr => ∃ k : Nat, k ≤ n ∧ i = .int .i64 k ∧ St wr (swM P X Y Z S k) ∧ Turned (fun q => q = g) W1 wr) (fun i _ => n - (intOf i).toNat)
 case atStart => exact ⟨0, by omega, rfl, hS1, .refl _ _⟩
 case round =>
  clear hS1
  obtain ⟨k, hk, rfl, hS, hT⟩ := hrel
  have hb := hbx.turned hT
  by_cases hlt : k < n
  ·obtain ⟨hP, hX, hY, hZ, hn1, hn2⟩ := HA.out
   obtain ⟨x, hx⟩ : ∃ x, X[k]? = some x := ⟨_, List.getElem?_eq_getElem (by omega)⟩
   obtain ⟨z, hz⟩ : ∃ z, Z[k]? = some z := ⟨_, List.getElem?_eq_getElem (by omega)⟩
   obtain ⟨f1, f2⟩ := swM_form (P := P) (Y := Y) (S := S) hx hz
   obtain ⟨i, hie⟩ : ∃ i, i = a + k := ⟨_, rfl⟩
   obtain ⟨j, hje⟩ : ∃ j, j = b + k := ⟨_, rfl⟩
   have hi : i = (P ++ Z.take k).length := by rw [List.length_append, List.length_take]; omega
   have hj : j = (P ++ Z.take k).length + 1 + (X.drop (k + 1) ++ Y ++ X.take k).length := by simp only [List.length_append, List.length_take, List.length_drop]; omega
   obtain ⟨g1, g2⟩ := get_pair (P ++ Z.take k) (X.drop (k + 1) ++ Y ++ X.take k) (Z.drop (k + 1) ++ S) x z hi hj
   rw [f1] at hS
   obtain ⟨W2, hrun, hS2, hT2⟩ := H.swap _ _ _ _ _ _ hS g1 g2
   rw [set_pair _ _ _ _ _ hi hj, ← f2] at hS2
   have hT12 := hT.trans hT2
   have HK : Hid (k + 1 ≤ n) := Lib.hid hlt
   have HMS : Hid (n - (k + 1) < n - k) := Lib.hid (by omega)
   have B1 : i ≤ 8000000 := by omega
   have B2 : j ≤ 8000000 := by omega
   have B3 : k ≤ 8000000 := by omega
   have WA := Lib.hid (w_addN hie B1)
   have WB := Lib.hid (w_addN hje B2)
   have WC := Lib.hid (w_one B3)
   obtain ⟨wa1, wa2⟩ := WA.out
   obtain ⟨wb1, wb2⟩ := WB.out
   obtain ⟨wc1, wc2⟩ := WC.out
   clear B1 B2 B3
   obtain ⟨q0, q1, _⟩ := hb
   clear hx hz f1 f2 hi hj hie hje g1 g2 hS hT hT2 hn1 hn2 hP hX hY hZ
   go_wp2
   go_roundw
   case rel => exact ⟨k + 1, HK.out, by go_num, hS2, hT12⟩
   case measure => exact mi HK.out
  ·obtain rfl : k = n := by omega
   rw [← HEN.out] at hS
   go_wp2
   go_end0
   exact ⟨rfl, hS, hT1.trans hT⟩
end
end Go.Proofs.YtlpkpfpmcppciaaGreatDoor
end

section
namespace Go.Proofs.YtlpkpfpmcppciaaGreatDoor
set_option linter.unusedSimpArgs false
set_option linter.unusedVariables false
open Go.RowKit
theorem w_subN {a b c : Nat} (hc : a = c + b) (ha : a ≤ 8000000) : IntKind.i64.wrap ((a : Int) - (b : Int)) = (c : Int) ∧ wrap64 ((a : Int) - (b : Int)) = (c : Int) := by
 rw [show (a : Int) - (b : Int) = (c : Int) by omega]
 exact ⟨IntWalk.i64_in _ (by omega), IntWalk.wrap64_in _ (by omega)⟩
/-- Where a rotation stands. -/
structure RotAt (T P A B S : List Wr) (m i j : Nat) : Prop where
 t : P ++ B ++ A ++ S = T
 a : A.length = i
 b : B.length = j
 m : P.length + i = m
 i0 : 0 < i
 j0 : 0 < j
theorem cut_at {α : Type} (l : List α) (k : Nat) (h : k ≤ l.length) : ∃ a b, l = a ++ b ∧ a.length = k ∧ b.length = l.length - k := ⟨l.take k, l.drop k, (List.take_append_drop k l).symm, by rw [List.length_take]; omega, by rw [List.length_drop]⟩
section
variable {lg : Nat} {lb : Array Value} {sf : Nat} {sb : Array Value} {g : Nat} {lt : Wr → Wr → Bool} {St : World → List Wr → Prop}
theorem rot_gt (H : Srt lg lb sf sb g lt St) {W : World} {T P A B S : List Wr} {m i j : Nat} (h : RotAt T P A B S m i j) (hS : St W (P ++ A ++ B ++ S)) (hij : j < i) :
  Calls Tryz.prog 160 #[lsV lg lb sf sb, .int .i64 (P.length : Int), .int .i64 (m : Int), .int .i64 (j : Int)] W fun e w' => e = .returned (.tuple #[]) ∧ (∃ P' A' B' S', RotAt T P' A' B' S' m (i - j) j ∧ St w' (P' ++ A' ++ B' ++ S')) ∧ Turned (fun k => k = g) W w' := by
 obtain ⟨h1, h2, h3, h4, h5, h6⟩ := h
 obtain ⟨A1, A2, rfl, l1, l2⟩ := cut_at A j (by omega)
 have e : P ++ (A1 ++ A2) ++ B ++ S = P ++ A1 ++ A2 ++ B ++ S := by simp
 rw [e] at hS
 refine (swr_any H (a := P.length) (b := m) (n := j) hS rfl l1 (by omega) h3).mono ?_
 rintro r w' ⟨rfl, hS', hT⟩
 exact ⟨rfl, ⟨P ++ B, A2, A1, S, ⟨by rw [← h1]; simp, by omega, l1, by rw [List.length_append]; omega, by omega, h6⟩, by rw [show P ++ B ++ A2 ++ A1 ++ S = P ++ B ++ A2 ++ A1 ++ S from rfl]; exact hS'⟩, hT⟩
theorem rot_lt (H : Srt lg lb sf sb g lt St) {W : World} {T P A B S : List Wr} {m i j : Nat} (h : RotAt T P A B S m i j) (hS : St W (P ++ A ++ B ++ S)) (hij : i < j) {q : Nat} (hq : m + j = q + i) :
  Calls Tryz.prog 160 #[lsV lg lb sf sb, .int .i64 (P.length : Int), .int .i64 (q : Int), .int .i64 (i : Int)] W fun e w' => e = .returned (.tuple #[]) ∧ (∃ P' A' B' S', RotAt T P' A' B' S' m i (j - i) ∧ St w' (P' ++ A' ++ B' ++ S')) ∧ Turned (fun k => k = g) W w' := by
 obtain ⟨h1, h2, h3, h4, h5, h6⟩ := h
 obtain ⟨B1, B2, rfl, l1, l2⟩ := cut_at B (j - i) (by omega)
 have e : P ++ A ++ (B1 ++ B2) ++ S = P ++ A ++ B1 ++ B2 ++ S := by simp
 rw [e] at hS
 refine (swr_any H (a := P.length) (b := q) (n := i) hS rfl h2 (by omega) (by omega)).mono ?_
 rintro r w' ⟨rfl, hS', hT⟩
 exact ⟨rfl, ⟨P, B2, B1, A ++ S, ⟨by rw [← h1]; simp, by omega, l1, h4, h5, by omega⟩, by rw [show P ++ B2 ++ B1 ++ (A ++ S) = P ++ B2 ++ B1 ++ A ++ S by simp]; exact hS'⟩, hT⟩
theorem rot_eq (H : Srt lg lb sf sb g lt St) {W : World} {T P A B S : List Wr} {m i : Nat} (h : RotAt T P A B S m i i) (hS : St W (P ++ A ++ B ++ S)) :
  Calls Tryz.prog 160 #[lsV lg lb sf sb, .int .i64 (P.length : Int), .int .i64 (m : Int), .int .i64 (i : Int)] W fun e w' => e = .returned (.tuple #[]) ∧ St w' T ∧ Turned (fun k => k = g) W w' := by
 obtain ⟨h1, h2, h3, h4, h5, h6⟩ := h
 have e : P ++ A ++ B ++ S = P ++ A ++ [] ++ B ++ S := by simp
 rw [e] at hS
 refine (swr_any H (a := P.length) (b := m) (n := i) hS rfl h2 (by simp; omega) h3).mono ?_
 rintro r w' ⟨rfl, hS', hT⟩
 exact ⟨rfl, by rw [← h1]; simpa using hS', hT⟩
theorem rot_size {T P A B S : List Wr} {m i j : Nat} (h : RotAt T P A B S m i j) (hs : (P ++ A ++ B ++ S).length ≤ 1000000) : m = P.length + i ∧ m + j ≤ 1000000 := by
 obtain ⟨h1, h2, h3, h4, h5, h6⟩ := h
 simp only [List.length_append] at hs
 omega
set_option maxHeartbeats 4000000 in
set_option maxRecDepth 100000 in
theorem rot_any (H : Srt lg lb sf sb g lt St) {W : World} {P A B S : List Wr} {a m b : Nat} (hSt : St W (P ++ A ++ B ++ S)) (hP : P.length = a) (hA : a + A.length = m) (hB : m + B.length = b) (hA0 : 0 < A.length) (hB0 : 0 < B.length) :
  Calls Tryz.prog 148 #[lsV lg lb sf sb, .int .i64 (a : Int), .int .i64 (m : Int), .int .i64 (b : Int)] W fun e w' => e = .returned (.tuple #[]) ∧ St w' (P ++ B ++ A ++ S) ∧ Turned (fun k => k = g) W w' := by
 have hbx := Box.new (lg := lg) (lb := lb) (sf := sf) (sb := sb) W (H.here _ _ hSt) 154
 have hS1 := H.alloc _ _ (.cells #[.func (.func lg) #[] lb, .func (.func sf) #[] sb] 154) hSt
 have hT1 : Turned (fun k => k = g) W (W.alloc (.cells #[.func (.func lg) #[] lb, .func (.func sf) #[] sb] 154)) := .of_below ((Below.refl _ _).alloc (Nat.le_refl _) _)
 obtain ⟨T, hTT⟩ : ∃ T, T = P ++ B ++ A ++ S := ⟨_, rfl⟩
 have hR0 : RotAt T P A B S m A.length B.length := ⟨hTT.symm, rfl, rfl, by omega, hA0, hB0⟩
 have hsz := rot_size hR0 (H.size _ _ hSt)
 rw [← hTT]
 obtain ⟨bx, hbxe⟩ : ∃ x, x = W.heap.size := ⟨_, rfl⟩
 obtain ⟨i0, hi0⟩ : ∃ i, i = A.length := ⟨_, rfl⟩
 obtain ⟨j0, hj0⟩ : ∃ j, j = B.length := ⟨_, rfl⟩
 have WA := Lib.hid (w_subN (a := m) (b := a) (c := i0) (by omega) (by omega))
 have WB := Lib.hid (w_subN (a := b) (b := m) (c := j0) (by omega) (by omega))
 have HS1 := Lib.hid hS1
 rw [← hi0, ← hj0] at hR0
 have HR0 := Lib.hid hR0
 obtain ⟨wa1, wa2⟩ := WA.out
 obtain ⟨wb1, wb2⟩ := WB.out
 clear hSt hTT hP hA hB hA0 hB0 hsz hS1 hi0 hj0 hR0
 unfold lsV
 go_enter Tryz.func148, Tryz.ntmps148
 go_upto_region 1 with fail
 rw [← hbxe] at hbx ⊢
 clear hbxe
 generalize W.alloc (.cells #[.func (.func lg) #[] lb, .func (.func sf) #[] sb] 154) = W1 at *
 go_wp2
 clear wa1 wa2 wb1 wb2
 go_loopw [8, 9] (fun vi vj wr => ∃ (i j : Nat) (P A B S : List Wr), vi = .int .i64 i ∧ vj = .int .i64 j ∧ RotAt T P A B S m i j ∧ St wr (P ++ A ++ B ++ S) ∧ Turned (fun q => q = g) W1 wr) (fun vi vj _ => (intOf vi).toNat + (intOf vj).toNat)
 case atStart => exact ⟨i0, j0, P, A, B, S, rfl, rfl, HR0.out, HS1.out, .refl _ _⟩
 case round =>
  clear HR0 HS1
  obtain ⟨i, j, P', A', B', S', rfl, rfl, hR, hS, hT⟩ := hrel
  have hb := hbx.turned hT
  obtain ⟨q0, q1, _⟩ := hb
  obtain ⟨hm, hs⟩ := rot_size hR (H.size _ _ hS)
  obtain ⟨p, hp⟩ : ∃ p, p = P'.length := ⟨_, rfl⟩
  have i0' := hR.i0
  have j0' := hR.j0
  have WA := Lib.hid (w_subN (a := m) (b := i) (c := p) (by omega) (by omega))
  rcases Nat.lt_trichotomy i j with hij | hij | hij
  ·obtain ⟨q, hq⟩ : ∃ q, q + i = m + j := ⟨m + j - i, by omega⟩
   obtain ⟨q2, hq2⟩ : ∃ q2, q2 = m + j := ⟨_, rfl⟩
   obtain ⟨j2, hj2⟩ : ∃ j2, j2 = j - i := ⟨_, rfl⟩
   have hc := rot_lt H hR hS hij hq.symm
   rw [← hj2, ← hp] at hc
   have WC := Lib.hid (w_addN (a := m) (b := j) (c := q2) hq2 (by omega))
   have WD := Lib.hid (w_subN (a := q2) (b := i) (c := q) (by omega) (by omega))
   have WE := Lib.hid (w_subN (a := j) (b := i) (c := j2) (by omega) (by omega))
   have HM : Hid (i + j2 < i + j) := Lib.hid (by omega)
   have d1 : ¬ i = j := by omega
   have d2 : ¬ j < i := by omega
   obtain ⟨wa1, wa2⟩ := WA.out
   obtain ⟨wc1, wc2⟩ := WC.out
   obtain ⟨wd1, wd2⟩ := WD.out
   obtain ⟨we1, we2⟩ := WE.out
   unfold lsV at hc
   clear hq hq2 hj2 hp hij hR hS hm hs i0' j0'
   go_wp2_with (go_at_call 160; refine hc.mono ?_; rintro r w2 ⟨rfl, ⟨P2, A2, B2, S2, hR2, hS2⟩, hT2⟩)
   go_roundw
   case rel => exact ⟨i, j2, P2, A2, B2, S2, rfl, rfl, hR2, hS2, hT.trans hT2⟩
   case measure => exact HM.out
  ·subst hij
   have hc := rot_eq H hR hS
   rw [← hp] at hc
   obtain ⟨wa1, wa2⟩ := WA.out
   unfold lsV at hc
   clear hp hR hS hm hs i0' j0'
   go_wp2_with (go_at_call 160; refine hc.mono ?_; rintro r w2 ⟨rfl, hS2, hT2⟩)
   go_end0
   exact ⟨rfl, hS2, (hT1.trans hT).trans hT2⟩
  ·obtain ⟨i2, hi2⟩ : ∃ i2, i2 = i - j := ⟨_, rfl⟩
   have hc := rot_gt H hR hS hij
   rw [← hi2, ← hp] at hc
   have WE := Lib.hid (w_subN (a := i) (b := j) (c := i2) (by omega) (by omega))
   have HM : Hid (i2 + j < i + j) := Lib.hid (by omega)
   have d1 : ¬ i = j := by omega
   have d2 : j < i := hij
   obtain ⟨wa1, wa2⟩ := WA.out
   obtain ⟨we1, we2⟩ := WE.out
   unfold lsV at hc
   clear hi2 hp hR hS hm hs i0' j0' hij
   go_wp2_with (go_at_call 160; refine hc.mono ?_; rintro r w2 ⟨rfl, ⟨P2, A2, B2, S2, hR2, hS2⟩, hT2⟩)
   go_roundw
   case rel => exact ⟨i2, j, P2, A2, B2, S2, rfl, rfl, hR2, hS2, hT.trans hT2⟩
   case measure => exact HM.out
end
end Go.Proofs.YtlpkpfpmcppciaaGreatDoor
end

section
namespace Go.Proofs.YtlpkpfpmcppciaaGreatDoor
set_option linter.unusedSimpArgs false
set_option linter.unusedVariables false
open Go.RowKit
open Go.Sort (SWO)
section
variable {lt : Wr → Wr → Bool}
def Srd (lt : Wr → Wr → Bool) (l : List Wr) : Prop := l.Pairwise fun x y => lt y x = false
theorem swo_asym (h : SWO lt) {x y : Wr} (hx : lt x y = true) : lt y x = false := by
 cases h' : lt y x with
 | false => rfl
 | true => have := h.trans x y x hx h'; rw [h.irrefl] at this; cases this
/-- y ≤ z < x. -/
theorem swo_low (h : SWO lt) {x y z : Wr} (h1 : lt z y = false) (h2 : lt z x = true) : lt y x = true := by
 cases h' : lt y x with
 | true => rfl
 | false => have := h.ntrans z y x h1 h'; rw [this] at h2; cases h2
/-- x < z ≤ y. -/
theorem swo_high (h : SWO lt) {x y z : Wr} (h1 : lt y z = false) (h2 : lt x z = true) : lt x y = true := by
 cases h' : lt x y with
 | true => rfl
 | false => have := h.ntrans x y z h' h1; rw [this] at h2; cases h2
theorem srd_app {l m : List Wr} : Srd lt (l ++ m) ↔ Srd lt l ∧ Srd lt m ∧ ∀ x ∈ l, ∀ y ∈ m, lt y x = false := by
 unfold Srd
 rw [List.pairwise_append]
theorem srd_one (x : Wr) : Srd lt [x] := List.pairwise_singleton _ _
/-- One of the left, put among the right. -/
theorem srd_left (h : SWO lt) {x : Wr} {B1 B2 : List Wr} (hB : Srd lt (B1 ++ B2)) (h1 : ∀ y ∈ B1, lt y x = true) (h2 : ∀ y ∈ B2, lt y x = false) : Srd lt (B1 ++ [x] ++ B2) := by
 obtain ⟨a, b, c⟩ := srd_app.1 hB
 refine srd_app.2 ⟨srd_app.2 ⟨a, srd_one x, fun y hy z hz => ?_⟩, b, fun y hy z hz => ?_⟩
 ·rw [List.mem_singleton.1 hz]
  exact swo_asym h (h1 y hy)
 ·rcases List.mem_append.1 hy with hy | hy
  ·exact c y hy z hz
  ·rw [List.mem_singleton.1 hy]
   exact h2 z hz
/-- One of the right, put among the left. -/
theorem srd_right (h : SWO lt) {y : Wr} {A1 A2 : List Wr} (hA : Srd lt (A1 ++ A2)) (h1 : ∀ x ∈ A1, lt y x = false) (h2 : ∀ x ∈ A2, lt y x = true) : Srd lt (A1 ++ [y] ++ A2) := by
 obtain ⟨a, b, c⟩ := srd_app.1 hA
 refine srd_app.2 ⟨srd_app.2 ⟨a, srd_one y, fun x hx z hz => ?_⟩, b, fun x hx z hz => ?_⟩
 ·rw [List.mem_singleton.1 hz]
  exact h1 x hx
 ·rcases List.mem_append.1 hx with hx | hx
  ·exact c x hx z hz
  ·rw [List.mem_singleton.1 hx]
   exact swo_asym h (h2 z hz)
/-- Two merged halves. -/
theorem srd_halves {A1 A2 B1 B2 M1 M2 : List Wr} (p1 : M1.Perm (A1 ++ B1)) (p2 : M2.Perm (A2 ++ B2)) (s1 : Srd lt M1) (s2 : Srd lt M2) (h : ∀ x ∈ A1 ++ B1, ∀ y ∈ A2 ++ B2, lt y x = false) :
  Srd lt (M1 ++ M2) ∧ (M1 ++ M2).Perm ((A1 ++ A2) ++ (B1 ++ B2)) := by
 refine ⟨srd_app.2 ⟨s1, s2, fun x hx y hy => h x (p1.mem_iff.1 hx) y (p2.mem_iff.1 hy)⟩, ?_⟩
 refine (p1.append p2).trans ?_
 rw [List.append_assoc, List.append_assoc]
 refine List.Perm.append_left A1 ?_
 rw [← List.append_assoc, ← List.append_assoc]
 exact List.Perm.append_right B2 List.perm_append_comm
/-- Sorted, by places. -/
theorem srd_at {l : List Wr} (h : Srd lt l) {i j : Nat} {x y : Wr} (hij : i < j) (hx : l[i]? = some x) (hy : l[j]? = some y) : lt y x = false := by
 obtain ⟨hi, ex⟩ := List.getElem?_eq_some_iff.1 hx
 obtain ⟨hj, ey⟩ := List.getElem?_eq_some_iff.1 hy
 have := List.pairwise_iff_getElem.1 h i j hi hj hij
 rw [ex, ey] at this
 exact this
theorem srd_at' (h0 : SWO lt) {l : List Wr} (h : Srd lt l) {i j : Nat} {x y : Wr} (hij : i ≤ j) (hx : l[i]? = some x) (hy : l[j]? = some y) : lt y x = false := by
 rcases Nat.lt_or_ge i j with hlt | hge
 ·exact srd_at h hlt hx hy
 ·have : i = j := by omega
  subst this
  rw [hx] at hy
  injection hy with hy
  subst hy
  exact h0.irrefl _
theorem mem_at {l : List Wr} {x : Wr} (h : x ∈ l) : ∃ i, i < l.length ∧ l[i]? = some x := by
 obtain ⟨i, hi, e⟩ := List.mem_iff_getElem.1 h
 exact ⟨i, hi, by rw [List.getElem?_eq_getElem hi, e]⟩
/-- What the cut asks: the last of the first is no more than the first of the second. -/
theorem cross (h0 : SWO lt) {A1 A2 B1 B2 : List Wr} (hA : Srd lt (A1 ++ A2)) (hB : Srd lt (B1 ++ B2))
  (h1 : ∀ x y, (A1.getLast? = some x) → B2.head? = some y → lt y x = false) (h2 : ∀ x y, B1.getLast? = some x → A2.head? = some y → lt y x = false) : ∀ x ∈ A1 ++ B1, ∀ y ∈ A2 ++ B2, lt y x = false := by
 have key : ∀ {L R M N : List Wr}, Srd lt (L ++ M) → Srd lt (R ++ N) → (∀ x y, L.getLast? = some x → N.head? = some y → lt y x = false) → ∀ x ∈ L, ∀ y ∈ N, lt y x = false := by
  intro L R M N hL hN h x hx y hy
  obtain ⟨sL, _, _⟩ := srd_app.1 hL
  obtain ⟨_, sN, _⟩ := srd_app.1 hN
  have hLn : L ≠ [] := fun e => by rw [e] at hx; cases hx
  have hNn : N ≠ [] := fun e => by rw [e] at hy; cases hy
  obtain ⟨u, hu⟩ : ∃ u, L.getLast? = some u := ⟨_, List.getLast?_eq_some_getLast hLn⟩
  obtain ⟨v, hv⟩ : ∃ v, N.head? = some v := ⟨_, List.head?_eq_some_head hNn⟩
  have huv := h u v hu hv
  obtain ⟨i, hi, ei⟩ := mem_at hx
  obtain ⟨j, hj, ej⟩ := mem_at hy
  rw [List.getLast?_eq_getElem?] at hu
  rw [List.head?_eq_getElem?] at hv
  have a1 := srd_at' h0 sL (i := i) (j := L.length - 1) (by omega) ei hu
  have a2 := srd_at' h0 sN (i := 0) (j := j) (Nat.zero_le _) hv ej
  exact h0.ntrans y v x a2 (h0.ntrans v u x huv a1)
 obtain ⟨_, _, cA⟩ := srd_app.1 hA
 obtain ⟨_, _, cB⟩ := srd_app.1 hB
 intro x hx y hy
 rcases List.mem_append.1 hx with hx | hx <;> rcases List.mem_append.1 hy with hy | hy
 ·exact cA x hx y hy
 ·exact key hA hB h1 x hx y hy
 ·exact key hB hA h2 x hx y hy
 ·exact cB x hx y hy
end
end Go.Proofs.YtlpkpfpmcppciaaGreatDoor
end

section
namespace Go.Proofs.YtlpkpfpmcppciaaGreatDoor
set_option linter.unusedSimpArgs false
set_option linter.unusedVariables false
open Go.RowKit
open Go.Sort (SWO)
/-- int(uint(i + j) >> 1). -/
structure Half (i j s h : Nat) : Prop where
 sum : s = i + j
 half : h = s / 2
 le : s ≤ 8000000
theorem half_facts {i j s h : Nat} (H : Half i j s h) : (IntKind.i64.wrap ((i : Int) + (j : Int)) = (s : Int) ∧ wrap64 ((i : Int) + (j : Int)) = (s : Int)) ∧ IntKind.u64.wrap (s : Int) = (s : Int) ∧ (s : Int) / 2 = (h : Int) ∧ IntKind.u64.wrap (h : Int) = (h : Int) ∧ IntKind.i64.wrap (h : Int) = (h : Int) ∧ wrap64 (h : Int) = (h : Int) := by
 obtain ⟨h1, h2, h3⟩ := H
 refine ⟨w_addN h1 h3, ?_, by omega, ?_, IntWalk.i64_in _ (by omega), IntWalk.wrap64_in _ (by omega)⟩
 ·rw [IntKind.wrap_u64]; omega
 ·rw [IntKind.wrap_u64]; omega
theorem w_sub1 {a c : Nat} (hc : a = c + 1) (ha : a ≤ 8000000) : IntKind.i64.wrap ((a : Int) - 1) = (c : Int) ∧ wrap64 ((a : Int) - 1) = (c : Int) := by
 rw [show (a : Int) - 1 = (c : Int) by omega]
 exact ⟨IntWalk.i64_in _ (by omega), IntWalk.wrap64_in _ (by omega)⟩
theorem mj {j h i : Nat} (hm : j - (h + 1) < j - i) : (intOf (Value.int .i64 (j : Int))).toNat - (intOf (Value.int .i64 ((h : Int) + 1))).toNat < (intOf (Value.int .i64 (j : Int))).toNat - (intOf (Value.int .i64 (i : Int))).toNat := by
 simp [intOf]
 omega
section
variable {lg : Nat} {lb : Array Value} {sf : Nat} {sb : Array Value} {g : Nat} {lt : Wr → Wr → Bool} {St : World → List Wr → Prop}
/-- What a merge leaves. -/
def SymPost (St : World → List Wr → Prop) (lt : Wr → Wr → Bool) (g : Nat) (W : World) (P A B S : List Wr) (w' : World) : Prop := ∃ M : List Wr, M.Perm (A ++ B) ∧ Srd lt M ∧ St w' (P ++ M ++ S) ∧ Turned (fun k => k = g) W w'
set_option maxHeartbeats 4000000 in
set_option maxRecDepth 100000 in
theorem sym_left (H : Srt lg lb sf sb g lt St) (hO : SWO lt) {W : World} {P B S : List Wr} {x : Wr} {a m b : Nat} (hSt : St W (P ++ [x] ++ B ++ S)) (hP : P.length = a) (hA : a + 1 = m) (hB : m + B.length = b) (sB : Srd lt B) :
  Calls Tryz.prog 120 #[lsV lg lb sf sb, .int .i64 (a : Int), .int .i64 (m : Int), .int .i64 (b : Int)] W fun e w' => e = .returned (.tuple #[]) ∧ SymPost St lt g W P [x] B S w' := by
 have hbx := Box.new (lg := lg) (lb := lb) (sf := sf) (sb := sb) W (H.here _ _ hSt) 154
 have hS1 := H.alloc _ _ (.cells #[.func (.func lg) #[] lb, .func (.func sf) #[] sb] 154) hSt
 have hT1 : Turned (fun k => k = g) W (W.alloc (.cells #[.func (.func lg) #[] lb, .func (.func sf) #[] sb] 154)) := .of_below ((Below.refl _ _).alloc (Nat.le_refl _) _)
 have hsz := H.size _ _ hSt
 have hb8 : b ≤ 1000000 := by simp only [List.length_append, List.length_cons, List.length_nil] at hsz; omega
 obtain ⟨bx, hbxe⟩ : ∃ x, x = W.heap.size := ⟨_, rfl⟩
 have WA := Lib.hid (w_subN (a := m) (b := a) (c := 1) (by omega) (by omega))
 have HN := Lib.hid (And.intro hP (And.intro hA (And.intro hB hb8)))
 have HD := Lib.hid (show ∀ k y, m ≤ k → k < b → (P ++ [x] ++ B ++ S)[k]? = some y → B[k - m]? = some y from fun k y h1 h2 h3 => by
  rw [List.append_assoc, List.getElem?_append_right (by simp; omega), List.getElem?_append_left (by simp; omega)] at h3
  simp only [List.length_append, List.length_cons, List.length_nil] at h3
  rwa [show k - (P.length + (0 + 1)) = k - m by omega] at h3)
 have HD2 := Lib.hid (show ∀ k y, B[k]? = some y → (P ++ [x] ++ B ++ S)[k + m]? = some y from fun k y h3 => by
  have hk := (List.getElem?_eq_some_iff.1 h3).1
  rw [List.append_assoc, List.getElem?_append_right (by simp; omega), List.getElem?_append_left (by simp; omega)]
  simp only [List.length_append, List.length_cons, List.length_nil]
  rw [show k + m - (P.length + (0 + 1)) = k by omega]
  exact h3)
 have HX : Hid ((P ++ [x] ++ B ++ S)[a]? = some x) := Lib.hid (by
  rw [List.append_assoc, List.append_assoc, List.getElem?_append_right (by omega), hP, Nat.sub_self]
  rfl)
 obtain ⟨D, hDe⟩ : ∃ D, D = P ++ [x] ++ B ++ S := ⟨_, rfl⟩
 have HDE := Lib.hid hDe
 rw [← hDe] at hS1 HD HD2 HX
 have HS1 := Lib.hid hS1
 obtain ⟨wa1, wa2⟩ := WA.out
 clear hSt hP hA hB hsz hb8 hDe hS1
 unfold lsV
 go_enter Tryz.func120, Tryz.ntmps120
 go_upto_region 1 with fail
 rw [← hbxe] at hbx ⊢
 clear hbxe
 generalize W.alloc (.cells #[.func (.func lg) #[] lb, .func (.func sf) #[] sb] 154) = W1 at *
 go_wp2
 clear wa1 wa2
 go_loopw [8, 9, 10] (fun vi vj _ wr => ∃ (i j : Nat), vi = .int .i64 i ∧ vj = .int .i64 j ∧ Hid (m ≤ i ∧ i ≤ j ∧ j ≤ b) ∧ Hid (∀ k y, m ≤ k → k < i → D[k]? = some y → lt y x = true) ∧ Hid (∀ k y, j ≤ k → k < b → D[k]? = some y → lt y x = false) ∧ St wr D ∧ Turned (fun q => q = g) W1 wr) (fun vi vj _ _ => (intOf vj).toNat - (intOf vi).toNat)
 case atStart => exact ⟨m, b, rfl, rfl, Lib.hid ⟨Nat.le_refl _, by have := HN.out; omega, Nat.le_refl _⟩, Lib.hid (fun k y h1 h2 _ => by omega), Lib.hid (fun k y h1 h2 _ => by omega), HS1.out, .refl _ _⟩
 case round =>
  clear HS1
  obtain ⟨i, j, rfl, rfl, HIJ, HLO, HHI, hS, hT⟩ := hrel
  obtain ⟨q0, q1, _⟩ := hbx.turned hT
  by_cases hlt : i < j
  ·obtain ⟨s, hs⟩ : ∃ s, s = i + j := ⟨_, rfl⟩
   obtain ⟨h, hh⟩ : ∃ h, h = s / 2 := ⟨_, rfl⟩
   have HF : Half i j s h := ⟨hs, hh, by have := HN.out; have := HIJ.out; omega⟩
   have HB : Hid (i ≤ h ∧ h < j) := Lib.hid (by omega)
   have HHB : Hid (m ≤ h ∧ h < b) := Lib.hid (by have := HIJ.out; have := HB.out; omega)
   obtain ⟨y, hy⟩ : ∃ y, D[h]? = some y := ⟨_, List.getElem?_eq_getElem (by
    have h1 := HN.out
    have h2 := HHB.out
    rw [HDE.out]
    simp only [List.length_append, List.length_cons, List.length_nil]
    omega)⟩
   have hl := H.less wr D h a y x hS hy HX.out
   have HY := Lib.hid hy
   have WF := Lib.hid (half_facts HF)
   have W1F := Lib.hid (w_one (a := h) (by have := HN.out; have := HHB.out; omega))
   have eg := H.eg
   obtain ⟨⟨f1, f2⟩, f3, f4, f5, f6, f7⟩ := WF.out
   obtain ⟨f8, f9⟩ := W1F.out
   clear hs hh HF hy hS
   cases hv : lt y x with
   | true =>
    rw [hv] at hl
    have HV := Lib.hid hv
    clear hv
    go_wp2_with (go_at_fn lg; refine hl.mono ?_; rintro e w2 ⟨rfl, hS2, hT2⟩)
    clear f1 f2 f3 f4 f5 f6 f7 f8 f9
    have HLO2 : Hid (∀ k y, m ≤ k → k < h + 1 → D[k]? = some y → lt y x = true) := Lib.hid (fun k y' h1 h2 h3 =>
     swo_low hO (srd_at' hO sB (i := k - m) (j := h - m) (by have := HHB.out; omega) (HD.out k y' h1 (by have := HHB.out; omega) h3) (HD.out h y HHB.out.1 HHB.out.2 HY.out)) HV.out)
    have HIJ2 : Hid (m ≤ h + 1 ∧ h + 1 ≤ j ∧ j ≤ b) := Lib.hid (by have := HHB.out; have := HB.out; have := HIJ.out; omega)
    have HMS : Hid (j - (h + 1) < j - i) := Lib.hid (by have := HB.out; omega)
    go_roundw
    case rel => exact ⟨h + 1, j, by go_num, rfl, HIJ2, HLO2, HHI, hS2, hT.trans hT2⟩
    case measure => exact mj HMS.out
   | false =>
    rw [hv] at hl
    have HV := Lib.hid hv
    clear hv
    go_wp2_with (go_at_fn lg; refine hl.mono ?_; rintro e w2 ⟨rfl, hS2, hT2⟩)
    clear f1 f2 f3 f4 f5 f6 f7 f8 f9
    have HHI2 : Hid (∀ k y, h ≤ k → k < b → D[k]? = some y → lt y x = false) := Lib.hid (fun k y' h1 h2 h3 =>
     hO.ntrans y' y x (srd_at' hO sB (i := h - m) (j := k - m) (by omega) (HD.out h y HHB.out.1 HHB.out.2 HY.out) (HD.out k y' (by have := HHB.out; omega) h2 h3)) HV.out)
    have HIJ2 : Hid (m ≤ i ∧ i ≤ h ∧ h ≤ b) := Lib.hid (by have := HHB.out; have := HB.out; have := HIJ.out; omega)
    have HMS : Hid (h - i < j - i) := Lib.hid (by have := HB.out; omega)
    go_roundw
    case rel => exact ⟨i, h, rfl, rfl, HIJ2, HLO, HHI2, hS2, hT.trans hT2⟩
    case measure => exact HMS.out
  ·obtain rfl : i = j := by have := HIJ.out; omega
   obtain ⟨B1, B2, hBB, l1, l2⟩ := cut_at B (i - m) (by have := HIJ.out; have := HN.out; omega)
   have HL1 := Lib.hid l1
   have HBB := Lib.hid hBB
   have H1 : Hid (∀ y ∈ B1, lt y x = true) := Lib.hid (fun y hy => by
    obtain ⟨k, hk, e⟩ := mem_at hy
    refine HLO.out (k + m) y (by omega) (by have := HIJ.out; omega) (HD2.out k y ?_)
    rw [hBB, List.getElem?_append_left hk]
    exact e)
   have H2 : Hid (∀ y ∈ B2, lt y x = false) := Lib.hid (fun y hy => by
    obtain ⟨k, hk, e⟩ := mem_at hy
    have h1 := HN.out
    have h2 := HIJ.out
    refine HHI.out (i - m + k + m) y (by omega) (by omega) (HD2.out (i - m + k) y ?_)
    rw [hBB, List.getElem?_append_right (by omega), show i - m + k - B1.length = k by omega]
    exact e)
   obtain ⟨c, hc⟩ : ∃ c, i = c + 1 := ⟨i - 1, by have := HN.out; have := HIJ.out; omega⟩
   have WC := Lib.hid (w_sub1 (a := i) (c := c) hc (by have := HN.out; have := HIJ.out; omega))
   have HC : Hid (c = a + B1.length) := Lib.hid (by have := HN.out; have := HIJ.out; omega)
   have HE0 : Hid (D = (P ++ B1.take 0) ++ x :: (B1.drop 0 ++ (B2 ++ S))) := Lib.hid (by rw [HDE.out, hBB]; simp)
   rw [HE0.out] at hS
   have HSS := Lib.hid hS
   clear HLO HHI hBB l1 l2 hc hS hlt q0 q1
   go_wp2
   go_loopw [11] (fun vk wr => ∃ (t kk : Nat), vk = .int .i64 kk ∧ Hid (kk = a + t ∧ t ≤ B1.length) ∧ St wr ((P ++ B1.take t) ++ x :: (B1.drop t ++ (B2 ++ S))) ∧ Turned (fun q => q = g) W1 wr) (fun vk _ => c - (intOf vk).toNat)
   case atStart => exact ⟨0, a, rfl, Lib.hid ⟨rfl, Nat.zero_le _⟩, HSS.out, hT⟩
   case round =>
    clear HSS hT
    obtain ⟨t, kk, rfl, HK, hS, hT⟩ := hrel
    obtain ⟨q0, q1, _⟩ := hbx.turned hT
    by_cases hlt : kk < c
    ·have htl : t < B1.length := by have := HK.out; have := HC.out; omega
     obtain ⟨y, hy⟩ : ∃ y, B1[t]? = some y := ⟨_, List.getElem?_eq_getElem htl⟩
     have ey : B1[t] = y := by rw [List.getElem?_eq_getElem htl] at hy; injection hy
     have dy : B1.drop t = y :: B1.drop (t + 1) := by rw [List.drop_eq_getElem_cons htl, ey]
     have ty : B1.take (t + 1) = B1.take t ++ [y] := by rw [List.take_succ_eq_append_getElem htl, ey]
     have hU : kk = (P ++ B1.take t).length := by have := HK.out; have := HN.out; rw [List.length_append, List.length_take]; omega
     have hJ : kk + 1 = (P ++ B1.take t).length + 1 + ([] : List Wr).length := by rw [← hU]; rfl
     have e1 : (P ++ B1.take t) ++ x :: (B1.drop t ++ (B2 ++ S)) = (P ++ B1.take t) ++ x :: ([] ++ y :: (B1.drop (t + 1) ++ (B2 ++ S))) := by rw [dy]; rfl
     rw [e1] at hS
     obtain ⟨g1, g2⟩ := get_pair (P ++ B1.take t) [] (B1.drop (t + 1) ++ (B2 ++ S)) x y (i := kk) (j := kk + 1) hU hJ
     obtain ⟨W2, hrun, hS2, hT2⟩ := H.swap _ _ _ _ _ _ hS g1 g2
     rw [set_pair _ _ _ _ _ hU hJ] at hS2
     have e2 : (P ++ B1.take t) ++ y :: ([] ++ x :: (B1.drop (t + 1) ++ (B2 ++ S))) = (P ++ B1.take (t + 1)) ++ x :: (B1.drop (t + 1) ++ (B2 ++ S)) := by rw [ty]; simp
     rw [e2] at hS2
     have HS2 := Lib.hid hS2
     have HK2 : Hid (kk + 1 = a + (t + 1) ∧ t + 1 ≤ B1.length) := Lib.hid (by have := HK.out; omega)
     have HMS : Hid (kk + 1 ≤ c) := Lib.hid hlt
     have W1F := Lib.hid (w_one (a := kk) (by have := HK.out; have := HN.out; have := HIJ.out; have := HL1.out; omega))
     have hcast : ((kk : Int) + 1) = ((kk + 1 : Nat) : Int) := by omega
     rw [← hcast] at hrun
     clear htl hy ey dy ty hU hJ e1 g1 g2 e2 hS hS2 hcast
     obtain ⟨wc1, wc2⟩ := WC.out
     obtain ⟨f8, f9⟩ := W1F.out
     go_wp2
     clear wc1 wc2 f8 f9
     go_roundw
     case rel => exact ⟨t + 1, kk + 1, by go_num, HK2, HS2.out, hT.trans hT2⟩
     case measure => exact mi HMS.out
    ·have htl : t = B1.length := by have := HK.out; have := HC.out; omega
     have e1 : (P ++ B1.take t) ++ x :: (B1.drop t ++ (B2 ++ S)) = P ++ (B1 ++ [x] ++ B2) ++ S := by
      rw [htl, List.take_of_length_le (Nat.le_refl _), List.drop_eq_nil_of_le (Nat.le_refl _)]
      simp
     rw [e1] at hS
     have HS2 := Lib.hid hS
     clear htl e1 hS
     obtain ⟨wc1, wc2⟩ := WC.out
     go_wp2
     refine bodyPost_ret (results_none rfl _ _ _) rfl ?_
     refine ⟨rfl, B1 ++ [x] ++ B2, ?_, srd_left hO (by rw [← HBB.out]; exact sB) H1.out H2.out, HS2.out, hT1.trans hT⟩
     rw [HBB.out, ← List.append_assoc]
     exact List.Perm.append_right B2 List.perm_append_comm
end
end Go.Proofs.YtlpkpfpmcppciaaGreatDoor
end
