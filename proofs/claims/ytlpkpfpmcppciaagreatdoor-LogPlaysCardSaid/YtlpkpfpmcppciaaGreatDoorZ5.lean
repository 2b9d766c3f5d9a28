/- sort.stable_func.

A region that draws its order, by an invariant: each operation is looked at once, whatever came up ahead of it. Any program.

A region that draws its order and one of whose calls may throw: by an invariant, each operation looked at once. Any program.

A region that draws its order, its calls may throw: by an invariant, each operation looked at once; what has come up is closed under what it waits for. Any program.

The reference's order of writes, as sort.SliceStable asks it. Printed by gen_sless.py.

Plain facts on tables of keys: each key once, and of each which one it is. No program in sight. -/
import Derived.Test.YtlpkpfpmcppciaaGreatDoorZ4
import Derived.Orders
import Derived.Deep.RegionHeld
import Derived.KernelRfl
import Derived.Test.YtlpkpfpmcppciaaGreatDoorZ1
import Derived.Maps.Own
import Derived.Maps.OwnOps
import Derived.Maps.OwnSet
import Derived.Maps.Views
section
namespace Go.Proofs.YtlpkpfpmcppciaaGreatDoor
set_option linter.unusedSimpArgs false
set_option linter.unusedVariables false
open Go.RowKit
open Go.Sort (SWO)
/-- Sorted by blocks. -/
def Bk (lt : Wr → Wr → Bool) (bs : Nat) (l : List Wr) : Prop := ∀ k, Srd lt ((l.drop (k * bs)).take bs)
section
variable {lt : Wr → Wr → Bool}
theorem srd_nil : Srd lt [] := List.Pairwise.nil
theorem Bk.nil (bs : Nat) : Bk lt bs [] := fun k => by simp [srd_nil]
theorem Bk.snoc {bs k : Nat} {Q M : List Wr} (h : Bk lt bs Q) (hQ : Q.length = k * bs) (hM : Srd lt M) (hl : M.length ≤ bs) : Bk lt bs (Q ++ M) := by
 intro j
 rcases Nat.lt_trichotomy j k with hj | hj | hj
 ·have h1 : j * bs + bs ≤ Q.length := by
   rw [hQ]
   have := Nat.mul_le_mul_right bs (show j + 1 ≤ k from hj)
   rwa [Nat.add_mul, Nat.one_mul] at this
  rw [List.drop_append_of_le_length (by omega), List.take_append_of_le_length (by rw [List.length_drop]; omega)]
  exact h j
 ·subst hj
  rw [← hQ, List.drop_append_of_le_length (Nat.le_refl _), List.drop_eq_nil_of_le (Nat.le_refl _), List.nil_append, List.take_of_length_le hl]
  exact hM
 ·have h1 : (Q ++ M).length ≤ j * bs := by
   rw [List.length_append, hQ]
   have := Nat.mul_le_mul_right bs (show k + 1 ≤ j from hj)
   rw [Nat.add_mul, Nat.one_mul] at this
   omega
  rw [List.drop_eq_nil_of_le h1]
  simp [srd_nil]
theorem Bk.first {bs : Nat} {l : List Wr} (h : Bk lt bs l) : Srd lt (l.take bs) := by simpa using h 0
theorem Bk.rest {bs : Nat} {l : List Wr} (h : Bk lt bs l) : Bk lt bs (l.drop bs) := fun k => by
 rw [List.drop_drop]
 have := h (k + 1)
 rwa [Nat.add_mul, Nat.one_mul, Nat.add_comm] at this
theorem Bk.all {bs : Nat} {l : List Wr} (h : Bk lt bs l) (hl : l.length ≤ bs) : Srd lt l := by
 have := h.first
 rwa [List.take_of_length_le hl] at this
theorem Bk.cut {bs : Nat} {l A R : List Wr} (h : Bk lt bs l) (e : l = A ++ R) (hA : A.length = bs) : Srd lt A ∧ Bk lt bs R := by
 have h1 := h.first
 have h2 := h.rest
 rw [e, List.take_append_of_le_length (by omega), List.take_of_length_le (by omega)] at h1
 rw [e, List.drop_append_of_le_length (by omega), List.drop_eq_nil_of_le (by omega), List.nil_append] at h2
 exact ⟨h1, h2⟩
end
theorem w_20 {a : Nat} (ha : a ≤ 4000000) : IntKind.i64.wrap ((a : Int) + 20) = ((a + 20 : Nat) : Int) ∧ wrap64 ((a : Int) + 20) = ((a + 20 : Nat) : Int) := by
 rw [show (a : Int) + 20 = ((a + 20 : Nat) : Int) by omega]
 exact ⟨IntWalk.i64_in _ (by omega), IntWalk.wrap64_in _ (by omega)⟩
theorem w_mul2 {a c : Nat} (hc : c = 2 * a) (ha : c ≤ 8000000) : (IntKind.i64.wrap (2 * (a : Int)) = (c : Int) ∧ wrap64 (2 * (a : Int)) = (c : Int)) ∧ IntKind.i64.wrap ((a : Int) * 2) = (c : Int) ∧ wrap64 ((a : Int) * 2) = (c : Int) := by
 rw [show (2 : Int) * (a : Int) = (c : Int) by omega, show (a : Int) * 2 = (c : Int) by omega]
 exact ⟨⟨IntWalk.i64_in _ (by omega), IntWalk.wrap64_in _ (by omega)⟩, IntWalk.i64_in _ (by omega), IntWalk.wrap64_in _ (by omega)⟩
section
variable {lg : Nat} {lb : Array Value} {sf : Nat} {sb : Array Value} {g : Nat} {lt : Wr → Wr → Bool} {St : World → List Wr → Prop}
set_option maxHeartbeats 8000000 in
set_option maxRecDepth 100000 in
theorem stab_any (H : Srt lg lb sf sb g lt St) (hO : SWO lt) {W : World} {D0 : List Wr} {n : Nat} (hSt : St W D0) (hn : D0.length = n) :
  Calls Tryz.prog 88 #[lsV lg lb sf sb, .int .i64 (n : Int)] W fun e w' => e = .returned (.tuple #[]) ∧ ∃ M : List Wr, M.Perm D0 ∧ Srd lt M ∧ St w' M ∧ Turned (fun k => k = g) W w' := by
 have hbx := Box.new (lg := lg) (lb := lb) (sf := sf) (sb := sb) W (H.here _ _ hSt) 154
 have hS1 := H.alloc _ _ (.cells #[.func (.func lg) #[] lb, .func (.func sf) #[] sb] 154) hSt
 have hT1 : Turned (fun k => k = g) W (W.alloc (.cells #[.func (.func lg) #[] lb, .func (.func sf) #[] sb] 154)) := .of_below ((Below.refl _ _).alloc (Nat.le_refl _) _)
 have hsz := H.size _ _ hSt
 have HN : Hid (D0.length = n ∧ n ≤ 1000000) := Lib.hid ⟨hn, by omega⟩
 obtain ⟨bx, hbxe⟩ : ∃ x, x = W.heap.size := ⟨_, rfl⟩
 have HS1 := Lib.hid hS1
 clear hSt hn hsz hS1
 unfold lsV
 go_enter Tryz.func88, Tryz.ntmps88
 go_upto_region 1 with fail
 rw [← hbxe] at hbx ⊢
 clear hbxe
 generalize W.alloc (.cells #[.func (.func lg) #[] lb, .func (.func sf) #[] sb] 154) = W1 at *
 go_wp2
 go_loopw [5, 6] (fun va vb wr => ∃ (k a b : Nat) (Q R : List Wr), va = .int .i64 a ∧ vb = .int .i64 b ∧ Hid (a = k * 20 ∧ b = a + 20 ∧ Q.length = a) ∧ Hid (Bk lt 20 Q ∧ (Q ++ R).Perm D0) ∧ St wr (Q ++ R) ∧ Turned (fun q => q = g) W1 wr) (fun va _ _ => n + 20 - (intOf va).toNat)
 case atStart => exact ⟨0, 0, 20, [], D0, rfl, rfl, Lib.hid ⟨rfl, rfl, rfl⟩, Lib.hid ⟨Bk.nil 20, .refl _⟩, HS1.out, .refl _ _⟩
 case round =>
  clear HS1
  obtain ⟨k, a, b, Q, R, rfl, rfl, HA, HB, hS, hT⟩ := hrel
  obtain ⟨q0, q1, _⟩ := hbx.turned hT
  have hQR : Q.length + R.length = n := by have h1 := HB.out.2.length_eq; have h2 := HN.out.1; rw [List.length_append] at h1; omega
  by_cases hlt : b ≤ n
  ·obtain ⟨R1, R2, rfl, l1, l2⟩ := cut_at R 20 (by have := HA.out; omega)
   have e1 : Q ++ (R1 ++ R2) = Q ++ R1 ++ R2 := by simp
   rw [e1] at hS
   have hi := ins_any H hO (P := Q) (A := R1) (S := R2) (a := a) (b := b) hS HA.out.2.2 (by have := HA.out; omega)
   have HE := Lib.hid (And.intro e1 (And.intro l1 l2))
   have WB := Lib.hid (w_20 (a := b) (by have := HN.out; omega))
   have HMS : Hid (n + 20 - b < n + 20 - a) := Lib.hid (by have := HA.out; omega)
   unfold lsV at hi
   clear e1 l1 l2 hS hQR
   obtain ⟨wb1, wb2⟩ := WB.out
   go_wp2_with (go_at_call 119; refine hi.mono ?_; rintro r w2 ⟨rfl, M, hM, hsM, hS2, hT2⟩)
   clear wb1 wb2
   have HA2 : Hid (b = (k + 1) * 20 ∧ b + 20 = b + 20 ∧ (Q ++ M).length = b) := Lib.hid ⟨by have := HA.out; omega, rfl, by have := HA.out; have := hM.length_eq; have := HE.out; rw [List.length_append]; omega⟩
   have HB2 : Hid (Bk lt 20 (Q ++ M) ∧ (Q ++ M ++ R2).Perm D0) := Lib.hid ⟨HB.out.1.snoc (k := k) (by have := HA.out; omega) hsM (by have := hM.length_eq; have := HE.out; omega), ((List.Perm.append_right R2 (List.Perm.append_left Q hM)).trans (by rw [← HE.out.1]; exact HB.out.2))⟩
   go_roundw
   case rel => exact ⟨k + 1, b, b + 20, Q ++ M, R2, rfl, by go_num, HA2, HB2, hS2, hT.trans hT2⟩
   case measure => exact HMS.out
  ·have e1 : Q ++ R = Q ++ R ++ [] := by simp
   rw [e1] at hS
   have hi := ins_any H hO (P := Q) (A := R) (S := []) (a := a) (b := n) hS HA.out.2.2 (by have := HA.out; omega)
   have HR20 : Hid (R.length ≤ 20) := Lib.hid (by have := HA.out; omega)
   unfold lsV at hi
   clear e1 hS hQR
   go_wp2_with (go_at_call 119; refine hi.mono ?_; rintro r w2 ⟨rfl, M, hM, hsM, hS2, hT2⟩)
   have HB2 : Hid (Bk lt 20 (Q ++ M) ∧ (Q ++ M).Perm D0) := Lib.hid ⟨HB.out.1.snoc (k := k) (by have := HA.out; omega) hsM (by have := hM.length_eq; have := HR20.out; omega), (List.Perm.append_left Q hM).trans HB.out.2⟩
   rw [List.append_nil] at hS2
   have HS2 := Lib.hid hS2
   have hT3 := hT.trans hT2
   obtain ⟨D, hD⟩ : ∃ D, D = Q ++ M := ⟨_, rfl⟩
   rw [← hD] at HB2 HS2
   clear hM hsM hS2 hD HR20 HB HA hT hT2 q0 q1 hlt
   go_loopw [4, 5, 6, 7] (fun vs _ _ _ wx => ∃ (bs : Nat) (D : List Wr), vs = .int .i64 bs ∧ Hid (20 ≤ bs ∧ bs ≤ 2 * n + 20) ∧ Hid (Bk lt bs D ∧ D.Perm D0) ∧ St wx D ∧ Turned (fun q => q = g) W1 wx) (fun vs _ _ _ _ => n - (intOf vs).toNat)
   case atStart => exact ⟨20, D, rfl, Lib.hid ⟨Nat.le_refl _, by omega⟩, HB2, HS2.out, hT3⟩
   case round =>
    clear HB2 HS2 hT3
    obtain ⟨bs, D', rfl, HBS, HB, hS, hT⟩ := hrel
    by_cases hlt : bs < n
    ·obtain ⟨b2, hb2⟩ : ∃ b2, b2 = 2 * bs := ⟨_, rfl⟩
     have WM := Lib.hid (w_mul2 (a := bs) (c := b2) hb2 (by have := HN.out; omega))
     have HB2 := Lib.hid hb2
     have HLT := Lib.hid hlt
     have HSS := Lib.hid hS
     clear hb2 hS
     obtain ⟨⟨wm1, wm2⟩, wm3, wm4⟩ := WM.out
     go_wp2
     clear wm1 wm2 wm3 wm4
     go_loopw [5, 6] (fun va vb wx => ∃ (k a b : Nat) (Q R : List Wr), va = .int .i64 a ∧ vb = .int .i64 b ∧ Hid (a = k * b2 ∧ b = a + b2 ∧ Q.length = a ∧ a ≤ n) ∧ Hid (Bk lt b2 Q ∧ Bk lt bs R ∧ (Q ++ R).Perm D0) ∧ St wx (Q ++ R) ∧ Turned (fun q => q = g) W1 wx) (fun va _ _ => n + b2 - (intOf va).toNat)
     case atStart => exact ⟨0, 0, b2, [], D', rfl, rfl, Lib.hid ⟨by omega, by omega, rfl, by omega⟩, Lib.hid ⟨Bk.nil b2, HB.out.1, HB.out.2⟩, HSS.out, hT⟩
     case round =>
      clear HSS hT
      obtain ⟨k, a, b, Q, R, rfl, rfl, HA, HBB, hS, hT⟩ := hrel
      obtain ⟨q0, q1, _⟩ := hbx.turned hT
      have hQR : Q.length + R.length = n := by have h1 := HBB.out.2.2.length_eq; have h2 := HN.out.1; rw [List.length_append] at h1; omega
      by_cases hlb : b ≤ n
      ·obtain ⟨R12, R3, rfl, l1, l2⟩ := cut_at R b2 (by have := HA.out; omega)
       obtain ⟨R1, R2, rfl, l3, l4⟩ := cut_at R12 bs (by have := HB2.out; omega)
       have e0 : Q ++ (R1 ++ R2 ++ R3) = Q ++ R1 ++ R2 ++ R3 := by simp
       have e00 : R1 ++ R2 ++ R3 = R1 ++ (R2 ++ R3) := by simp
       have l5 : R2.length = bs := by have := HB2.out; omega
       obtain ⟨sR1, hb1⟩ := HBB.out.2.1.cut e00 l3
       obtain ⟨sR2, hb3⟩ := hb1.cut rfl l5
       rw [e0] at hS
       obtain ⟨m, hm⟩ : ∃ m, m = a + bs := ⟨_, rfl⟩
       have hy := sym_any H hO (R1.length + R2.length) (P := Q) (A := R1) (B := R2) (S := R3) (a := a) (m := m) (b := b) (Nat.le_refl _) hS HA.out.2.2.1 (by omega) (by have := HA.out; have := HB2.out; omega) (by have := HBS.out; omega) (by have := HBS.out; omega) sR1 sR2
       have HE := Lib.hid (And.intro e0 (And.intro l3 (And.intro l5 hb3)))
       have WM2 := Lib.hid (w_addN (a := a) (b := bs) (c := m) hm (by have := HA.out; have := HBS.out; have := HN.out; omega))
       have WB := Lib.hid (w_addN (a := b) (b := b2) (c := b + b2) rfl (by have := HB2.out; have := HBS.out; have := HLT.out; have := HN.out; omega))
       have HMS : Hid (n + b2 - b < n + b2 - a) := Lib.hid (by have := HA.out; have := HBS.out; have := HB2.out; omega)
       have HBN : Hid (b ≤ n) := Lib.hid hlb
       unfold lsV at hy
       clear e0 e00 l1 l2 l3 l4 l5 sR1 hb1 sR2 hb3 hm hS hQR
       obtain ⟨wa1, wa2⟩ := WM2.out
       obtain ⟨wb1, wb2⟩ := WB.out
       obtain ⟨⟨wm1, wm2⟩, wm3, wm4⟩ := WM.out
       go_wp2_with (go_at_call 120; refine hy.mono ?_; rintro r w2 ⟨rfl, M, hM, hsM, hS2, hT2⟩)
       clear wa1 wa2 wb1 wb2 wm1 wm2 wm3 wm4
       have hML := hM.length_eq
       rw [List.length_append] at hML
       have HA2 : Hid (b = (k + 1) * b2 ∧ b + b2 = b + b2 ∧ (Q ++ M).length = b ∧ b ≤ n) := Lib.hid ⟨by rw [Nat.add_mul, Nat.one_mul, ← HA.out.1]; exact HA.out.2.1, rfl, by have := HA.out; have := HE.out.2; have := HB2.out; rw [List.length_append]; omega, HBN.out⟩
       have HBB2 : Hid (Bk lt b2 (Q ++ M) ∧ Bk lt bs R3 ∧ (Q ++ M ++ R3).Perm D0) := Lib.hid ⟨HBB.out.1.snoc (k := k) (by rw [HA.out.2.2.1]; exact HA.out.1) hsM (by have := HE.out.2; have := HB2.out; omega), HE.out.2.2.2, by
        have h1 : (Q ++ M ++ R3).Perm (Q ++ (R1 ++ R2) ++ R3) := List.Perm.append_right R3 (List.Perm.append_left Q hM)
        refine h1.trans ?_
        rw [show Q ++ (R1 ++ R2) ++ R3 = Q ++ (R1 ++ R2 ++ R3) by simp]
        exact HBB.out.2.2⟩
       clear hML
       go_roundw
       case rel => exact ⟨k + 1, b, b + b2, Q ++ M, R3, rfl, by go_num, HA2, HBB2, hS2, hT.trans hT2⟩
       case measure => exact HMS.out
      ·obtain ⟨m, hm⟩ : ∃ m, m = a + bs := ⟨_, rfl⟩
       have WM2 := Lib.hid (w_addN (a := a) (b := bs) (c := m) hm (by have := HA.out; have := HBS.out; have := HN.out; omega))
       have HMS2 : Hid (n - b2 < n - bs) := Lib.hid (by have := HB2.out; have := HLT.out; have := HBS.out; omega)
       have HBS2 : Hid (20 ≤ b2 ∧ b2 ≤ 2 * n + 20) := Lib.hid (by have := HB2.out; have := HLT.out; have := HBS.out; omega)
       by_cases hmn : m < n
       ·obtain ⟨R1, R2, rfl, l3, l4⟩ := cut_at R bs (by have := HA.out; omega)
        obtain ⟨sR1, hb1⟩ := HBB.out.2.1.cut rfl l3
        have e0 : Q ++ (R1 ++ R2) = Q ++ R1 ++ R2 ++ [] := by simp
        have hlen : (R1 ++ R2).length = R1.length + R2.length := List.length_append
        have hR2 : R2.length ≤ bs ∧ 0 < R2.length := by have := HA.out; have := HB2.out; omega
        have sR2 := hb1.all hR2.1
        rw [e0] at hS
        have hy := sym_any H hO (R1.length + R2.length) (P := Q) (A := R1) (B := R2) (S := []) (a := a) (m := m) (b := n) (Nat.le_refl _) hS HA.out.2.2.1 (by omega) (by have := HA.out; omega) (by have := HBS.out; omega) hR2.2 sR1 sR2
        have HL := Lib.hid (And.intro l3 hR2)
        unfold lsV at hy
        clear sR1 hb1 e0 sR2 hR2 l3 l4 hm hS hQR hlen
        obtain ⟨wa1, wa2⟩ := WM2.out
        obtain ⟨⟨wm1, wm2⟩, wm3, wm4⟩ := WM.out
        go_wp2_with (go_at_call 120; refine hy.mono ?_; rintro r w2 ⟨rfl, M, hM, hsM, hS2, hT2⟩)
        clear wa1 wa2 wm1 wm2 wm3 wm4
        have hML := hM.length_eq
        rw [List.length_append] at hML
        have HBB2 : Hid (Bk lt b2 (Q ++ M) ∧ (Q ++ M).Perm D0) := Lib.hid ⟨HBB.out.1.snoc (k := k) (by rw [HA.out.2.2.1]; exact HA.out.1) hsM (by have := HL.out; have := HB2.out; omega), (List.Perm.append_left Q hM).trans HBB.out.2.2⟩
        rw [List.append_nil] at hS2
        clear hML
        go_roundw
        case rel => exact ⟨b2, Q ++ M, rfl, HBS2, HBB2, hS2, hT.trans hT2⟩
        case measure => exact HMS2.out
       ·have sR := HBB.out.2.1.all (by have := HA.out; omega)
        have HBB2 : Hid (Bk lt b2 (Q ++ R) ∧ (Q ++ R).Perm D0) := Lib.hid ⟨HBB.out.1.snoc (k := k) (by rw [HA.out.2.2.1]; exact HA.out.1) sR (by have := HA.out; have := HB2.out; omega), HBB.out.2.2⟩
        have HSS := Lib.hid hS
        clear sR hm hS hQR
        obtain ⟨wa1, wa2⟩ := WM2.out
        obtain ⟨⟨wm1, wm2⟩, wm3, wm4⟩ := WM.out
        go_wp2
        clear wa1 wa2 wm1 wm2 wm3 wm4
        go_roundw
        case rel => exact ⟨b2, Q ++ R, rfl, HBS2, HBB2, HSS.out, hT⟩
        case measure => exact HMS2.out
    ·have hsD := HB.out.1.all (by have h1 := HB.out.2.length_eq; have h2 := HN.out.1; omega)
     have HSD := Lib.hid hsD
     have HSS := Lib.hid hS
     clear hsD hS
     go_wp2
     go_end0
     exact ⟨rfl, D', HB.out.2, HSD.out, HSS.out, hT1.trans hT⟩
end
end Go.Proofs.YtlpkpfpmcppciaaGreatDoor
end

section
namespace Go.Proofs.YtlpkpfpmcppciaaGreatDoor.Flow
open Go
section
variable {P : Program} {ops : Array Oper} {Q : Exit → Act → World → Prop} {md : Region.Mode}
/-- Each operation waits for earlier ones alone. -/
def lexB (ops : Array Oper) : Bool := (List.range ops.size).all fun i => match ops[i]? with
 | some o => o.guard.isNone && o.after.all fun e => decide (e.on < i)
 | none => true
theorem getD_in {L : Array Bool} {i : Nat} (h : i < L.size) (d d' : Bool) : L.getD i d = L.getD i d' := by simp [Array.getD, h]
/-- How many have not come up. -/
def left (L : Array Bool) : Nat := L.toList.countP (! ·)
theorem left_set {L : Array Bool} {i : Nat} (h : L.getD i true = false) : left (L.setIfInBounds i true) + 1 = left L := by
 obtain ⟨l⟩ := L
 unfold left
 simp only [List.setIfInBounds_toArray]
 have h' : l[i]? = some false := by
  rcases Nat.lt_or_ge i l.length with hi | hi
  ·simp [Array.getD, hi] at h
   rw [List.getElem?_eq_getElem hi, h]
  ·simp [Array.getD, Nat.not_lt.2 hi] at h
 clear h
 induction l generalizing i with
 | nil => simp at h'
 | cons x l ih =>
  cases i with
  | zero => simp at h'; subst h'; simp
  | succ i =>
   simp at h'
   have := ih h'
   simp only [List.set_cons_succ, List.countP_cons]
   omega
theorem left_zero {L : Array Bool} (h : left L = 0) (i : Nat) : L.getD i true = true := by
 obtain ⟨l⟩ := L
 unfold left at h
 simp only at h
 rcases hl : l[i]? with _ | b
 ·simp [Array.getD]; intro hi; rw [List.getElem?_eq_getElem hi] at hl; cases hl
 ·have hm := List.mem_of_getElem? hl
  have := List.countP_eq_zero.1 h b hm
  obtain ⟨hi, e⟩ := List.getElem?_eq_some_iff.1 hl
  simp [Array.getD, hi, e]
  simpa using this
theorem wpAny_inv (I : Array Bool → Act → World → Prop)
  (hstep : ∀ L a w i o, L.size = ops.size → I L a w → ops[i]? = some o → L.getD i true = false → (∀ e ∈ o.after, Region.binds md e = true → L.getD e.on false = true) → wpOp P ops Q i (fun a' w' => I (L.setIfInBounds i true) a' w') a w)
  (hdone : ∀ L a w, L.size = ops.size → I L a w → Region.ready md ops L = [] → Q .normal a w) :
  ∀ (fuel : Nat) L a w, L.size = ops.size → I L a w → left L ≤ fuel → wpAny P md ops Q fuel L a w := by
 intro fuel
 induction fuel with
 | zero =>
  intro L a w hs hI hf
  have hr : Region.ready md ops L = [] := by
   rw [List.eq_nil_iff_forall_not_mem]
   intro i hi
   have h1 := (mem_ready.1 hi).1
   rw [left_zero (by omega) i] at h1
   cases h1
  exact ⟨hr, hdone L a w hs hI hr⟩
 | succ fuel ih =>
  intro L a w hs hI hf
  refine ⟨fun hr => hdone L a w hs hI hr, fun i hi => ?_⟩
  obtain ⟨h1, o, ho, h2⟩ := mem_ready.1 hi
  refine wpOp_mono (fun a' w' h => ih _ a' w' (by simpa using hs) h (by have := left_set h1; omega)) (hstep L a w i o hs hI ho h1 h2)
def fill (f : Nat → Value → Value) : Nat → List Value → List Value
 | _, [] => []
 | n, x :: l => f n x :: fill f (n + 1) l
theorem fill_get (f : Nat → Value → Value) (l : List Value) (n t : Nat) : (fill f n l)[t]? = l[t]?.map (f (n + t)) := by
 induction l generalizing n t with
 | nil => simp [fill]
 | cons x l ih =>
  cases t with
  | zero => simp [fill]
  | succ t => simp only [fill, List.getElem?_cons_succ, ih]; rw [show n + 1 + t = n + (t + 1) by omega]
/-- Which operation writes a slot. -/
def who (ops : Array Oper) (t : Nat) : Option Nat := ops.toList.findIdx? fun o => o.dst == some t
def slot (ops : Array Oper) (v : Nat → Value) (L : Nat → Bool) (t : Nat) (x : Value) : Value :=
 match who ops t with
 | some i => if L i then v i else x
 | none => x
/-- The frame once the operations of L have come up. -/
def frame (ops : Array Oper) (a0 : Act) (v : Nat → Value) (L : Nat → Bool) : Act := { a0 with tmps := (fill (slot ops v L) 0 a0.tmps.toList).toArray }
theorem who_some {t i : Nat} (h : who ops t = some i) : ∃ o, ops[i]? = some o ∧ o.dst = some t := by
 unfold who at h
 obtain ⟨hi, h1, _⟩ := List.findIdx?_eq_some_iff_getElem.1 h
 exact ⟨ops[i]'(by simpa using hi), Array.getElem?_eq_getElem (by simpa using hi), by simpa using h1⟩
theorem frame_at (a0 : Act) (v : Nat → Value) (L : Nat → Bool) (t : Nat) : (frame ops a0 v L).tmps[t]? = a0.tmps[t]?.map (slot ops v L t) := by
 unfold frame
 simp only [List.getElem?_toArray, fill_get, Nat.zero_add]
 simp
theorem frame_dst {a0 : Act} {v : Nat → Value} {L : Nat → Bool} {t i : Nat} (hw : who ops t = some i) (ht : t < a0.tmps.size) (hL : L i = true) : (frame ops a0 v L).eval (.tmp t) = v i := by
 show (frame ops a0 v L).tmps.getD t undef = v i
 rw [Array.getD_eq_getD_getElem?, frame_at, Array.getElem?_eq_getElem ht]
 simp [slot, hw, hL]
theorem frame_not {a0 : Act} {v : Nat → Value} {L : Nat → Bool} {t i : Nat} (hw : who ops t = some i) (hL : L i = false) : (frame ops a0 v L).eval (.tmp t) = a0.eval (.tmp t) := by
 show (frame ops a0 v L).tmps.getD t undef = a0.tmps.getD t undef
 rw [Array.getD_eq_getD_getElem?, Array.getD_eq_getD_getElem?, frame_at]
 cases a0.tmps[t]? <;> simp [slot, hw, hL]
theorem frame_old {a0 : Act} {v : Nat → Value} {L : Nat → Bool} {t : Nat} (hw : who ops t = none) : (frame ops a0 v L).eval (.tmp t) = a0.eval (.tmp t) := by
 show (frame ops a0 v L).tmps.getD t undef = a0.tmps.getD t undef
 rw [Array.getD_eq_getD_getElem?, Array.getD_eq_getD_getElem?, frame_at]
 cases a0.tmps[t]? <;> simp [slot, hw]
/-- Each slot is written by one operation. -/
def okB (ops : Array Oper) : Bool := (List.range ops.size).all fun i => match ops[i]? with
 | some o => (match o.dst with
  | some t => who ops t == some i
  | none => true)
 | none => true
theorem ok_of (h : okB ops = true) {i t : Nat} {o : Oper} (ho : ops[i]? = some o) (ht : o.dst = some t) : who ops t = some i := by
 have hi := (Array.getElem?_eq_some_iff.1 ho).1
 have := List.all_eq_true.1 h i (List.mem_range.2 hi)
 rw [ho] at this
 simp only [ht] at this
 simpa using this
theorem frame_put (hok : okB ops = true) {a0 : Act} {v v' : Nat → Value} {L : Nat → Bool} {i : Nat} {o : Oper} (ho : ops[i]? = some o) (hv : ∀ j, L j = true → v' j = v j) :
  (frame ops a0 v L).put o.dst (v' i) = frame ops a0 v' (fun j => j == i || L j) := by
 have key : ∀ t x, o.dst ≠ some t → slot ops v L t x = slot ops v' (fun j => j == i || L j) t x := by
  intro t x hne
  unfold slot
  rcases hw : who ops t with _ | j
  ·rfl
  ·simp only
   have hji : j ≠ i := by
    rintro rfl
    obtain ⟨o', ho', hd⟩ := who_some hw
    rw [ho] at ho'
    injection ho' with ho'
    subst ho'
    exact hne hd
   have hb : (j == i) = false := by simpa using hji
   simp only [hb, Bool.false_or]
   cases hL : L j with
   | false => simp
   | true => simp [hv j hL]
 rcases hd : o.dst with _ | d
 ·unfold Act.put
  simp only
  unfold frame
  congr 1
  apply Array.ext_getElem?
  intro t
  have h1 := frame_at (ops := ops) a0 v L t
  have h2 := frame_at (ops := ops) a0 v' (fun j => j == i || L j) t
  unfold frame at h1 h2
  rw [h1, h2]
  cases a0.tmps[t]? with
  | none => rfl
  | some x => simp only [Option.map_some]; rw [key t x (by rw [hd]; simp)]
 ·have hw := ok_of hok ho hd
  have e : (frame ops a0 v L).tmps.setIfInBounds d (v' i) = (frame ops a0 v' (fun j => j == i || L j)).tmps := by
   apply Array.ext_getElem?
   intro t
   rw [Array.getElem?_setIfInBounds, frame_at]
   have hsz : (frame ops a0 v L).tmps.size = a0.tmps.size := by
    apply Nat.le_antisymm
    ·rcases Nat.lt_or_ge a0.tmps.size (frame ops a0 v L).tmps.size with h | h
     ·have := frame_at (ops := ops) a0 v L a0.tmps.size
      rw [Array.getElem?_eq_getElem h, Array.getElem?_eq_none (Nat.le_refl _)] at this
      cases this
     ·exact h
    ·rcases Nat.lt_or_ge (frame ops a0 v L).tmps.size a0.tmps.size with h | h
     ·have := frame_at (ops := ops) a0 v L (frame ops a0 v L).tmps.size
      rw [Array.getElem?_eq_none (Nat.le_refl _), Array.getElem?_eq_getElem h] at this
      cases this
     ·exact h
   rw [frame_at, hsz]
   by_cases ht : d = t
   ·subst ht
    rw [if_pos rfl]
    by_cases hlt : d < a0.tmps.size
    ·rw [if_pos hlt, Array.getElem?_eq_getElem hlt]
     simp [slot, hw]
    ·rw [if_neg hlt, Array.getElem?_eq_none (Nat.not_lt.1 hlt)]; rfl
   ·rw [if_neg ht]
    cases a0.tmps[t]? with
    | none => rfl
    | some x => simp only [Option.map_some]; rw [key t x (by rw [hd]; intro h; injection h with h; exact ht h)]
  show ({ frame ops a0 v L with tmps := (frame ops a0 v L).tmps.setIfInBounds d (v' i) } : Act) = _
  rw [e]
  rfl
theorem frame_all {a0 : Act} {v : Nat → Value} {L : Nat → Bool} (h : ∀ i, i < ops.size → L i = true) : frame ops a0 v L = frame ops a0 v (fun _ => true) := by
 unfold frame
 congr 1
 apply Array.ext_getElem?
 intro t
 have h1 := frame_at (ops := ops) a0 v L t
 have h2 := frame_at (ops := ops) a0 v (fun _ => true) t
 unfold frame at h1 h2
 rw [h1, h2]
 cases a0.tmps[t]? with
 | none => rfl
 | some x =>
  simp only [Option.map_some]
  congr 1
  unfold slot
  rcases hw : who ops t with _ | j
  ·rfl
  ·simp only
   obtain ⟨o, ho, _⟩ := who_some hw
   rw [h j (Array.getElem?_eq_some_iff.1 ho).1]
   simp
theorem frame_none {a0 : Act} {v : Nat → Value} : frame ops a0 v (fun _ => false) = a0 := by
 obtain ⟨t0, d0⟩ := a0
 unfold frame
 congr 1
 apply Array.ext_getElem?
 intro t
 have h1 := frame_at (ops := ops) ⟨t0, d0⟩ v (fun _ => false) t
 unfold frame at h1
 rw [h1]
 cases t0[t]? with
 | none => rfl
 | some x =>
  simp only [Option.map_some]
  congr 1
  unfold slot
  split <;> simp
/-- The frame behind all operations, put by put. -/
def putAll (v : Nat → Value) : Nat → List Oper → Act → Act
 | _, [], a => a
 | i, o :: l, a => putAll v (i + 1) l (a.put o.dst (v i))
theorem putAll_from (hok : okB ops = true) {a0 : Act} {v : Nat → Value} (l pre : List Oper) (h : ops.toList = pre ++ l) : putAll v pre.length l (frame ops a0 v (fun j => decide (j < pre.length))) = frame ops a0 v (fun j => decide (j < ops.size)) := by
 induction l generalizing pre with
 | nil =>
  have : ops.size = pre.length := by rw [← Array.length_toList, h, List.append_nil]
  rw [this]
  rfl
 | cons o l ih =>
  have ho : ops[pre.length]? = some o := by rw [← Array.getElem?_toList, h, List.getElem?_append_right (Nat.le_refl _), Nat.sub_self]; rfl
  have e : (fun j => j == pre.length || decide (j < pre.length)) = fun j => decide (j < (pre ++ [o]).length) := by
   funext j
   rw [List.length_append, List.length_singleton]
   by_cases h1 : j = pre.length
   ·subst h1; simp
   ·have hb : (j == pre.length) = false := by simpa using h1
    rw [hb, Bool.false_or, decide_eq_decide]; omega
  have hp := frame_put hok (a0 := a0) (v := v) (v' := v) (L := fun j => decide (j < pre.length)) ho (fun _ _ => rfl)
  rw [e] at hp
  show putAll v (pre.length + 1) l ((frame ops a0 v (fun j => decide (j < pre.length))).put o.dst (v pre.length)) = _
  rw [hp]
  have := ih (pre ++ [o]) (by rw [h, List.append_assoc]; rfl)
  rw [List.length_append, List.length_singleton] at this ⊢
  exact this
theorem putAll_all (hok : okB ops = true) {a0 : Act} {v : Nat → Value} : frame ops a0 v (fun _ => true) = putAll v 0 ops.toList a0 := by
 have h := putAll_from hok (a0 := a0) (v := v) ops.toList [] rfl
 have e : (fun j : Nat => decide (j < ([] : List Oper).length)) = fun _ => false := by funext j; simp
 rw [e, frame_none] at h
 rw [show ([] : List Oper).length = 0 from rfl] at h
 rw [h]
 exact (frame_all (L := fun j => decide (j < ops.size)) (fun i hi => by simpa using hi)).symm
/-- What is asked of each operation. -/
def Steps (X : Nat → Oper → Prop) : Nat → List Oper → Prop
 | _, [] => True
 | i, o :: l => X i o ∧ Steps X (i + 1) l
theorem Steps.at_ {X : Nat → Oper → Prop} {l : List Oper} {n : Nat} (h : Steps X n l) {i : Nat} {o : Oper} (ho : l[i]? = some o) : X (n + i) o := by
 induction l generalizing n i with
 | nil => simp at ho
 | cons x l ih =>
  cases i with
  | zero => simp at ho; subst ho; exact h.1
  | succ i =>
   have := ih h.2 (i := i) (by simpa using ho)
   rw [show n + 1 + i = n + (i + 1) by omega] at this
   exact this
/-- All slots that are written are there. -/
def fitB (ops : Array Oper) (n : Nat) : Bool := ops.toList.all fun o => match o.dst with
 | some t => decide (t < n)
 | none => true
theorem fit_of {n t j : Nat} (h : fitB ops n = true) (hw : who ops t = some j) : t < n := by
 obtain ⟨o, ho, hd⟩ := who_some hw
 have := List.all_eq_true.1 h o (by rw [← Array.getElem?_toList] at ho; exact List.mem_of_getElem? ho)
 simp only [hd] at this
 exact of_decide_eq_true this
/-- What is asked of an operation's outcome. -/
def Yl (P : Program) (K : Value → World → Prop) : Result Next → Prop
 | .ok (.value v) w => K v w
 | .ok .skip w => K undef w
 | .ok (.enter f args) w => Calls P f args w fun e w' => ∃ v, e = .returned v ∧ K v w'
 | _ => False
theorem Yl.upon {K : Value → World → Prop} {r : Result Next} (h : Yl P K r) {o : Oper} {a : Act} {K' : Act → World → Prop} (hK : ∀ v w, K v w → K' (a.put o.dst v) w) : o.upon P a K' Q r := by
 cases r with
 | ok n w =>
  cases n with
  | value v => exact hK _ _ h
  | skip => exact hK _ _ h
  | enter f args => exact Calls.mono h fun e w' he => by obtain ⟨v, rfl, h⟩ := he; exact hK _ _ h
  | _ => exact absurd h (fun h => h)
 | halt x w => exact absurd h (fun h => h)
end
end Go.Proofs.YtlpkpfpmcppciaaGreatDoor.Flow
end

section
namespace Go.Proofs.YtlpkpfpmcppciaaGreatDoor.Flow
open Go
section
variable {P : Program} {ops : Array Oper} {Q : Exit → Act → World → Prop} {md : Region.Mode}
/-- What is asked of an operation's outcome, a call's panic let through. -/
def YlP (P : Program) (Z : List PanicEntry → World → Prop) (K : Value → World → Prop) : Result Next → Prop
 | .ok (.value v) w => K v w
 | .ok .skip w => K undef w
 | .ok (.enter f args) w => Calls P f args w fun e w' => (∃ v, e = .returned v ∧ K v w') ∨ ∃ ch, e = .panicked ch ∧ Z ch w'
 | .halt (.panic v) w => Z [{ v, recovered := false }] w
 | _ => False
variable {Z : List PanicEntry → World → Prop}
theorem ylP_value {K : Value → World → Prop} {v : Value} {w : World} : YlP P Z K (.ok (.value v) w) = K v w := rfl
theorem ylP_skip {K : Value → World → Prop} {w : World} : YlP P Z K (.ok .skip w) = K undef w := rfl
theorem ylP_enter {K : Value → World → Prop} {f : FuncId} {args : Array Value} {w : World} : YlP P Z K (.ok (.enter f args) w) = Calls P f args w fun e w' => (∃ v, e = .returned v ∧ K v w') ∨ ∃ ch, e = .panicked ch ∧ Z ch w' := rfl
theorem ylP_panic {K : Value → World → Prop} {v : Value} {w : World} : YlP P Z K (.halt (.panic v) w) = Z [{ v, recovered := false }] w := rfl
theorem YlP.upon {K : Value → World → Prop} {r : Result Next} (h : YlP P Z K r) {o : Oper} {a : Act} {K' : Act → World → Prop} (hK : ∀ v w, K v w → K' (a.put o.dst v) w) (hZ : ∀ ch w, Z ch w → Q (.panic ch) a w) : o.upon P a K' Q r := by
 cases r with
 | ok n w =>
  cases n with
  | value v => exact hK _ _ h
  | skip => exact hK _ _ h
  | enter f args =>
   refine Calls.mono h fun e w' he => ?_
   rcases he with ⟨v, rfl, h⟩ | ⟨ch, rfl, h⟩
   ·exact hK _ _ h
   ·exact hZ _ _ h
  | _ => exact absurd h (fun h => h)
 | halt x w =>
  cases x with
  | panic v => exact hZ _ _ h
  | _ => exact absurd h (fun h => h)
end
end Go.Proofs.YtlpkpfpmcppciaaGreatDoor.Flow
end

section
namespace Go.Proofs.YtlpkpfpmcppciaaGreatDoor.Flow
open Go
section
variable {P : Program} {ops : Array Oper} {Q : Exit → Act → World → Prop} {Z : List PanicEntry → World → Prop}
/-- Each operation waits for earlier ones alone. -/
def lexG (ops : Array Oper) : Bool := (List.range ops.size).all fun i => match ops[i]? with
 | some o => o.guard.isNone && o.after.toList.all fun e => !Region.binds .any e || decide (e.on < i)
 | none => true
theorem lexG_of (h : lexG ops = true) {i : Nat} {o : Oper} (ho : ops[i]? = some o) : o.guard = none ∧ ∀ e ∈ o.after, Region.binds .any e = true → e.on < i := by
 have hi := (Array.getElem?_eq_some_iff.1 ho).1
 have := List.all_eq_true.1 h i (List.mem_range.2 hi)
 rw [ho] at this
 simp only [Bool.and_eq_true, Option.isNone_iff_eq_none] at this
 refine ⟨this.1, fun e he hb => ?_⟩
 have h2 := List.all_eq_true.1 this.2 e (by simpa using he)
 rw [hb] at h2
 simpa using h2
theorem allG_of_ready (hlex : lexG ops = true) {L : Array Bool} (hs : L.size = ops.size) (h : Region.ready .any ops L = []) (i : Nat) : i < ops.size → L.getD i false = true := by
 induction i using Nat.strongRecOn with
 | ind i ih =>
  intro hi
  rcases hb : L.getD i false with _ | _
  ·exfalso
   have hm : i ∈ Region.ready .any ops L := mem_ready.2 ⟨by rw [getD_in (by omega) true false]; exact hb, ops[i], Array.getElem?_eq_getElem hi, fun e he hbe => ih e.on ((lexG_of hlex (Array.getElem?_eq_getElem hi)).2 e he hbe) (by have := (lexG_of hlex (Array.getElem?_eq_getElem hi)).2 e he hbe; omega)⟩
   rw [h] at hm
   cases hm
  ·rfl
/-- What has come up is closed under what it waits for. -/
def Closed (ops : Array Oper) (L : Nat → Bool) : Prop := ∀ i o, ops[i]? = some o → L i = true → ∀ e ∈ o.after, Region.binds .any e = true → L e.on = true
/-- Operation i waits for j, at last. -/
def reach (ops : Array Oper) : Nat → Nat → Nat → Bool
 | 0, i, j => i == j
 | f + 1, i, j => i == j || match ops[i]? with
  | some o => o.after.toList.any fun e => Region.binds .any e && reach ops f e.on j
  | none => false
theorem Closed.reach {L : Nat → Bool} (h : Closed ops L) : ∀ (f i j : Nat), reach ops f i j = true → L i = true → L j = true := by
 intro f
 induction f with
 | zero => intro i j hr hl; rw [beq_iff_eq.1 hr] at hl; exact hl
 | succ f ih =>
  intro i j hr hl
  unfold Flow.reach at hr
  rcases Bool.or_eq_true_iff.1 hr with hr | hr
  ·rw [beq_iff_eq.1 hr] at hl; exact hl
  ·cases ho : ops[i]? with
   | none => rw [ho] at hr; cases hr
   | some o =>
    rw [ho] at hr
    simp only [List.any_eq_true, Bool.and_eq_true] at hr
    obtain ⟨e, he, hb, hr⟩ := hr
    exact ih _ _ hr (h i o ho hl e (by simpa using he) hb)
def Step4 {G : Type} (P : Program) (ops : Array Oper) (a0 : Act) (v : G → Nat → Value) (C : G → (Nat → Bool) → World → Prop) (Z : List PanicEntry → World → Prop) (i : Nat) (o : Oper) : Prop :=
 ∀ (g : G) (L : Nat → Bool) (w : World) (K : Value → World → Prop) (ρ : Operand → Value),
  (∀ x, ρ (.const x) = x) → (∀ f, ρ (.func f) = .func (.func f) #[] #[]) → (∀ t j, who ops t = some j → L j = true → ρ (.tmp t) = v g j) → (∀ t, who ops t = none → ρ (.tmp t) = a0.eval (.tmp t)) →
  (∀ t j, who ops t = some j → L j = false → ρ (.tmp t) = a0.eval (.tmp t)) →
  (∀ i j, reach ops ops.size i j = true → L i = true → L j = true) →
  L i = false → (∀ e ∈ o.after, Region.binds .any e = true → L e.on = true) → C g L w →
  (∀ g' w', C g' (fun j => j == i || L j) w' → (∀ j, L j = true → v g' j = v g j) → K (v g' i) w') → YlP P Z K ((execOp ρ o).run P w)
theorem wp_region_go {G : Type} {id : Nat} {l : List Oper} {a0 : Act} {w0 : World} (hm : P.follows .mixedOrders = true) (hlex : lexG l.toArray = true) (hok : okB l.toArray = true) (n : Nat) (hn : a0.tmps.size = n) (hfit : fitB l.toArray n = true)
  (v : G → Nat → Value) (C : G → (Nat → Bool) → World → Prop) (Z : List PanicEntry → World → Prop) (g0 : G) (h0 : C g0 (fun _ => false) w0.drew)
  (hstep : Steps (Step4 P l.toArray a0 v C Z) 0 l) (hthrow : ∀ g L ch w, Z ch w → Q (.panic ch) (frame l.toArray a0 (v g) L) w)
  (hdone : ∀ g L w, (∀ i, i < l.length → L i = true) → C g L w → Q .normal (putAll (v g) 0 l a0) w) :
  (Code.region id l.toArray true).wp P Q a0 w0 := by
 refine wp_region_any hm ?_
 refine wpAny_inv (fun L a w => ∃ g, a = frame l.toArray a0 (v g) (fun i => L.getD i false) ∧ Closed l.toArray (fun i => L.getD i false) ∧ C g (fun i => L.getD i false) w) ?_ ?_ _ _ _ _ (by simp) ?_ ?_
 ·rintro L a w i o hs ⟨g, rfl, hcl, hC⟩ ho hi hd
  have hst := hstep.at_ (i := i) (o := o) (by simpa using ho)
  rw [Nat.zero_add] at hst
  have hin : i < L.size := by rw [hs]; exact (Array.getElem?_eq_some_iff.1 ho).1
  have hi' : L.getD i false = false := by rw [getD_in hin false true]; exact hi
  have hfun : (fun j => (L.setIfInBounds i true).getD j false) = fun j => j == i || L.getD j false := by
   funext j
   by_cases hj : j = i
   ·subst hj
    simp [Array.getD, hin]
   ·have hb : (j == i) = false := by simpa using hj
    rw [hb, Bool.false_or]
    simp only [Array.getD_eq_getD_getElem?, Array.getElem?_setIfInBounds]
    rw [if_neg (fun e => hj e.symm)]
  unfold wpOp
  rw [ho]
  simp only
  rw [if_pos (by simp [Region.wanted, (lexG_of hlex ho).1])]
  refine .inl (YlP.upon (hst g _ w (fun u w' => ∃ g', u = v g' i ∧ C g' (fun j => j == i || L.getD j false) w' ∧ ∀ j, L.getD j false = true → v g' j = v g j) _ (fun _ => rfl) (fun _ => rfl) (fun t j h1 h2 => frame_dst h1 (by rw [hn]; exact fit_of hfit h1) h2) (fun t h1 => frame_old h1) (fun t j h1 h2 => frame_not h1 h2) (fun i j => hcl.reach _ i j) hi' hd hC (fun g' w' h1 h2 => ⟨g', rfl, h1, h2⟩)) ?_ (fun ch w' hz => hthrow g _ ch w' hz))
  rintro u w' ⟨g', rfl, hC', hv⟩
  refine ⟨g', ?_, ?_, ?_⟩
  ·rw [hfun]; exact frame_put hok ho hv
  ·rw [hfun]
   intro j oj hoj hlj e he hb
   simp only [Bool.or_eq_true, beq_iff_eq] at hlj ⊢
   rcases hlj with rfl | hlj
   ·rw [ho] at hoj
    injection hoj with hoj
    subst hoj
    exact .inr (hd e he hb)
   ·exact .inr (hcl j oj hoj hlj e he hb)
  ·rw [hfun]; exact hC'
 ·rintro L a w hs ⟨g, rfl, _, hC⟩ hr
  have hall := allG_of_ready hlex hs hr
  rw [frame_all hall, putAll_all hok]
  exact hdone g _ w (fun i hi => hall i (by simpa using hi)) hC
 ·have hz : (fun i => (Array.replicate l.toArray.size false).getD i false) = fun _ => false := by
   funext i
   simp [Array.getD]
  refine ⟨g0, ?_, ?_, ?_⟩
  ·rw [hz, frame_none]
  ·rw [hz]; intro i o _ h; cases h
  ·rw [hz]; exact h0
 ·unfold left
  simp only [Array.toList_replicate]
  exact Nat.le_trans List.countP_le_length (by simp)
end
end Go.Proofs.YtlpkpfpmcppciaaGreatDoor.Flow
end

section
namespace Go.Proofs.YtlpkpfpmcppciaaGreatDoor
set_option linter.unusedSimpArgs false
set_option linter.unusedVariables false
open Go.RowKit
def wlt (x y : Wr) : Bool := decide (idCmp (x.1, x.2.1) (y.1, y.2.1) < 0)
def slV (i j gv b n c : Nat) (x y : Wr) (g : Unit) : Nat → Value
 | 0 => .slice (some ⟨b, 0, none⟩) n c
 | 1 => .int .i64 (i : Int)
 | 2 => .pointer (some ⟨b, i * 6, none⟩)
 | 3 => .pointer (some ⟨b, i * 6, none⟩)
 | 4 => .agg #[.int .i64 x.1, .int .i64 x.2.1]
 | 5 => .slice (some ⟨b, 0, none⟩) n c
 | 6 => .int .i64 (j : Int)
 | 7 => .pointer (some ⟨b, j * 6, none⟩)
 | 8 => .pointer (some ⟨b, j * 6, none⟩)
 | 9 => .agg #[.int .i64 y.1, .int .i64 y.2.1]
 | 10 => .int .i64 (idCmp (x.1, x.2.1) (y.1, y.2.1))
 | 11 => .bool (wlt x y)
 | 12 => .bool (wlt x y)
 | _ => undef
set_option maxHeartbeats 2000000 in
set_option maxRecDepth 100000 in
theorem sless_any {W : World} {gv b n c : Nat} {D : List Wr} {B : Nat} (ho : W.ownsRow B 32 6 (.slice (some ⟨b, 0, none⟩) n c) n (D.flatMap wrCells)) (hD : D.length = n) (cv : W.cell? ⟨gv, 0, none⟩ = some (.slice (some ⟨b, 0, none⟩) n c)) {i j : Nat} {x y : Wr} (hx : D[i]? = some x) (hy : D[j]? = some y) :
  Calls Tryz.prog 68 #[.int .i64 (i : Int), .int .i64 (j : Int), .pointer (some ⟨gv, 0, none⟩)] W fun e w' => e = .returned (.bool (wlt x y)) ∧ Below W.heap.size W w' := by
 have hin : i < n := by have := (List.getElem?_eq_some_iff.1 hx).1; omega
 have hjn : j < n := by have := (List.getElem?_eq_some_iff.1 hy).1; omega
 have cx : ∀ q u, (wrCells x)[q]? = some u → W.cell? ⟨b, i * 6 + q, none⟩ = some u := fun q u hu => by
  have hq : q < 6 := (List.getElem?_eq_some_iff.1 hu).1
  rw [ho.cellAt _ (by omega), flat_get wrCells 6 (fun _ => rfl) D i q x hx hq]
  exact hu
 have cy : ∀ q u, (wrCells y)[q]? = some u → W.cell? ⟨b, j * 6 + q, none⟩ = some u := fun q u hu => by
  have hq : q < 6 := (List.getElem?_eq_some_iff.1 hu).1
  rw [ho.cellAt _ (by omega), flat_get wrCells 6 (fun _ => rfl) D j q y hy hq]
  exact hu
 have x0 : W.cell? ⟨b, i * 6, none⟩ = some (.int .i64 x.1) := cx 0 _ rfl
 have x1 : W.cell? ⟨b, i * 6 + 1, none⟩ = some (.int .i64 x.2.1) := cx 1 _ rfl
 have y0 : W.cell? ⟨b, j * 6, none⟩ = some (.int .i64 y.1) := cy 0 _ rfl
 have y1 : W.cell? ⟨b, j * 6 + 1, none⟩ = some (.int .i64 y.2.1) := cy 1 _ rfl
 have hi1 : (0 : Int) ≤ (i : Int) ∧ (i : Int) < (n : Int) := by omega
 have hj1 : (0 : Int) ≤ (j : Int) ∧ (j : Int) < (n : Int) := by omega
 have hi2 : (i : Int).toNat = i := by omega
 have hj2 : (j : Int).toNat = j := by omega
 have hi3 : i < n := hin
 have hj3 : j < n := hjn
 have hw : decide (idCmp (x.1, x.2.1) (y.1, y.2.1) < 0) = wlt x y := rfl
 clear cx cy ho hD hx hy hin hjn
 go_enter Tryz.func68, Tryz.ntmps68
 go_wp2
 refine Flow.wp_region_go (by kernel_rfl) (by kernel_rfl) (by kernel_rfl) 18 rfl (by kernel_rfl) (slV i j gv b n c x y) (fun _ _ wz => Below W.heap.size W wz) (fun _ _ => False) (()) ((Below.refl _ _).drew) ⟨?_, ?_, ?_, ?_, ?_, ?_, ?_, ?_, ?_, ?_, ?_, ?_, ?_, trivial⟩ ?_ ?_
 ·intro gz L wz K ρ hc0 hf0 hF hO hU hcl hi hd hC hK
  have e2 : ρ (.tmp 2) = .pointer (some ⟨gv, 0, none⟩) := hO 2 (by kernel_rfl)
  have cc := (hC.cell (p := ⟨gv, 0, none⟩) (cell_lt cv)).trans cv
  simp [go_sem, Flow.ylP_value, Flow.ylP_skip, Flow.ylP_enter, Flow.ylP_panic, hc0, hf0, e2, cc]
  exact hK gz wz hC (fun _ _ => rfl)
 ·intro gz L wz K ρ hc0 hf0 hF hO hU hcl hi hd hC hK
  have e0 : ρ (.tmp 0) = .int .i64 (i : Int) := hO 0 (by kernel_rfl)
  simp [go_sem, Flow.ylP_value, Flow.ylP_skip, Flow.ylP_enter, Flow.ylP_panic, hc0, hf0, e0]
  exact hK gz wz hC (fun _ _ => rfl)
 ·intro gz L wz K ρ hc0 hf0 hF hO hU hcl hi hd hC hK
  have d0 : L 0 = true := hd ⟨0, .data⟩ (by simp) rfl
  have e6 : ρ (.tmp 6) = .slice (some ⟨b, 0, none⟩) n c := hF 6 0 (by kernel_rfl) d0
  have d1 : L 1 = true := hd ⟨1, .data⟩ (by simp) rfl
  have e7 : ρ (.tmp 7) = .int .i64 (i : Int) := hF 7 1 (by kernel_rfl) d1
  simp [go_sem, Flow.ylP_value, Flow.ylP_skip, Flow.ylP_enter, Flow.ylP_panic, hc0, hf0, e6, e7, hi1, hi2, hi3]
  exact hK gz wz hC (fun _ _ => rfl)
 ·intro gz L wz K ρ hc0 hf0 hF hO hU hcl hi hd hC hK
  have d2 : L 2 = true := hd ⟨2, .data⟩ (by simp) rfl
  have e8 : ρ (.tmp 8) = .pointer (some ⟨b, i * 6, none⟩) := hF 8 2 (by kernel_rfl) d2
  simp [go_sem, Flow.ylP_value, Flow.ylP_skip, Flow.ylP_enter, Flow.ylP_panic, hc0, hf0, e8]
  exact hK gz wz hC (fun _ _ => rfl)
 ·intro gz L wz K ρ hc0 hf0 hF hO hU hcl hi hd hC hK
  have d3 : L 3 = true := hd ⟨3, .data⟩ (by simp) rfl
  have e9 : ρ (.tmp 9) = .pointer (some ⟨b, i * 6, none⟩) := hF 9 3 (by kernel_rfl) d3
  have cc := hC.cell (p := ⟨b, i * 6, none⟩) (cell_lt x0) |>.trans x0
  have cc1 := hC.cell (p := ⟨b, i * 6 + 1, none⟩) (cell_lt x1) |>.trans x1
  simp [go_sem, Flow.ylP_value, Flow.ylP_skip, Flow.ylP_enter, Flow.ylP_panic, hc0, hf0, e9, cc, cc1]
  exact hK gz wz hC (fun _ _ => rfl)
 ·intro gz L wz K ρ hc0 hf0 hF hO hU hcl hi hd hC hK
  have e2 : ρ (.tmp 2) = .pointer (some ⟨gv, 0, none⟩) := hO 2 (by kernel_rfl)
  have cc := (hC.cell (p := ⟨gv, 0, none⟩) (cell_lt cv)).trans cv
  simp [go_sem, Flow.ylP_value, Flow.ylP_skip, Flow.ylP_enter, Flow.ylP_panic, hc0, hf0, e2, cc]
  exact hK gz wz hC (fun _ _ => rfl)
 ·intro gz L wz K ρ hc0 hf0 hF hO hU hcl hi hd hC hK
  have e1 : ρ (.tmp 1) = .int .i64 (j : Int) := hO 1 (by kernel_rfl)
  simp [go_sem, Flow.ylP_value, Flow.ylP_skip, Flow.ylP_enter, Flow.ylP_panic, hc0, hf0, e1]
  exact hK gz wz hC (fun _ _ => rfl)
 ·intro gz L wz K ρ hc0 hf0 hF hO hU hcl hi hd hC hK
  have d5 : L 5 = true := hd ⟨5, .data⟩ (by simp) rfl
  have e11 : ρ (.tmp 11) = .slice (some ⟨b, 0, none⟩) n c := hF 11 5 (by kernel_rfl) d5
  have d6 : L 6 = true := hd ⟨6, .data⟩ (by simp) rfl
  have e12 : ρ (.tmp 12) = .int .i64 (j : Int) := hF 12 6 (by kernel_rfl) d6
  simp [go_sem, Flow.ylP_value, Flow.ylP_skip, Flow.ylP_enter, Flow.ylP_panic, hc0, hf0, e11, e12, hj1, hj2, hj3]
  exact hK gz wz hC (fun _ _ => rfl)
 ·intro gz L wz K ρ hc0 hf0 hF hO hU hcl hi hd hC hK
  have d7 : L 7 = true := hd ⟨7, .data⟩ (by simp) rfl
  have e13 : ρ (.tmp 13) = .pointer (some ⟨b, j * 6, none⟩) := hF 13 7 (by kernel_rfl) d7
  simp [go_sem, Flow.ylP_value, Flow.ylP_skip, Flow.ylP_enter, Flow.ylP_panic, hc0, hf0, e13]
  exact hK gz wz hC (fun _ _ => rfl)
 ·intro gz L wz K ρ hc0 hf0 hF hO hU hcl hi hd hC hK
  have d8 : L 8 = true := hd ⟨8, .data⟩ (by simp) rfl
  have e14 : ρ (.tmp 14) = .pointer (some ⟨b, j * 6, none⟩) := hF 14 8 (by kernel_rfl) d8
  have cc := hC.cell (p := ⟨b, j * 6, none⟩) (cell_lt y0) |>.trans y0
  have cc1 := hC.cell (p := ⟨b, j * 6 + 1, none⟩) (cell_lt y1) |>.trans y1
  simp [go_sem, Flow.ylP_value, Flow.ylP_skip, Flow.ylP_enter, Flow.ylP_panic, hc0, hf0, e14, cc, cc1]
  exact hK gz wz hC (fun _ _ => rfl)
 ·intro gz L wz K ρ hc0 hf0 hF hO hU hcl hi hd hC hK
  have d4 : L 4 = true := hd ⟨4, .data⟩ (by simp) rfl
  have e10 : ρ (.tmp 10) = .agg #[.int .i64 x.1, .int .i64 x.2.1] := hF 10 4 (by kernel_rfl) d4
  have d9 : L 9 = true := hd ⟨9, .data⟩ (by simp) rfl
  have e15 : ρ (.tmp 15) = .agg #[.int .i64 y.1, .int .i64 y.2.1] := hF 15 9 (by kernel_rfl) d9
  simp [go_sem, Flow.ylP_value, Flow.ylP_skip, Flow.ylP_enter, Flow.ylP_panic, hc0, hf0, e10, e15]
  refine (rcompare_any x.1 x.2.1 y.1 y.2.1 _).mono ?_
  rintro r wn ⟨rfl, hbn⟩
  exact ⟨_, rfl, hK gz wn (hC.trans (hbn.mono hC.size)) (by intro j hj; unfold slV; split <;> first | rfl | (rw [hi] at hj; cases hj) | (have hz := hcl _ 10 (by kernel_rfl) hj; rw [hi] at hz; cases hz))⟩
 ·intro gz L wz K ρ hc0 hf0 hF hO hU hcl hi hd hC hK
  have d10 : L 10 = true := hd ⟨10, .data⟩ (by simp) rfl
  have e16 : ρ (.tmp 16) = .int .i64 (idCmp (x.1, x.2.1) (y.1, y.2.1)) := hF 16 10 (by kernel_rfl) d10
  simp [go_sem, Flow.ylP_value, Flow.ylP_skip, Flow.ylP_enter, Flow.ylP_panic, hc0, hf0, e16, hw]
  exact hK gz wz hC (fun _ _ => rfl)
 ·intro gz L wz K ρ hc0 hf0 hF hO hU hcl hi hd hC hK
  have d11 : L 11 = true := hd ⟨11, .data⟩ (by simp) rfl
  have e17 : ρ (.tmp 17) = .bool (wlt x y) := hF 17 11 (by kernel_rfl) d11
  simp [go_sem, Flow.ylP_value, Flow.ylP_skip, Flow.ylP_enter, Flow.ylP_panic, hc0, hf0, e17]
  exact hK gz wz hC (fun _ _ => rfl)
 ·intro gz L ch wz h; exact h.elim
 ·intro gz L wz hL hC
  simp only [Flow.putAll, slV]
  simp [Act.put]
  go_wp2
  go_ret
  exact ⟨rfl, hC⟩
end Go.Proofs.YtlpkpfpmcppciaaGreatDoor
end

section
namespace Go.Proofs.YtlpkpfpmcppciaaGreatDoor.Keys
open Go.RowKit Go.Maps
abbrev Tab := List ByteArray × List Int
def step (t : Tab) (s : ByteArray) : Tab := if s ∈ t.1 then (t.1, t.2 ++ [(t.1.idxOf s : Int)]) else (t.1 ++ [s], t.2 ++ [(t.1.length : Int)])
def tab (l : List ByteArray) : Tab := l.foldl step ([], [])
theorem tab_snoc (l : List ByteArray) (s : ByteArray) : tab (l ++ [s]) = step (tab l) s := by simp [tab, List.foldl_append]
theorem step_in {t : Tab} {s : ByteArray} (h : s ∈ t.1) : step t s = (t.1, t.2 ++ [(t.1.idxOf s : Int)]) := by unfold step; rw [if_pos h]
theorem step_out {t : Tab} {s : ByteArray} (h : ¬ s ∈ t.1) : step t s = (t.1 ++ [s], t.2 ++ [(t.1.length : Int)]) := by unfold step; rw [if_neg h]
theorem tab_take (l : List ByteArray) (k : Nat) (s : ByteArray) (h : l[k]? = some s) : tab (l.take (k + 1)) = step (tab (l.take k)) s := by
 have hk : k < l.length := (List.getElem?_eq_some_iff.1 h).1
 rw [List.take_succ_eq_append_getElem hk, tab_snoc]
 rw [List.getElem?_eq_getElem hk] at h
 injection h with h
 rw [h]
theorem tab_len (l : List ByteArray) : (tab l).1.length ≤ l.length ∧ (tab l).2.length = l.length ∧ (tab l).1.Nodup ∧ ∀ s ∈ (tab l).1, s ∈ l := by
 suffices h : ∀ r : List ByteArray, (tab r.reverse).1.length ≤ r.length ∧ (tab r.reverse).2.length = r.length ∧ (tab r.reverse).1.Nodup ∧ ∀ s ∈ (tab r.reverse).1, s ∈ r by
  have := h l.reverse
  simpa using this
 intro r
 induction r with
 | nil => exact ⟨Nat.le_refl _, rfl, List.nodup_nil, fun s hs => by simp [tab] at hs⟩
 | cons s r ih =>
  obtain ⟨h1, h2, h3, h4⟩ := ih
  rw [List.reverse_cons, tab_snoc]
  by_cases hs : s ∈ (tab r.reverse).1
  ·rw [step_in hs]
   exact ⟨by simp; omega, by simp [h2], h3, fun x hx => by simp [h4 x hx]⟩
  ·rw [step_out hs]
   refine ⟨by simp; omega, by simp [h2], ?_, fun x hx => ?_⟩
   ·rw [List.nodup_append]
    exact ⟨h3, by simp, fun a ha b hb => by simp at hb; subst hb; rintro rfl; exact hs ha⟩
   ·simp at hx
    rcases hx with hx | rfl
    ·simp [h4 x hx]
    ·simp
/-- What the map says of the table. -/
def Tied (D : DataW Unit) (T : List ByteArray) : Prop := ∀ s : ByteArray, Maps.has D (.string s.data.toList) = decide (s ∈ T) ∧ (s ∈ T → D.atKey (.string s.data.toList) (.lit (.int .i64 0)) = .lit (.int .i64 (T.idxOf s : Int)))
theorem lit_ne {s t : ByteArray} (h : ¬ s = t) : Lit.string s.data.toList ≠ Lit.string t.data.toList := by
 intro e
 apply h
 injection e with e
 obtain ⟨⟨a⟩⟩ := s
 obtain ⟨⟨b⟩⟩ := t
 simp at e
 rw [e]
theorem Tied.nil : Tied (.map []) [] := fun s => ⟨by simp [Maps.has], fun h => by simp at h⟩
theorem Tied.put {D : DataW Unit} {T : List ByteArray} {s : ByteArray} (h : Tied D T) (hD : IsMap D) (hs : ¬ s ∈ T) : Tied (D.put (.string s.data.toList) (.lit (.int .i64 (T.length : Int)))) (T ++ [s]) := by
 intro x
 by_cases hx : x = s
 ·subst hx
  refine ⟨?_, fun _ => ?_⟩
  ·rw [has_put_same hD (by simp [WideAt.IsKeyLit])]
   simp
  ·rw [atKey_put_same hD (by simp [WideAt.IsKeyLit])]
   rw [List.idxOf_append, if_neg hs]
   simp
 ·refine ⟨?_, fun hm => ?_⟩
  ·rw [has_put_other (lit_ne hx), (h x).1]
   simp [hx]
  ·rw [atKey_put_other (lit_ne hx)]
   have hm' : x ∈ T := by simpa [hx] using hm
   rw [(h x).2 hm', List.idxOf_append, if_pos hm']
end Go.Proofs.YtlpkpfpmcppciaaGreatDoor.Keys
end
