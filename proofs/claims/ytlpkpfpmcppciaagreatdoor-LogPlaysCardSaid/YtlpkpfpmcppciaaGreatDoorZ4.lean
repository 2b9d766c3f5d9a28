/- sort.symMerge_func: one of the right.

sort.symMerge_func.

sort.insertionSort_func. -/
import Derived.Test.YtlpkpfpmcppciaaGreatDoorZ3b
section
namespace Go.Proofs.YtlpkpfpmcppciaaGreatDoor
set_option linter.unusedSimpArgs false
set_option linter.unusedVariables false
open Go.RowKit
open Go.Sort (SWO)
section
variable {lg : Nat} {lb : Array Value} {sf : Nat} {sb : Array Value} {g : Nat} {lt : Wr → Wr → Bool} {St : World → List Wr → Prop}
theorem set_pair' {α : Type} (U V T : List α) (x y : α) {i j : Nat} (hi : i = U.length) (hj : j = U.length + 1 + V.length) : ((U ++ x :: (V ++ y :: T)).set j x).set i y = U ++ y :: (V ++ x :: T) := by
 rw [List.set_comm _ _ (by omega)]
 exact set_pair U V T x y hi hj
set_option maxHeartbeats 4000000 in
set_option maxRecDepth 100000 in
theorem sym_right (H : Srt lg lb sf sb g lt St) (hO : SWO lt) {W : World} {P A S : List Wr} {y : Wr} {a m b : Nat} (hSt : St W (P ++ A ++ [y] ++ S)) (hP : P.length = a) (hA : a + A.length = m) (hB : m + 1 = b) (hA1 : A.length ≠ 1) (hA0 : 0 < A.length) (sA : Srd lt A) :
  Calls Tryz.prog 120 #[lsV lg lb sf sb, .int .i64 (a : Int), .int .i64 (m : Int), .int .i64 (b : Int)] W fun e w' => e = .returned (.tuple #[]) ∧ SymPost St lt g W P A [y] S w' := by
 have hbx := Box.new (lg := lg) (lb := lb) (sf := sf) (sb := sb) W (H.here _ _ hSt) 154
 have hS1 := H.alloc _ _ (.cells #[.func (.func lg) #[] lb, .func (.func sf) #[] sb] 154) hSt
 have hT1 : Turned (fun k => k = g) W (W.alloc (.cells #[.func (.func lg) #[] lb, .func (.func sf) #[] sb] 154)) := .of_below ((Below.refl _ _).alloc (Nat.le_refl _) _)
 have hsz := H.size _ _ hSt
 have hb8 : b ≤ 1000000 := by simp only [List.length_append, List.length_cons, List.length_nil] at hsz; omega
 obtain ⟨bx, hbxe⟩ : ∃ x, x = W.heap.size := ⟨_, rfl⟩
 obtain ⟨la, hla⟩ : ∃ la, la = A.length := ⟨_, rfl⟩
 have WA := Lib.hid (w_subN (a := m) (b := a) (c := la) (by omega) (by omega))
 have WB := Lib.hid (w_subN (a := b) (b := m) (c := 1) (by omega) (by omega))
 have hla1 : ((la : Int) == 1) = false := beq_eq_false_iff_ne.2 (by omega)
 have HLA := Lib.hid hla1
 have hla2 : ¬ la = 1 := by omega
 have hla3 : ¬ (la : Int) = 1 := by omega
 have HN := Lib.hid (And.intro hP (And.intro hA (And.intro hB (And.intro hb8 hA0))))
 have HD := Lib.hid (show ∀ k x, a ≤ k → k < m → (P ++ A ++ [y] ++ S)[k]? = some x → A[k - a]? = some x from fun k x h1 h2 h3 => by
  rw [List.append_assoc, List.append_assoc, List.getElem?_append_right (by omega), List.getElem?_append_left (by omega)] at h3
  rwa [hP] at h3)
 have HD2 := Lib.hid (show ∀ k x, A[k]? = some x → (P ++ A ++ [y] ++ S)[k + a]? = some x from fun k x h3 => by
  have hk := (List.getElem?_eq_some_iff.1 h3).1
  rw [List.append_assoc, List.append_assoc, List.getElem?_append_right (by omega), List.getElem?_append_left (by omega)]
  rw [show k + a - P.length = k by omega]
  exact h3)
 have HX : Hid ((P ++ A ++ [y] ++ S)[m]? = some y) := Lib.hid (by
  rw [List.append_assoc, List.getElem?_append_right (by rw [List.length_append]; omega), List.length_append, show m - (P.length + A.length) = 0 by omega]
  rfl)
 obtain ⟨D, hDe⟩ : ∃ D, D = P ++ A ++ [y] ++ S := ⟨_, rfl⟩
 have HDE := Lib.hid hDe
 rw [← hDe] at hS1 HD HD2 HX
 have HS1 := Lib.hid hS1
 obtain ⟨wa1, wa2⟩ := WA.out
 obtain ⟨wb1, wb2⟩ := WB.out
 clear hSt hP hA hB hsz hb8 hDe hS1 hla hA1 hA0
 unfold lsV
 go_enter Tryz.func120, Tryz.ntmps120
 go_upto_region 1 with fail
 rw [← hbxe] at hbx ⊢
 clear hbxe
 generalize W.alloc (.cells #[.func (.func lg) #[] lb, .func (.func sf) #[] sb] 154) = W1 at *
 go_wp2
 clear wa1 wa2 wb1 wb2
 go_loopw [12, 13, 14] (fun vi vj _ wr => ∃ (i j : Nat), vi = .int .i64 i ∧ vj = .int .i64 j ∧ Hid (a ≤ i ∧ i ≤ j ∧ j ≤ m) ∧ Hid (∀ k x, a ≤ k → k < i → D[k]? = some x → lt y x = false) ∧ Hid (∀ k x, j ≤ k → k < m → D[k]? = some x → lt y x = true) ∧ St wr D ∧ Turned (fun q => q = g) W1 wr) (fun vi vj _ _ => (intOf vj).toNat - (intOf vi).toNat)
 case atStart => exact ⟨a, m, rfl, rfl, Lib.hid ⟨Nat.le_refl _, by have := HN.out; omega, Nat.le_refl _⟩, Lib.hid (fun k y h1 h2 _ => by omega), Lib.hid (fun k y h1 h2 _ => by omega), HS1.out, .refl _ _⟩
 case round =>
  clear HS1
  obtain ⟨i, j, rfl, rfl, HIJ, HLO, HHI, hS, hT⟩ := hrel
  obtain ⟨q0, q1, _⟩ := hbx.turned hT
  by_cases hlt : i < j
  ·obtain ⟨s, hs⟩ : ∃ s, s = i + j := ⟨_, rfl⟩
   obtain ⟨h, hh⟩ : ∃ h, h = s / 2 := ⟨_, rfl⟩
   have HF : Half i j s h := ⟨hs, hh, by have := HN.out; have := HIJ.out; omega⟩
   have HB : Hid (i ≤ h ∧ h < j) := Lib.hid (by omega)
   have HHB : Hid (a ≤ h ∧ h < m) := Lib.hid (by have := HIJ.out; have := HB.out; omega)
   obtain ⟨x, hx⟩ : ∃ x, D[h]? = some x := ⟨_, List.getElem?_eq_getElem (by
    have h1 := HN.out
    have h2 := HHB.out
    rw [HDE.out]
    simp only [List.length_append, List.length_cons, List.length_nil]
    omega)⟩
   have hl := H.less wr D m h y x hS HX.out hx
   have HY := Lib.hid hx
   have WF := Lib.hid (half_facts HF)
   have W1F := Lib.hid (w_one (a := h) (by have := HN.out; have := HHB.out; omega))
   have eg := H.eg
   obtain ⟨⟨f1, f2⟩, f3, f4, f5, f6, f7⟩ := WF.out
   obtain ⟨f8, f9⟩ := W1F.out
   clear hs hh HF hx hS
   cases hv : lt y x with
   | false =>
    rw [hv] at hl
    have HV := Lib.hid hv
    clear hv
    go_wp2_with (go_at_fn lg; refine hl.mono ?_; rintro e w2 ⟨rfl, hS2, hT2⟩)
    clear f1 f2 f3 f4 f5 f6 f7 f8 f9
    have HLO2 : Hid (∀ k x, a ≤ k → k < h + 1 → D[k]? = some x → lt y x = false) := Lib.hid (fun k x' h1 h2 h3 =>
     hO.ntrans y x x' HV.out (srd_at' hO sA (i := k - a) (j := h - a) (by have := HHB.out; omega) (HD.out k x' h1 (by have := HHB.out; omega) h3) (HD.out h x HHB.out.1 HHB.out.2 HY.out)))
    have HIJ2 : Hid (a ≤ h + 1 ∧ h + 1 ≤ j ∧ j ≤ m) := Lib.hid (by have := HHB.out; have := HB.out; have := HIJ.out; omega)
    have HMS : Hid (j - (h + 1) < j - i) := Lib.hid (by have := HB.out; omega)
    go_roundw
    case rel => exact ⟨h + 1, j, by go_num, rfl, HIJ2, HLO2, HHI, hS2, hT.trans hT2⟩
    case measure => exact mj HMS.out
   | true =>
    rw [hv] at hl
    have HV := Lib.hid hv
    clear hv
    go_wp2_with (go_at_fn lg; refine hl.mono ?_; rintro e w2 ⟨rfl, hS2, hT2⟩)
    clear f1 f2 f3 f4 f5 f6 f7 f8 f9
    have HHI2 : Hid (∀ k x, h ≤ k → k < m → D[k]? = some x → lt y x = true) := Lib.hid (fun k x' h1 h2 h3 =>
     swo_high hO (srd_at' hO sA (i := h - a) (j := k - a) (by omega) (HD.out h x HHB.out.1 HHB.out.2 HY.out) (HD.out k x' (by have := HHB.out; omega) h2 h3)) HV.out)
    have HIJ2 : Hid (a ≤ i ∧ i ≤ h ∧ h ≤ m) := Lib.hid (by have := HHB.out; have := HB.out; have := HIJ.out; omega)
    have HMS : Hid (h - i < j - i) := Lib.hid (by have := HB.out; omega)
    go_roundw
    case rel => exact ⟨i, h, rfl, rfl, HIJ2, HLO, HHI2, hS2, hT.trans hT2⟩
    case measure => exact HMS.out
  ·obtain rfl : i = j := by have := HIJ.out; omega
   obtain ⟨A1, A2, hAA, l1, l2⟩ := cut_at A (i - a) (by have := HIJ.out; have := HN.out; omega)
   have HL1 := Lib.hid l1
   have HAA := Lib.hid hAA
   have H1 : Hid (∀ x ∈ A1, lt y x = false) := Lib.hid (fun x hx => by
    obtain ⟨k, hk, e⟩ := mem_at hx
    refine HLO.out (k + a) x (by omega) (by have := HIJ.out; omega) (HD2.out k x ?_)
    rw [hAA, List.getElem?_append_left hk]
    exact e)
   have H2 : Hid (∀ x ∈ A2, lt y x = true) := Lib.hid (fun x hx => by
    obtain ⟨k, hk, e⟩ := mem_at hx
    have h1 := HN.out
    have h2 := HIJ.out
    refine HHI.out (i - a + k + a) x (by omega) (by omega) (HD2.out (i - a + k) x ?_)
    rw [hAA, List.getElem?_append_right (by omega), show i - a + k - A1.length = k by omega]
    exact e)
   have HC : Hid (m = i + A2.length) := Lib.hid (by have := HN.out; have := HIJ.out; omega)
   have HE0 : Hid (D = (P ++ A1 ++ A2.take A2.length) ++ y :: (A2.drop A2.length ++ S)) := Lib.hid (by rw [HDE.out, hAA]; simp)
   rw [HE0.out] at hS
   have HSS := Lib.hid hS
   clear HLO HHI hAA l1 l2 hS hlt q0 q1
   go_wp2
   go_loopw [15] (fun vk wr => ∃ (r kk : Nat), vk = .int .i64 kk ∧ Hid (kk = i + r ∧ r ≤ A2.length) ∧ St wr ((P ++ A1 ++ A2.take r) ++ y :: (A2.drop r ++ S)) ∧ Turned (fun q => q = g) W1 wr) (fun vk _ => (intOf vk).toNat - i)
   case atStart => exact ⟨A2.length, m, rfl, Lib.hid ⟨HC.out, Nat.le_refl _⟩, HSS.out, hT⟩
   case round =>
    clear HSS hT
    obtain ⟨r, kk, rfl, HK, hS, hT⟩ := hrel
    obtain ⟨q0, q1, _⟩ := hbx.turned hT
    by_cases hlt : i < kk
    ·obtain ⟨r', rfl⟩ : ∃ r', r = r' + 1 := ⟨r - 1, by have := HK.out; omega⟩
     have htl : r' < A2.length := by have := HK.out; omega
     obtain ⟨z, hz⟩ : ∃ z, A2[r']? = some z := ⟨_, List.getElem?_eq_getElem htl⟩
     have ez : A2[r'] = z := by rw [List.getElem?_eq_getElem htl] at hz; injection hz
     have dz : A2.drop r' = z :: A2.drop (r' + 1) := by rw [List.drop_eq_getElem_cons htl, ez]
     have tz : A2.take (r' + 1) = A2.take r' ++ [z] := by rw [List.take_succ_eq_append_getElem htl, ez]
     have hU : kk - 1 = (P ++ A1 ++ A2.take r').length := by have := HK.out; have := HN.out; have := HL1.out; have := HIJ.out; rw [List.length_append, List.length_append, List.length_take]; omega
     have hJ : kk = (P ++ A1 ++ A2.take r').length + 1 + ([] : List Wr).length := by rw [← hU]; simp only [List.length_nil]; omega
     have e1 : (P ++ A1 ++ A2.take (r' + 1)) ++ y :: (A2.drop (r' + 1) ++ S) = (P ++ A1 ++ A2.take r') ++ z :: ([] ++ y :: (A2.drop (r' + 1) ++ S)) := by rw [tz]; simp
     rw [e1] at hS
     obtain ⟨g1, g2⟩ := get_pair (P ++ A1 ++ A2.take r') [] (A2.drop (r' + 1) ++ S) z y (i := kk - 1) (j := kk) hU hJ
     obtain ⟨W2, hrun, hS2, hT2⟩ := H.swap _ _ _ _ _ _ hS g2 g1
     rw [set_pair' _ _ _ _ _ hU hJ] at hS2
     have e2 : (P ++ A1 ++ A2.take r') ++ y :: ([] ++ z :: (A2.drop (r' + 1) ++ S)) = (P ++ A1 ++ A2.take r') ++ y :: (A2.drop r' ++ S) := by rw [dz]; simp
     rw [e2] at hS2
     have HS2 := Lib.hid hS2
     obtain ⟨k1, hk1⟩ : ∃ k1, k1 = kk - 1 := ⟨_, rfl⟩
     have HK2 : Hid (k1 = i + r' ∧ r' ≤ A2.length) := Lib.hid (by have := HK.out; omega)
     have HMS : Hid (k1 - i < kk - i) := Lib.hid (by omega)
     have W1F := Lib.hid (w_sub1 (a := kk) (c := k1) (by omega) (by have := HK.out; have := HN.out; have := HIJ.out; have := HC.out; omega))
     rw [← hk1] at hrun
     clear htl hz ez dz tz hU hJ e1 g1 g2 e2 hS hS2 hk1
     obtain ⟨f8, f9⟩ := W1F.out
     go_wp2
     clear f8 f9
     go_roundw
     case rel => exact ⟨r', k1, rfl, HK2, HS2.out, hT.trans hT2⟩
     case measure => exact HMS.out
    ·have htl : r = 0 := by have := HK.out; omega
     have e1 : (P ++ A1 ++ A2.take r) ++ y :: (A2.drop r ++ S) = P ++ (A1 ++ [y] ++ A2) ++ S := by rw [htl]; simp
     rw [e1] at hS
     have HS2 := Lib.hid hS
     clear htl e1 hS
     go_wp2
     refine bodyPost_ret (results_none rfl _ _ _) rfl ?_
     refine ⟨rfl, A1 ++ [y] ++ A2, ?_, srd_right hO (by rw [← HAA.out]; exact sA) H1.out H2.out, HS2.out, hT1.trans hT⟩
     rw [HAA.out, List.append_assoc, List.append_assoc]
     exact List.Perm.append_left A1 List.perm_append_comm
end
end Go.Proofs.YtlpkpfpmcppciaaGreatDoor
end

section
namespace Go.Proofs.YtlpkpfpmcppciaaGreatDoor
set_option linter.unusedSimpArgs false
set_option linter.unusedVariables false
open Go.RowKit
open Go.Sort (SWO)
/-- The numbers of a merge. -/
structure SymNum (a m b mid n s0 r0 : Nat) : Prop where
 hn : n = mid + m
 am : a < m
 mb : m < b
 a0 : a < mid
 b0 : mid < b
 b8 : b ≤ 1000000
 s1 : a ≤ s0
 s2 : s0 ≤ r0
 s3 : r0 ≤ m
 s6 : r0 ≤ mid
 s4 : n ≤ s0 + b
 s5 : r0 + m ≤ n
 e1 : s0 = a ∨ n = s0 + b
 e2 : r0 = m ∨ r0 = mid
theorem symNum {a m b mid s : Nat} (hm : Half a b s mid) (h1 : a + 2 ≤ m) (h2 : m + 2 ≤ b) (h3 : b ≤ 1000000) : ∃ s0 r0, SymNum a m b mid (mid + m) s0 r0 ∧ ((mid < m ∧ mid + m = s0 + b ∧ r0 = mid) ∨ (¬ mid < m ∧ s0 = a ∧ r0 = m)) := by
 obtain ⟨q1, q2, q3⟩ := hm
 by_cases h : mid < m
 ·exact ⟨mid + m - b, mid, ⟨rfl, by omega, by omega, by omega, by omega, h3, by omega, by omega, by omega, by omega, by omega, by omega, .inr (by omega), .inr rfl⟩, .inl ⟨h, by omega, rfl⟩⟩
 ·exact ⟨a, m, ⟨rfl, by omega, by omega, by omega, by omega, h3, by omega, by omega, by omega, by omega, by omega, by omega, .inl rfl, .inl rfl⟩, .inr ⟨h, rfl, rfl⟩⟩
theorem sym_cut {lt : Wr → Wr → Bool} (hO : SWO lt) {P A B S : List Wr} {a m b mid n s0 r0 p i e : Nat} (NU : SymNum a m b mid n s0 r0) (hP : P.length = a) (hA : a + A.length = m) (hB : m + B.length = b) (hp : n = p + 1) (he : n = i + e) (h1 : s0 ≤ i) (h2 : i ≤ r0) (sA : Srd lt A) (sB : Srd lt B)
  (LO : ∀ k u v, s0 ≤ k → k < i → (P ++ A ++ B ++ S)[p - k]? = some u → (P ++ A ++ B ++ S)[k]? = some v → lt u v = false) (HI : ∀ k u v, i ≤ k → k < r0 → (P ++ A ++ B ++ S)[p - k]? = some u → (P ++ A ++ B ++ S)[k]? = some v → lt u v = true) :
  ∃ A1 A2 B1 B2, A = A1 ++ A2 ∧ B = B1 ++ B2 ∧ A1.length = i - a ∧ B1.length = e - m ∧ A2.length = m - i ∧ B2.length = b - e ∧ ∀ x ∈ A1 ++ B1, ∀ y ∈ A2 ++ B2, lt y x = false := by
 obtain ⟨z1, z2, z3, z4, z5, z6, z7, z8, z9, z10, z11, z12, z13, z14⟩ := NU
 have dA : ∀ k x, A[k]? = some x → (P ++ A ++ B ++ S)[k + a]? = some x := fun k x h3 => by
  have hk := (List.getElem?_eq_some_iff.1 h3).1
  rw [List.append_assoc, List.append_assoc, List.getElem?_append_right (by omega), List.getElem?_append_left (by omega)]
  rw [show k + a - P.length = k by omega]
  exact h3
 have dB : ∀ k x, B[k]? = some x → (P ++ A ++ B ++ S)[k + m]? = some x := fun k x h3 => by
  have hk := (List.getElem?_eq_some_iff.1 h3).1
  rw [List.append_assoc, List.getElem?_append_right (by rw [List.length_append]; omega), List.getElem?_append_left (by rw [List.length_append]; omega)]
  rw [List.length_append, show k + m - (P.length + A.length) = k by omega]
  exact h3
 obtain ⟨A1, A2, hAA, l1, l2⟩ := cut_at A (i - a) (by omega)
 obtain ⟨B1, B2, hBB, l3, l4⟩ := cut_at B (e - m) (by omega)
 refine ⟨A1, A2, B1, B2, hAA, hBB, l1, l3, by omega, by omega, ?_⟩
 refine cross hO (by rw [← hAA]; exact sA) (by rw [← hBB]; exact sB) (fun x y hx hy => ?_) (fun x y hx hy => ?_)
 ·rw [List.getLast?_eq_getElem?] at hx
  rw [List.head?_eq_getElem?] at hy
  have k1 := (List.getElem?_eq_some_iff.1 hx).1
  have k2 := (List.getElem?_eq_some_iff.1 hy).1
  have x1 : (P ++ A ++ B ++ S)[A1.length - 1 + a]? = some x := dA _ x (by rw [hAA, List.getElem?_append_left k1]; exact hx)
  have x2 : (P ++ A ++ B ++ S)[B1.length + m]? = some y := dB _ y (by rw [hBB, List.getElem?_append_right (Nat.le_refl _), Nat.sub_self]; exact hy)
  refine LO (i - 1) y x (by omega) (by omega) ?_ ?_
  ·rw [show p - (i - 1) = B1.length + m by omega]; exact x2
  ·rw [show i - 1 = A1.length - 1 + a by omega]; exact x1
 ·rw [List.getLast?_eq_getElem?] at hx
  rw [List.head?_eq_getElem?] at hy
  have k1 := (List.getElem?_eq_some_iff.1 hx).1
  have k2 := (List.getElem?_eq_some_iff.1 hy).1
  have x1 : (P ++ A ++ B ++ S)[B1.length - 1 + m]? = some x := dB _ x (by rw [hBB, List.getElem?_append_left k1]; exact hx)
  have x2 : (P ++ A ++ B ++ S)[A1.length + a]? = some y := dA _ y (by rw [hAA, List.getElem?_append_right (Nat.le_refl _), Nat.sub_self]; exact hy)
  refine swo_asym hO (HI i x y (Nat.le_refl _) (by omega) ?_ ?_)
  ·rw [show p - i = B1.length - 1 + m by omega]; exact x1
  ·rw [show i = A1.length + a by omega]; exact x2
section
variable {lg : Nat} {lb : Array Value} {sf : Nat} {sb : Array Value} {g : Nat} {lt : Wr → Wr → Bool} {St : World → List Wr → Prop}
set_option maxHeartbeats 8000000 in
set_option maxRecDepth 100000 in
theorem sym_gen (H : Srt lg lb sf sb g lt St) (hO : SWO lt) {W : World} {P A B S : List Wr} {a m b : Nat} (hSt : St W (P ++ A ++ B ++ S)) (hP : P.length = a) (hA : a + A.length = m) (hB : m + B.length = b) (hA1 : 2 ≤ A.length) (hB1 : 2 ≤ B.length) (sA : Srd lt A) (sB : Srd lt B)
  (ih : ∀ {W P A' B' S a m b}, A'.length + B'.length < A.length + B.length → St W (P ++ A' ++ B' ++ S) → P.length = a → a + A'.length = m → m + B'.length = b → 0 < A'.length → 0 < B'.length → Srd lt A' → Srd lt B' →
   Calls Tryz.prog 120 #[lsV lg lb sf sb, .int .i64 (a : Int), .int .i64 (m : Int), .int .i64 (b : Int)] W fun e w' => e = .returned (.tuple #[]) ∧ SymPost St lt g W P A' B' S w') :
  Calls Tryz.prog 120 #[lsV lg lb sf sb, .int .i64 (a : Int), .int .i64 (m : Int), .int .i64 (b : Int)] W fun e w' => e = .returned (.tuple #[]) ∧ SymPost St lt g W P A B S w' := by
 have hbx := Box.new (lg := lg) (lb := lb) (sf := sf) (sb := sb) W (H.here _ _ hSt) 154
 have hS1 := H.alloc _ _ (.cells #[.func (.func lg) #[] lb, .func (.func sf) #[] sb] 154) hSt
 have hT1 : Turned (fun k => k = g) W (W.alloc (.cells #[.func (.func lg) #[] lb, .func (.func sf) #[] sb] 154)) := .of_below ((Below.refl _ _).alloc (Nat.le_refl _) _)
 have hsz := H.size _ _ hSt
 have hb8 : b ≤ 1000000 := by simp only [List.length_append] at hsz; omega
 obtain ⟨bx, hbxe⟩ : ∃ x, x = W.heap.size := ⟨_, rfl⟩
 obtain ⟨la, hla⟩ : ∃ la, la = A.length := ⟨_, rfl⟩
 obtain ⟨lB, hlB⟩ : ∃ lB, lB = B.length := ⟨_, rfl⟩
 obtain ⟨s, hs⟩ : ∃ s, s = a + b := ⟨_, rfl⟩
 obtain ⟨mid, hmid⟩ : ∃ h, h = s / 2 := ⟨_, rfl⟩
 have HH : Half a b s mid := ⟨hs, hmid, by omega⟩
 obtain ⟨s0, r0, hNUM, hor⟩ := symNum HH (m := m) (by omega) (by omega) hb8
 obtain ⟨n, hn⟩ : ∃ n, n = mid + m := ⟨_, rfl⟩
 rw [← hn] at hNUM hor
 obtain ⟨p, hp⟩ : ∃ p, n = p + 1 := ⟨n - 1, by have := hNUM.am; have := hNUM.hn; omega⟩
 have NU := Lib.hid hNUM
 have HOR := Lib.hid hor
 have HPN := Lib.hid hp
 have WA := Lib.hid (w_subN (a := m) (b := a) (c := la) (by omega) (by omega))
 have WB := Lib.hid (w_subN (a := b) (b := m) (c := lB) (by omega) (by omega))
 have WH := Lib.hid (half_facts HH)
 have WN := Lib.hid (w_addN (a := mid) (b := m) (c := n) hn (by have := hNUM.b0; have := hNUM.mb; omega))
 have WP := Lib.hid (w_sub1 (a := n) (c := p) hp (by have := hNUM.b0; have := hNUM.mb; omega))
 have hla2 : ¬ la = 1 := by omega
 have hlb2 : ¬ lB = 1 := by omega
 have HN := Lib.hid (And.intro hP (And.intro hA (And.intro hB (And.intro hb8 (And.intro hA1 hB1)))))
 have HDA := Lib.hid (show ∀ k x, a ≤ k → k < m → (P ++ A ++ B ++ S)[k]? = some x → A[k - a]? = some x from fun k x h1 h2 h3 => by
  rw [List.append_assoc, List.append_assoc, List.getElem?_append_right (by omega), List.getElem?_append_left (by omega)] at h3
  rwa [hP] at h3)
 have HDB := Lib.hid (show ∀ k x, m ≤ k → k < b → (P ++ A ++ B ++ S)[k]? = some x → B[k - m]? = some x from fun k x h1 h2 h3 => by
  rw [List.append_assoc, List.getElem?_append_right (by rw [List.length_append]; omega), List.getElem?_append_left (by rw [List.length_append]; omega)] at h3
  rwa [List.length_append, show k - (P.length + A.length) = k - m by omega] at h3)
 have HDL : Hid (b ≤ (P ++ A ++ B ++ S).length) := Lib.hid (by simp only [List.length_append]; omega)
 obtain ⟨D, hDe⟩ : ∃ D, D = P ++ A ++ B ++ S := ⟨_, rfl⟩
 have HDE := Lib.hid hDe
 rw [← hDe] at hS1 HDA HDB HDL
 have HS1 := Lib.hid hS1
 obtain ⟨wa1, wa2⟩ := WA.out
 obtain ⟨wb1, wb2⟩ := WB.out
 obtain ⟨⟨f1, f2⟩, f3, f4, f5, f6, f7⟩ := WH.out
 obtain ⟨wn1, wn2⟩ := WN.out
 clear hSt hP hA hB hsz hb8 hDe hS1 hla hlB hA1 hB1 hs hmid HH hNUM hor hn hp
 unfold lsV
 go_enter Tryz.func120, Tryz.ntmps120
 go_upto_region 1 with fail
 rw [← hbxe] at hbx ⊢
 clear hbxe
 generalize W.alloc (.cells #[.func (.func lg) #[] lb, .func (.func sf) #[] sb] 154) = W1 at *
 go_upto_if 106 with (fail)
 clear wa1 wa2 wb1 wb2 f1 f2 f3 f4 f5 f6 f7 wn1 wn2 hla2 hlb2
 go_cut [18, 19] (fun v18 v19 wx => v18 = .int .i64 (s0 : Int) ∧ v19 = .int .i64 (r0 : Int) ∧ wx = W1)
 case first =>
  rcases HOR.out with ⟨h1, h2, h3⟩ | ⟨h1, h2, h3⟩
  ·have WS := Lib.hid (w_subN (a := n) (b := b) (c := s0) (by have := NU.out.hn; omega) (by have := NU.out.b0; have := NU.out.mb; have := NU.out.b8; have := NU.out.hn; omega))
   have H3 := Lib.hid h3
   clear h2 h3
   obtain ⟨ws1, ws2⟩ := WS.out
   go_wp2
   go_meet
   exact ⟨rfl, by rw [H3.out], rfl⟩
  ·have H3 := Lib.hid (And.intro h2 h3)
   clear h2 h3
   go_wp2
   go_meet
   exact ⟨by rw [H3.out.1], by rw [H3.out.2], rfl⟩
 case rest =>
  obtain ⟨rfl, rfl, hwc⟩ := hcut
  subst hwc
  generalize wc = W1 at *
  obtain ⟨wp1, wp2⟩ := WP.out
  go_wp2
  clear wp1 wp2
  go_loopw [18, 19, 21] (fun vi vj _ wr => ∃ (i j : Nat), vi = .int .i64 i ∧ vj = .int .i64 j ∧ Hid (s0 ≤ i ∧ i ≤ j ∧ j ≤ r0) ∧ Hid (∀ k u v, s0 ≤ k → k < i → D[p - k]? = some u → D[k]? = some v → lt u v = false) ∧ Hid (∀ k u v, j ≤ k → k < r0 → D[p - k]? = some u → D[k]? = some v → lt u v = true) ∧ St wr D ∧ Turned (fun q => q = g) W1 wr) (fun vi vj _ _ => (intOf vj).toNat - (intOf vi).toNat)
  case atStart => exact ⟨s0, r0, rfl, rfl, Lib.hid ⟨Nat.le_refl _, NU.out.s2, Nat.le_refl _⟩, Lib.hid (fun k u v h1 h2 => by omega), Lib.hid (fun k u v h1 h2 => by omega), HS1.out, .refl _ _⟩
  case round =>
   clear HS1
   obtain ⟨i, j, rfl, rfl, HIJ, HLO, HHI, hS, hT⟩ := hrel
   obtain ⟨q0, q1, _⟩ := hbx.turned hT
   by_cases hlt : i < j
   ·obtain ⟨s, hs⟩ : ∃ s, s = i + j := ⟨_, rfl⟩
    obtain ⟨h, hh⟩ : ∃ h, h = s / 2 := ⟨_, rfl⟩
    have hnum := NU.out
    have HF : Half i j s h := ⟨hs, hh, by have := HIJ.out; have := hnum.s3; have := hnum.mb; have := hnum.b8; omega⟩
    have HB : Hid (i ≤ h ∧ h < j) := Lib.hid (by omega)
    obtain ⟨d, hd⟩ : ∃ d, d = p - h := ⟨_, rfl⟩
    have HHB : Hid (a ≤ h ∧ h < m ∧ m ≤ d ∧ d < b ∧ p = d + h ∧ s0 ≤ h ∧ h < r0) := Lib.hid (by
     have h1 := HIJ.out
     have h2 := HB.out
     have h3 := HPN.out
     obtain ⟨z1, z2, z3, z4, z5, z6, z7, z8, z9, z10, z11, z12, z13, z14⟩ := hnum
     omega)
    obtain ⟨v, hv0⟩ : ∃ v, D[h]? = some v := ⟨_, List.getElem?_eq_getElem (by have := HDL.out; have := HHB.out; omega)⟩
    obtain ⟨u, hu0⟩ : ∃ u, D[d]? = some u := ⟨_, List.getElem?_eq_getElem (by have := HDL.out; have := HHB.out; omega)⟩
    have hl := H.less wr D d h u v hS hu0 hv0
    have HU := Lib.hid hu0
    have HVV := Lib.hid hv0
    have WF := Lib.hid (half_facts HF)
    have W1F := Lib.hid (w_one (a := h) (by have := HHB.out; have := hnum.mb; have := hnum.b8; omega))
    have WD := Lib.hid (w_subN (a := p) (b := h) (c := d) HHB.out.2.2.2.2.1 (by have := HPN.out; have := hnum.b0; have := hnum.mb; have := hnum.b8; have := hnum.hn; omega))
    have eg := H.eg
    obtain ⟨⟨f1, f2⟩, f3, f4, f5, f6, f7⟩ := WF.out
    obtain ⟨f8, f9⟩ := W1F.out
    obtain ⟨f10, f11⟩ := WD.out
    clear hs hh HF hu0 hv0 hS hnum hd
    cases hv : lt u v with
    | false =>
     rw [hv] at hl
     have HV := Lib.hid hv
     clear hv
     go_wp2_with (go_at_fn lg; refine hl.mono ?_; rintro e w2 ⟨rfl, hS2, hT2⟩)
     clear f1 f2 f3 f4 f5 f6 f7 f8 f9 f10 f11
     have HLO2 : Hid (∀ k u v, s0 ≤ k → k < h + 1 → D[p - k]? = some u → D[k]? = some v → lt u v = false) := Lib.hid (fun k u' v' h1 h2 h3 h4 => by
      obtain ⟨b1, b2, b3, b4, b5, b6, b7⟩ := HHB.out
      have hn := HPN.out
      have hnum := NU.out
      have t1 : p - k < b := by have := hnum.s4; omega
      have x1 := srd_at' hO sB (i := d - m) (j := p - k - m) (by omega) (HDB.out d u b3 b4 HU.out) (HDB.out (p - k) u' (by omega) t1 h3)
      have x2 := srd_at' hO sA (i := k - a) (j := h - a) (by omega) (HDA.out k v' (by have := hnum.s1; omega) (by omega) h4) (HDA.out h v b1 b2 HVV.out)
      exact hO.ntrans u' u v' x1 (hO.ntrans u v v' HV.out x2))
     have HIJ2 : Hid (s0 ≤ h + 1 ∧ h + 1 ≤ j ∧ j ≤ r0) := Lib.hid (by have := HHB.out; have := HB.out; have := HIJ.out; omega)
     have HMS : Hid (j - (h + 1) < j - i) := Lib.hid (by have := HB.out; omega)
     go_roundw
     case rel => exact ⟨h + 1, j, by go_num, rfl, HIJ2, HLO2, HHI, hS2, hT.trans hT2⟩
     case measure => exact mj HMS.out
    | true =>
     rw [hv] at hl
     have HV := Lib.hid hv
     clear hv
     go_wp2_with (go_at_fn lg; refine hl.mono ?_; rintro e w2 ⟨rfl, hS2, hT2⟩)
     clear f1 f2 f3 f4 f5 f6 f7 f8 f9 f10 f11
     have HHI2 : Hid (∀ k u v, h ≤ k → k < r0 → D[p - k]? = some u → D[k]? = some v → lt u v = true) := Lib.hid (fun k u' v' h1 h2 h3 h4 => by
      obtain ⟨b1, b2, b3, b4, b5, b6, b7⟩ := HHB.out
      have hn := HPN.out
      have hnum := NU.out
      have t1 : m ≤ p - k := by have := hnum.s5; omega
      have t2 : k < m := by have := hnum.s3; omega
      have x1 := srd_at' hO sB (i := p - k - m) (j := d - m) (by omega) (HDB.out (p - k) u' t1 (by omega) h3) (HDB.out d u b3 b4 HU.out)
      have x2 := srd_at' hO sA (i := h - a) (j := k - a) (by omega) (HDA.out h v b1 b2 HVV.out) (HDA.out k v' (by omega) t2 h4)
      exact swo_high hO x2 (swo_low hO x1 HV.out))
     have HIJ2 : Hid (s0 ≤ i ∧ i ≤ h ∧ h ≤ r0) := Lib.hid (by have := HHB.out; have := HB.out; have := HIJ.out; omega)
     have HMS : Hid (h - i < j - i) := Lib.hid (by have := HB.out; omega)
     go_roundw
     case rel => exact ⟨i, h, rfl, rfl, HIJ2, HLO, HHI2, hS2, hT.trans hT2⟩
     case measure => exact HMS.out
   ·obtain rfl : i = j := by have := HIJ.out; omega
    obtain ⟨e, he⟩ : ∃ e, n = i + e := ⟨n - i, by have := HIJ.out; have := NU.out.s3; have := NU.out.hn; omega⟩
    obtain ⟨A1, A2, B1, B2, hAA, hBB, l1, l3, l2, l4, hX⟩ := sym_cut (S := S) hO NU.out HN.out.1 HN.out.2.1 HN.out.2.2.1 HPN.out he HIJ.out.1 HIJ.out.2.2 sA sB (by have := HLO.out; rw [HDE.out] at this; exact this) (by have := HHI.out; rw [HDE.out] at this; exact this)
    have HX := Lib.hid hX
    have hnum := NU.out
    have HE : Hid (m ≤ e ∧ e ≤ b ∧ n = i + e ∧ a ≤ i ∧ i ≤ m ∧ i ≤ mid) := Lib.hid (by
     have h1 := HIJ.out
     obtain ⟨z1, z2, z3, z4, z5, z6, z7, z8, z9, z10, z11, z12, z13, z14⟩ := hnum
     omega)
    have HL := Lib.hid (And.intro l1 (And.intro l3 (And.intro l2 l4)))
    have HAB := Lib.hid (And.intro hAA hBB)
    have WE := Lib.hid (w_subN (a := n) (b := i) (c := e) (by omega) (by have := hnum.b0; have := hnum.mb; have := hnum.b8; have := hnum.hn; omega))
    have e0 : D = (P ++ A1) ++ A2 ++ B1 ++ (B2 ++ S) := by rw [HDE.out, hAA, hBB]; simp
    rw [e0] at hS
    have HSS := Lib.hid hS
    clear HLO HHI hAA hBB l1 l2 l3 l4 hX hnum he e0 hS hlt q0 q1
    obtain ⟨we1, we2⟩ := WE.out
    go_upto_region 40 with fail
    clear we1 we2
    go_cut [145] (fun v wx => v = .bool (decide (i < m ∧ m < e)) ∧ wx = wr)
    case first =>
     by_cases h1 : i < m
     ·by_cases h2 : m < e
      ·have HV : Hid (decide (i < m ∧ m < e) = true) := Lib.hid (decide_eq_true ⟨h1, h2⟩)
       have d2 : decide ((m : Int) < (e : Int)) = true := decide_eq_true (by omega)
       have d1 : decide ((i : Int) < (m : Int)) = true := decide_eq_true (by omega)
       go_wp2
       go_meet
       exact ⟨by rw [HV.out], rfl⟩
      ·have HV : Hid (decide (i < m ∧ m < e) = false) := Lib.hid (decide_eq_false (fun h => h2 h.2))
       have d2 : decide ((m : Int) < (e : Int)) = false := decide_eq_false (by omega)
       have d1 : decide ((i : Int) < (m : Int)) = true := decide_eq_true (by omega)
       go_wp2
       go_meet
       exact ⟨by rw [HV.out], rfl⟩
     ·have HV : Hid (decide (i < m ∧ m < e) = false) := Lib.hid (decide_eq_false (fun h => h1 h.1))
      have d1 : decide ((i : Int) < (m : Int)) = false := decide_eq_false (by omega)
      go_wp2
      go_meet
      exact ⟨by rw [HV.out], rfl⟩
    case rest =>
     obtain ⟨rfl, hwc⟩ := hcut
     subst hwc
     generalize wc = wr at *
     go_upto_if 145 with (fail)
     go_cut [18] (fun v wx => v = .int .i64 (i : Int) ∧ St wx (P ++ A1 ++ B1 ++ (A2 ++ B2 ++ S)) ∧ Turned (fun q => q = g) W1 wx)
     case first =>
      obtain ⟨q0, q1, _⟩ := hbx.turned hT
      have hS := HSS.out
      by_cases hc : i < m ∧ m < e
      ·rw [decide_eq_true hc]
       have hr := rot_any H (W := wr) (a := i) (m := m) (b := e) hS (by have := HL.out; have := HN.out; have := HE.out; rw [List.length_append]; omega) (by have := HL.out; omega) (by have := HL.out; have := HE.out; omega) (by have := HL.out; omega) (by have := HL.out; omega)
       have e1 : P ++ A1 ++ B1 ++ A2 ++ (B2 ++ S) = P ++ A1 ++ B1 ++ (A2 ++ B2 ++ S) := by simp
       rw [e1] at hr
       unfold lsV at hr
       clear hc e1 hS
       go_wp2_with (go_at_call 148; refine hr.mono ?_; rintro r w2 ⟨rfl, hS2, hT2⟩)
       go_meet
       exact ⟨rfl, hS2, hT.trans hT2⟩
      ·rw [decide_eq_false hc]
       have e1 : P ++ A1 ++ A2 ++ B1 ++ (B2 ++ S) = P ++ A1 ++ B1 ++ (A2 ++ B2 ++ S) := by
        have h1 := HL.out
        have h2 := HE.out
        have h3 : A2 = [] ∨ B1 = [] := by
         by_cases h4 : i < m
         ·exact .inr (List.eq_nil_of_length_eq_zero (by omega))
         ·exact .inl (List.eq_nil_of_length_eq_zero (by omega))
        rcases h3 with rfl | rfl <;> simp
       rw [e1] at hS
       have HS2 := Lib.hid hS
       clear hc e1 hS
       go_wp2
       go_meet
       exact ⟨rfl, HS2.out, hT⟩
     case rest =>
      obtain ⟨rfl, hS, hT⟩ := hcut
      generalize wc = wr at *
      have HS1 := Lib.hid hS
      clear hS HSS
      go_upto_region 42 with fail
      go_cut [158] (fun v wx => v = .bool (decide (a < i ∧ i < mid)) ∧ wx = wr)
      case first =>
       by_cases h1 : a < i
       ·by_cases h2 : i < mid
        ·have HV : Hid (decide (a < i ∧ i < mid) = true) := Lib.hid (decide_eq_true ⟨h1, h2⟩)
         have d2 : decide ((i : Int) < (mid : Int)) = true := decide_eq_true (by omega)
         have d1 : decide ((a : Int) < (i : Int)) = true := decide_eq_true (by omega)
         go_wp2
         go_meet
         exact ⟨by rw [HV.out], rfl⟩
        ·have HV : Hid (decide (a < i ∧ i < mid) = false) := Lib.hid (decide_eq_false (fun h => h2 h.2))
         have d2 : decide ((i : Int) < (mid : Int)) = false := decide_eq_false (by omega)
         have d1 : decide ((a : Int) < (i : Int)) = true := decide_eq_true (by omega)
         go_wp2
         go_meet
         exact ⟨by rw [HV.out], rfl⟩
       ·have HV : Hid (decide (a < i ∧ i < mid) = false) := Lib.hid (decide_eq_false (fun h => h1 h.1))
        have d1 : decide ((a : Int) < (i : Int)) = false := decide_eq_false (by omega)
        go_wp2
        go_meet
        exact ⟨by rw [HV.out], rfl⟩
      case rest =>
       obtain ⟨rfl, hwc⟩ := hcut
       subst hwc
       generalize wc = wr at *
       go_upto_if 158 with (fail)
       go_cut [18] (fun v wx => v = .int .i64 (i : Int) ∧ (∃ M1 : List Wr, M1.Perm (A1 ++ B1) ∧ Srd lt M1 ∧ St wx (P ++ M1 ++ (A2 ++ B2 ++ S))) ∧ Turned (fun q => q = g) W1 wx)
       case first =>
        obtain ⟨q0, q1, _⟩ := hbx.turned hT
        have hS := HS1.out
        by_cases hc : a < i ∧ i < mid
        ·rw [decide_eq_true hc]
         have hr := ih (W := wr) (A' := A1) (B' := B1) (a := a) (m := i) (b := mid) (by have := HL.out; have := HN.out; have := HE.out; have := NU.out.b0; have := NU.out.hn; omega) hS HN.out.1 (by have := HL.out; have := HE.out; omega) (by have := HL.out; have := HE.out; have := NU.out.hn; omega) (by have := HL.out; omega) (by have := HL.out; have := HE.out; have := NU.out.hn; omega) (srd_app.1 (HAB.out.1 ▸ sA)).1 (srd_app.1 (HAB.out.2 ▸ sB)).1
         unfold lsV at hr
         clear hc hS
         go_wp2_with (go_at_call 120; refine hr.mono ?_; rintro r w2 ⟨rfl, M1, hM, hsM, hS2, hT2⟩)
         go_meet
         exact ⟨rfl, ⟨M1, hM, hsM, hS2⟩, hT.trans hT2⟩
        ·rw [decide_eq_false hc]
         have HM : Hid (Srd lt (A1 ++ B1)) := Lib.hid (by
          have h1 := HL.out
          have h2 := HE.out
          have h4 := NU.out.hn
          have h3 : A1 = [] ∨ B1 = [] := by
           by_cases h5 : a < i
           ·exact .inr (List.eq_nil_of_length_eq_zero (by omega))
           ·exact .inl (List.eq_nil_of_length_eq_zero (by omega))
          rcases h3 with h | h
          ·rw [h]; exact (srd_app.1 (HAB.out.2 ▸ sB)).1
          ·rw [h, List.append_nil]; exact (srd_app.1 (HAB.out.1 ▸ sA)).1)
         have e1 : P ++ A1 ++ B1 ++ (A2 ++ B2 ++ S) = P ++ (A1 ++ B1) ++ (A2 ++ B2 ++ S) := by simp
         rw [e1] at hS
         have HS2 := Lib.hid hS
         clear hc e1 hS
         go_wp2
         go_meet
         exact ⟨rfl, ⟨A1 ++ B1, .refl _, HM.out, HS2.out⟩, hT⟩
       case rest =>
        obtain ⟨rfl, ⟨M1, hM1, hsM1, hS⟩, hT⟩ := hcut
        generalize wc = wr at *
        have HM1 := Lib.hid (And.intro hM1 hsM1)
        have e1 : P ++ M1 ++ (A2 ++ B2 ++ S) = (P ++ M1) ++ A2 ++ B2 ++ S := by simp
        rw [e1] at hS
        have HS2 := Lib.hid hS
        clear HS1 hM1 hsM1 e1 hS
        go_upto_region 44 with fail
        go_cut [171] (fun v wx => v = .bool (decide (mid < e ∧ e < b)) ∧ wx = wr)
        case first =>
         by_cases h1 : mid < e
         ·by_cases h2 : e < b
          ·have HV : Hid (decide (mid < e ∧ e < b) = true) := Lib.hid (decide_eq_true ⟨h1, h2⟩)
           have d2 : decide ((e : Int) < (b : Int)) = true := decide_eq_true (by omega)
           have d1 : decide ((mid : Int) < (e : Int)) = true := decide_eq_true (by omega)
           go_wp2
           go_meet
           exact ⟨by rw [HV.out], rfl⟩
          ·have HV : Hid (decide (mid < e ∧ e < b) = false) := Lib.hid (decide_eq_false (fun h => h2 h.2))
           have d2 : decide ((e : Int) < (b : Int)) = false := decide_eq_false (by omega)
           have d1 : decide ((mid : Int) < (e : Int)) = true := decide_eq_true (by omega)
           go_wp2
           go_meet
           exact ⟨by rw [HV.out], rfl⟩
         ·have HV : Hid (decide (mid < e ∧ e < b) = false) := Lib.hid (decide_eq_false (fun h => h1 h.1))
          have d1 : decide ((mid : Int) < (e : Int)) = false := decide_eq_false (by omega)
          go_wp2
          go_meet
          exact ⟨by rw [HV.out], rfl⟩
        case rest =>
         obtain ⟨rfl, hwc⟩ := hcut
         subst hwc
         generalize wc = wr at *
         obtain ⟨q0, q1, _⟩ := hbx.turned hT
         have hS := HS2.out
         have hfin : ∀ (M2 : List Wr) (w' : World), M2.Perm (A2 ++ B2) → Srd lt M2 → St w' (P ++ M1 ++ M2 ++ S) → Turned (fun k => k = g) W w' → SymPost St lt g W P A B S w' := fun M2 w' p2 s2 h1 h2 => by
          obtain ⟨r1, r2⟩ := srd_halves HM1.out.1 p2 HM1.out.2 s2 HX.out
          exact ⟨M1 ++ M2, by rw [HAB.out.1, HAB.out.2]; exact r2, r1, by rw [← List.append_assoc]; exact h1, h2⟩
         have HFIN := Lib.hid hfin
         clear hfin
         by_cases hc : mid < e ∧ e < b
         ·rw [decide_eq_true hc]
          have hr := ih (W := wr) (P := P ++ M1) (A' := A2) (B' := B2) (a := mid) (m := e) (b := b) (by have := HL.out; have := HN.out; have := HE.out; have := NU.out.a0; have := NU.out.hn; omega) hS (by have := HM1.out.1.length_eq; have := HL.out; have := HN.out; have := HE.out; have := NU.out.hn; rw [List.length_append] at *; omega) (by have := HL.out; have := HE.out; have := NU.out.hn; omega) (by have := HL.out; have := HE.out; omega) (by have := HL.out; have := HE.out; have := NU.out.hn; omega) (by have := HL.out; omega) (srd_app.1 (HAB.out.1 ▸ sA)).2.1 (srd_app.1 (HAB.out.2 ▸ sB)).2.1
          unfold lsV at hr
          clear hc hS
          go_wp2_with (go_at_call 120; refine hr.mono ?_; rintro r w2 ⟨rfl, M2, hM, hsM, hS2, hT2⟩)
          go_end0
          exact ⟨rfl, HFIN.out M2 w2 hM hsM hS2 ((hT1.trans hT).trans hT2)⟩
         ·rw [decide_eq_false hc]
          have HM : Hid (Srd lt (A2 ++ B2)) := Lib.hid (by
           have h1 := HL.out
           have h2 := HE.out
           have h4 := NU.out.hn
           have h3 : A2 = [] ∨ B2 = [] := by
            by_cases h5 : e < b
            ·exact .inl (List.eq_nil_of_length_eq_zero (by omega))
            ·exact .inr (List.eq_nil_of_length_eq_zero (by omega))
           rcases h3 with h | h
           ·rw [h]; exact (srd_app.1 (HAB.out.2 ▸ sB)).2.1
           ·rw [h, List.append_nil]; exact (srd_app.1 (HAB.out.1 ▸ sA)).2.1)
          have e1 : P ++ M1 ++ A2 ++ B2 ++ S = P ++ M1 ++ (A2 ++ B2) ++ S := by simp
          rw [e1] at hS
          have HS3 := Lib.hid hS
          clear hc e1 hS
          go_wp2
          go_end0
          exact ⟨rfl, HFIN.out (A2 ++ B2) _ (.refl _) HM.out HS3.out (hT1.trans hT)⟩
theorem sym_any (H : Srt lg lb sf sb g lt St) (hO : SWO lt) : ∀ (N : Nat) {W : World} {P A B S : List Wr} {a m b : Nat}, A.length + B.length ≤ N → St W (P ++ A ++ B ++ S) → P.length = a → a + A.length = m → m + B.length = b → 0 < A.length → 0 < B.length → Srd lt A → Srd lt B →
  Calls Tryz.prog 120 #[lsV lg lb sf sb, .int .i64 (a : Int), .int .i64 (m : Int), .int .i64 (b : Int)] W fun e w' => e = .returned (.tuple #[]) ∧ SymPost St lt g W P A B S w' := by
 intro N
 induction N with
 | zero => intro W P A B S a m b h _ _ _ _ h1 _; omega
 | succ N IH =>
  intro W P A B S a m b hN hS hP hA hB hA0 hB0 sA sB
  by_cases h1 : A.length = 1
  ·obtain ⟨x, rfl⟩ := List.length_eq_one_iff.1 h1
   exact sym_left H hO hS hP hA hB sB
  ·by_cases h2 : B.length = 1
   ·obtain ⟨y, rfl⟩ := List.length_eq_one_iff.1 h2
    exact sym_right H hO hS hP hA hB h1 hA0 sA
   ·exact sym_gen H hO hS hP hA hB (by omega) (by omega) sA sB (fun h => IH (by omega))
end
end Go.Proofs.YtlpkpfpmcppciaaGreatDoor
end

section
namespace Go.Proofs.YtlpkpfpmcppciaaGreatDoor
set_option linter.unusedSimpArgs false
set_option linter.unusedVariables false
open Go.RowKit
open Go.Sort (SWO)
section
variable {lg : Nat} {lb : Array Value} {sf : Nat} {sb : Array Value} {g : Nat} {lt : Wr → Wr → Bool} {St : World → List Wr → Prop}
/-- An insertion under way. -/
structure InsAt (lt : Wr → Wr → Bool) (M M1 M2 : List Wr) (x : Wr) : Prop where
 m : M = M1 ++ M2
 s : Srd lt M
 g : ∀ y ∈ M2, lt x y = true
theorem InsAt.stop {M M1 M2 : List Wr} {x : Wr} (hO : SWO lt) (h : InsAt lt M M1 M2 x) (hz : ∀ z, M1.getLast? = some z → lt x z = false) : Srd lt (M1 ++ [x] ++ M2) ∧ (M1 ++ [x] ++ M2).Perm (M ++ [x]) := by
 have hs := h.m ▸ h.s
 refine ⟨srd_right hO hs (fun y hy => ?_) h.g, ?_⟩
 ·obtain ⟨s1, _, _⟩ := srd_app.1 hs
  have hn : M1 ≠ [] := fun e => by rw [e] at hy; cases hy
  obtain ⟨z, hz'⟩ : ∃ z, M1.getLast? = some z := ⟨_, List.getLast?_eq_some_getLast hn⟩
  have h1 := hz z hz'
  rw [List.getLast?_eq_getElem?] at hz'
  obtain ⟨i, hi, ei⟩ := mem_at hy
  exact hO.ntrans x z y h1 (srd_at' hO s1 (i := i) (j := M1.length - 1) (by omega) ei hz')
 ·rw [h.m, List.append_assoc, List.append_assoc]
  exact List.Perm.append_left M1 List.perm_append_comm
theorem InsAt.step {M M1 M2 : List Wr} {x z : Wr} (h : InsAt lt M (M1 ++ [z]) M2 x) (hz : lt x z = true) : InsAt lt M M1 (z :: M2) x :=
 ⟨by rw [h.m]; simp, h.s, fun y hy => by
  rcases List.mem_cons.1 hy with rfl | hy
  ·exact hz
  ·exact h.g y hy⟩
set_option maxHeartbeats 4000000 in
set_option maxRecDepth 100000 in
theorem ins_any (H : Srt lg lb sf sb g lt St) (hO : SWO lt) {W : World} {P A S : List Wr} {a b : Nat} (hSt : St W (P ++ A ++ S)) (hP : P.length = a) (hA : a + A.length = b) :
  Calls Tryz.prog 119 #[lsV lg lb sf sb, .int .i64 (a : Int), .int .i64 (b : Int)] W fun e w' => e = .returned (.tuple #[]) ∧ ∃ M : List Wr, M.Perm A ∧ Srd lt M ∧ St w' (P ++ M ++ S) ∧ Turned (fun k => k = g) W w' := by
 have hbx := Box.new (lg := lg) (lb := lb) (sf := sf) (sb := sb) W (H.here _ _ hSt) 154
 have hS1 := H.alloc _ _ (.cells #[.func (.func lg) #[] lb, .func (.func sf) #[] sb] 154) hSt
 have hT1 : Turned (fun k => k = g) W (W.alloc (.cells #[.func (.func lg) #[] lb, .func (.func sf) #[] sb] 154)) := .of_below ((Below.refl _ _).alloc (Nat.le_refl _) _)
 have hsz := H.size _ _ hSt
 have hb8 : b ≤ 1000000 := by simp only [List.length_append] at hsz; omega
 obtain ⟨bx, hbxe⟩ : ∃ x, x = W.heap.size := ⟨_, rfl⟩
 have HN := Lib.hid (And.intro hP (And.intro hA hb8))
 have WA := Lib.hid (w_one (a := a) (by omega))
 have e0 : P ++ A ++ S = P ++ A.take 1 ++ (A.drop 1 ++ S) := by rw [List.append_assoc P (A.take 1), ← List.append_assoc (A.take 1), List.take_append_drop, List.append_assoc]
 rw [e0] at hS1
 have HS1 := Lib.hid hS1
 have H1 : Hid (Srd lt (A.take 1)) := Lib.hid (by
  cases A with
  | nil => exact List.Pairwise.nil
  | cons x l => exact srd_one x)
 obtain ⟨wa1, wa2⟩ := WA.out
 clear hSt hP hA hsz hb8 e0 hS1
 unfold lsV
 go_enter Tryz.func119, Tryz.ntmps119
 go_upto_region 1 with fail
 rw [← hbxe] at hbx ⊢
 clear hbxe
 generalize W.alloc (.cells #[.func (.func lg) #[] lb, .func (.func sf) #[] sb] 154) = W1 at *
 go_wp2
 clear wa1 wa2
 go_loopw [6, 7] (fun vi _ wr => ∃ (t i : Nat) (M : List Wr), vi = .int .i64 i ∧ Hid (i = a + t ∧ 1 ≤ t ∧ i ≤ b + 1) ∧ Hid (M.Perm (A.take t) ∧ Srd lt M) ∧ St wr (P ++ M ++ (A.drop t ++ S)) ∧ Turned (fun q => q = g) W1 wr) (fun vi _ _ => b + 1 - (intOf vi).toNat)
 case atStart => exact ⟨1, a + 1, A.take 1, by go_num, Lib.hid ⟨rfl, Nat.le_refl _, by have := HN.out; omega⟩, Lib.hid ⟨.refl _, H1.out⟩, HS1.out, .refl _ _⟩
 case round =>
  clear HS1 H1
  obtain ⟨t, i, M, rfl, HI, HM, hS, hT⟩ := hrel
  by_cases hlt : i < b
  ·have htl : t < A.length := by have := HI.out; have := HN.out; omega
   obtain ⟨x, hx⟩ : ∃ x, A[t]? = some x := ⟨_, List.getElem?_eq_getElem htl⟩
   have ex : A[t] = x := by rw [List.getElem?_eq_getElem htl] at hx; injection hx
   have dx : A.drop t = x :: A.drop (t + 1) := by rw [List.drop_eq_getElem_cons htl, ex]
   have HTX : Hid (A.take (t + 1) = A.take t ++ [x]) := Lib.hid (by rw [List.take_succ_eq_append_getElem htl, ex])
   have HML : Hid (M.length = t) := Lib.hid (by have := HM.out.1.length_eq; rw [List.length_take] at this; omega)
   have HIN := Lib.hid (InsAt.mk (lt := lt) (M := M) (M1 := M) (M2 := []) (x := x) (by simp) HM.out.2 (fun y hy => by cases hy))
   have e1 : P ++ M ++ (A.drop t ++ S) = P ++ M ++ x :: ([] ++ (A.drop (t + 1) ++ S)) := by rw [dx]; simp
   rw [e1] at hS
   have HSS := Lib.hid hS
   have WI := Lib.hid (w_one (a := i) (by have := HN.out; omega))
   have HIL : Hid (i < b) := Lib.hid hlt
   clear htl hx ex dx e1 hS
   go_wp2
   go_loopw [7] (fun vj wx => ∃ (j : Nat) (M1 M2 : List Wr), vj = .int .i64 j ∧ Hid (j = a + M1.length ∧ j ≤ i) ∧ Hid (InsAt lt M M1 M2 x) ∧ St wx (P ++ M1 ++ x :: (M2 ++ (A.drop (t + 1) ++ S))) ∧ Turned (fun q => q = g) W1 wx) (fun vj _ => (intOf vj).toNat)
   case atStart => exact ⟨i, M, [], rfl, Lib.hid ⟨by have := HI.out; have := HML.out; omega, Nat.le_refl _⟩, HIN.out |> Lib.hid, HSS.out, hT⟩
   case round =>
    clear HIN HSS hT
    obtain ⟨j, M1, M2, rfl, HJ, HIM, hS, hT⟩ := hrel
    obtain ⟨q0, q1, _⟩ := hbx.turned hT
    have hout : (∀ z, M1.getLast? = some z → lt x z = false) → ∀ W2, St W2 (P ++ M1 ++ x :: (M2 ++ (A.drop (t + 1) ++ S))) → ∃ M' : List Wr, (M'.Perm (A.take (t + 1)) ∧ Srd lt M') ∧ St W2 (P ++ M' ++ (A.drop (t + 1) ++ S)) := fun hz W2 h2 => by
     obtain ⟨r1, r2⟩ := HIM.out.stop hO hz
     refine ⟨M1 ++ [x] ++ M2, ⟨r2.trans ?_, r1⟩, ?_⟩
     ·rw [HTX.out]; exact List.Perm.append_right [x] HM.out.1
     ·have e : P ++ (M1 ++ [x] ++ M2) ++ (A.drop (t + 1) ++ S) = P ++ M1 ++ x :: (M2 ++ (A.drop (t + 1) ++ S)) := by simp
      rw [e]; exact h2
    have HOUT := Lib.hid hout
    have HI2 : Hid (i + 1 = a + (t + 1) ∧ 1 ≤ t + 1 ∧ i + 1 ≤ b + 1) := Lib.hid (by have := HI.out; have := HIL.out; omega)
    have HMO : Hid (b + 1 - (i + 1) < b + 1 - i) := Lib.hid (by have := HIL.out; omega)
    clear hout
    by_cases hja : a < j
    ·have hn : M1 ≠ [] := fun e => by rw [e] at HJ; have := HJ.out; simp at this; omega
     obtain ⟨z, hz⟩ : ∃ z, M1.getLast? = some z := ⟨_, List.getLast?_eq_some_getLast hn⟩
     obtain ⟨M3, rfl⟩ : ∃ M3, M1 = M3 ++ [z] := by
      refine ⟨M1.dropLast, ?_⟩
      have h1 := List.getLast?_eq_some_getLast hn
      rw [hz] at h1
      injection h1 with h1
      rw [h1]
      exact (List.dropLast_concat_getLast hn).symm
     have hU : j - 1 = (P ++ M3).length := by have h1 := HJ.out; have h2 := HN.out; simp only [List.length_append, List.length_cons, List.length_nil] at *; omega
     have hJJ : j = (P ++ M3).length + 1 + ([] : List Wr).length := by rw [← hU]; simp only [List.length_nil]; omega
     have e1 : P ++ (M3 ++ [z]) ++ x :: (M2 ++ (A.drop (t + 1) ++ S)) = (P ++ M3) ++ z :: ([] ++ x :: (M2 ++ (A.drop (t + 1) ++ S))) := by simp
     have HE1 := Lib.hid e1
     rw [e1] at hS
     obtain ⟨g1, g2⟩ := get_pair (P ++ M3) [] (M2 ++ (A.drop (t + 1) ++ S)) z x (i := j - 1) (j := j) hU hJJ
     have hl := H.less wr _ j (j - 1) x z hS g2 g1
     have HG := Lib.hid (And.intro g1 (And.intro g2 (And.intro hU hJJ)))
     obtain ⟨j1, hj1⟩ : ∃ j1, j1 = j - 1 := ⟨_, rfl⟩
     have W1F := Lib.hid (w_sub1 (a := j) (c := j1) (by omega) (by have := HJ.out; have := HIL.out; have := HN.out; omega))
     have HJ1 : Hid (j1 = a + M3.length ∧ j1 ≤ i) := Lib.hid (by have h1 := HJ.out; simp only [List.length_append, List.length_cons, List.length_nil] at h1; omega)
     have HMS : Hid (j1 < j) := Lib.hid (by omega)
     have HJ1E := Lib.hid hj1
     have hja' : decide ((a : Int) < (j : Int)) = true := decide_eq_true (by omega)
     rw [← hj1] at hl
     have eg := H.eg
     clear hn hU hJJ e1 g1 g2 hj1 hS
     cases hv : lt x z with
     | true =>
      rw [hv] at hl
      have HST := Lib.hid (HIM.out.step hv)
      clear hv hz
      obtain ⟨f8, f9⟩ := W1F.out
      go_upto_region 7 with (go_at_fn lg; refine hl.mono ?_; rintro e w2 ⟨rfl, hS2, hT2⟩)
      obtain ⟨q2, q3, _⟩ := hbx.turned (hT.trans hT2)
      obtain ⟨W3, hrun, hS3, hT3⟩ := H.swap _ _ _ _ _ _ hS2 HG.out.2.1 HG.out.1
      rw [set_pair' _ _ _ _ _ HG.out.2.2.1 HG.out.2.2.2] at hS3
      have HS3 := Lib.hid hS3
      rw [← HJ1E.out] at hrun
      clear hS3 hS2 q0 q1 hl
      go_wp2
      clear f8 f9
      go_roundw
      case rel => exact ⟨j1, M3, z :: M2, rfl, HJ1, HST, by have h := HS3.out; rw [List.nil_append] at h; exact h, (hT.trans hT2).trans hT3⟩
      case measure => exact HMS.out
     | false =>
      rw [hv] at hl
      have HZ : Hid (∀ z', (M3 ++ [z]).getLast? = some z' → lt x z' = false) := Lib.hid (fun z' h => by rw [hz] at h; injection h with h; rw [← h]; exact hv)
      clear hv hz
      obtain ⟨f8, f9⟩ := W1F.out
      obtain ⟨f10, f11⟩ := WI.out
      go_wp2_with (go_at_fn lg; refine hl.mono ?_; rintro e w2 ⟨rfl, hS2, hT2⟩)
      clear f8 f9 f10 f11
      rw [← HE1.out] at hS2
      obtain ⟨M', hM', hS3⟩ := HOUT.out HZ.out w2 hS2
      go_roundw
      case rel => exact ⟨t + 1, i + 1, M', by go_num, HI2, Lib.hid hM', hS3, hT.trans hT2⟩
      case measure => exact mi HI2.out.2.2
    ·have hM1 : M1 = [] := List.eq_nil_of_length_eq_zero (by have := HJ.out; omega)
     obtain ⟨M', hM', hS3⟩ := HOUT.out (fun z hz => by rw [hM1] at hz; cases hz) wr hS
     have HM' := Lib.hid hM'
     have HS3 := Lib.hid hS3
     have hja' : decide ((a : Int) < (j : Int)) = false := decide_eq_false (by omega)
     clear hM1 hM' hS3 hS
     obtain ⟨f10, f11⟩ := WI.out
     go_wp2
     clear f10 f11
     go_roundw
     case rel => exact ⟨t + 1, i + 1, M', by go_num, HI2, HM', HS3.out, hT⟩
     case measure => exact mi HI2.out.2.2
  ·have htl : A.length ≤ t := by have := HI.out; have := HN.out; omega
   have e1 : P ++ M ++ (A.drop t ++ S) = P ++ M ++ S := by rw [List.drop_eq_nil_of_le htl]; simp
   have HPM : Hid (M.Perm A) := Lib.hid (by have := HM.out.1; rw [List.take_of_length_le htl] at this; exact this)
   rw [e1] at hS
   have HSS := Lib.hid hS
   clear htl e1 hS
   go_wp2
   go_end0
   exact ⟨rfl, M, HPM.out, HM.out.2, HSS.out, hT1.trans hT⟩
end
end Go.Proofs.YtlpkpfpmcppciaaGreatDoor
end
