/- The reference's record. -/
import Derived.Test.YtfefpcdgflgaeaaGreatDoorZ9
import Derived.Test.YtfefpcdgflgaeaaGreatDoorShelfTrim
import Derived.Deep.DeepCutAuto
import Derived.Deep.Cut
import Derived.Deep.CutBlock
section
namespace Go.Proofs.YtfefpcdgflgaeaaGreatDoor
set_option linter.unusedSimpArgs false
set_option linter.unusedVariables false
open Go.RowKit As Go.Maps
theorem drop_same (n : Nat) : (List.replicate n (0 : UInt8)).dropWhile (· == 0) = [] := by
 induction n with
 | zero => rfl
 | succ n ih => simp
theorem trimB_zeros (n : Nat) : Lib.trimB (List.replicate n 0) 0 = [] := by
 unfold Lib.trimB Lib.trimRightB Lib.trimLeftB
 rw [List.reverse_replicate, drop_same]
 rfl
/-- What trimming leaves. -/
theorem trim_any (s : ByteArray) (w : World) (hs : s.size ≤ 1000000) :
  Calls Tryz.prog 76 #[.string s, .string ⟨#[0]⟩] w fun e w' => e = .returned (.string ⟨(Lib.trimB s.data.toList 0).toArray⟩) ∧ Below w.heap.size w w' :=
 (Tryz.strings_Trim_one s 0 (by decide) w (by omega)).mono fun _ _ ⟨a, b⟩ => ⟨a, by
  rcases b with b | b
  ·rw [b]; exact Below.refl _ _
  ·rw [b]; exact (Below.refl _ _).drew⟩
theorem open_part {s t : ByteArray} {e : Int} (h : openOf s = (t, e)) (h4 : 4 ≤ s.size) : e = 0 ∧ t = s.extract 0 (s.size - 4) ∨ e = 15 := by
 by_cases h2 : sealOf (s.extract 0 (s.size - 4)) = s
 ·rw [open_good (by omega) h2] at h
  injection h with h1 h2
  exact .inl ⟨h2.symm, h1.symm⟩
 ·rw [open_bad (by omega) h2] at h
  injection h with h1 h2
  exact .inr h2.symm
set_option maxHeartbeats 1000000 in
set_option maxRecDepth 100000 in
theorem rrecord_no (s : ByteArray) (w : World) (h : s = zeros 32) :
  Calls Tryz.prog 50 #[.string s] w fun e w' => e = .returned (recT none) ∧ Below w.heap.size w w' := by
 have hs : s.size = 32 := by rw [h, zeros_size]
 have hb : ∀ i, byteAt s i = 0 := fun i => by
  rw [h]
  unfold byteAt
  rw [zeros_list]
  simp only [List.getD_eq_getElem?_getD, List.getElem?_replicate]
  split <;> rfl
 have HB := Lib.hid hb
 have ls : s.size ≤ 32 := by omega
 have ls2 : 32 ≤ s.size := by omega
 clear h hs hb
 go_enter Tryz.func50, Tryz.ntmps50
 go_wp2
 go_loopw [7] (fun nv wr => ∃ n : Nat, 12 ≤ n ∧ n ≤ 33 ∧ nv = .int .i64 (n : Int) ∧ Below w.heap.size w wr) (fun nv _ => 33 - (intOf nv).toNat)
 case atStart => exact ⟨12, by omega, by omega, rfl, Below.refl _ _⟩
 case round =>
  obtain ⟨n, hn1, hn2, rfl, hbel⟩ := hrel
  by_cases hlt : n ≤ 32
  ·have t0 : decide ((n : Int) ≤ (s.size : Int)) = true := decide_eq_true (by omega)
   have t0' : decide (n ≤ s.size) = true := decide_eq_true (by omega)
   have hns : n ≤ s.size := by omega
   have hxs : (s.extract 0 n).size = n := by rw [ByteArray.size_extract]; omega
   have HXS := Lib.hid hxs
   have HZ2 : Hid ((s.extract 0 n).size ≤ 1000000) := Lib.hid (by omega)
   have W1 := Lib.hid (w_in ((n : Int) + 1) (n + 1) (by omega) (by omega))
   have HM := Lib.hid (show 33 - ((n : Int) + 1).toNat < 33 - n by omega)
   clear hxs
   go_wp2_with fail
   refine (ropen_any _ _ HZ2.out).mono ?_
   rintro r w1 ⟨rfl, hb1⟩
   have hb2 := hbel.trans (hb1.mono hbel.size)
   obtain ⟨t, e, ho⟩ : ∃ t e, openOf (s.extract 0 n) = (t, e) := ⟨_, _, rfl⟩
   have hor := open_part ho (by rw [HXS.out]; omega)
   rw [ho]
   clear ho hb1 hbel
   rcases hor with ⟨rfl, rfl⟩ | rfl
   ·have hts : ((s.extract 0 n).extract 0 ((s.extract 0 n).size - 4)).size = n - 4 := by rw [HXS.out, ByteArray.size_extract, HXS.out]; omega
    have hb0 : byteAt ((s.extract 0 n).extract 0 ((s.extract 0 n).size - 4)) 0 = 0 := by
     rw [HXS.out, extract_at _ _ _ _ (by omega) (by rw [HXS.out]; omega), extract_at _ _ _ _ (by omega) hns]
     exact HB.out _
    generalize (s.extract 0 n).extract 0 ((s.extract 0 n).size - 4) = t at *
    have hp : 0 < t.size := by omega
    have i0 : (0 : Int) < (t.size : Int) := by omega
    have q0 : ((t[0].toNat : Int) != 82) = true := by
     rw [bne_iff_ne]
     have := byteAt_eq t 0 hp
     omega
    clear hts hb0
    obtain ⟨wk1, wk2⟩ := W1.out
    clear W1
    simp only
    go_wp2
    go_roundw
    case rel => exact ⟨n + 1, by omega, by omega, by go_num, hb2⟩
    case measure => simpa [intOf] using HM.out
   ·obtain ⟨wk1, wk2⟩ := W1.out
    clear W1
    simp only
    go_wp2
    go_roundw
    case rel => exact ⟨n + 1, by omega, by omega, by go_num, hb2⟩
    case measure => simpa [intOf] using HM.out
  ·have t0 : decide ((n : Int) ≤ (s.size : Int)) = false := decide_eq_false (by omega)
   have t0' : decide (n ≤ s.size) = false := decide_eq_false (by omega)
   clear hlt
   go_wp2
   exact bodyPost_ret (v := recT none) (by simp [results, Tryz.results50, go_sem, recT]) rfl ⟨rfl, hbel⟩
theorem pre_drop {α : Type} {a b : List α} (h : a <+: b) (k : Nat) : a.drop k <+: b.drop k := by
 obtain ⟨r, rfl⟩ := h
 rw [List.drop_append]
 exact List.prefix_append _ _
/-- A text that a record's sector begins with, cut off: its three numbers, each whole or not at all. -/
theorem rec_cut {m nm t f : Nat} (hm : m ≤ 1000000) (ht : t ≤ 4096) (hf : f ≤ 4096) {x : ByteArray} (hx : x.data.toList <+: (recS m nm t f).data.toList) :
  (x.size < 1 + (vput m).length ∧ (vat x 1 big50).2.2 = 7 ∨ 1 + (vput m).length ≤ x.size ∧ vat x 1 big50 = (m, (vput m).length, 0)) ∧
  (1 + (vput m).length + 4 ≤ x.size → x.size < 1 + (vput m).length + 4 + (vput t).length ∧ (vat x (1 + (vput m).length + 4) 4096).2.2 = 7 ∨ 1 + (vput m).length + 4 + (vput t).length ≤ x.size ∧ vat x (1 + (vput m).length + 4) 4096 = (t, (vput t).length, 0)) ∧
  (1 + (vput m).length + 4 + (vput t).length ≤ x.size → x.size < 1 + (vput m).length + 4 + (vput t).length + (vput f).length ∧ (vat x (1 + (vput m).length + 4 + (vput t).length) 4096).2.2 = 7 ∨ 1 + (vput m).length + 4 + (vput t).length + (vput f).length ≤ x.size ∧ vat x (1 + (vput m).length + 4 + (vput t).length) 4096 = (f, (vput f).length, 0)) := by
 rw [recS_list] at hx
 generalize (lowB 4 (crcOf (recB m nm t f)) ++ List.replicate (32 - (sealOf (recB m nm t f)).size) 0) = r at hx
 have hl : x.data.toList.length = x.size := by simp
 have l4 := lowB_len 4 nm
 have p1 : x.data.toList.drop 1 <+: vput m ++ (lowB 4 nm ++ (vput t ++ (vput f ++ r))) := by
  have := pre_drop hx 1
  simpa using this
 have p2 : x.data.toList.drop (1 + (vput m).length + 4) <+: vput t ++ (vput f ++ r) := by
  have := pre_drop hx (((vput m).length + 4) + 1)
  rw [List.drop_succ_cons] at this
  have e : List.drop ((vput m).length + 4) (vput m ++ (lowB 4 nm ++ (vput t ++ (vput f ++ r)))) = vput t ++ (vput f ++ r) := by rw [← List.drop_drop, List.drop_left, List.drop_left' l4]
  rw [e] at this
  rw [show 1 + (vput m).length + 4 = ((vput m).length + 4) + 1 by omega]
  exact this
 have p3 : x.data.toList.drop (1 + (vput m).length + 4 + (vput t).length) <+: vput f ++ r := by
  have := pre_drop p2 (vput t).length
  rw [List.drop_left, List.drop_drop] at this
  exact this
 refine ⟨?_, fun h1 => ?_, fun h1 => ?_⟩
 ·rcases vint_cut (n := m) (by simp; omega) (most := big50) (by unfold big50; omega) _ p1 with ⟨h2, h3⟩ | ⟨h2, h3, _⟩
  ·exact .inl ⟨by rw [List.length_drop, hl] at h2; have := vput_pos m; omega, by rw [vat_list, h3]⟩
  ·have hx1 : 1 ≤ x.size := by rw [List.length_drop, hl] at h2; have := vput_pos m; omega
   exact .inr ⟨by rw [List.length_drop, hl] at h2; omega, by rw [vat_list, h3]⟩
 ·rcases vint_cut (n := t) (by simp; omega) (most := 4096) (by omega) _ p2 with ⟨h2, h3⟩ | ⟨h2, h3, _⟩
  ·exact .inl ⟨by rw [List.length_drop, hl] at h2; omega, by rw [vat_list, h3]⟩
  ·exact .inr ⟨by rw [List.length_drop, hl] at h2; omega, by rw [vat_list, h3]⟩
 ·rcases vint_cut (n := f) (by simp; omega) (most := 4096) (by omega) _ p3 with ⟨h2, h3⟩ | ⟨h2, h3, _⟩
  ·exact .inl ⟨by rw [List.length_drop, hl] at h2; omega, by rw [vat_list, h3]⟩
  ·exact .inr ⟨by rw [List.length_drop, hl] at h2; omega, by rw [vat_list, h3]⟩
theorem extract_pre (s : ByteArray) (k : Nat) : (s.extract 0 k).data.toList <+: s.data.toList := by
 rw [ByteArray.data_extract, Array.toList_extract]
 show List.take (k - 0) (List.drop 0 s.data.toList) <+: _
 exact List.take_prefix _ _
/-- Behind the record there are noughts. -/
theorem rec_behind {m nm t f : Nat} (h : (sealOf (recB m nm t f)).size ≤ 32) : ((recS m nm t f).extract (sealOf (recB m nm t f)).size (recS m nm t f).size).data.toList = List.replicate (32 - (sealOf (recB m nm t f)).size) 0 := by
 rw [ByteArray.data_extract, Array.toList_extract]
 have e : (recS m nm t f).data.toList = (sealOf (recB m nm t f)).data.toList ++ List.replicate (32 - (sealOf (recB m nm t f)).size) 0 := padz_list _
 have hl : (sealOf (recB m nm t f)).data.toList.length = (sealOf (recB m nm t f)).size := by simp
 have hs : (recS m nm t f).size = 32 := padz_size h
 rw [e]
 show List.take _ (List.drop _ _) = _
 rw [List.drop_left' hl, hs, List.take_of_length_le (by simp)]
/-- The name, from byte j on. -/
theorem name_step {nm j : Nat} (h : nm < 4294967296) : nm / 256 ^ (j + 1) * 256 + nm / 256 ^ j % 256 = nm / 256 ^ j ∧ nm / 256 ^ (j + 1) * 256 < 4294967296 ∧ nm / 256 ^ j < 4294967296 := by
 have e : nm / 256 ^ (j + 1) = nm / 256 ^ j / 256 := by rw [Nat.div_div_eq_div_mul, Nat.pow_succ]
 have h2 : nm / 256 ^ j ≤ nm := Nat.div_le_self _ _
 rw [e]
 omega
theorem rk1 {M T F P n X : Nat} (hP : P = 1 + M + 4 + T + F + 4) (hx : X = n - 4) (h : X < 1 + M + 4 + T) : n ≠ P := by omega
theorem rk2 {M T F P n X : Nat} (hP : P = 1 + M + 4 + T + F + 4) (hx : X = n - 4) (h : X < 1 + M + 4 + T + F) : n ≠ P := by omega
theorem rk3 {M T F P n X Q T4 T5 U : Nat} (hP : P = 1 + M + 4 + T + F + 4) (hx : X = n - 4) (hQ : Q = 1 + M) (h4 : T4 = 4 + T) (h5 : T5 = T4 + F) (hu : U = X - Q) (hl : 1 + M + 4 + T + F ≤ X) (hn : 12 ≤ n) : T5 = U ↔ n = P := by omega
theorem rk4 {M T X Q T4 U : Nat} (hQ : Q = 1 + M) (h4 : T4 = 4 + T) (hu : U = X - Q) (hl : 1 + M + 4 + T ≤ X) : T4 ≤ U := by omega
theorem rk5 {M T F P : Nat} (hP : P = 1 + M + 4 + T + F + 4) (h : P ≤ 32) : M ≤ 32 ∧ T ≤ 32 ∧ F ≤ 32 := by omega
theorem w_four {T T4 : Nat} (h : T4 = 4 + T) (hT : T ≤ 1000) : IntKind.i64.wrap (4 + (T : Int)) = (T4 : Int) ∧ wrap64 (4 + (T : Int)) = (T4 : Int) := w_in _ _ (by omega) (by omega)
theorem w_plus {a b c : Nat} (h : c = a + b) (ha : a ≤ 1000) (hb : b ≤ 1000) : IntKind.i64.wrap ((a : Int) + (b : Int)) = (c : Int) ∧ wrap64 ((a : Int) + (b : Int)) = (c : Int) := w_in _ _ (by omega) (by omega)
theorem le_four {T T4 : Nat} (h : T4 = 4 + T) (hT : T ≤ 32) : T4 ≤ 1000 ∧ T ≤ 1000 := by omega
set_option maxHeartbeats 4000000 in
set_option maxRecDepth 100000 in
theorem rrecord_yes {m nm t f : Nat} (s : ByteArray) (w : World) (hm : m ≤ 1000000) (hn : nm < 4294967296) (ht0 : 0 < t) (ht : t ≤ 4096) (hf : f ≤ t) (h : s = recS m nm t f) :
  Calls Tryz.prog 50 #[.string s] w fun e w' => e = .returned (recT (some (m, nm, t, f))) ∧ Below w.heap.size w w' := by
 have hsz := recS_size (m := m) (nm := nm) hm ht (f := f) (by omega)
 have hs : s.size = 32 := by rw [h]; exact padz_size hsz
 have hO := rec_open hsz
 have hbe := rec_behind hsz
 have hname : ∀ j, j < 4 → byteAt s (1 + (vput m).length + j) = nm / 256 ^ j % 256 := fun j hj => by rw [h]; exact rec_name hj
 have he : (sealOf (recB m nm t f)).size = 1 + (vput m).length + 4 + (vput t).length + (vput f).length + 4 := by rw [sealOf_size, recB_size]; omega
 have hrs : (recB m nm t f).size = 1 + (vput m).length + 4 + (vput t).length + (vput f).length := by rw [recB_size]; omega
 have hcut := fun (x : ByteArray) (hx : x.data.toList <+: s.data.toList) => rec_cut (m := m) (nm := nm) (t := t) (f := f) (x := x) hm ht (by omega) (by rw [← h]; exact hx)
 have lM := vput_pos m
 have lT := vput_pos t
 have lF := vput_pos f
 have hb0 : byteAt s 0 = 82 := by rw [h]; unfold byteAt; rw [recS_list]; rfl
 rw [he] at hO hsz hbe
 rw [← h] at hO hbe
 generalize recB m nm t f = RB at *
 generalize (vput m).length = M at *
 generalize (vput t).length = T at *
 generalize (vput f).length = F at *
 clear h he
 obtain ⟨P, hP⟩ : ∃ P, P = 1 + M + 4 + T + F + 4 := ⟨_, rfl⟩
 rw [← hP] at hO hsz hbe
 have ls : s.size ≤ 32 := by omega
 have ls2 : 32 ≤ s.size := by omega
 have hP12 : 12 ≤ P := by omega
 have HO := Lib.hid hO
 have HBE := Lib.hid hbe
 have HNAME := Lib.hid hname
 have HCUT := Lib.hid hcut
 have HB0 := Lib.hid hb0
 have HS := Lib.hid hs
 have HP := Lib.hid hP
 have HRS := Lib.hid hrs
 have HBND := Lib.hid (rk5 hP hsz)
 clear hO hbe hname hcut hb0 hs hP hrs
 go_enter Tryz.func50, Tryz.ntmps50
 go_wp2
 go_loopw [7] (fun nv wr => ∃ n : Nat, 12 ≤ n ∧ n ≤ P ∧ nv = .int .i64 (n : Int) ∧ Below w.heap.size w wr) (fun nv _ => 33 - (intOf nv).toNat)
 case atStart => exact ⟨12, by omega, hP12, rfl, Below.refl _ _⟩
 case round =>
  obtain ⟨n, hn1, hn2, rfl, hbel⟩ := hrel
  have hns : n ≤ s.size := by omega
  have t0 : decide ((n : Int) ≤ (s.size : Int)) = true := decide_eq_true (by omega)
  have t0' : decide (n ≤ s.size) = true := decide_eq_true (by omega)
  have hxs : (s.extract 0 n).size = n := by rw [ByteArray.size_extract]; omega
  have HXS := Lib.hid hxs
  have HZ2 : Hid ((s.extract 0 n).size ≤ 1000000) := Lib.hid (by omega)
  have HZ3 : Hid ((s.extract n s.size).size ≤ 1000000) := Lib.hid (by rw [ByteArray.size_extract]; omega)
  have W1 := Lib.hid (w_in ((n : Int) + 1) (n + 1) (by omega) (by omega))
  have HM := Lib.hid (show 33 - ((n : Int) + 1).toNat < 33 - n by omega)
  have HR := Lib.hid (show n ≠ P → 12 ≤ n + 1 ∧ n + 1 ≤ P by omega)
  clear hxs
  go_wp2_with fail
  refine (ropen_any _ _ HZ2.out).mono ?_
  rintro r w1 ⟨rfl, hb1⟩
  have hb2 := hbel.trans (hb1.mono hbel.size)
  obtain ⟨y, e, ho⟩ : ∃ y e, openOf (s.extract 0 n) = (y, e) := ⟨_, _, rfl⟩
  have hor := open_part ho (by rw [HXS.out]; omega)
  have hPe : n = P → e = 0 := fun q => by rw [q, HO.out] at ho; injection ho with _ ho; exact ho.symm
  rw [ho]
  clear ho hb1 hbel
  rcases hor with ⟨rfl, rfl⟩ | rfl
  ·have hye : (s.extract 0 n).extract 0 ((s.extract 0 n).size - 4) = s.extract 0 (n - 4) := by
    rw [HXS.out, ByteArray.extract_extract]
    congr 1
    omega
   rw [hye]
   have hys : (s.extract 0 (n - 4)).size = n - 4 := by rw [ByteArray.size_extract]; omega
   have hpre := extract_pre s (n - 4)
   have hyb : ∀ i, i < n - 4 → byteAt (s.extract 0 (n - 4)) i = byteAt s i := fun i hi => by rw [extract_at _ _ _ _ (by omega) (by omega), Nat.zero_add]
   generalize s.extract 0 (n - 4) = x at *
   have hp : 0 < x.size := by omega
   have i0 : (0 : Int) < (x.size : Int) := by omega
   have q0 : ((x[0].toNat : Int) != 82) = false := by
    rw [bne_eq_false_iff_eq]
    have := byteAt_eq x 0 hp
    have := hyb 0 (by omega)
    rw [HB0.out] at this
    omega
   have HY := Lib.hid hys
   have HYB := Lib.hid hyb
   have HC := Lib.hid (HCUT.out x hpre)
   clear hye hys hpre hyb hPe
   simp only
   go_wp2_with fail
   refine (trim_any _ _ HZ3.out).mono ?_
   rintro r w2 ⟨rfl, hb3⟩
   have hb4 := hb2.trans (hb3.mono hb2.size)
   obtain ⟨z, hz⟩ : ∃ z : ByteArray, z = ⟨(Lib.trimB (s.extract n s.size).data.toList 0).toArray⟩ := ⟨_, rfl⟩
   have hzP : n = P → z.size = 0 := fun q => by rw [hz, q, HBE.out, trimB_zeros]; rfl
   rw [← hz]
   clear hz hb2 hb3
   by_cases hzs : z.size = 0
   ·have d0 : z.toList.isEmpty = true := by rw [str_empty']; simpa using hzs
    have HXZ : Hid (∀ k, (x.extract k x.size).size ≤ maxLen) := Lib.hid fun k => by rw [ByteArray.size_extract]; have := HY.out; unfold maxLen; omega
    have HB : Hid ((1125899906842624 : Int) ≤ 9223372036854775807 ∧ (4096 : Int) ≤ 9223372036854775807) := Lib.hid (by omega)
    have hxl1 : 1 ≤ x.size := by omega
    clear hzs hzP
    go_wp2_with fail
    refine (rvint_any _ _ _ (HXZ.out 1) HB.out.1).mono ?_
    rintro r w' ⟨rfl, rfl⟩
    have hc1 := HC.out.1
    have hxn := HY.out
    rcases hc1 with ⟨hc1, hc2⟩ | ⟨hc1, hc2⟩
    ·have hr9 := HR.out (fun q => by have := HP.out; omega)
     obtain ⟨v1, k1, e1, hv⟩ : ∃ v1 k1 e1, vat x 1 big50 = (v1, k1, e1) := ⟨_, _, _, rfl⟩
     rw [hv] at hc2
     simp only at hc2
     subst hc2
     rw [show vint (x.extract 1 x.size).data.toList 1125899906842624 = (v1, k1, 7) from hv]
     clear hc1 hv hxn
     simp only
     obtain ⟨wk1, wk2⟩ := W1.out
     clear W1
     go_wp2
     go_roundw
     case rel => exact ⟨n + 1, hr9.1, hr9.2, by go_num, hb4⟩
     case measure => simpa [intOf] using HM.out
    ·rw [show vint (x.extract 1 x.size).data.toList 1125899906842624 = (m, M, 0) from hc2]
     simp only
     obtain ⟨Q, hQ⟩ : ∃ Q, Q = 1 + M := ⟨_, rfl⟩
     obtain ⟨P1, hP1⟩ : ∃ P1, P1 = Q + 4 := ⟨_, rfl⟩
     have W2 := Lib.hid (w_in (1 + (M : Int)) Q (by omega) (by omega))
     have W3 := Lib.hid (w_in ((Q : Int) + 4) P1 (by omega) (by omega))
     by_cases hl : x.size < P1
     ·have hr9 := HR.out (fun q => by have := HP.out; omega)
      have t1 : decide (x.size < P1) = true := decide_eq_true hl
      have t1' : decide ((x.size : Int) < (P1 : Int)) = true := decide_eq_true (by omega)
      clear hc1 hc2 hxn hl hQ hP1
      obtain ⟨wa1, wa2⟩ := W2.out
      obtain ⟨wb1, wb2⟩ := W3.out
      clear W2 W3
      obtain ⟨wk1, wk2⟩ := W1.out
      clear W1
      go_wp2
      go_roundw
      case rel => exact ⟨n + 1, hr9.1, hr9.2, by go_num, hb4⟩
      case measure => simpa [intOf] using HM.out
     ·have t1 : decide (x.size < P1) = false := decide_eq_false hl
      have t1' : decide ((x.size : Int) < (P1 : Int)) = false := decide_eq_false (by omega)
      have hl' : P1 ≤ x.size := by omega
      have hqx : Q ≤ x.size := by omega
      obtain ⟨u, hu⟩ : ∃ u, u = x.extract Q x.size := ⟨_, rfl⟩
      have hus : u.size = x.size - Q := by rw [hu, ByteArray.size_extract]; omega
      have hu4 : ∀ k, u.extract k u.size = x.extract (Q + k) x.size := fun k => by rw [hu]; exact ext2 x Q k
      have hub : ∀ j, j < 4 → byteAt u j = nm / 256 ^ j % 256 := fun j hj => by
       rw [hu, extract_at _ _ _ _ (by omega) (Nat.le_refl _), HYB.out _ (by omega), hQ]
       exact HNAME.out j hj
      have HU4 := Lib.hid hu4
      have HUB := Lib.hid hub
      have HU := Lib.hid hu
      have HUS := Lib.hid hus
      have hu4s : 4 ≤ u.size := by omega
      have HQ := Lib.hid (And.intro hQ (And.intro hP1 hxn))
      have HC2 := Lib.hid (HC.out.2.1 (by omega))
      have HL := Lib.hid hl'
      clear hc1 hc2 hl hu hus hu4 hub hxn hl' hQ hP1
      obtain ⟨wa1, wa2⟩ := W2.out
      obtain ⟨wb1, wb2⟩ := W3.out
      clear W2 W3
      go_wp2_with fail
      rw [← HU.out]
      clear wa1 wa2 wb1 wb2 t1 t1' hqx
      go_loop [3, 13] (fun nv iv => ∃ j : Nat, j ≤ 4 ∧ nv = .int .u32 ((nm / 256 ^ j : Nat) : Int) ∧ (j = 0 ∧ iv = .int .i64 (-1) ∨ ∃ i : Nat, j = i + 1 ∧ iv = .int .i64 (i : Int))) (fun _ iv => ((intOf iv) + 1).toNat)
      case atStart => exact ⟨4, by omega, by rw [Nat.div_eq_of_lt (by simp; omega)]; rfl, .inr ⟨3, rfl, rfl⟩⟩
      case round =>
       obtain ⟨j, hj4, rfl, hjj⟩ := hrel
       rcases hjj with ⟨rfl, rfl⟩ | ⟨i, rfl, rfl⟩
       ·have t2 : decide ((0 : Int) ≤ -1) = false := by decide
        have HN0 : Hid (nm / 256 ^ 0 = nm) := Lib.hid (by simp)
        rw [HN0.out]
        have HUX : Hid (∀ k, (u.extract k u.size).size ≤ maxLen) := Lib.hid fun k => by rw [HU4.out]; exact HXZ.out _
        go_wp2_with fail
        refine (rvint_any _ _ _ (HUX.out 4) HB.out.2).mono ?_
        rintro r w' ⟨rfl, rfl⟩
        rw [HU4.out]
        have hq := HQ.out
        rcases HC2.out with ⟨hc1, hc2⟩ | ⟨hc1, hc2⟩
        ·have hr9 := HR.out (rk1 HP.out hq.2.2 hc1)
         obtain ⟨v1, k1, e1, hv⟩ : ∃ v1 k1 e1, vat x (1 + M + 4) 4096 = (v1, k1, e1) := ⟨_, _, _, rfl⟩
         rw [hv] at hc2
         simp only at hc2
         subst hc2
         rw [show vint (x.extract (Q + 4) x.size).data.toList 4096 = (v1, k1, 7) by rw [hq.1]; exact hv]
         clear hc1 hv hq
         simp only
         obtain ⟨wk1, wk2⟩ := W1.out
         clear W1
         go_wp2
         go_roundw
         case rel => exact ⟨n + 1, hr9.1, hr9.2, by go_num, hb4⟩
         case measure => simpa [intOf] using HM.out
        ·rw [show vint (x.extract (Q + 4) x.size).data.toList 4096 = (t, T, 0) by rw [hq.1]; exact hc2]
         simp only
         obtain ⟨T4, hT4⟩ : ∃ T4, T4 = 4 + T := ⟨_, rfl⟩
         have W2 := Lib.hid (w_four hT4 (le_four hT4 HBND.out.2.1).2)
         have hus := HUS.out
         have hT4u : T4 ≤ u.size := rk4 hq.1 hT4 hus hc1
         have HQ4 := Lib.hid hT4
         have HC3 := Lib.hid (HC.out.2.2 hc1)
         clear hc1 hc2 hq hT4 hus
         obtain ⟨wa1, wa2⟩ := W2.out
         go_wp2_with fail
         refine (rvint_any _ _ _ (HUX.out T4) HB.out.2).mono ?_
         rintro r w' ⟨rfl, rfl⟩
         rw [HU4.out]
         have hq := HQ.out
         have hq4 := HQ4.out
         rcases HC3.out with ⟨hc1, hc2⟩ | ⟨hc1, hc2⟩
         ·have hr9 := HR.out (rk2 HP.out hq.2.2 hc1)
          obtain ⟨v1, k1, e1, hv⟩ : ∃ v1 k1 e1, vat x (1 + M + 4 + T) 4096 = (v1, k1, e1) := ⟨_, _, _, rfl⟩
          rw [hv] at hc2
          simp only at hc2
          subst hc2
          rw [show vint (x.extract (Q + T4) x.size).data.toList 4096 = (v1, k1, 7) by rw [hq.1, hq4, ← Nat.add_assoc]; exact hv]
          clear hc1 hv hq hq4
          simp only
          obtain ⟨wk1, wk2⟩ := W1.out
          clear W1
          go_wp2
          go_roundw
          case rel => exact ⟨n + 1, hr9.1, hr9.2, by go_num, hb4⟩
          case measure => simpa [intOf] using HM.out
         ·rw [show vint (x.extract (Q + T4) x.size).data.toList 4096 = (f, F, 0) by rw [hq.1, hq4, ← Nat.add_assoc]; exact hc2]
          simp only
          obtain ⟨T5, hT5⟩ : ∃ T5, T5 = T4 + F := ⟨_, rfl⟩
          have W3 := Lib.hid (w_plus hT5 (le_four hq4 HBND.out.2.1).1 (Nat.le_trans HBND.out.2.2 (by decide)))
          have hus := HUS.out
          by_cases hnP : n = P
          ·have t3 : ((T5 : Int) == (u.size : Int)) = true := beq_iff_eq.2 (congrArg _ ((rk3 HP.out hq.2.2 hq.1 hq4 hT5 hus hc1 hn1).2 hnP))
           have t4 : decide (0 < t) = true := decide_eq_true ht0
           have t4' : decide (0 < (t : Int)) = true := decide_eq_true (Int.natCast_pos.2 ht0)
           have t5 : decide (f ≤ t) = true := decide_eq_true hf
           clear hc1 hc2 hq hq4 hus hT5 hnP
           obtain ⟨wb1, wb2⟩ := W3.out
           go_wp2
           exact bodyPost_ret (v := recT (some (m, nm, t, f))) (by simp [results, Tryz.results50, go_sem, recT]) rfl ⟨rfl, hb4⟩
          ·have hr9 := HR.out hnP
           have t3 : ((T5 : Int) == (u.size : Int)) = false := beq_eq_false_iff_ne.2 (fun q => hnP ((rk3 HP.out hq.2.2 hq.1 hq4 hT5 hus hc1 hn1).1 (Int.ofNat.inj q)))
           clear hc1 hc2 hq hq4 hus hT5 hnP
           obtain ⟨wb1, wb2⟩ := W3.out
           obtain ⟨wk1, wk2⟩ := W1.out
           clear W1
           go_wp2
           go_roundw
           case rel => exact ⟨n + 1, hr9.1, hr9.2, by go_num, hb4⟩
           case measure => simpa [intOf] using HM.out
       ·have hiu : i < u.size := by omega
        have ix0 : (0 : Int) ≤ (i : Int) := by omega
        have ix1 : (i : Int) < (u.size : Int) := by omega
        have t2 : decide ((0 : Int) ≤ (i : Int)) = true := decide_eq_true ix0
        obtain ⟨s1, s2, s3⟩ := name_step (nm := nm) (j := i) hn
        have hb := byteAt_eq u i hiu
        rw [HUB.out i (by omega)] at hb
        have hbl : nm / 256 ^ i % 256 < 256 := Nat.mod_lt _ (by omega)
        obtain ⟨A, hA⟩ : ∃ A, A = nm / 256 ^ (i + 1) := ⟨_, rfl⟩
        obtain ⟨B, hB⟩ : ∃ B, B = nm / 256 ^ i % 256 := ⟨_, rfl⟩
        obtain ⟨C, hC⟩ : ∃ C, C = nm / 256 ^ i := ⟨_, rfl⟩
        rw [← hA, ← hB, ← hC] at s1
        rw [← hA] at s2 ⊢
        rw [← hC] at s3
        rw [← hB] at hb hbl
        have hb' : ((u[i]'hiu).toNat : Int) = (B : Int) := by rw [← hb]
        have WA : IntKind.u32.wrap ((A : Int) * 256) = (A : Int) * 256 := u32_mul (n := A) (k := 256) s2
        have WB := u32_nat (n := B) (by omega)
        have WC : IntKind.u32.wrap ((A : Int) * 256 + (B : Int)) = (C : Int) := by rw [show (A : Int) * 256 + (B : Int) = (C : Int) by omega]; exact u32_nat s3
        have WI := Lib.hid (show IntKind.i64.wrap ((i : Int) - 1) = (i : Int) - 1 ∧ wrap64 ((i : Int) - 1) = (i : Int) - 1 from ⟨IntWalk.i64_in _ (by omega), IntWalk.wrap64_in _ (by omega)⟩)
        have HCC := Lib.hid hC
        have HI4 := Lib.hid (show i ≤ 4 by omega)
        clear hA hB hC hb s1 s2 s3 hbl hj4
        obtain ⟨wi1, wi2⟩ := WI.out
        clear WI
        go_wp2
        go_round
        case rel =>
         refine ⟨i, HI4.out, by rw [← HCC.out], ?_⟩
         rcases Nat.eq_zero_or_pos i with q | q
         ·exact .inl ⟨q, by rw [q]; rfl⟩
         ·exact .inr ⟨i - 1, by omega, valI (by omega)⟩
        case measure => simp [intOf]
   ·have d0 : z.toList.isEmpty = false := by rw [str_empty']; simpa using hzs
    have HNP : n ≠ P := fun q => hzs (hzP q)
    have hr9 := HR.out HNP
    obtain ⟨wk1, wk2⟩ := W1.out
    clear W1 HNP hzs hzP
    go_wp2
    go_roundw
    case rel => exact ⟨n + 1, hr9.1, hr9.2, by go_num, hb4⟩
    case measure => simpa [intOf] using HM.out
  ·have HNP : n ≠ P := fun q => by have := hPe q; omega
   have hr9 := HR.out HNP
   obtain ⟨wk1, wk2⟩ := W1.out
   clear W1 hPe HNP
   simp only
   go_wp2
   go_roundw
   case rel => exact ⟨n + 1, hr9.1, hr9.2, by go_num, hb2⟩
   case measure => simpa [intOf] using HM.out
theorem rrecord_any {K : Nat} (s : ByteArray) (w : World) (hK : K ≤ 1000000) (h : s = zeros 32 ∨ RecOk K s) :
  Calls Tryz.prog 50 #[.string s] w fun e w' => e = .returned (recT (recOf s)) ∧ Below w.heap.size w w' := by
 rcases h with h | ⟨m, nm, t, f, h1, h2, h3, h4, h5, h6⟩
 ·have e : recOf s = none := by rw [h]; exact recOf_zeros
  rw [e]
  exact rrecord_no s w h
 ·have e : recOf s = some (m, nm, t, f) := by rw [h6]; exact recOf_rec (by omega) h2 h4 (by omega)
  rw [e]
  exact rrecord_yes s w (by omega) h2 h3 h4 h5 h6
end Go.Proofs.YtfefpcdgflgaeaaGreatDoor
end
