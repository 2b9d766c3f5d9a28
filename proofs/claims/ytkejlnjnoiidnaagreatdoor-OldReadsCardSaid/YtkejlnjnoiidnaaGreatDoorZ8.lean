/- The Go functions one, More, Sum of package crc and carry, More, Sum of the reference compute what the plain functions of CrcLaw say. No condition but that the numbers fit.

crc.Seal, crc.Open and Seal, Open of the reference say what sealOf and openOf say.

Which version a frame is of, and what is inside of it: both.

What is thrown and caught in the reference; a scanner's next number. -/
import Derived.Test.YtkejlnjnoiidnaaGreatDoorProg
import Derived.Test.YtkejlnjnoiidnaaGreatDoorZ2
import Derived.WalkKit
import Derived.WalkLawsBesides
import Derived.WalkSpells
import Derived.Outline
import Derived.Lib.Hide
import Derived.Laws.BitsAllLaws
import Derived.Test.YtkejlnjnoiidnaaGreatDoorZ3
import Derived.Test.YtkejlnjnoiidnaaGreatDoorZ1
import Derived.Test.YtkejlnjnoiidnaaGreatDoorZ7b
import Derived.Deep.QuietTactic
import Derived.Deep.RegionWith
import Derived.BigQuiet
import Derived.Defers
import Derived.Recover
import Derived.Laws.Pointers
section
namespace Go.Proofs.YtkejlnjnoiidnaaGreatDoor.Crc
open Go.RowKit
theorem retI {k : IntKind} {a b : Int} (h : a = b) : Ending.returned (.int k a) = .returned (.int k b) := by rw [h]
theorem valI {k : IntKind} {a b : Int} (h : a = b) : Value.int k a = .int k b := by rw [h]

theorem and_one (m : Nat) (h : m < 4294967296) : bits BinOp.and IntKind.u32 (m : Int) 1 = ((m % 2 : Nat) : Int) := by
 have e := u32_and_nat m 1 h (by omega)
 rw [nat_mask1] at e
 exact e
theorem xor_poly (m : Nat) (h : m < 4294967296) : bits BinOp.xor IntKind.u32 ((m : Int) / 2) 2197175160 = ((m / 2 ^^^ poly : Nat) : Int) := by
 have e := u32_xor_nat (m / 2) poly (by omega) poly_lt
 have e1 : ((m / 2 : Nat) : Int) = (m : Int) / 2 := by omega
 rw [e1] at e
 exact e
theorem stp_odd (m : Nat) (h : m < 4294967296) (t : (bits BinOp.and IntKind.u32 (m : Int) 1 == 1) = true) :
  bits BinOp.xor IntKind.u32 ((m : Int) / 2) 2197175160 = (stp m : Int) := by
 rw [and_one m h] at t
 have t' : m % 2 = 1 := by
  have := beq_iff_eq.1 t
  omega
 rw [xor_poly m h]
 unfold stp
 rw [if_pos t']
theorem stp_even (m : Nat) (h : m < 4294967296) (t : (bits BinOp.and IntKind.u32 (m : Int) 1 == 1) = false) :
  (m : Int) / 2 = (stp m : Int) := by
 rw [and_one m h] at t
 have t' : m % 2 ≠ 1 := by
  have := beq_eq_false_iff_ne.1 t
  omega
 unfold stp
 rw [if_neg t']
 omega

theorem one_any (n : Nat) (w : World) (h : n < 4294967296) :
  Calls Tryz.prog 145 #[.int .u32 (n : Int)] w fun e w' => e = .returned (.int .u32 (one n : Int)) ∧ w = w' := by
 go_enter Tryz.func145, Tryz.ntmps145
 go_wp2
 go_loop [0, 3] (fun v i => ∃ k : Nat, k ≤ 8 ∧ i = .int .i64 k ∧ v = .int .u32 (iter k n : Int)) (fun _ i => 8 - (intOf i).toNat)
 case atStart => exact ⟨0, by omega, rfl, rfl⟩
 case round =>
  obtain ⟨k, hk, rfl, rfl⟩ := hrel
  have hb := iter_lt k h
  have hs := Lib.hid (iter_succ k n)
  go_wp2
  ·go_round
   case rel => exact ⟨k + 1, by omega, by go_num, valI (by rw [hs.out]; exact stp_odd _ hb (by assumption))⟩
   case measure => simp [intOf]; omega
  ·go_round
   case rel => exact ⟨k + 1, by omega, by go_num, valI (by rw [hs.out]; exact stp_even _ hb (by assumption))⟩
   case measure => simp [intOf]; omega
  ·go_ret
   obtain rfl : k = 8 := by omega
   exact ⟨rfl, rfl⟩

/- Complements. -/
theorem not_u32 (m : Nat) (h : m < 4294967296) : bits BinOp.xor IntKind.u32 IntKind.u32.max (m : Int) = ((4294967295 - m : Nat) : Int) := by
 show IntKind.u32.wrap ((BitVec.ofInt 32 IntKind.u32.max ^^^ BitVec.ofInt 32 (m : Int)).toNat : Int) = _
 have h1 : BitVec.ofInt 32 IntKind.u32.max = BitVec.allOnes 32 := by decide
 rw [h1, BitVec.allOnes_xor, BitVec.toNat_not, ofInt_u32 m h, IntKind.wrap_u32']
 omega
theorem byte_at (s : ByteArray) (k : Nat) (h : k < s.size) : (s.data.toList.getD k 0) = s[k] := by
 have h' : k < s.data.toList.length := by simpa using h
 simp only [List.getD, List.getElem?_eq_getElem h', Option.getD_some]
 rfl
theorem byte_in (n : Nat) (b : UInt8) (h : n < 4294967296) :
  bits BinOp.xor IntKind.u32 (bits BinOp.and IntKind.u32 (n : Int) 255) ((b.toNat : Int) % 4294967296) = ((n % 256 ^^^ b.toNat : Nat) : Int) := by
 have hb := b.toNat_lt
 have e := u32_and_nat n 255 h (by omega)
 rw [nat_mask8] at e
 have e1 : (b.toNat : Int) % 4294967296 = (b.toNat : Int) := by omega
 rw [e1]
 have e2 : bits BinOp.and IntKind.u32 (n : Int) 255 = ((n % 256 : Nat) : Int) := e
 rw [e2]
 exact u32_xor_nat _ _ (by omega) (by omega)
theorem byte_in_lt (n : Nat) (b : UInt8) : n % 256 ^^^ b.toNat < 4294967296 := by
 have := Nat.xor_lt_two_pow (n := 8) (x := n % 256) (y := b.toNat) (by omega) b.toNat_lt
 omega
theorem byte_out (n : Nat) (b : UInt8) (h : n < 4294967296) :
  bits BinOp.xor IntKind.u32 (one (n % 256 ^^^ b.toNat) : Int) ((n : Int) / 256) = (byteStep n b.toNat : Int) := by
 have e1 : (n : Int) / 256 = ((n / 256 : Nat) : Int) := by omega
 rw [e1]
 exact u32_xor_nat _ _ (iter_lt 8 (byte_in_lt n b)) (by omega)
theorem take_snoc (s : ByteArray) (k : Nat) (h : k < s.size) : s.data.toList.take (k + 1) = s.data.toList.take k ++ [s[k]] := by
 rw [List.take_succ_eq_append_getElem (by simpa using h)]; rfl
theorem run_step (n : Nat) (s : ByteArray) (k : Nat) (h : k < s.size) : run n (s.data.toList.take (k + 1)) = byteStep (run n (s.data.toList.take k)) s[k].toNat := by
 rw [take_snoc s k h, run_snoc]

def more (n : Nat) (l : List UInt8) : Nat := 4294967295 - run (4294967295 - n) l

theorem more_any (n : Nat) (s : ByteArray) (w : World) (hn : n < 4294967296) (hs : s.size ≤ maxLen) :
  Calls Tryz.prog 126 #[.int .u32 (n : Int), .string s] w fun e w' => e = .returned (.int .u32 (more n s.data.toList : Int)) ∧ w = w' := by
 unfold maxLen at hs
 go_enter Tryz.func126, Tryz.ntmps126
 go_wp2
 go_loop [0, 5, 10] (fun v _ i => ∃ k : Nat, k ≤ s.size ∧ i = .int .i64 k ∧ v = .int .u32 (run (4294967295 - n) (s.data.toList.take k) : Int)) (fun _ _ i => s.size - (intOf i).toNat)
 case atStart => exact ⟨0, by omega, rfl, valI (not_u32 n hn)⟩
 case round =>
  obtain ⟨k, hk, rfl, rfl⟩ := hrel
  have hb := run_lt (n := 4294967295 - n) (by omega) (s.data.toList.take k)
  by_cases hlt : k < s.size
  ·have hstep := Lib.hid (run_step (4294967295 - n) s k hlt)
   have hout := Lib.hid (byte_out (run (4294967295 - n) (s.data.toList.take k)) s[k] hb)
   have hin := Lib.hid (byte_in (run (4294967295 - n) (s.data.toList.take k)) s[k] hb)
   go_wp2_with fail
   rw [hin.out]
   refine (one_any _ _ (byte_in_lt _ _)).mono ?_
   rintro e w' ⟨rfl, rfl⟩
   go_wp2_with fail
   go_round
   case rel => exact ⟨k + 1, by omega, by go_num, valI (by rw [hstep.out]; exact hout.out)⟩
   case measure => simp [intOf]; omega
  ·obtain rfl : k = s.size := by omega
   go_wp2_with fail
   go_ret
   have e : s.data.toList.take s.size = s.data.toList := List.take_of_length_le (by simp)
   rw [e] at hb ⊢
   exact ⟨retI (not_u32 _ hb), rfl⟩
theorem bit_at (n : Nat) (b : UInt8) (j : Nat) (h : n < 4294967296) :
  bits BinOp.xor IntKind.u32 (bits BinOp.and IntKind.u32 (n : Int) 1) (bits BinOp.and IntKind.u32 ((b.toNat : Int) / 2 ^ j % 4294967296) 1) = ((n % 2 ^^^ (b.toNat / 2 ^ j % 2) : Nat) : Int) := by
 have hb := b.toNat_lt
 have hd : b.toNat / 2 ^ j ≤ b.toNat := Nat.div_le_self _ _
 have e1 : (b.toNat : Int) / 2 ^ j % 4294967296 = ((b.toNat / 2 ^ j : Nat) : Int) := by
  have e0 : ((b.toNat / 2 ^ j : Nat) : Int) = (b.toNat : Int) / 2 ^ j := by simp
  rw [← e0]
  generalize b.toNat / 2 ^ j = q at hd ⊢
  omega
 rw [e1, and_one n h, and_one _ (by omega)]
 exact u32_xor_nat _ _ (by omega) (by omega)
theorem carry_yes (n : Nat) (s : ByteArray) (k : Nat) (h : n < 4294967296) (hlt : k < 8 * s.size) (h8 : k / 8 < s.size)
  (t : (bits BinOp.xor IntKind.u32 (bits BinOp.and IntKind.u32 (carried n s.data.toList k : Int) 1) (bits BinOp.and IntKind.u32 ((s[k / 8].toNat : Int) / 2 ^ (k % 8) % 4294967296) 1) == 1) = true) :
  bits BinOp.xor IntKind.u32 ((carried n s.data.toList k : Int) / 2) 2197175160 = (carried n s.data.toList (k + 1) : Int) := by
 have hc := carried_lt h s.data.toList k
 rw [bit_at _ _ _ hc] at t
 have t' := beq_iff_eq.1 t
 rw [xor_poly _ hc, carried_succ n _ k (by simpa using hlt), bitStep_ref _ _ (by omega), byte_at s _ h8, if_pos (by omega)]
theorem carry_no (n : Nat) (s : ByteArray) (k : Nat) (h : n < 4294967296) (hlt : k < 8 * s.size) (h8 : k / 8 < s.size)
  (t : (bits BinOp.xor IntKind.u32 (bits BinOp.and IntKind.u32 (carried n s.data.toList k : Int) 1) (bits BinOp.and IntKind.u32 ((s[k / 8].toNat : Int) / 2 ^ (k % 8) % 4294967296) 1) == 1) = false) :
  (carried n s.data.toList k : Int) / 2 = (carried n s.data.toList (k + 1) : Int) := by
 have hc := carried_lt h s.data.toList k
 rw [bit_at _ _ _ hc] at t
 have t' := beq_eq_false_iff_ne.1 t
 rw [carried_succ n _ k (by simpa using hlt), bitStep_ref _ _ (by omega), byte_at s _ h8, if_neg (by omega)]
 omega
theorem carry_any (n : Nat) (s : ByteArray) (w : World) (h : n < 4294967296) (hs : s.size ≤ 1000000) :
  Calls Tryz.prog 121 #[.int .u32 (n : Int), .string s] w fun e w' => e = .returned (.int .u32 (run n s.data.toList : Int)) ∧ w = w' := by
 go_enter Tryz.func121, Tryz.ntmps121
 go_wp2
 go_loop [0, 5] (fun v i => ∃ k : Nat, k ≤ 8 * s.size ∧ i = .int .i64 k ∧ v = .int .u32 (carried n s.data.toList k : Int)) (fun _ i => 8 * s.size - (intOf i).toNat)
 case atStart => exact ⟨0, by omega, rfl, valI (by rw [carried_zero])⟩
 case round =>
  obtain ⟨k, hk, rfl, rfl⟩ := hrel
  have hb := carried_lt h s.data.toList k
  by_cases hlt : k < 8 * s.size
  ·have h8 : k / 8 < s.size := by omega
   go_wp2_with fail
   ·go_round
    case rel => exact ⟨k + 1, by omega, by go_num, valI (carry_yes n s k h hlt h8 (by assumption))⟩
    case measure => simp [intOf]; omega
   ·go_round
    case rel => exact ⟨k + 1, by omega, by go_num, valI (carry_no n s k h hlt h8 (by assumption))⟩
    case measure => simp [intOf]; omega
  ·obtain rfl : k = 8 * s.size := by omega
   go_wp2_with fail
   go_ret
   have e : carried n s.data.toList (8 * s.size) = run n s.data.toList := by
    rw [← carried_end n s.data.toList]; simp
   exact ⟨retI (by rw [e]), rfl⟩
theorem rsum_any (s : ByteArray) (w : World) (hs : s.size ≤ 1000000) :
  Calls Tryz.prog 78 #[.string s] w fun e w' => e = .returned (.int .u32 (more 0 s.data.toList : Int)) ∧ w = w' := by
 go_enter Tryz.func78, Tryz.ntmps78
 go_wp2_with fail
 refine (carry_any 4294967295 s _ (by omega) hs).mono ?_
 rintro e w' ⟨rfl, rfl⟩
 go_wp2_with fail
 go_ret
 exact ⟨retI (not_u32 _ (run_lt (by omega) _)), rfl⟩
theorem sum_any (s : ByteArray) (w : World) (hs : s.size ≤ maxLen) :
  Calls Tryz.prog 85 #[.string s] w fun e w' => e = .returned (.int .u32 (more 0 s.data.toList : Int)) ∧ w = w' := by
 go_enter Tryz.func85, Tryz.ntmps85
 go_wp2_with fail
 refine (more_any 0 s _ (by omega) hs).mono ?_
 rintro e w' ⟨rfl, rfl⟩
 go_wp2_with fail
 go_ret
 exact ⟨rfl, rfl⟩

end Go.Proofs.YtkejlnjnoiidnaaGreatDoor.Crc
end

section
namespace Go.Proofs.YtkejlnjnoiidnaaGreatDoor
open Go.RowKit As
/-- The string of a slice that was built of bytes. -/
theorem string_new {P : Program} (w : World) (src e dst t : TypeId) (vs : Array Value) (l : List UInt8) (n : Nat) (hv : vs = (l.map byteV).toArray) (hn : n = l.length) (hs : P.underlying src = some (.slice e)) (he : P.underlying e = some (.int .u8)) (hd : P.underlying dst = some .string) :
  (convert src dst (.slice (some ⟨w.heap.size, 0, none⟩) n n)).run P (w.alloc (.cells vs t)) = .ok (.string (strOf l)) (w.alloc (.cells vs t)) := by
 subst hv hn
 refine string_of _ src e dst _ _ l hs he hd fun i hi => ⟨?_, ?_⟩
 ·rw [World.cell?_alloc_new]
  simp [List.getElem?_map, List.getElem?_eq_getElem hi]
 ·simp only [World.alloc, World.frozen?, Array.getElem?_push_size]
  simp
set_option maxRecDepth 100000 in
theorem seal_any (s : ByteArray) (w : World) (hs : s.size ≤ 1000000) :
  Calls Tryz.prog 41 #[.string s] w fun e w' => e = .returned (.string (sealOf s)) ∧ Below w.heap.size w w' := by
 obtain ⟨n, hn⟩ : ∃ n, n = crcOf s := ⟨_, rfl⟩
 have hlt := crcOf_lt s
 rw [← hn] at hlt
 have HN := Lib.hid hn
 clear hn
 go_enter Tryz.func41, Tryz.ntmps41
 go_wp2_with fail
 refine (Crc.sum_any s w (by unfold maxLen; omega)).mono ?_
 rintro e w' ⟨rfl, rfl⟩
 rw [show Crc.more 0 s.data.toList = n from HN.out.symm]
 go_wp2_with fail
 rw [string_new w 61 5 9 5 _ (lowB 4 n) 4 (by rw [lowB_four]; simp [byteV]; omega) (lowB_len 4 n).symm Tryz.underlying61 Tryz.underlying5 Tryz.underlying9]
 have h4 : (strOf (lowB 4 n)).size = 4 := four_size n
 generalize hF : strOf (lowB 4 n) = F at *
 have HF := Lib.hid hF
 clear hF
 have hcat : s.size + F.size ≤ 9223372036854775807 := by omega
 go_wp2_with fail
 go_ret
 exact ⟨by unfold sealOf four; rw [← HN.out, HF.out]; rfl, below1 _ _⟩
set_option maxRecDepth 100000 in
theorem rseal_any (s : ByteArray) (w : World) (hs : s.size ≤ 1000000) :
  Calls Tryz.prog 34 #[.string s] w fun e w' => e = .returned (.string (sealOf s)) ∧ Below w.heap.size w w' := by
 obtain ⟨n, hn⟩ : ∃ n, n = crcOf s := ⟨_, rfl⟩
 have hlt := crcOf_lt s
 rw [← hn] at hlt
 have HN := Lib.hid hn
 clear hn
 have h0 := Lib.hid (strOf_nil s)
 go_enter Tryz.func34, Tryz.ntmps34
 go_wp2_with fail
 refine (Crc.rsum_any s w (by omega)).mono ?_
 rintro e w' ⟨rfl, rfl⟩
 rw [show Crc.more 0 s.data.toList = n from HN.out.symm]
 go_wp2
 go_loopw [0, 3, 6] (fun a m i wr => ∃ k : Nat, k ≤ 4 ∧ i = .int .i64 k ∧ m = .int .u32 ((n / 256 ^ k : Nat) : Int) ∧ a = .string (s ++ strOf (lowB k n)) ∧ Below w.heap.size w wr) (fun _ _ i _ => 4 - (intOf i).toNat)
 case atStart => exact ⟨0, by omega, rfl, by simp, by rw [show lowB 0 n = [] from rfl, h0.out], Below.refl _ _⟩
 case round =>
  obtain ⟨k, hk, rfl, rfl, rfl, hbel⟩ := hrel
  have hB := hbel.size
  by_cases hlt : k < 4
  ·have hsn := Lib.hid (lowB_snoc k n)
   have hl := lowB_len k n
   obtain ⟨m, hm⟩ : ∃ m, m = n / 256 ^ k := ⟨_, rfl⟩
   have hmn : m ≤ n := by rw [hm]; exact Nat.div_le_self _ _
   rw [← hm]
   have hnx := Lib.hid (show n / 256 ^ (k + 1) = m / 256 by rw [hm, Nat.div_div_eq_div_mul, Nat.pow_succ])
   have HM := Lib.hid hm
   clear hm
   have hsz : (s ++ strOf (lowB k n)).size = s.size + k := by rw [ByteArray.size_append, strOf_len (lowB k n), hl]
   obtain ⟨T, hT⟩ : ∃ T, T = s ++ strOf (lowB k n) := ⟨_, rfl⟩
   rw [← hT] at hsz ⊢
   have HT := Lib.hid hT
   clear hT
   go_wp2_with fail
   rw [string_new wr 61 5 9 5 _ [UInt8.ofNat (m % 256)] 1 (by simp [byteV]) rfl Tryz.underlying61 Tryz.underlying5 Tryz.underlying9]
   have h1 : (strOf [UInt8.ofNat (m % 256)]).size = 1 := rfl
   generalize hF : strOf [UInt8.ofNat (m % 256)] = F at *
   have HF := Lib.hid hF
   clear hF
   have hcat : T.size + F.size ≤ 9223372036854775807 := by omega
   go_wp2_with fail
   go_roundw
   case rel => exact ⟨k + 1, by omega, by go_num, valI (by rw [hnx.out]; omega), by rw [HT.out, hsn.out, strOf_add, ← str_assoc, ← HF.out, HM.out], hbel.alloc hB _⟩
   case measure => simp [intOf]; omega
  ·obtain rfl : k = 4 := by omega
   go_wp2_with fail
   go_ret
   exact ⟨by unfold sealOf; rw [← HN.out]; rfl, hbel⟩
set_option maxRecDepth 100000 in
theorem open_any (s : ByteArray) (w : World) (hs : s.size ≤ 1000000) :
  Calls Tryz.prog 69 #[.string s] w fun e w' => e = .returned (.tuple #[.string (openOf s).1, errV (openOf s).2]) ∧ Below w.heap.size w w' := by
 by_cases h4 : s.size < 4
 ·have H := Lib.hid (open_short h4)
  have hd : decide (s.size < 4) = true := by simpa using h4
  go_enter Tryz.func69, Tryz.ntmps69
  go_wp2
  go_ret2
  exact ⟨by rw [H.out]; rfl, Below.refl _ _⟩
 ·have hd : decide (s.size < 4) = false := by simpa using h4
  have hsz : (s.extract 0 (s.size - 4)).size = s.size - 4 := by rw [ByteArray.size_extract]; omega
  have he := Lib.hid (show (s.extract 0 (s.size - 4)).size ≤ 1000000 by omega)
  clear hsz
  by_cases hg : sealOf (s.extract 0 (s.size - 4)) = s
  ·have H := Lib.hid (open_good h4 hg)
   have Hg := Lib.hid hg
   clear hg
   go_enter Tryz.func69, Tryz.ntmps69
   go_wp2_with fail
   refine (seal_any _ w he.out).mono ?_
   rintro e w' ⟨rfl, hb⟩
   rw [Hg.out]
   go_wp2
   go_ret2
   exact ⟨by rw [H.out]; rfl, hb⟩
  ·have H := Lib.hid (open_bad h4 hg)
   obtain ⟨Z, hZ⟩ : ∃ Z, Z = sealOf (s.extract 0 (s.size - 4)) := ⟨_, rfl⟩
   rw [← hZ] at hg
   have HZ := Lib.hid hZ
   clear hZ
   have hne := toList_ne hg
   clear hg
   go_enter Tryz.func69, Tryz.ntmps69
   go_wp2_with fail
   refine (seal_any _ w he.out).mono ?_
   rintro e w' ⟨rfl, hb⟩
   rw [← HZ.out]
   go_wp2
   go_ret2
   exact ⟨by rw [H.out]; rfl, hb⟩
set_option maxRecDepth 100000 in
theorem ropen_any (s : ByteArray) (w : World) (hs : s.size ≤ 1000000) :
  Calls Tryz.prog 48 #[.string s] w fun e w' => e = .returned (.tuple #[.string (openOf s).1, .int .i64 (openOf s).2]) ∧ Below w.heap.size w w' := by
 by_cases h4 : s.size < 4
 ·have H := Lib.hid (open_short h4)
  have hd : decide (s.size < 4) = true := by simpa using h4
  go_enter Tryz.func48, Tryz.ntmps48
  go_wp2
  go_ret2
  exact ⟨by rw [H.out]; rfl, Below.refl _ _⟩
 ·have hd : decide (s.size < 4) = false := by simpa using h4
  have hsz : (s.extract 0 (s.size - 4)).size = s.size - 4 := by rw [ByteArray.size_extract]; omega
  have he := Lib.hid (show (s.extract 0 (s.size - 4)).size ≤ 1000000 by omega)
  clear hsz
  by_cases hg : sealOf (s.extract 0 (s.size - 4)) = s
  ·have H := Lib.hid (open_good h4 hg)
   have Hg := Lib.hid hg
   clear hg
   go_enter Tryz.func48, Tryz.ntmps48
   go_wp2_with fail
   refine (rseal_any _ w he.out).mono ?_
   rintro e w' ⟨rfl, hb⟩
   rw [Hg.out]
   go_wp2
   go_ret2
   exact ⟨by rw [H.out]; rfl, hb⟩
  ·have H := Lib.hid (open_bad h4 hg)
   obtain ⟨Z, hZ⟩ : ∃ Z, Z = sealOf (s.extract 0 (s.size - 4)) := ⟨_, rfl⟩
   rw [← hZ] at hg
   have HZ := Lib.hid hZ
   clear hZ
   have hne := toList_ne hg
   clear hg
   go_enter Tryz.func48, Tryz.ntmps48
   go_wp2_with fail
   refine (rseal_any _ w he.out).mono ?_
   rintro e w' ⟨rfl, hb⟩
   rw [← HZ.out]
   go_wp2
   go_ret2
   exact ⟨by rw [H.out]; rfl, hb⟩
end Go.Proofs.YtkejlnjnoiidnaaGreatDoor
end

section
namespace Go.Proofs.YtkejlnjnoiidnaaGreatDoor
set_option linter.unusedSimpArgs false
set_option linter.unusedVariables false
open Go.RowKit As
theorem pt_list : (⟨#[80, 84]⟩ : ByteArray).toList = [80, 84] := by rw [ByteArray.toList_eq]
theorem pt_ne {x : ByteArray} (h : ¬ x = ⟨#[80, 84]⟩) : (!(x.toList == [80, 84])) = true ∧ (x.toList == [80, 84]) = false := by
 have := toList_ne h
 rw [pt_list] at this
 exact ⟨this, by simpa using this⟩
theorem pt_eq {x : ByteArray} (h : x = ⟨#[80, 84]⟩) : (!(x.toList == [80, 84])) = false ∧ (x.toList == [80, 84]) = true := by
 subst h
 rw [pt_list]
 exact ⟨rfl, rfl⟩
theorem ver_no {n : Nat} (h : n < 1 ∨ 3 < n) : (decide ((n : Int) < 1) = true ∧ decide (n < 1) = true) ∨ (decide ((n : Int) < 1) = false ∧ decide (n < 1) = false ∧ decide (3 < (n : Int)) = true ∧ decide (3 < n) = true) := by
 rcases Nat.lt_or_ge n 1 with h1 | h1
 ·exact .inl ⟨by simp only [decide_eq_true_eq]; omega, by simpa using h1⟩
 ·exact .inr ⟨by simp only [decide_eq_false_iff_not]; omega, by simp only [decide_eq_false_iff_not]; omega, by simp only [decide_eq_true_eq]; omega, by simp only [decide_eq_true_eq]; omega⟩
theorem ver_yes {n : Nat} (h : ¬ (n < 1 ∨ 3 < n)) : decide ((n : Int) < 1) = false ∧ decide (n < 1) = false ∧ decide (3 < (n : Int)) = false ∧ decide (3 < n) = false :=
 ⟨by simp only [decide_eq_false_iff_not]; omega, by simp only [decide_eq_false_iff_not]; omega, by simp only [decide_eq_false_iff_not]; omega, by simp only [decide_eq_false_iff_not]; omega⟩
theorem inB_byte {n : Nat} : inB (n : Int) 1 3 = decide (¬ (n < 1 ∨ 3 < n)) := by
 unfold inB
 rw [Bool.eq_iff_iff]
 simp only [Bool.and_eq_true, decide_eq_true_eq]
 omega
set_option maxHeartbeats 2000000 in
set_option maxRecDepth 100000 in
theorem fversion_any (s : ByteArray) (w : World) (hs : s.size ≤ 1000000) :
  Calls Tryz.prog 22 #[.string s] w fun e w' => e = .returned (.tuple #[.int .i64 (fver s).1, errV (fver s).2]) ∧ Below w.heap.size w w' := by
 by_cases h8 : s.size < 8
 ·have H := Lib.hid (fver_short h8)
  have d : decide (s.size < 8) = true := by simpa using h8
  have d' : decide ((s.size : Int) < 8) = true := by simp only [decide_eq_true_eq]; omega
  clear h8
  go_enter Tryz.func22, Tryz.ntmps22
  go_wp2
  go_ret2
  exact ⟨by rw [H.out]; rfl, Below.refl _ _⟩
 ·have d : decide (s.size < 8) = false := by simpa using h8
  have d' : decide ((s.size : Int) < 8) = false := by simp only [decide_eq_false_iff_not]; omega
  have i2 : 2 ≤ s.size := by omega
  have i3 : 2 < s.size := by omega
  by_cases hn : s.extract 0 2 = ⟨#[80, 84]⟩
  ·obtain ⟨n1, n2⟩ := pt_eq hn
   have HN := Lib.hid hn
   have hq := byteOf_eq s 2 i3
   have H8 := Lib.hid h8
   clear h8 hn
   by_cases hr : byteOf s 2 < 1 ∨ 3 < byteOf s 2
   ·have H := Lib.hid (fver_none H8.out HN.out hr)
    rw [hq] at hr
    rcases ver_no hr with ⟨r1, r2⟩ | ⟨r1, r2, r3, r4⟩
    all_goals
     clear hr hq
     go_enter Tryz.func22, Tryz.ntmps22
     go_wp2
     go_ret2
     exact ⟨by rw [H.out]; rfl, Below.refl _ _⟩
   ·have HR := Lib.hid hr
    rw [hq] at hr
    obtain ⟨r1, r2, r3, r4⟩ := ver_yes hr
    have HQ := Lib.hid hq
    clear hr hq
    go_enter Tryz.func22, Tryz.ntmps22
    go_wp2_with fail
    refine (open_any s _ hs).mono ?_
    rintro r w1 ⟨rfl, hb1⟩
    obtain ⟨⟨t, e⟩, hy⟩ : ∃ y, openOf s = y := ⟨_, rfl⟩
    have HY := Lib.hid hy
    rw [hy]
    clear hy
    simp only
    by_cases he : e = 0
    ·subst he
     have H := Lib.hid (fver_ok H8.out HN.out HR.out HY.out)
     rw [errV_zero]
     have hw : IntKind.i64.wrap (s[2].toNat : Int) = (s[2].toNat : Int) := IntWalk.i64_in _ (by have := (s[2]).toNat_lt; omega)
     go_wp2
     go_ret2
     exact ⟨by rw [H.out, HQ.out]; rfl, hb1⟩
    ·have H := Lib.hid (fver_open H8.out HN.out HR.out HY.out he)
     have HV := Lib.hid (errV_of he)
     rw [errV_of he]
     clear he
     go_wp2
     go_ret2
     exact ⟨by rw [H.out]; simp only [HV.out]; rfl, hb1⟩
  ·have H := Lib.hid (fver_name h8 hn)
   obtain ⟨n1, n2⟩ := pt_ne hn
   clear h8 hn
   go_enter Tryz.func22, Tryz.ntmps22
   go_wp2
   go_ret2
   exact ⟨by rw [H.out]; rfl, Below.refl _ _⟩
set_option maxRecDepth 100000 in
theorem prefix_pt (s : ByteArray) (w : World) (h2 : 2 ≤ s.size) (b : Bool) (hb : ((s.extract 0 2).toList == [80, 84]) = b) :
  Calls Tryz.prog 68 #[.string s, .string ⟨#[80, 84]⟩] w fun e w' => e = .returned (.bool b) ∧ w = w' := by
 have d1 : decide (2 ≤ s.size) = true := by simpa using h2
 have d2 : decide ((2 : Int) ≤ (s.size : Int)) = true := by simp only [decide_eq_true_eq]; omega
 go_enter Tryz.func68, Tryz.ntmps68
 go_wp2_with fail
 go_enter Tryz.func116, Tryz.ntmps116
 cases b with
 | true =>
  go_wp2
  go_ret
  exact ⟨rfl, rfl⟩
 | false =>
  go_wp2
  go_ret
  exact ⟨rfl, rfl⟩
set_option maxHeartbeats 2000000 in
set_option maxRecDepth 100000 in
theorem rversion_any (s : ByteArray) (w : World) (hs : s.size ≤ 1000000) :
  Calls Tryz.prog 21 #[.string s] w fun e w' => e = .returned (.tuple #[.int .i64 (fver s).1, .int .i64 (fver s).2]) ∧ Below w.heap.size w w' := by
 by_cases h8 : s.size < 8
 ·have H := Lib.hid (fver_short h8)
  have d : decide (s.size < 8) = true := by simpa using h8
  have d' : decide ((s.size : Int) < 8) = true := by simp only [decide_eq_true_eq]; omega
  clear h8
  go_enter Tryz.func21, Tryz.ntmps21
  go_wp2
  go_ret2
  exact ⟨by rw [H.out]; rfl, Below.refl _ _⟩
 ·have d : decide (s.size < 8) = false := by simpa using h8
  have d' : decide ((s.size : Int) < 8) = false := by simp only [decide_eq_false_iff_not]; omega
  have i2 : 2 ≤ s.size := by omega
  have i3 : 2 < s.size := by omega
  by_cases hn : s.extract 0 2 = ⟨#[80, 84]⟩
  ·have HN := Lib.hid hn
   have PT := Lib.hid (prefix_pt s w i2 true (pt_eq hn).2)
   have hq := byteOf_eq s 2 i3
   have H8 := Lib.hid h8
   have HIB := Lib.hid (@inB_byte (byteOf s 2))
   have hw : IntKind.i64.wrap (s[2].toNat : Int) = (s[2].toNat : Int) := IntWalk.i64_in _ (by have := (s[2]).toNat_lt; omega)
   rw [hq] at HIB
   clear h8 hn
   go_enter Tryz.func21, Tryz.ntmps21
   go_wp2_with fail
   refine PT.out.mono ?_
   rintro r w1 ⟨rfl, rfl⟩
   go_wp2_with fail
   refine (within_any _ _ _ _).mono ?_
   rintro r w1 ⟨rfl, rfl⟩
   rw [HIB.out]
   by_cases hr : byteOf s 2 < 1 ∨ 3 < byteOf s 2
   ·have H := Lib.hid (fver_none H8.out HN.out hr)
    rw [decide_eq_false (by rw [← hq]; exact fun h => h hr)]
    clear hr hq
    go_wp2
    go_ret2
    exact ⟨by rw [H.out]; rfl, Below.refl _ _⟩
   ·have HR := Lib.hid hr
    rw [decide_eq_true (by rw [← hq]; exact hr)]
    have HQ := Lib.hid hq
    clear hr hq
    go_wp2_with fail
    refine (ropen_any s _ hs).mono ?_
    rintro r w1 ⟨rfl, hb1⟩
    obtain ⟨⟨t, e⟩, hy⟩ : ∃ y, openOf s = y := ⟨_, rfl⟩
    have HY := Lib.hid hy
    rw [hy]
    clear hy
    simp only
    by_cases he : e = 0
    ·subst he
     have H := Lib.hid (fver_ok H8.out HN.out HR.out HY.out)
     go_wp2
     go_ret2
     exact ⟨by rw [H.out, HQ.out]; rfl, hb1⟩
    ·have H := Lib.hid (fver_open H8.out HN.out HR.out HY.out he)
     have d5 : (e != 0) = true := by rw [bne_iff_ne]; exact he
     clear he
     go_wp2
     go_ret2
     exact ⟨by rw [H.out]; rfl, hb1⟩
  ·have H := Lib.hid (fver_name h8 hn)
   have PT := Lib.hid (prefix_pt s w i2 false (pt_ne hn).2)
   clear h8 hn
   go_enter Tryz.func21, Tryz.ntmps21
   go_wp2_with fail
   refine PT.out.mono ?_
   rintro r w1 ⟨rfl, rfl⟩
   go_wp2
   go_ret2
   exact ⟨by rw [H.out]; rfl, Below.refl _ _⟩
/-- What is inside of a frame. -/
def finside (s : ByteArray) : ByteArray × Int := if (fver s).2 ≠ 0 then (⟨#[]⟩, (fver s).2) else (s.extract 3 (s.size - 4), 0)
set_option maxHeartbeats 2000000 in
set_option maxRecDepth 100000 in
theorem finside_any (s : ByteArray) (w : World) (hs : s.size ≤ 1000000) :
  Calls Tryz.prog 23 #[.string s] w fun e w' => e = .returned (.tuple #[.string (finside s).1, errV (finside s).2]) ∧ Below w.heap.size w w' := by
 have hF := Lib.hid (show finside s = if (fver s).2 ≠ 0 then (⟨#[]⟩, (fver s).2) else (s.extract 3 (s.size - 4), 0) from rfl)
 go_enter Tryz.func23, Tryz.ntmps23
 go_wp2_with fail
 refine (fversion_any s _ hs).mono ?_
 rintro r w1 ⟨rfl, hb1⟩
 obtain ⟨⟨v, e⟩, hy⟩ : ∃ y, fver s = y := ⟨_, rfl⟩
 have HY := Lib.hid hy
 rw [hy] at hF ⊢
 clear hy
 simp only at hF ⊢
 by_cases he : e = 0
 ·subst he
  have h8 := (fver_good HY.out).1
  have H := Lib.hid (hF.out.trans (if_neg (by simp)))
  have w4 : IntKind.i64.wrap ((s.size : Int) - 4) = ((s.size - 4 : Nat) : Int) := by rw [show ((s.size : Int) - 4) = ((s.size - 4 : Nat) : Int) by omega]; exact IntWalk.i64_in _ (by omega)
  have w5 : wrap64 ((s.size : Int) - 4) = ((s.size - 4 : Nat) : Int) := by rw [show ((s.size : Int) - 4) = ((s.size - 4 : Nat) : Int) by omega]; exact IntWalk.wrap64_in _ (by omega)
  have j1 : (3 : Int) ≤ ((s.size - 4 : Nat) : Int) := by omega
  have j2 : s.size - 4 ≤ s.size := by omega
  have j3 : ((s.size - 4 : Nat) : Int) ≤ (s.size : Int) := by omega
  have j4 : 3 ≤ s.size - 4 := by omega
  rw [errV_zero]
  clear hF h8
  go_wp2
  go_ret2
  exact ⟨by rw [H.out]; rfl, hb1⟩
 ·have H := Lib.hid (hF.out.trans (if_pos he))
  have HV := Lib.hid (errV_of he)
  rw [errV_of he]
  clear he hF
  go_wp2
  go_ret2
  exact ⟨by rw [H.out]; simp only [HV.out]; rfl, hb1⟩
end Go.Proofs.YtkejlnjnoiidnaaGreatDoor
end

section
namespace Go.Proofs.YtkejlnjnoiidnaaGreatDoor
set_option linter.unusedSimpArgs false
open Go.RowKit As
/-- What throw throws. -/
abbrev thrownV (e p : Int) : Value := .iface 138 (.agg #[.int .i64 e, .int .i64 p])
abbrev Thrown (e p : Int) : List PanicEntry := [{ v := thrownV e p, recovered := false }]
set_option maxRecDepth 100000 in
theorem throw_any (e p : Int) (w : World) : Calls Tryz.prog 53 #[.int .i64 e, .int .i64 p] w fun r w' => r = .panicked (Thrown e p) ∧ w = w' := by
 go_enter Tryz.func53, Tryz.ntmps53
 go_wp2
 exact ⟨rfl, rfl, rfl⟩
theorem isThrown (v : Value) (w : World) : (Instr.typeAssert (.iface 138 v) 20 138 true).run Tryz.prog w = .ok (.tuple #[v, .bool true]) w := by kernel_rfl
set_option maxHeartbeats 1000000 in
set_option maxRecDepth 100000 in
theorem caught_hit (F : Nat) (x y e p : Int) (older : List PanicEntry) (w : World) (h0 : w.cell? ⟨F, 0, none⟩ = some (.int .i64 x)) (h1 : w.cell? ⟨F, 1, none⟩ = some (.int .i64 y)) (f0 : w.frozen? ⟨F, 0, none⟩ = false) (f1 : w.frozen? ⟨F, 1, none⟩ = false) :
  CallsD Tryz.prog 51 #[.pointer (some ⟨F, 0, none⟩)] (.panicking ({ v := thrownV e p, recovered := false } :: older)) w fun r u' w' =>
   r = .returned (.tuple #[]) ∧ u' = .panicking ({ v := thrownV e p, recovered := true } :: older) ∧ w' = ((w.alloc (.cells #[.int .i64 e, .int .i64 p] 138)).setCell ⟨F, 0, none⟩ (.int .i64 e)).setCell ⟨F, 1, none⟩ (.int .i64 p) := by
 have hta := isThrown (.agg #[.int .i64 e, .int .i64 p])
 refine callsD_of_wpS Tryz.func51 rfl fun c₀ cs hu => ?_
 apply wpS_seq
 apply wpS_region
 simp [wpOpsS, go_sem, recoverD, hu, Tryz.ntmps51, Exit.thenS]
 apply wpS_seq
 apply wpS_region
 simp [wpOpsS, go_sem, Exit.thenS]
 refine wpS_cond (t := true) (by simp [Act.eval, Array.replicate]) ?_
 simp only [if_true]
 apply wpS_seq
 apply wpS_region
 simp [wpOpsS, go_sem, Exit.thenS, hta]
 apply wpS_seq
 apply wpS_seq
 apply wpS_region
 simp [wpOpsS, go_sem, Exit.thenS]
 refine wpS_cond (t := false) (by simp [Act.eval, Array.replicate]) ?_
 simp only [Bool.false_eq_true, if_false]
 refine wpS_of_wp (wp_skip ?_)
 simp only [Exit.thenS]
 apply wpS_region
 have hb := below1 w (.cells #[.int .i64 e, .int .i64 p] 138)
 have k0 := (hb.cell (cell_lt h0)).trans h0
 have k1 := (hb.cell (cell_lt h1)).trans h1
 have g0 := (hb.frozen (p := ⟨F, 0, none⟩) (cell_lt h0)).trans f0
 have g1 := (hb.frozen (p := ⟨F, 1, none⟩) (cell_lt h1)).trans f1
 simp [wpOpsS, go_sem, k0, k1, g0, g1, bodyPostS, results, Tryz.results51]
set_option maxHeartbeats 1000000 in
set_option maxRecDepth 100000 in
theorem caught_idle (F : Nat) (w : World) :
  CallsD Tryz.prog 51 #[.pointer (some ⟨F, 0, none⟩)] .returning w fun r u' w' => r = .returned (.tuple #[]) ∧ u' = .returning ∧ w' = w := by
 refine callsD_of_wpS Tryz.func51 rfl fun c₀ cs hu => ?_
 apply wpS_seq
 apply wpS_region
 simp [wpOpsS, go_sem, recoverD, hu, Tryz.ntmps51, Exit.thenS]
 apply wpS_seq
 apply wpS_region
 simp [wpOpsS, go_sem, Exit.thenS]
 refine wpS_cond (t := false) (by simp [Act.eval, Array.replicate]) ?_
 simp only [Bool.false_eq_true, if_false]
 refine wpS_of_wp (wp_skip ?_)
 cases c₀
 simp_all [bodyPostS, results, Tryz.results51]
/-- A scanner's two cells. -/
structure Sc (w : World) (B : Nat) (s : ByteArray) (p : Nat) : Prop where
 c0 : w.cell? ⟨B, 0, none⟩ = some (.string s)
 c1 : w.cell? ⟨B, 1, none⟩ = some (.int .i64 (p : Int))
 f1 : w.frozen? ⟨B, 1, none⟩ = false
theorem Sc.drewN {w : World} {B p : Nat} {s : ByteArray} (h : Sc w B s p) (q : Nat) : Sc (w.drewN q) B s p := ⟨h.c0, h.c1, h.f1⟩
theorem Sc.below {w w' : World} {B p : Nat} {s : ByteArray} (h : Sc w B s p) (hb : Below w.heap.size w w') : Sc w' B s p :=
 ⟨(hb.cell (cell_lt h.c0)).trans h.c0, (hb.cell (cell_lt h.c1)).trans h.c1, (hb.frozen (cell_lt h.c1)).trans h.f1⟩
theorem Sc.step {w : World} {B p : Nat} {s : ByteArray} (h : Sc w B s p) (n : Nat) : Sc (w.setCell ⟨B, 1, none⟩ (.int .i64 (n : Int))) B s n := by
 refine ⟨?_, World.cell?_setCell_same _ _ _ h.c1, by simpa using h.f1⟩
 rw [World.cell?_setCell_other _ _ _ _ (by simp)]
 exact h.c0
theorem Sc.lt {w : World} {B p : Nat} {s : ByteArray} (h : Sc w B s p) : B < w.heap.size := cell_lt h.c0
theorem Sc.keep {w w' : World} {B N p : Nat} {s : ByteArray} (h : Sc w B s p) (hb : Below N w w') (hN : B < N) : Sc w' B s p :=
 ⟨(hb.cell (p := ⟨B, 0, none⟩) hN).trans h.c0, (hb.cell (p := ⟨B, 1, none⟩) hN).trans h.c1, (hb.frozen (p := ⟨B, 1, none⟩) hN).trans h.f1⟩
set_option maxHeartbeats 1000000 in
set_option maxRecDepth 100000 in
theorem next_any (s : ByteArray) (p B : Nat) (most : Int) (w : World) (hs : s.size ≤ 1000000) (hp : p ≤ s.size) (hm : most ≤ 9223372036854775807) (h : Sc w B s p) :
  Calls Tryz.prog 52 #[.pointer (some ⟨B, 0, none⟩), .int .i64 most] w fun r w' => ∃ (q n k : Nat) (e : Int), vat s p most = (n, k, e) ∧
   (e = 0 ∧ (n : Int) ≤ most ∧ 0 < k ∧ k ≤ 10 ∧ p + k ≤ s.size ∧ r = .returned (.int .i64 (n : Int)) ∧ w' = (w.drewN q).setCell ⟨B, 1, none⟩ (.int .i64 ((p + k : Nat) : Int)) ∨
   e ≠ 0 ∧ r = .panicked (Thrown e p) ∧ w' = w.drewN q) := by
 obtain ⟨c0, c1, f1⟩ := h
 obtain ⟨n, k, e, ha, hx⟩ := vat_of s p most
 have hl : (s.extract p s.size).size ≤ maxLen := by rw [ByteArray.size_extract]; unfold maxLen; omega
 have hv := Lib.hid (show vint (s.extract p s.size).data.toList most = (n, k, e) from ha)
 have HA := Lib.hid ha
 have i1 : (0 : Int) ≤ (p : Int) := by omega
 have i2 : (p : Int) ≤ (s.size : Int) := by omega
 clear ha
 go_enter Tryz.func52, Tryz.ntmps52
 go_wp2_with fail
 go_quiet ((go_at_call_of 64 (Value.int IntKind.i64 most); exact Calls.quiet_of_same ((rvint_any _ most _ hl hm).mono fun _ _ ⟨a, b⟩ => ⟨by rw [a, hv.out], b.symm⟩)))
 simp only
 rcases hx with ⟨rfl, x1, x2, x3, x4⟩ | ⟨he, rfl, rfl⟩
 ·have w1 : IntKind.i64.wrap ((p : Int) + (k : Int)) = ((p + k : Nat) : Int) := IntWalk.i64_in _ (by omega)
  go_wp2
  go_ret
  refine ⟨nq, n, k, 0, HA.out, .inl ⟨rfl, x1, x2, x3, x4, rfl, by rw [show ((p : Int) + (k : Int)) = ((p + k : Nat) : Int) by omega]⟩⟩
 ·have hne : (e != 0) = true := by rw [bne_iff_ne]; exact he
  have HE := Lib.hid he
  clear he
  go_wp2_with fail
  refine (throw_any e p _).mono ?_
  rintro r w' ⟨rfl, rfl⟩
  go_wp2
  exact ⟨rfl, nq, 0, 0, e, HA.out, .inr ⟨HE.out, rfl, rfl⟩⟩
end Go.Proofs.YtkejlnjnoiidnaaGreatDoor
end
