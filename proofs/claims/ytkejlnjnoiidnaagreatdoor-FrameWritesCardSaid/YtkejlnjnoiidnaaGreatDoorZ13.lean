/- A batch in a frame, in plain Lean. No program in sight.

The Go functions one, More, Sum of package crc and carry, More, Sum of the reference compute what the plain functions of CrcLaw say. No condition but that the numbers fit.

crc.Seal, crc.Open and Seal, Open of the reference say what sealOf and openOf say.

frame.Write says what frameOf says.

BatchRight of the reference says what bright says. -/
import Derived.Test.YtkejlnjnoiidnaaGreatDoorZ6
import Derived.Test.YtkejlnjnoiidnaaGreatDoorZ3
import Derived.Test.YtkejlnjnoiidnaaGreatDoorZ12
import Derived.Test.YtkejlnjnoiidnaaGreatDoorProg
import Derived.WalkKit
import Derived.WalkLawsBesides
import Derived.WalkSpells
import Derived.Outline
import Derived.Lib.Hide
import Derived.Laws.BitsAllLaws
import Derived.Test.YtkejlnjnoiidnaaGreatDoorZ2
import Derived.Test.YtkejlnjnoiidnaaGreatDoorZ4
import Derived.Test.YtkejlnjnoiidnaaGreatDoorZ1
import Derived.Test.YtkejlnjnoiidnaaGreatDoorZ8
import Derived.Test.YtkejlnjnoiidnaaGreatDoorZ10
section
namespace Go.Proofs.YtkejlnjnoiidnaaGreatDoor
open Tokens
theorem squeeze_right {s : ByteArray} (h : s.size ≤ 20000) : (squeezeOf s).2 = (0, -1) := by
  rw [squeeze_ok (by omega)]
  unfold twrite
  rw [if_neg (by rw [tokens_right h]; simp)]
/-- A body's text in a frame, ahead of its seal. -/
def frText (s : ByteArray) : ByteArray :=
  if (squeezeOf s).1.size < s.size then ((⟨#[80, 84, 3]⟩ ++ ⟨#[1]⟩) ++ ⟨(vput s.size).toArray⟩) ++ (squeezeOf s).1 else ((⟨#[80, 84, 3]⟩ ++ ⟨#[0]⟩) ++ ⟨(vput s.size).toArray⟩) ++ s
def frameOf (b : ByteArray × Int × Int) : ByteArray × Int × Int := if b.2.1 ≠ 0 then (⟨#[]⟩, b.2) else (sealOf (frText b.1), b.2)
theorem frame_bad {t : ByteArray} {e p : Int} (h : e ≠ 0) : frameOf (t, e, p) = (⟨#[]⟩, e, p) := by unfold frameOf; rw [if_pos h]
theorem frame_good {t : ByteArray} {p : Int} : frameOf (t, 0, p) = (sealOf (frText t), 0, p) := by unfold frameOf; rw [if_neg (by simp)]
theorem frText_less {s : ByteArray} (h : (squeezeOf s).1.size < s.size) : frText s = ((⟨#[80, 84, 3]⟩ ++ ⟨#[1]⟩) ++ ⟨(vput s.size).toArray⟩) ++ (squeezeOf s).1 := by unfold frText; rw [if_pos h]
theorem frText_more {s : ByteArray} (h : ¬ (squeezeOf s).1.size < s.size) : frText s = ((⟨#[80, 84, 3]⟩ ++ ⟨#[0]⟩) ++ ⟨(vput s.size).toArray⟩) ++ s := by unfold frText; rw [if_neg h]
theorem bwrite_size {f h : List Ent} {l : List Wr} {t : ByteArray} {e p : Int} (hb : bwrite f h l = (t, e, p)) : t.size ≤ 20000 ∧ (e = 0 → p = -1) := by
  unfold bwrite at hb
  split at hb
  · injection hb with h1 h2
    rename_i hne
    exact ⟨by rw [← h1]; exact Nat.zero_le _, fun h0 => absurd (by rw [h2]; exact h0) hne⟩
  · split at hb
    · injection hb with h1 h2
      injection h2 with h2 h3
      exact ⟨by rw [← h1]; exact Nat.zero_le _, fun h0 => by omega⟩
    · rename_i hn
      injection hb with h1 h2
      injection h2 with h2 h3
      exact ⟨by rw [← h1, strOf_size]; omega, fun _ => h3.symm⟩
theorem fr_size {n : Nat} (h : n ≤ 20000) : (⟨(vput n).toArray⟩ : ByteArray).size ≤ 10 := by
  show (vput n).toArray.size ≤ 10
  have := vput_len10 (n := n) (by omega)
  simpa using this
end Go.Proofs.YtkejlnjnoiidnaaGreatDoor
end

section
namespace Go.Proofs.YtkejlnjnoiidnaaGreatDoor.Crc
open Go.RowKit
theorem retI {k : IntKind} {a b : Int} (h : a = b) : Ending.returned (.int k a) = .returned (.int k b) := by rw [h]
theorem valI {k : IntKind} {a b : Int} (h : a = b) : Value.int k a = .int k b := by rw [h]

theorem and_one (m : Nat) (h : m < 4294967296) : bits BinOp.and IntKind.u32 (m : Int) 1 = ((m % 2 : Nat) : Int) := by
  have e := u32_and_nat m 1 h (by omega)
  rw [nat_mask1] at e
  exact e
theorem xor_poly (m : Nat) (h : m < 4294967296) : bits BinOp.xor IntKind.u32 ((m : Int) / 2) 2197175160 = ((m / 2 ^^^ poly : Nat) : Int) := by
  have e := u32_xor_nat (m / 2) poly (by omega) poly_lt
  have e1 : ((m / 2 : Nat) : Int) = (m : Int) / 2 := by omega
  rw [e1] at e
  exact e
theorem stp_odd (m : Nat) (h : m < 4294967296) (t : (bits BinOp.and IntKind.u32 (m : Int) 1 == 1) = true) :
    bits BinOp.xor IntKind.u32 ((m : Int) / 2) 2197175160 = (stp m : Int) := by
  rw [and_one m h] at t
  have t' : m % 2 = 1 := by
    have := beq_iff_eq.1 t
    omega
  rw [xor_poly m h]
  unfold stp
  rw [if_pos t']
theorem stp_even (m : Nat) (h : m < 4294967296) (t : (bits BinOp.and IntKind.u32 (m : Int) 1 == 1) = false) :
    (m : Int) / 2 = (stp m : Int) := by
  rw [and_one m h] at t
  have t' : m % 2 ≠ 1 := by
    have := beq_eq_false_iff_ne.1 t
    omega
  unfold stp
  rw [if_neg t']
  omega

theorem one_any (n : Nat) (w : World) (h : n < 4294967296) :
    Calls Tryz.prog 145 #[.int .u32 (n : Int)] w fun e w' => e = .returned (.int .u32 (one n : Int)) ∧ w = w' := by
  go_enter Tryz.func145, Tryz.ntmps145
  go_wp2
  go_loop [0, 3] (fun v i => ∃ k : Nat, k ≤ 8 ∧ i = .int .i64 k ∧ v = .int .u32 (iter k n : Int)) (fun _ i => 8 - (intOf i).toNat)
  case atStart => exact ⟨0, by omega, rfl, rfl⟩
  case round =>
    obtain ⟨k, hk, rfl, rfl⟩ := hrel
    have hb := iter_lt k h
    have hs := Lib.hid (iter_succ k n)
    go_wp2
    · go_round
      case rel => exact ⟨k + 1, by omega, by go_num, valI (by rw [hs.out]; exact stp_odd _ hb (by assumption))⟩
      case measure => simp [intOf]; omega
    · go_round
      case rel => exact ⟨k + 1, by omega, by go_num, valI (by rw [hs.out]; exact stp_even _ hb (by assumption))⟩
      case measure => simp [intOf]; omega
    · go_ret
      obtain rfl : k = 8 := by omega
      exact ⟨rfl, rfl⟩

/- Complements. -/
theorem not_u32 (m : Nat) (h : m < 4294967296) : bits BinOp.xor IntKind.u32 IntKind.u32.max (m : Int) = ((4294967295 - m : Nat) : Int) := by
  show IntKind.u32.wrap ((BitVec.ofInt 32 IntKind.u32.max ^^^ BitVec.ofInt 32 (m : Int)).toNat : Int) = _
  have h1 : BitVec.ofInt 32 IntKind.u32.max = BitVec.allOnes 32 := by decide
  rw [h1, BitVec.allOnes_xor, BitVec.toNat_not, ofInt_u32 m h, IntKind.wrap_u32']
  omega
theorem byte_at (s : ByteArray) (k : Nat) (h : k < s.size) : (s.data.toList.getD k 0) = s[k] := by
  have h' : k < s.data.toList.length := by simpa using h
  simp only [List.getD, List.getElem?_eq_getElem h', Option.getD_some]
  rfl
theorem byte_in (n : Nat) (b : UInt8) (h : n < 4294967296) :
    bits BinOp.xor IntKind.u32 (bits BinOp.and IntKind.u32 (n : Int) 255) ((b.toNat : Int) % 4294967296) = ((n % 256 ^^^ b.toNat : Nat) : Int) := by
  have hb := b.toNat_lt
  have e := u32_and_nat n 255 h (by omega)
  rw [nat_mask8] at e
  have e1 : (b.toNat : Int) % 4294967296 = (b.toNat : Int) := by omega
  rw [e1]
  have e2 : bits BinOp.and IntKind.u32 (n : Int) 255 = ((n % 256 : Nat) : Int) := e
  rw [e2]
  exact u32_xor_nat _ _ (by omega) (by omega)
theorem byte_in_lt (n : Nat) (b : UInt8) : n % 256 ^^^ b.toNat < 4294967296 := by
  have := Nat.xor_lt_two_pow (n := 8) (x := n % 256) (y := b.toNat) (by omega) b.toNat_lt
  omega
theorem byte_out (n : Nat) (b : UInt8) (h : n < 4294967296) :
    bits BinOp.xor IntKind.u32 (one (n % 256 ^^^ b.toNat) : Int) ((n : Int) / 256) = (byteStep n b.toNat : Int) := by
  have e1 : (n : Int) / 256 = ((n / 256 : Nat) : Int) := by omega
  rw [e1]
  exact u32_xor_nat _ _ (iter_lt 8 (byte_in_lt n b)) (by omega)
theorem take_snoc (s : ByteArray) (k : Nat) (h : k < s.size) : s.data.toList.take (k + 1) = s.data.toList.take k ++ [s[k]] := by
  rw [List.take_succ_eq_append_getElem (by simpa using h)]; rfl
theorem run_step (n : Nat) (s : ByteArray) (k : Nat) (h : k < s.size) : run n (s.data.toList.take (k + 1)) = byteStep (run n (s.data.toList.take k)) s[k].toNat := by
  rw [take_snoc s k h, run_snoc]

def more (n : Nat) (l : List UInt8) : Nat := 4294967295 - run (4294967295 - n) l

theorem more_any (n : Nat) (s : ByteArray) (w : World) (hn : n < 4294967296) (hs : s.size ≤ maxLen) :
    Calls Tryz.prog 126 #[.int .u32 (n : Int), .string s] w fun e w' => e = .returned (.int .u32 (more n s.data.toList : Int)) ∧ w = w' := by
  unfold maxLen at hs
  go_enter Tryz.func126, Tryz.ntmps126
  go_wp2
  go_loop [0, 5, 10] (fun v _ i => ∃ k : Nat, k ≤ s.size ∧ i = .int .i64 k ∧ v = .int .u32 (run (4294967295 - n) (s.data.toList.take k) : Int)) (fun _ _ i => s.size - (intOf i).toNat)
  case atStart => exact ⟨0, by omega, rfl, valI (not_u32 n hn)⟩
  case round =>
    obtain ⟨k, hk, rfl, rfl⟩ := hrel
    have hb := run_lt (n := 4294967295 - n) (by omega) (s.data.toList.take k)
    by_cases hlt : k < s.size
    · have hstep := Lib.hid (run_step (4294967295 - n) s k hlt)
      have hout := Lib.hid (byte_out (run (4294967295 - n) (s.data.toList.take k)) s[k] hb)
      have hin := Lib.hid (byte_in (run (4294967295 - n) (s.data.toList.take k)) s[k] hb)
      go_wp2_with fail
      rw [hin.out]
      refine (one_any _ _ (byte_in_lt _ _)).mono ?_
      rintro e w' ⟨rfl, rfl⟩
      go_wp2_with fail
      go_round
      case rel => exact ⟨k + 1, by omega, by go_num, valI (by rw [hstep.out]; exact hout.out)⟩
      case measure => simp [intOf]; omega
    · obtain rfl : k = s.size := by omega
      go_wp2_with fail
      go_ret
      have e : s.data.toList.take s.size = s.data.toList := List.take_of_length_le (by simp)
      rw [e] at hb ⊢
      exact ⟨retI (not_u32 _ hb), rfl⟩
theorem bit_at (n : Nat) (b : UInt8) (j : Nat) (h : n < 4294967296) :
    bits BinOp.xor IntKind.u32 (bits BinOp.and IntKind.u32 (n : Int) 1) (bits BinOp.and IntKind.u32 ((b.toNat : Int) / 2 ^ j % 4294967296) 1) = ((n % 2 ^^^ (b.toNat / 2 ^ j % 2) : Nat) : Int) := by
  have hb := b.toNat_lt
  have hd : b.toNat / 2 ^ j ≤ b.toNat := Nat.div_le_self _ _
  have e1 : (b.toNat : Int) / 2 ^ j % 4294967296 = ((b.toNat / 2 ^ j : Nat) : Int) := by
    have e0 : ((b.toNat / 2 ^ j : Nat) : Int) = (b.toNat : Int) / 2 ^ j := by simp
    rw [← e0]
    generalize b.toNat / 2 ^ j = q at hd ⊢
    omega
  rw [e1, and_one n h, and_one _ (by omega)]
  exact u32_xor_nat _ _ (by omega) (by omega)
theorem carry_yes (n : Nat) (s : ByteArray) (k : Nat) (h : n < 4294967296) (hlt : k < 8 * s.size) (h8 : k / 8 < s.size)
    (t : (bits BinOp.xor IntKind.u32 (bits BinOp.and IntKind.u32 (carried n s.data.toList k : Int) 1) (bits BinOp.and IntKind.u32 ((s[k / 8].toNat : Int) / 2 ^ (k % 8) % 4294967296) 1) == 1) = true) :
    bits BinOp.xor IntKind.u32 ((carried n s.data.toList k : Int) / 2) 2197175160 = (carried n s.data.toList (k + 1) : Int) := by
  have hc := carried_lt h s.data.toList k
  rw [bit_at _ _ _ hc] at t
  have t' := beq_iff_eq.1 t
  rw [xor_poly _ hc, carried_succ n _ k (by simpa using hlt), bitStep_ref _ _ (by omega), byte_at s _ h8, if_pos (by omega)]
theorem carry_no (n : Nat) (s : ByteArray) (k : Nat) (h : n < 4294967296) (hlt : k < 8 * s.size) (h8 : k / 8 < s.size)
    (t : (bits BinOp.xor IntKind.u32 (bits BinOp.and IntKind.u32 (carried n s.data.toList k : Int) 1) (bits BinOp.and IntKind.u32 ((s[k / 8].toNat : Int) / 2 ^ (k % 8) % 4294967296) 1) == 1) = false) :
    (carried n s.data.toList k : Int) / 2 = (carried n s.data.toList (k + 1) : Int) := by
  have hc := carried_lt h s.data.toList k
  rw [bit_at _ _ _ hc] at t
  have t' := beq_eq_false_iff_ne.1 t
  rw [carried_succ n _ k (by simpa using hlt), bitStep_ref _ _ (by omega), byte_at s _ h8, if_neg (by omega)]
  omega
theorem carry_any (n : Nat) (s : ByteArray) (w : World) (h : n < 4294967296) (hs : s.size ≤ 1000000) :
    Calls Tryz.prog 121 #[.int .u32 (n : Int), .string s] w fun e w' => e = .returned (.int .u32 (run n s.data.toList : Int)) ∧ w = w' := by
  go_enter Tryz.func121, Tryz.ntmps121
  go_wp2
  go_loop [0, 5] (fun v i => ∃ k : Nat, k ≤ 8 * s.size ∧ i = .int .i64 k ∧ v = .int .u32 (carried n s.data.toList k : Int)) (fun _ i => 8 * s.size - (intOf i).toNat)
  case atStart => exact ⟨0, by omega, rfl, valI (by rw [carried_zero])⟩
  case round =>
    obtain ⟨k, hk, rfl, rfl⟩ := hrel
    have hb := carried_lt h s.data.toList k
    by_cases hlt : k < 8 * s.size
    · have h8 : k / 8 < s.size := by omega
      go_wp2_with fail
      · go_round
        case rel => exact ⟨k + 1, by omega, by go_num, valI (carry_yes n s k h hlt h8 (by assumption))⟩
        case measure => simp [intOf]; omega
      · go_round
        case rel => exact ⟨k + 1, by omega, by go_num, valI (carry_no n s k h hlt h8 (by assumption))⟩
        case measure => simp [intOf]; omega
    · obtain rfl : k = 8 * s.size := by omega
      go_wp2_with fail
      go_ret
      have e : carried n s.data.toList (8 * s.size) = run n s.data.toList := by
        rw [← carried_end n s.data.toList]; simp
      exact ⟨retI (by rw [e]), rfl⟩
theorem rsum_any (s : ByteArray) (w : World) (hs : s.size ≤ 1000000) :
    Calls Tryz.prog 78 #[.string s] w fun e w' => e = .returned (.int .u32 (more 0 s.data.toList : Int)) ∧ w = w' := by
  go_enter Tryz.func78, Tryz.ntmps78
  go_wp2_with fail
  refine (carry_any 4294967295 s _ (by omega) hs).mono ?_
  rintro e w' ⟨rfl, rfl⟩
  go_wp2_with fail
  go_ret
  exact ⟨retI (not_u32 _ (run_lt (by omega) _)), rfl⟩
theorem sum_any (s : ByteArray) (w : World) (hs : s.size ≤ maxLen) :
    Calls Tryz.prog 85 #[.string s] w fun e w' => e = .returned (.int .u32 (more 0 s.data.toList : Int)) ∧ w = w' := by
  go_enter Tryz.func85, Tryz.ntmps85
  go_wp2_with fail
  refine (more_any 0 s _ (by omega) hs).mono ?_
  rintro e w' ⟨rfl, rfl⟩
  go_wp2_with fail
  go_ret
  exact ⟨rfl, rfl⟩

end Go.Proofs.YtkejlnjnoiidnaaGreatDoor.Crc
end

section
namespace Go.Proofs.YtkejlnjnoiidnaaGreatDoor
open Go.RowKit As
/-- The string of a slice that was built of bytes. -/
theorem string_new {P : Program} (w : World) (src e dst t : TypeId) (vs : Array Value) (l : List UInt8) (n : Nat) (hv : vs = (l.map byteV).toArray) (hn : n = l.length) (hs : P.underlying src = some (.slice e)) (he : P.underlying e = some (.int .u8)) (hd : P.underlying dst = some .string) :
    (convert src dst (.slice (some ⟨w.heap.size, 0, none⟩) n n)).run P (w.alloc (.cells vs t)) = .ok (.string (strOf l)) (w.alloc (.cells vs t)) := by
  subst hv hn
  refine string_of _ src e dst _ _ l hs he hd fun i hi => ⟨?_, ?_⟩
  · rw [World.cell?_alloc_new]
    simp [List.getElem?_map, List.getElem?_eq_getElem hi]
  · simp only [World.alloc, World.frozen?, Array.getElem?_push_size]
    simp
theorem u8_low (n : Nat) : IntKind.u8.wrap (n : Int) = ((UInt8.ofNat (n % 256)).toNat : Int) := by
  rw [IntKind.wrap_u8']
  have : (UInt8.ofNat (n % 256)).toNat = n % 256 := by simp
  rw [this]; omega
set_option maxRecDepth 100000 in
theorem seal_any (s : ByteArray) (w : World) (hs : s.size ≤ 1000000) :
    Calls Tryz.prog 41 #[.string s] w fun e w' => e = .returned (.string (sealOf s)) ∧ Below w.heap.size w w' := by
  obtain ⟨n, hn⟩ : ∃ n, n = crcOf s := ⟨_, rfl⟩
  have hlt := crcOf_lt s
  rw [← hn] at hlt
  have HN := Lib.hid hn
  clear hn
  go_enter Tryz.func41, Tryz.ntmps41
  go_wp2_with fail
  refine (Crc.sum_any s w (by unfold maxLen; omega)).mono ?_
  rintro e w' ⟨rfl, rfl⟩
  rw [show Crc.more 0 s.data.toList = n from HN.out.symm]
  go_wp2_with fail
  rw [string_new w 61 5 9 5 _ (lowB 4 n) 4 (by rw [lowB_four]; simp [byteV]; omega) (lowB_len 4 n).symm Tryz.underlying61 Tryz.underlying5 Tryz.underlying9]
  have h4 : (strOf (lowB 4 n)).size = 4 := four_size n
  generalize hF : strOf (lowB 4 n) = F at *
  have HF := Lib.hid hF
  clear hF
  have hcat : s.size + F.size ≤ 9223372036854775807 := by omega
  go_wp2_with fail
  go_ret
  exact ⟨by unfold sealOf four; rw [← HN.out, HF.out]; rfl, below1 _ _⟩
set_option maxRecDepth 100000 in
theorem rseal_any (s : ByteArray) (w : World) (hs : s.size ≤ 1000000) :
    Calls Tryz.prog 34 #[.string s] w fun e w' => e = .returned (.string (sealOf s)) ∧ Below w.heap.size w w' := by
  obtain ⟨n, hn⟩ : ∃ n, n = crcOf s := ⟨_, rfl⟩
  have hlt := crcOf_lt s
  rw [← hn] at hlt
  have HN := Lib.hid hn
  clear hn
  have h0 := Lib.hid (strOf_nil s)
  go_enter Tryz.func34, Tryz.ntmps34
  go_wp2_with fail
  refine (Crc.rsum_any s w (by omega)).mono ?_
  rintro e w' ⟨rfl, rfl⟩
  rw [show Crc.more 0 s.data.toList = n from HN.out.symm]
  go_wp2
  go_loopw [0, 3, 6] (fun a m i wr => ∃ k : Nat, k ≤ 4 ∧ i = .int .i64 k ∧ m = .int .u32 ((n / 256 ^ k : Nat) : Int) ∧ a = .string (s ++ strOf (lowB k n)) ∧ Below w.heap.size w wr) (fun _ _ i _ => 4 - (intOf i).toNat)
  case atStart => exact ⟨0, by omega, rfl, by simp, by rw [show lowB 0 n = [] from rfl, h0.out], Below.refl _ _⟩
  case round =>
    obtain ⟨k, hk, rfl, rfl, rfl, hbel⟩ := hrel
    have hB := hbel.size
    by_cases hlt : k < 4
    · have hsn := Lib.hid (lowB_snoc k n)
      have hl := lowB_len k n
      obtain ⟨m, hm⟩ : ∃ m, m = n / 256 ^ k := ⟨_, rfl⟩
      have hmn : m ≤ n := by rw [hm]; exact Nat.div_le_self _ _
      rw [← hm]
      have hnx := Lib.hid (show n / 256 ^ (k + 1) = m / 256 by rw [hm, Nat.div_div_eq_div_mul, Nat.pow_succ])
      have HM := Lib.hid hm
      clear hm
      have hsz : (s ++ strOf (lowB k n)).size = s.size + k := by rw [ByteArray.size_append, strOf_len (lowB k n), hl]
      obtain ⟨T, hT⟩ : ∃ T, T = s ++ strOf (lowB k n) := ⟨_, rfl⟩
      rw [← hT] at hsz ⊢
      have HT := Lib.hid hT
      clear hT
      go_wp2_with fail
      rw [string_new wr 61 5 9 5 _ [UInt8.ofNat (m % 256)] 1 (by simp [byteV]) rfl Tryz.underlying61 Tryz.underlying5 Tryz.underlying9]
      have h1 : (strOf [UInt8.ofNat (m % 256)]).size = 1 := rfl
      generalize hF : strOf [UInt8.ofNat (m % 256)] = F at *
      have HF := Lib.hid hF
      clear hF
      have hcat : T.size + F.size ≤ 9223372036854775807 := by omega
      go_wp2_with fail
      go_roundw
      case rel => exact ⟨k + 1, by omega, by go_num, valI (by rw [hnx.out]; omega), by rw [HT.out, hsn.out, strOf_add, ← str_assoc, ← HF.out, HM.out], hbel.alloc hB _⟩
      case measure => simp [intOf]; omega
    · obtain rfl : k = 4 := by omega
      go_wp2_with fail
      go_ret
      exact ⟨by unfold sealOf; rw [← HN.out]; rfl, hbel⟩
set_option maxRecDepth 100000 in
theorem open_any (s : ByteArray) (w : World) (hs : s.size ≤ 1000000) :
    Calls Tryz.prog 69 #[.string s] w fun e w' => e = .returned (.tuple #[.string (openOf s).1, errV (openOf s).2]) ∧ Below w.heap.size w w' := by
  by_cases h4 : s.size < 4
  · have H := Lib.hid (open_short h4)
    have hd : decide (s.size < 4) = true := by simpa using h4
    go_enter Tryz.func69, Tryz.ntmps69
    go_wp2
    go_ret2
    exact ⟨by rw [H.out]; rfl, Below.refl _ _⟩
  · have hd : decide (s.size < 4) = false := by simpa using h4
    have hsz : (s.extract 0 (s.size - 4)).size = s.size - 4 := by rw [ByteArray.size_extract]; omega
    have he := Lib.hid (show (s.extract 0 (s.size - 4)).size ≤ 1000000 by omega)
    clear hsz
    by_cases hg : sealOf (s.extract 0 (s.size - 4)) = s
    · have H := Lib.hid (open_good h4 hg)
      have Hg := Lib.hid hg
      clear hg
      go_enter Tryz.func69, Tryz.ntmps69
      go_wp2_with fail
      refine (seal_any _ w he.out).mono ?_
      rintro e w' ⟨rfl, hb⟩
      rw [Hg.out]
      go_wp2
      go_ret2
      exact ⟨by rw [H.out]; rfl, hb⟩
    · have H := Lib.hid (open_bad h4 hg)
      obtain ⟨Z, hZ⟩ : ∃ Z, Z = sealOf (s.extract 0 (s.size - 4)) := ⟨_, rfl⟩
      rw [← hZ] at hg
      have HZ := Lib.hid hZ
      clear hZ
      have hne := toList_ne hg
      clear hg
      go_enter Tryz.func69, Tryz.ntmps69
      go_wp2_with fail
      refine (seal_any _ w he.out).mono ?_
      rintro e w' ⟨rfl, hb⟩
      rw [← HZ.out]
      go_wp2
      go_ret2
      exact ⟨by rw [H.out]; rfl, hb⟩
set_option maxRecDepth 100000 in
theorem ropen_any (s : ByteArray) (w : World) (hs : s.size ≤ 1000000) :
    Calls Tryz.prog 48 #[.string s] w fun e w' => e = .returned (.tuple #[.string (openOf s).1, .int .i64 (openOf s).2]) ∧ Below w.heap.size w w' := by
  by_cases h4 : s.size < 4
  · have H := Lib.hid (open_short h4)
    have hd : decide (s.size < 4) = true := by simpa using h4
    go_enter Tryz.func48, Tryz.ntmps48
    go_wp2
    go_ret2
    exact ⟨by rw [H.out]; rfl, Below.refl _ _⟩
  · have hd : decide (s.size < 4) = false := by simpa using h4
    have hsz : (s.extract 0 (s.size - 4)).size = s.size - 4 := by rw [ByteArray.size_extract]; omega
    have he := Lib.hid (show (s.extract 0 (s.size - 4)).size ≤ 1000000 by omega)
    clear hsz
    by_cases hg : sealOf (s.extract 0 (s.size - 4)) = s
    · have H := Lib.hid (open_good h4 hg)
      have Hg := Lib.hid hg
      clear hg
      go_enter Tryz.func48, Tryz.ntmps48
      go_wp2_with fail
      refine (rseal_any _ w he.out).mono ?_
      rintro e w' ⟨rfl, hb⟩
      rw [Hg.out]
      go_wp2
      go_ret2
      exact ⟨by rw [H.out]; rfl, hb⟩
    · have H := Lib.hid (open_bad h4 hg)
      obtain ⟨Z, hZ⟩ : ∃ Z, Z = sealOf (s.extract 0 (s.size - 4)) := ⟨_, rfl⟩
      rw [← hZ] at hg
      have HZ := Lib.hid hZ
      clear hZ
      have hne := toList_ne hg
      clear hg
      go_enter Tryz.func48, Tryz.ntmps48
      go_wp2_with fail
      refine (rseal_any _ w he.out).mono ?_
      rintro e w' ⟨rfl, hb⟩
      rw [← HZ.out]
      go_wp2
      go_ret2
      exact ⟨by rw [H.out]; rfl, hb⟩
end Go.Proofs.YtkejlnjnoiidnaaGreatDoor
end

section
namespace Go.Proofs.YtkejlnjnoiidnaaGreatDoor
set_option linter.unusedSimpArgs false
set_option linter.unusedVariables false
open Go.RowKit As Tokens
theorem ferr_nil {w : World} {v : Value} {e p : Int} (h : ErrIs w v e p) (h0 : e = 0) : v = .nilIface := by
  subst h0
  exact (ErrIs.zero h).1
theorem ferr_some {w : World} {v : Value} {e p : Int} (h : ErrIs w v e p) (h0 : e ≠ 0) : ∃ t u, v = .iface t u := by
  cases h with
  | none => exact absurd rfl h0
  | bare _ _ => exact ⟨_, _, rfl⟩
  | at_ _ _ _ _ _ _ _ => exact ⟨_, _, rfl⟩
set_option maxHeartbeats 2000000 in
set_option maxRecDepth 100000 in
theorem framewrite_any (w : World) (x : BatArg) (hb : Bat w x) (hf : ∀ y ∈ x.f, entFits y) (hh : ∀ y ∈ x.h, entFits y) (hcf : x.n ≤ x.c) (hch : x.n' ≤ x.c') (hg : Handle w) :
    Calls Tryz.prog 15 #[x.v] w fun e w' => ∃ v, e = .returned (.tuple #[.string (frameOf (bwrite x.f x.h x.l)).1, v]) ∧ ErrOf w' v (frameOf (bwrite x.f x.h x.l)).2 ∧ Below w.heap.size w w' := by
  have hbx := BxAt.new w x
  have b0 := below1 w (.cells #[.slice x.A x.n x.c, .slice x.A' x.n' x.c', .slice x.A'' x.n'' x.c''] 25)
  have hb0 := hb.grow b0
  have hg0 := hg.below b0
  obtain ⟨⟨t, e, p⟩, hbw⟩ : ∃ z, bwrite x.f x.h x.l = z := ⟨_, rfl⟩
  obtain ⟨ht, hp⟩ := bwrite_size hbw
  have HBW := Lib.hid hbw
  rw [hbw]
  clear hbw
  have q0 := hbx.c0
  have q1 := hbx.c1
  have q2 := hbx.c2
  unfold BatArg.v
  go_enter Tryz.func15, Tryz.ntmps15
  go_wp2_with fail
  refine (bodywrite_any _ x hb0 hf hh hcf hch hg0).mono ?_
  rintro r w1 ⟨v1, rfl, hv1, hb1⟩
  rw [HBW.out] at hv1 ⊢
  have bb := b0.trans (hb1.mono b0.size)
  unfold ErrOf at hv1
  simp only at hv1 ⊢
  by_cases he : e = 0
  · subst he
    obtain rfl := ferr_nil hv1 rfl
    have hsq := squeeze_right ht
    have hr := Lib.hid (frame_good (t := t) (p := p))
    have HSQ := Lib.hid hsq
    have HP := Lib.hid (hp rfl)
    clear hsq hv1 hp
    go_wp2_with fail
    refine (squeeze_any t _ (by omega)).mono ?_
    rintro r w2 ⟨v2, rfl, hv2, hb2⟩
    have b2 := bb.trans (hb2.mono bb.size)
    unfold ErrOf at hv2
    rw [HSQ.out] at hv2
    obtain rfl := ferr_nil hv2 rfl
    clear hv2
    have wS : IntKind.u64.wrap (t.size : Int) = (t.size : Int) := by rw [IntKind.wrap_u64]; omega
    have hvs := fr_size ht
    generalize hq : (squeezeOf t).1 = q at *
    have HQ := Lib.hid hq
    clear hq
    by_cases hlt : q.size < t.size
    · have d1 : decide ((q.size : Int) < (t.size : Int)) = true := by simp only [decide_eq_true_eq]; omega
      have d1' : decide (q.size < t.size) = true := by simpa using hlt
      have HT := Lib.hid (frText_less (by rw [HQ.out]; exact hlt))
      have k1 : ¬ 9223372036854775807 < ((⟨#[80, 84, 3]⟩ : ByteArray) ++ ⟨#[1]⟩).size + (⟨(vput t.size).toArray⟩ : ByteArray).size := by rw [ByteArray.size_append]; show ¬ _ < 3 + 1 + _; omega
      have k2 : ¬ 9223372036854775807 < (((⟨#[80, 84, 3]⟩ : ByteArray) ++ ⟨#[1]⟩) ++ ⟨(vput t.size).toArray⟩).size + q.size := by rw [ByteArray.size_append, ByteArray.size_append]; show ¬ _ < 3 + 1 + _ + _; omega
      have k3 : ((((⟨#[80, 84, 3]⟩ : ByteArray) ++ ⟨#[1]⟩) ++ ⟨(vput t.size).toArray⟩) ++ q).size ≤ 1000000 := by rw [ByteArray.size_append, ByteArray.size_append, ByteArray.size_append]; show 3 + 1 + _ + _ ≤ _; omega
      clear hlt
      go_wp2_with fail
      refine (vput_any t.size _ (by omega)).mono ?_
      rintro r w3 ⟨rfl, hb3⟩
      have b3 := b2.trans (hb3.mono b2.size)
      go_wp2_with fail
      refine (seal_any _ _ k3).mono ?_
      rintro r w4 ⟨rfl, hb4⟩
      go_wp2
      go_ret2
      rw [hr.out, HT.out, HQ.out, HP.out]
      exact ⟨_, rfl, .none, b3.trans (hb4.mono b3.size)⟩
    · have d1 : decide ((q.size : Int) < (t.size : Int)) = false := by simp only [decide_eq_false_iff_not]; omega
      have d1' : decide (q.size < t.size) = false := by simpa using hlt
      have HT := Lib.hid (frText_more (by rw [HQ.out]; exact hlt))
      have k1 : ¬ 9223372036854775807 < ((⟨#[80, 84, 3]⟩ : ByteArray) ++ ⟨#[0]⟩).size + (⟨(vput t.size).toArray⟩ : ByteArray).size := by rw [ByteArray.size_append]; show ¬ _ < 3 + 1 + _; omega
      have k2 : ¬ 9223372036854775807 < (((⟨#[80, 84, 3]⟩ : ByteArray) ++ ⟨#[0]⟩) ++ ⟨(vput t.size).toArray⟩).size + t.size := by rw [ByteArray.size_append, ByteArray.size_append]; show ¬ _ < 3 + 1 + _ + _; omega
      have k3 : ((((⟨#[80, 84, 3]⟩ : ByteArray) ++ ⟨#[0]⟩) ++ ⟨(vput t.size).toArray⟩) ++ t).size ≤ 1000000 := by rw [ByteArray.size_append, ByteArray.size_append, ByteArray.size_append]; show 3 + 1 + _ + _ ≤ _; omega
      clear hlt
      go_wp2_with fail
      refine (vput_any t.size _ (by omega)).mono ?_
      rintro r w3 ⟨rfl, hb3⟩
      have b3 := b2.trans (hb3.mono b2.size)
      go_wp2_with fail
      refine (seal_any _ _ k3).mono ?_
      rintro r w4 ⟨rfl, hb4⟩
      go_wp2
      go_ret2
      rw [hr.out, HT.out, HP.out]
      exact ⟨_, rfl, .none, b3.trans (hb4.mono b3.size)⟩
  · have hr := Lib.hid (frame_bad (t := t) (p := p) he)
    obtain ⟨a, u, rfl⟩ := ferr_some hv1 he
    clear he
    go_wp2
    go_ret2
    rw [hr.out]
    exact ⟨_, rfl, hv1, bb⟩
end Go.Proofs.YtkejlnjnoiidnaaGreatDoor
end

section
namespace Go.Proofs.YtkejlnjnoiidnaaGreatDoor
set_option linter.unusedSimpArgs false
open Go.RowKit As
theorem fst_is {f : Int × Int} (h : f.1 ≠ 0) : (f.1 == 0) = false := by simpa using h
set_option maxHeartbeats 4000000 in
set_option maxRecDepth 100000 in
theorem rbright_any (w : World) (x : BatArg) (hb : Bat w x) (hf : ∀ y ∈ x.f, entFits y) (hh : ∀ y ∈ x.h, entFits y) :
    Calls Tryz.prog 29 #[x.v] w fun e w' => e = .returned (faultV (bright x.f x.h x.l)) ∧ Below w.heap.size w w' := by
  have hbx := BxAt.new w x
  have b0 := below1 w (.cells #[.slice x.A x.n x.c, .slice x.A' x.n' x.c', .slice x.A'' x.n'' x.c''] 25)
  obtain ⟨A, n, c, A', n', c', A'', n'', c'', f, h, l⟩ := x
  obtain ⟨sf, sh, sl, nf, nh, nl⟩ := hb
  simp only at hbx b0 hf hh sf sh sl nf nh nl ⊢
  have ef : Ents w w.heap.size A n f := ⟨sf, hf⟩
  have eh : Ents w w.heap.size A' n' h := ⟨sh, hh⟩
  have hT0 := Two.new (w.alloc (.cells #[.slice A n c, .slice A' n' c', .slice A'' n'' c''] 25)) 0 0 29
  have bT := below1 (w.alloc (.cells #[.slice A n c, .slice A' n' c', .slice A'' n'' c''] 25)) (.cells #[.int .i64 0, .int .i64 0] 29)
  rw [World.size_alloc] at hT0
  replace hbx := hbx.below bT
  replace b0 := b0.trans (bT.mono b0.size)
  have ef0 := ef.grow b0
  have eh0 := eh.grow b0
  have sl0 := sl.grow b0
  have hll := slk_len wrCells 6 (by omega) (fun _ => rfl) sl
  clear sf sh hf hh sl ef eh
  unfold BatArg.v faultV
  simp only
  go_enter Tryz.func29, Tryz.ntmps29
  go_wp2_with fail
  generalize hW : (w.alloc (.cells #[.slice A n c, .slice A' n' c', .slice A'' n'' c''] 25)).alloc (.cells #[.int .i64 0, .int .i64 0] 29) = W at *
  refine (rvright_any _ n c A f ef0 nf).mono ?_
  rintro r w1 ⟨rfl, hb1⟩
  unfold faultV
  go_wp2_with fail
  have hk1 := below1 w1 (.cells #[.int .i64 (vright f).1, .int .i64 (vright f).2] 29)
  have T1 := Two.new w1 (vright f).1 (vright f).2 29
  refine (is_any (vright f) _).mono ?_
  rintro r w2 ⟨rfl, hb2⟩
  obtain ⟨g0, g1, _, _⟩ := T1.below hb2
  have hb11 := hb1.trans (hk1.mono hb1.size)
  have hb12 := hb11.trans (hb2.mono hb11.size)
  clear hk1 T1 hb2 hb1 hb11
  by_cases h1 : (vright f).1 = 0
  · have e1 : ((vright f).1 == 0) = true := by simpa using h1
    rw [e1]
    clear e1
    clear g0 g1
    have d1 := (hbx.below hb12).c1
    simp only at d1
    go_wp2_with fail
    refine (rvright_any _ n' c' A' h (eh0.grow hb12) nh).mono ?_
    rintro r w3 ⟨rfl, hb3⟩
    unfold faultV
    go_wp2_with fail
    have hk3 := below1 w3 (.cells #[.int .i64 (vright h).1, .int .i64 (vright h).2] 29)
    have T3 := Two.new w3 (vright h).1 (vright h).2 29
    refine (is_any (vright h) _).mono ?_
    rintro r w4 ⟨rfl, hb4⟩
    obtain ⟨g0, g1, _, _⟩ := T3.below hb4
    have hb13 := hb12.trans (hb3.mono hb12.size)
    have hb13' := hb13.trans (hk3.mono hb13.size)
    have hb14 := hb13'.trans (hb4.mono hb13'.size)
    clear hk3 T3 hb3 hb4 hb13 hb13'
    by_cases h2 : (vright h).1 = 0
    · have e1 : ((vright h).1 == 0) = true := by simpa using h2
      rw [e1]
      clear e1
      clear g0 g1 d1
      have d0 := (hbx.below hb14).c0
      have d1 := (hbx.below hb14).c1
      simp only at d0 d1
      go_wp2_with fail
      refine (rcovers_any _ n' c' n c A' A h f (eh0.grow hb14) (ef0.grow hb14) nh nf).mono ?_
      rintro r w5 ⟨rfl, hb5⟩
      have hb15 := hb14.trans (hb5.mono hb14.size)
      clear hb5
      cases hc : vcovers h f with
      | false =>
        have hr := Lib.hid (bright_c (l := l) h1 h2 hc)
        clear hc h1 h2
        go_wp2_with fail
        refine (bareF_any _ _).mono ?_
        rintro r w6 ⟨rfl, hbx⟩
        have hbw6 := hb15.trans (hbx.mono hb15.size)
        obtain ⟨c0, c1, f0, f1⟩ := hT0.below hbw6
        have S := set2 (.int .i64 13) (.int .i64 (-1)) c0 c1
        go_wp2
        exact bodyPost_ret (v := .agg #[.int .i64 13, .int .i64 (-1)]) (by simp [results, Tryz.results29, go_sem, S.1, S.2]) rfl ⟨by rw [hr.out], below_set2 _ _ (b0.trans (hbw6.mono b0.size)) (by omega)⟩
      | true =>
        have hll' : l.length = n'' := by omega
        have d2 := (hbx.below hb15).c2
        simp only at d2
        by_cases hl6 : 60 < n''
        · have hr := Lib.hid (bright_l (l := l) h1 h2 hc (by omega))
          have e5 : decide ((60 : Int) < (n'' : Int)) = true := by simp; omega
          have e6 : decide (60 < n'') = true := by simp; omega
          clear hc h1 h2
          go_wp2_with fail
          refine (bareF_any _ _).mono ?_
          rintro r w6 ⟨rfl, hbx⟩
          have hbw6 := hb15.trans (hbx.mono hb15.size)
          obtain ⟨c0, c1, f0, f1⟩ := hT0.below hbw6
          have S := set2 (.int .i64 4) (.int .i64 (-1)) c0 c1
          go_wp2
          exact bodyPost_ret (v := .agg #[.int .i64 4, .int .i64 (-1)]) (by simp [results, Tryz.results29, go_sem, S.1, S.2]) rfl ⟨by rw [hr.out], below_set2 _ _ (b0.trans (hbw6.mono b0.size)) (by omega)⟩
        · have hr := Lib.hid (bright_go (l := l) h1 h2 hc (by omega))
          have e5 : decide ((60 : Int) < (n'' : Int)) = false := by simp; omega
          have e6 : decide (60 < n'') = false := by simp; omega
          clear hc h1 h2
          have bl := below1 w5 (.cells #[.int .i64 0, .int .i64 0] 51)
          have TL := Two.new w5 0 0 51
          have d2 := (bl.cell (cell_lt d2)).trans d2
          go_wp2
          go_loopw [6, 7, 8, 43] (fun _ _ _ i wr => ∃ k : Nat, k ≤ n'' ∧ i = .int .i64 k ∧ Hid (BAt f h l k) ∧ Two wr w5.heap.size (lastId l k).1 (lastId l k).2 ∧ Below w5.heap.size w5 wr) (fun _ _ _ i _ => n'' - (intOf i).toNat)
          case atStart => exact ⟨0, by omega, rfl, Lib.hid BAt.zero, TL, bl⟩
          case round =>
            obtain ⟨k, hk, rfl, hat, hTL, hbel⟩ := hrel
            have hB := hbel.size
            have hbc := hb15.trans (hbel.mono hb15.size)
            by_cases hlt : k < n''
            · obtain ⟨b, o, ⟨a0, a1, a2, d, e, m⟩, rfl, hbB, hx, hcl⟩ := wr_at (sl0.grow hbc) hlt
              have c0 : wr.cell? ⟨b, o + k * 6, none⟩ = some (.int .i64 a0) := hcl 0 _ rfl
              have c1 := hcl 1 _ rfl
              have c2 := hcl 2 _ rfl
              have c3 := hcl 3 _ rfl
              have c4 := hcl 4 _ rfl
              have c5 := hcl 5 _ rfl
              have hX := Lib.hid hx
              clear hcl hx
              have kb := below1 wr (wrO a0 a1 a2 d e m)
              have ka := WrAt.new wr a0 a1 a2 d e m
              generalize hla : lastId l k = la at *
              obtain ⟨la, lb⟩ := la
              have hla := Lib.hid hla
              simp only at hTL
              by_cases hz : wright (a0, a1, a2, d, e, m) = 0
              · have hwr0 := Lib.hid hz
                clear hz
                go_wp2_with fail
                refine (rwright_any (a0, a1, a2, d, e, m) _).mono ?_
                rintro r w6 ⟨rfl, hb6⟩
                rw [hwr0.out]
                have hk6 := kb.trans (hb6.mono kb.size)
                have hbc6 := hbc.trans (hk6.mono hbc.size)
                obtain ⟨t0, t1, t2, t3⟩ := hTL.below hk6
                have q2 := (ka.below hb6).c0
                have q3 := (ka.below hb6).c1
                by_cases h0 : k = 0
                · have hno := Lib.hid (show ¬ (0 < k ∧ 0 ≤ idCmp (lastId l k) (wid (a0, a1, a2, d, e, m))) by omega)
                  have e8 : decide (0 < k) = false := by simp; omega
                  have e9 : decide ((0 : Int) < (k : Int)) = false := by simp; omega
                  clear h0
                  have T6 := hTL.below hk6
                  have g0 := (hbx.below hbc6).c0
                  have g1 := (hbx.below hbc6).c1
                  simp only at g0 g1
                  cases hin : idWithin (a0, a1) f h with
                  | true =>
                    have hnx := Lib.hid (BAt.succ hat.out hX.out hwr0.out hno.out hin)
                    have hls := Lib.hid (lastId_succ hX.out)
                    go_wp2_with fail
                    refine (rwithin_any a0 a1 n n' c c' A A' f h _ (ef0.grow hbc6) (eh0.grow hbc6) nf nh).mono ?_
                    rintro r w8 ⟨rfl, hb8⟩
                    rw [hin]
                    clear hin g0 g1
                    obtain ⟨t0, t1, t2, t3⟩ := T6.below hb8
                    have q2 := (hb8.cell (cell_lt q2)).trans q2
                    have q3 := (hb8.cell (cell_lt q3)).trans q3
                    have hk8 := hk6.trans (hb8.mono hk6.size)
                    have SL := set2 (.int .i64 a0) (.int .i64 a1) t0 t1
                    go_wp2
                    go_roundw
                    case rel => exact ⟨k + 1, by omega, by go_num, hnx, by rw [hls.out]; exact ⟨SL.1, SL.2, by simpa using t2, by simpa using t3⟩, below_set2 _ _ (hbel.trans (hk8.mono hB)) (Nat.le_refl _)⟩
                    case measure => simp [intOf]; omega
                  | false =>
                    have hres := Lib.hid (BAt.state hat.out hX.out hwr0.out hno.out hin)
                    go_wp2_with fail
                    refine (rwithin_any a0 a1 n n' c c' A A' f h _ (ef0.grow hbc6) (eh0.grow hbc6) nf nh).mono ?_
                    rintro r w8 ⟨rfl, hb8⟩
                    rw [hin]
                    clear hin g0 g1
                    have hbc8 := hbc6.trans (hb8.mono hbc6.size)
                    obtain ⟨c0, c1, f0, f1⟩ := hT0.below hbc8
                    have S := set2 (.int .i64 6) (.int .i64 (k : Int)) c0 c1
                    go_wp2
                    exact bodyPost_ret (v := .agg #[.int .i64 6, .int .i64 (k : Int)]) (by simp [results, Tryz.results29, go_sem, S.1, S.2]) rfl ⟨by rw [hr.out, hres.out], below_set2 _ _ (b0.trans (hbc8.mono b0.size)) (by omega)⟩
                · have e8 : decide (0 < k) = true := by simp; omega
                  have e9 : decide ((0 : Int) < (k : Int)) = true := by simp; omega
                  have hk0 : 0 < k := by omega
                  clear h0
                  go_wp2_with fail
                  refine (rcompare_any la lb a0 a1 _).mono ?_
                  rintro r w7 ⟨rfl, hb7⟩
                  have hk7 := hk6.trans (hb7.mono hk6.size)
                  have hbc7 := hbc.trans (hk7.mono hbc.size)
                  have q2 := (hb7.cell (cell_lt q2)).trans q2
                  have q3 := (hb7.cell (cell_lt q3)).trans q3
                  have T7 := hTL.below hk7
                  by_cases hcmp : 0 ≤ idCmp (la, lb) (a0, a1)
                  · have hres := Lib.hid (BAt.order hat.out hX.out hwr0.out hk0 (by rw [hla.out]; exact hcmp))
                    have e10 : decide (0 ≤ idCmp (la, lb) (a0, a1)) = true := by simpa using hcmp
                    obtain ⟨c0, c1, f0, f1⟩ := hT0.below hbc7
                    have S := set2 (.int .i64 10) (.int .i64 (k : Int)) c0 c1
                    go_wp2
                    exact bodyPost_ret (v := .agg #[.int .i64 10, .int .i64 (k : Int)]) (by simp [results, Tryz.results29, go_sem, S.1, S.2]) rfl ⟨by rw [hr.out, hres.out], below_set2 _ _ (b0.trans (hbc7.mono b0.size)) (by omega)⟩
                  · have hno := Lib.hid (show ¬ (0 < k ∧ 0 ≤ idCmp (lastId l k) (wid (a0, a1, a2, d, e, m))) by rw [hla.out]; exact fun hh => hcmp hh.2)
                    have e10 : decide (0 ≤ idCmp (la, lb) (a0, a1)) = false := by simpa using hcmp
                    have hc2 : idCmp (la, lb) (a0, a1) < 0 := by omega
                    have g0 := (hbx.below hbc7).c0
                    have g1 := (hbx.below hbc7).c1
                    simp only at g0 g1
                    cases hin : idWithin (a0, a1) f h with
                    | true =>
                      have hnx := Lib.hid (BAt.succ hat.out hX.out hwr0.out hno.out hin)
                      have hls := Lib.hid (lastId_succ hX.out)
                      go_wp2_with fail
                      refine (rwithin_any a0 a1 n n' c c' A A' f h _ (ef0.grow hbc7) (eh0.grow hbc7) nf nh).mono ?_
                      rintro r w8 ⟨rfl, hb8⟩
                      rw [hin]
                      clear hin g0 g1
                      obtain ⟨t0, t1, t2, t3⟩ := T7.below hb8
                      have q2 := (hb8.cell (cell_lt q2)).trans q2
                      have q3 := (hb8.cell (cell_lt q3)).trans q3
                      have hk8 := hk7.trans (hb8.mono hk7.size)
                      have SL := set2 (.int .i64 a0) (.int .i64 a1) t0 t1
                      go_wp2
                      go_roundw
                      case rel => exact ⟨k + 1, by omega, by go_num, hnx, by rw [hls.out]; exact ⟨SL.1, SL.2, by simpa using t2, by simpa using t3⟩, below_set2 _ _ (hbel.trans (hk8.mono hB)) (Nat.le_refl _)⟩
                      case measure => simp [intOf]; omega
                    | false =>
                      have hres := Lib.hid (BAt.state hat.out hX.out hwr0.out hno.out hin)
                      go_wp2_with fail
                      refine (rwithin_any a0 a1 n n' c c' A A' f h _ (ef0.grow hbc7) (eh0.grow hbc7) nf nh).mono ?_
                      rintro r w8 ⟨rfl, hb8⟩
                      rw [hin]
                      clear hin g0 g1
                      have hbc8 := hbc7.trans (hb8.mono hbc7.size)
                      obtain ⟨c0, c1, f0, f1⟩ := hT0.below hbc8
                      have S := set2 (.int .i64 6) (.int .i64 (k : Int)) c0 c1
                      go_wp2
                      exact bodyPost_ret (v := .agg #[.int .i64 6, .int .i64 (k : Int)]) (by simp [results, Tryz.results29, go_sem, S.1, S.2]) rfl ⟨by rw [hr.out, hres.out], below_set2 _ _ (b0.trans (hbc8.mono b0.size)) (by omega)⟩
              · have hres := Lib.hid (BAt.bad hat.out hX.out hz)
                generalize hwr : wright (a0, a1, a2, d, e, m) = q at *
                have hWR := Lib.hid hwr
                have e7 : (q != 0) = true := by simpa using hz
                clear hwr hz
                go_wp2_with fail
                refine (rwright_any (a0, a1, a2, d, e, m) _).mono ?_
                rintro r w6 ⟨rfl, hb6⟩
                rw [hWR.out]
                have hk6 := kb.trans (hb6.mono kb.size)
                have hbc6 := hbc.trans (hk6.mono hbc.size)
                obtain ⟨c0, c1, f0, f1⟩ := hT0.below hbc6
                have S := set2 (.int .i64 q) (.int .i64 (k : Int)) c0 c1
                go_wp2
                exact bodyPost_ret (v := .agg #[.int .i64 q, .int .i64 (k : Int)]) (by simp [results, Tryz.results29, go_sem, S.1, S.2]) rfl ⟨by rw [hr.out, hres.out], below_set2 _ _ (b0.trans (hbc6.mono b0.size)) (by omega)⟩
            · obtain rfl : k = n'' := by omega
              have hres := Lib.hid (BAt.all hat.out (by omega))
              go_wp2_with fail
              refine (good_any _).mono ?_
              rintro r w6 ⟨rfl, hb6⟩
              have hbc6 := hbc.trans (hb6.mono hbc.size)
              obtain ⟨c0, c1, f0, f1⟩ := hT0.below hbc6
              have S := set2 (.int .i64 0) (.int .i64 (-1)) c0 c1
              go_wp2
              exact bodyPost_ret (v := .agg #[.int .i64 0, .int .i64 (-1)]) (by simp [results, Tryz.results29, go_sem, S.1, S.2]) rfl ⟨by rw [hr.out, hres.out], below_set2 _ _ (b0.trans (hbc6.mono b0.size)) (by omega)⟩
    · have hr := Lib.hid (bright_h (l := l) h1 h2)
      have e1 : ((vright h).1 == 0) = false := by simpa using h2
      rw [e1]
      clear e1 h1 h2
      go_wp2_with fail
      refine (bareF_any _ _).mono ?_
      rintro r w5 ⟨rfl, hbx⟩
      have hbw5 := hb14.trans (hbx.mono hb14.size)
      obtain ⟨c0, c1, f0, f1⟩ := hT0.below hbw5
      have S := set2 (.int .i64 (vright h).1) (.int .i64 (-1)) c0 c1
      go_wp2
      exact bodyPost_ret (v := .agg #[.int .i64 (vright h).1, .int .i64 (-1)]) (by simp [results, Tryz.results29, go_sem, S.1, S.2]) rfl ⟨by rw [hr.out], below_set2 _ _ (b0.trans (hbw5.mono b0.size)) (by omega)⟩
  · have hr := Lib.hid (bright_f (h := h) (l := l) h1)
    have e1 : ((vright f).1 == 0) = false := by simpa using h1
    rw [e1]
    clear e1 h1
    go_wp2_with fail
    refine (bareF_any _ _).mono ?_
    rintro r w3 ⟨rfl, hbx⟩
    have hbw3 := hb12.trans (hbx.mono hb12.size)
    obtain ⟨c0, c1, f0, f1⟩ := hT0.below hbw3
    have S := set2 (.int .i64 (vright f).1) (.int .i64 (-1)) c0 c1
    go_wp2
    exact bodyPost_ret (v := .agg #[.int .i64 (vright f).1, .int .i64 (-1)]) (by simp [results, Tryz.results29, go_sem, S.1, S.2]) rfl ⟨by rw [hr.out], below_set2 _ _ (b0.trans (hbw3.mono b0.size)) (by omega)⟩
end Go.Proofs.YtkejlnjnoiidnaaGreatDoor
end
